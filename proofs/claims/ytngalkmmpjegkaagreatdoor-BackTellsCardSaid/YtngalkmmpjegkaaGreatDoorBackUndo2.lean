/- back.Undo, walked: the way that goes through. UNDER WAY. -/
import Derived.BigRegion
import Derived.Test.YtngalkmmpjegkaaGreatDoorBackInv2
namespace Go.Proofs.YtngalkmmpjegkaaGreatDoor
open Go.RowKit Go.Shelf
set_option linter.unusedVariables false
attribute [local go_sem] Oper.semAt_some
theorem name_act {F : Fence} {n : Nat} {P : Program} {c : Code} {Q : Exit → Act → World → Prop} {a : Act} {w : World} (h : ∀ fr, fr = a → c.wpIn F n P Q fr w) : c.wpIn F n P Q a w := h a rfl
/-- A round's frame: the variable lies in a box of its own. -/
def RoundAct (fr : Act) (D : Nat) (x : Nat × OpAt) (a' : Act) (W : World) : Prop :=
  ∃ Bx, D ≤ Bx ∧ Blk W Bx 30 (x.2.op.cells x.2.at_ x.2.cap) ∧ a' = { tmps := ((#[62, 63].zip (backEnc x)).foldl (fun t (p, v) => t.setIfInBounds p v) fr.tmps).setIfInBounds 15 (.pointer (some ⟨Bx, 0, none⟩)), defers := [] }
theorem RoundAct.ownFrom {fr : Act} {D D' : Nat} (x : Nat × OpAt) (a' : Act) : OwnFrom D' (fun (_ : Unit) W => RoundAct fr D x a' W) := fun s W W' row hs hg hrow => by
  obtain ⟨Bx, h1, h2, h3⟩ := hs
  have ht : Turned W W' row := ⟨hg, fun g e => (hrow g e).2⟩
  exact ⟨Bx, h1, ht.blk h2, h3⟩
theorem Cnt.move {d : List LOp} {kvs : List (ByteArray × Nat)} {o : LOp} (h : Cnt d kvs ([] ++ [o])) : Cnt (d ++ [o]) kvs [] := fun p => by
  rw [h p, strk_app]
  simp [strk]
theorem take_next {l : List LOp} {zs : List OpAt} (h : zs.map OpAt.op = l) {k : Nat} (hk : k < zs.length) : l.take (k + 1) = l.take k ++ [zs[k].op] := by
  subst h
  rw [List.take_add_one]
  simp [hk]
set_option maxRecDepth 100000 in
set_option maxHeartbeats 8000000 in
theorem undo_good (w : World) (B : Nat) (S : List Nat) (b : Nat) (st : LDoc) (D : DLay) (h : DocIs w B S b st D) (ok : st.Ok) (who n : Int) (hw0 : -9223372036854775808 ≤ who) (hw1 : who ≤ 9223372036854775807) (hgood : LDoc.whoE who = 0) (hn : ¬ (n < 0 ∨ 200 < n)) :
    Calls Tryz.prog 31 #[.pointer (some ⟨b, 0, none⟩), .int .i64 who, .int .i64 n] w (EditPost w (st.undE who n) (st.undR who n)) := by
  have HE : Hid (st.undE who n = (st.unGo st.ops.reverse n ⟨st.book, st.maker who⟩).2) := by show _ = _; unfold LDoc.undE; rw [if_neg (by simp [hgood]), if_neg hn]
  have HM := Lib.hid (fun W (hb : Below w.heap.size w W) => newMk_any W B S b st D (h.below hb) ok who hw0 hw1)
  have HBK := Lib.hid (fun W (hb : Below w.heap.size w W) => book_doc W B S b st D (h.below hb) ok)
  have HOP := Lib.hid (fun W (hb : Below w.heap.size w W) => ops_doc W B S b st D (h.below hb) ok)
  have HOK := Lib.hid ok
  have hmm : ∀ t w, (Instr.makeMap t none).run Tryz.prog w = .ok (.map (some w.heap.size)) (w.alloc (.map #[] 0)) := fun _ _ => rfl
  obtain ⟨W0, hW0⟩ : ∃ W0, W0 = (((w.alloc (.cells #[.int .i64 who] 3)).alloc (.cells #[.int .i64 n] 3)).alloc (.cells #[.slice none 0 0] 22)).alloc (.cells #[.nilIface] 32) := ⟨_, rfl⟩
  have HB0 : Hid (Below w.heap.size w W0) := by rw [hW0]; exact ((((Below.refl _ w).alloc (Nat.le_refl _) _).alloc (by simp) _).alloc (by simp; omega) _).alloc (by simp; omega) _
  have HX0 : Hid (Boxes W0 w.heap.size who n) := by rw [hW0]; exact Boxes.start w who n
  have HSZ : Hid (W0.heap.size = w.heap.size + 4) := by show _ = _; rw [hW0]; simp
  have hn0 : ¬ n < 0 := by omega
  have hn1 : ¬ 200 < n := by omega
  refine (callsIn_wide (n := 6)).1 ?_
  refine callsIn_of_wp_marks Tryz.func31 rfl trivial ?_ rfl
  simp only [Tryz.ntmps31, List.size_toArray, List.length_cons, List.length_nil, Nat.reduceAdd, Nat.reduceSub, Array.replicate_succ, Array.replicate_zero, List.push_toArray, List.append_toArray, List.nil_append, List.cons_append]
  gi_wp2
  rw [← hW0]
  clear hW0
  refine ⟨trivial, callsIn_wide.2 ((HM.out _ HB0.out).mono ?_)⟩
  intro e w1 hpost
  obtain ⟨bm, rfl, hmk, hb1⟩ : ∃ bm, e = .returned (.tuple #[.pointer (some ⟨bm, 0, none⟩), .nilIface]) ∧ MkIs w1 W0.heap.size bm (st.maker who) none 0 [] ∧ Below W0.heap.size W0 w1 := by
    rcases hpost with ⟨_, bm, h1, h2, h3⟩ | ⟨hx, _⟩
    · exact ⟨bm, h1, h2, h3⟩
    · exact absurd hgood hx
  have HB1 := Lib.hid (HB0.out.trans (hb1.mono HB0.out.size))
  have HX1 := Lib.hid (HX0.out.below hb1)
  have HMK := Lib.hid hmk
  have hs1 := hb1.size
  have hbm1 := hmk.blk.lt
  have c1 : w1.cell? ⟨w.heap.size + 1, 0, none⟩ = some (.int .i64 n) := by rw [HX1.out.n.cell]; rfl
  clear hmk hpost
  gi_wp2
  refine ⟨trivial, callsIn_wide.2 ((HBK.out _ HB1.out).mono ?_)⟩
  rintro e w2 ⟨A, cl, rfl, hbk, hb2⟩
  have HB2 := Lib.hid (HB1.out.trans (hb2.mono HB1.out.size))
  have HX2 := Lib.hid (HX1.out.below hb2)
  have HMK2 := Lib.hid (HMK.out.below hb2)
  have HBO2 := Lib.hid (hbk.mono (show W0.heap.size ≤ w1.heap.size from hs1))
  have hs2 := hb2.size
  have HBM : Hid (bm < w2.heap.size) := by show _ < _; omega
  clear hbk hb2 c1 HX1 HMK hbm1
  gi_wp2
  have HU : Hid (UnIs (((w2.alloc (.map #[] 0)).alloc (.cells #[.slice A st.book.length cl, .map (some w2.heap.size), .pointer (some ⟨bm, 0, none⟩)] 143)).alloc (.cells #[.pointer (some ⟨w2.heap.size + 1, 0, none⟩)] 140)) W0.heap.size (w2.heap.size + 1) bm w2.heap.size st.book (st.maker who) none 0 [] A cl []) := by
    have hB3 : Below w2.heap.size w2 (((w2.alloc (.map #[] 0)).alloc (.cells #[.slice A st.book.length cl, .map (some w2.heap.size), .pointer (some ⟨bm, 0, none⟩)] 143)).alloc (.cells #[.pointer (some ⟨w2.heap.size + 1, 0, none⟩)] 140)) := (((Below.refl _ w2).alloc (Nat.le_refl _) _).alloc (by simp) _).alloc (by simp; omega) _
    refine ⟨(blk_new_at (w := w2.alloc (.map #[] 0)) (by simp)).alloc _, HBO2.out.only (S := []) (Only.of_below hB3) (fun g hg hm => by cases hm), HMK2.out.below hB3, ⟨#[], 0, ?_, rfl⟩, by omega, by omega⟩
    have h1 := heap_alloc_new w2 (.map #[] 0)
    exact (Below.heap_alloc _ _ _ (by simp; omega)).trans ((Below.heap_alloc _ _ _ (by simp)).trans h1)
  have HPB : Hid (Blk (((w2.alloc (.map #[] 0)).alloc (.cells #[.slice A st.book.length cl, .map (some w2.heap.size), .pointer (some ⟨bm, 0, none⟩)] 143)).alloc (.cells #[.pointer (some ⟨w2.heap.size + 1, 0, none⟩)] 140)) (w2.heap.size + 2) 140 #[.pointer (some ⟨w2.heap.size + 1, 0, none⟩)]) := blk_new_at (by simp)
  have hB3 : Below w2.heap.size w2 (((w2.alloc (.map #[] 0)).alloc (.cells #[.slice A st.book.length cl, .map (some w2.heap.size), .pointer (some ⟨bm, 0, none⟩)] 143)).alloc (.cells #[.pointer (some ⟨w2.heap.size + 1, 0, none⟩)] 140)) := (((Below.refl _ w2).alloc (Nat.le_refl _) _).alloc (by simp) _).alloc (by simp; omega) _
  obtain ⟨W3, hW3⟩ : ∃ W3, W3 = (((w2.alloc (.map #[] 0)).alloc (.cells #[.slice A st.book.length cl, .map (some w2.heap.size), .pointer (some ⟨bm, 0, none⟩)] 143)).alloc (.cells #[.pointer (some ⟨w2.heap.size + 1, 0, none⟩)] 140)) := ⟨_, rfl⟩
  rw [← hW3] at HU HPB hB3 ⊢
  have hs3 := hB3.size
  have hs3' : W3.heap.size = w2.heap.size + 3 := by rw [hW3]; simp
  have HB3 := Lib.hid (HB2.out.trans (hB3.mono HB2.out.size))
  have HX3 := Lib.hid (HX2.out.below hB3)
  clear hW3 hB3
  refine ⟨trivial, callsIn_wide.2 ((HOP.out _ HB3.out).mono ?_)⟩
  rintro e w4 ⟨V, c, zs, rfl, hzs, hO, hb4⟩
  have HB4 := Lib.hid (HB3.out.trans (hb4.mono HB3.out.size))
  have HX4 := Lib.hid (HX3.out.below hb4)
  have HU4 := Lib.hid (HU.out.below hb4)
  have HPB4 := Lib.hid (HPB.out.below hb4 HPB.out.lt)
  have HO := Lib.hid hO
  have hs4 := hb4.size
  have HZS := Lib.hid hzs
  have hzl : st.ops.length = zs.length := by rw [← hzs, List.length_map]
  have hfew := ok.few
  rw [hzl]
  clear hb4 hO hzs HX3 HU HPB HX2 HMK2 HBO2
  gi_wp2
  gi_loopw [13, 44] (fun o i wr => ∃ k : Nat, ∃ kvs : List (ByteArray × Nat), k ≤ zs.length ∧ i = .int .i64 k ∧ Hid (Only [w2.heap.size] w4 wr) ∧ Hid (UnIs wr W0.heap.size (w2.heap.size + 1) bm w2.heap.size st.book (st.maker who) none 0 [] A cl kvs) ∧ Hid (Cnt (st.ops.take k) kvs []))
    (fun _ i _ => zs.length - (intOf i).toNat)
  case atStart => exact ⟨0, [], Nat.zero_le _, rfl, Only.refl _ _, HU4, fun p => by simp [get, strk]⟩
  case round =>
    obtain ⟨k, kvs, hk, rfl, HON, HUK, HCN⟩ := hrel
    have hkl : w2.heap.size < w4.heap.size := by omega
    have k0 : (0 : Int) ≤ (k : Int) := by omega
    by_cases hlt : k < zs.length
    · have k1 : (k : Int) < (zs.length : Int) := by omega
      have hRV : Reads wr wr.heap.size 6 V zs.length (ocells zs) := Reads.only HO.out.row.reads HON.out (fun _ g hg hm => by
        have := (HO.out.row.lt g hg).1
        simp at hm
        omega)
      obtain ⟨ad, hV, _, d0, d1, d2, d3, d4, d5⟩ := hRV.op hlt
      subst hV
      have HTK := Lib.hid (take_next HZS.out hlt)
      have hszr := HON.out.size
      obtain ⟨y, hy⟩ : ∃ y, y = zs[k] := ⟨_, rfl⟩
      rw [← hy] at d0 d1 d2 d3 d4 d5 HTK
      clear hy hRV
      obtain ⟨⟨⟨yw, yn⟩, what, p, letter, seen⟩, ya, yc⟩ := y
      dsimp only at d0 d1 d2 d3 d4 d5 HTK
      by_cases hw : what = 2
      · subst hw
        obtain ⟨WD, hWD⟩ : ∃ WD, WD = (wr.alloc (.cells #[.int .i64 yw, .int .i64 yn, .int .i64 2, .string p, .int .i64 letter, .slice ya seen.length yc] 30)) := ⟨_, rfl⟩
        have HBX : Hid (Blk WD wr.heap.size 30 #[.int .i64 yw, .int .i64 yn, .int .i64 2, .string p, .int .i64 letter, .slice ya seen.length yc]) := by rw [hWD]; exact Blk.new _ _ _
        have HBD : Hid (Below wr.heap.size wr WD) := by rw [hWD]; exact (Below.refl _ wr).alloc (Nat.le_refl _) _
        have HUD := Lib.hid ((HUK.out.below HBD.out).below (Below.refl _ _).drew)
        have HPD : Hid (Blk WD (w2.heap.size + 2) 140 #[.pointer (some ⟨w2.heap.size + 1, 0, none⟩)]) := (HON.out.blk HPB4.out (by simp)).below HBD.out (HON.out.blk HPB4.out (by simp)).lt
        obtain ⟨wu, hup, hmp, huo⟩ := update_run keyS Tryz.underlying141 HUD.out.map p ((get p kvs).getD 0 + 1)
        have hlk := HUD.out.look p
        have hcn := HCN.out p
        have hle := strk_le (st.ops.take k) p
        have hle2 : (st.ops.take k).length ≤ k := by simp; omega
        have hz0 : strk [] p = 0 := rfl
        have HUN := Lib.hid (HUD.out.count huo hmp)
        have HNU : Hid (Only [w2.heap.size] w4 wu) := ((HON.out.below_step HBD.out).drew).trans huo
        have HC2 : Hid (Cnt (st.ops.take (k + 1)) (ins p ((get p kvs).getD 0 + 1) kvs) []) := by
          show Cnt _ _ _
          rw [HTK.out]
          exact (HCN.out.strike (o := ⟨⟨yw, yn⟩, 2, p, letter, seen⟩) rfl).move
        have hcb : (get p kvs).getD 0 ≤ 100000 := by omega
        generalize hcv : (get p kvs).getD 0 = cv at *
        have e1 : natV (cv + 1) = .int .i64 ((cv : Int) + 1) := rfl
        rw [e1] at hup
        have q2 : IntKind.i64.wrap ((cv : Int) + 1) = (cv : Int) + 1 := IntWalk.i64_in _ (by omega)
        have q1 : IntKind.i64.wrap ((k : Int) + 1) = ((k + 1 : Nat) : Int) := by rw [IntWalk.i64_in _ (by omega)]; omega
        have x0 : WD.cell? ⟨wr.heap.size, 2, none⟩ = some (.int .i64 2) := by rw [HBX.out.cell]; rfl
        have x3 : WD.cell? ⟨wr.heap.size, 3, none⟩ = some (.string p) := by rw [HBX.out.cell]; rfl
        have x5 : WD.cell? ⟨w2.heap.size + 2, 0, none⟩ = some (.pointer (some ⟨w2.heap.size + 1, 0, none⟩)) := by rw [HPD.out.cell]; rfl
        have HCU : Hid (Blk WD (w2.heap.size + 1) 143 #[.slice A st.book.length cl, .map (some w2.heap.size), .pointer (some ⟨bm, 0, none⟩)]) := HUK.out.blk.below HBD.out HUK.out.blk.lt
        have x6 : WD.cell? ⟨w2.heap.size + 1, 1, none⟩ = some (.map (some w2.heap.size)) := by rw [HCU.out.cell]; rfl
        have hsw := HNU.out.size
        clear HTK hcv hcn hle hle2 hz0 huo hmp e1
        gi_wp2
        rw [← hWD]
        clear hWD
        gi_region
        gi_wp2
        go_roundw
        case rel => exact ⟨k + 1, _, by omega, rfl, HNU, HUN, HC2⟩
        case measure => simp [intOf]; omega
      · have g2 : (what == 2) = false := by simp [hw]
        have HC2 : Hid (Cnt (st.ops.take (k + 1)) kvs []) := by
          show Cnt _ _ _
          rw [HTK.out]
          exact (HCN.out.plain (o := ⟨⟨yw, yn⟩, what, p, letter, seen⟩) hw).move
        have HUB := Lib.hid (fun o => HUK.out.below ((Below.refl _ wr).alloc (Nat.le_refl _) o))
        have HNB := Lib.hid (fun o => HON.out.alloc o)
        have q1 : IntKind.i64.wrap ((k : Int) + 1) = ((k + 1 : Nat) : Int) := by rw [IntWalk.i64_in _ (by omega)]; omega
        clear hw HTK
        gi_wp2
        go_roundw
        case rel => exact ⟨k + 1, kvs, by omega, rfl, HNB.out _, HUB.out _, HC2⟩
        case measure => simp [intOf]; omega
    · obtain rfl : k = zs.length := by omega
      have k1 : ¬ ((zs.length : Int) < (zs.length : Int)) := by omega
      have HCN2 : Hid (Cnt st.ops kvs []) := by
        have := HCN.out
        rwa [← hzl, List.take_length] at this
      have HXR : Hid (Boxes wr w.heap.size who n) := by
        have hz := HSZ.out
        exact ⟨HON.out.blk HX4.out.who (by simp; omega), HON.out.blk HX4.out.n (by simp; omega), HON.out.blk HX4.out.row (by simp; omega), HON.out.blk HX4.out.err (by simp; omega)⟩
      have HRV : Hid (Reads wr wr.heap.size 6 V zs.length (ocells zs)) := Reads.only HO.out.row.reads HON.out (fun _ g hg hm => by
        have := (HO.out.row.lt g hg).1
        simp at hm
        omega)
      have HPR : Hid (Blk wr (w2.heap.size + 2) 140 #[.pointer (some ⟨w2.heap.size + 1, 0, none⟩)]) := HON.out.blk HPB4.out (by simp)
      clear HCN
      gi_wp2
      refine ⟨trivial, (backward_in Fence.wide 5 trivial rfl V zs.length c wr).mono ?_⟩
      rintro e w5 ⟨rfl, rfl⟩
      gi_wp2
      have HUI : Hid (UInv st (wr.heap.size + 1) W0.heap.size w.heap.size (w2.heap.size + 2) (w2.heap.size + 1) bm w2.heap.size who n ⟨st.book, st.maker who⟩ [] (wr.alloc (.cells #[.slice V zs.length c] 22))) := by
        refine ⟨⟨n, st.book, st.maker who, none, 0, [], A, cl, kvs, UnFrom.start _ _ _, by omega, by omega, ?_, rfl, Int.le_refl _, by simp, Nat.le_refl _, ?_, ?_, ?_, HCN2.out, by simp [ob]⟩, by simp⟩
        · exact HOK.out.book
        · exact HXR.out.below ((Below.refl _ _).alloc (Nat.le_refl _) _)
        · exact HPR.out.alloc _
        · exact HUK.out.below ((Below.refl _ _).alloc (Nat.le_refl _) _)
      have HBW : Hid (Below w.heap.size w (wr.alloc (.cells #[.slice V zs.length c] 22))) := by
        have hz := HSZ.out
        have hz2 := HB2.out.size
        have hb5 : Below w.heap.size w4 wr := HON.out.below (by omega) (fun g hg => by simp at hg; omega)
        exact (HB4.out.trans hb5).alloc (by have := HON.out.size; omega) _
      have hbx : (wr.alloc (.cells #[.slice V zs.length c] 22)).cell? ⟨wr.heap.size, 0, none⟩ = some (.slice V zs.length c) := by rw [(Blk.new wr 22 #[.slice V zs.length c]).cell]; rfl
      have HVT : Hid (∀ g ∈ wr.heap.size :: ob V, g < wr.heap.size + 1) := fun g hg => by
        have := HON.out.size
        rcases List.mem_cons.1 hg with rfl | hg
        · omega
        · have := (HO.out.row.lt g hg).2; omega
      have hrD : w2.heap.size < (wr.alloc (.cells #[.slice V zs.length c] 22)).heap.size := by have := HON.out.size; rw [World.size_alloc]; omega
      have hbD : w.heap.size ≤ (wr.alloc (.cells #[.slice V zs.length c] 22)).heap.size := HBW.out.size
      refine name_act ?_
      intro fr hfr
      refine wpIn_rangeFunc_ownH rfl (by decide) (gf := 105) (lb := #[.pointer (some ⟨wr.heap.size, 0, none⟩)]) (by rw [hfr]; rfl) trivial (enters_of Tryz.func105 (by kernel_rfl) rfl)
        (back_stops Fence.wide 5 trivial rfl (by decide) wr.heap.size wr.heap.size V zs c (by omega) _ (by simp) (by simp) hbx (HRV.out.alloc (Nat.le_refl _) _) (wr.heap.size :: ob V) (by simp) (fun g hg => by simp [hg]))
        keepT_t (keepT_b (by simpa using HVT.out)) (Below.refl _ _) (fun _ => rfl)
        (fun pre W => UInv st (wr.heap.size + 1) W0.heap.size w.heap.size (w2.heap.size + 2) (w2.heap.size + 1) bm w2.heap.size who n ⟨st.book, st.maker who⟩ (pre.map fun x => x.2.op) W ∧ Below w.heap.size w W)
        (fun x pre W => ULeft st W0.heap.size w.heap.size (w2.heap.size + 1) bm w2.heap.size who n ⟨st.book, st.maker who⟩ x (pre.map fun x => x.2.op) W ∧ Below w.heap.size w W)
        (OwnFrom.and (UInv.ownFrom hrD) (ownFrom_below (Nat.le_refl _) hbD))
        (fun x => OwnFrom.and (ULeft.ownFrom hrD x) (ownFrom_below (Nat.le_refl _) hbD))
        ⟨HUI.out, HBW.out⟩ (RoundAct fr (wr.heap.size + 1)) (fun x a' => RoundAct.ownFrom x a') ?assign ?body ?done ?stop
      case assign =>
        intro l pre x W K hi hK
        have hbx2 : Below W.heap.size W (W.alloc (.cells (x.2.op.cells x.2.at_ x.2.cap) 30)) := (Below.refl _ W).alloc (Nat.le_refl _) _
        have hkt : KeepT (wr.heap.size :: ob V) W (W.alloc (.cells (x.2.op.cells x.2.at_ x.2.cap) 30)) := fun g hg => by
          have h1 := HVT.out g hg
          have h2 := hi.1.size
          exact Below.heap_alloc W _ g (by omega)
        have hf := hK { tmps := ((#[62, 63].zip (backEnc x)).foldl (fun t (p, v) => t.setIfInBounds p v) fr.tmps).setIfInBounds 15 (.pointer (some ⟨W.heap.size, 0, none⟩)), defers := [] } (W.alloc (.cells (x.2.op.cells x.2.at_ x.2.cap) 30)) ((KeepsOthers.alloc _ _).from _) hkt ⟨hi.1.below hbx2, hi.2.trans (hbx2.mono hi.2.size)⟩ ⟨W.heap.size, hi.1.size, Blk.new W _ _, rfl⟩
        clear hK hi hkt hbx2
        subst hfr
        obtain ⟨xi, ⟨⟨⟨xw, xn⟩, what, p, letter, seen⟩, ya, yc⟩⟩ := x
        unfold LOp.cells at hf
        unfold backEnc LOp.val at hf ⊢
        gi_wp2
        first
          | exact hf
          | (have e := hf
             simp at e
             exact e)
          | (refine Eq.mp (congrArg (fun q : Act => K q _) ?_) hf
             simp [Array.zip])
      case body =>
        rintro l pre x a' W hl ⟨r0, hr0⟩ ⟨hI, hBW⟩ ⟨Bx, hBx, hbX, ha'⟩ hlt
        obtain ⟨n', bk, m, V', c', ys', A', cl', kvs', h1, h2, h3, h4, h5, h6, h7, h8, h9, h10, h11, h12, h13⟩ := hI.inv
        have cn : W.cell? ⟨w.heap.size + 1, 0, none⟩ = some (.int .i64 n') := by rw [h9.n.cell]; rfl
        have cw : W.cell? ⟨w.heap.size, 0, none⟩ = some (.int .i64 who) := by rw [h9.who.cell]; rfl
        have cx : W.cell? ⟨Bx, 0, none⟩ = some (.int .i64 x.2.op.dot.who) := by rw [hbX.cell]; rfl
        subst hfr
        simp [backEnc] at ha'
        subst ha'
        by_cases hn0 : n' = 0
        · subst hn0
          have hF : UFin st W0.heap.size w.heap.size (w2.heap.size + 1) bm w2.heap.size who n ⟨st.book, st.maker who⟩ ((pre ++ [x]).map fun x => x.2.op) W := by
            refine ⟨0, bk, m, V', c', ys', A', cl', kvs', fun rest => ?_, h9, h11⟩
            rw [List.map_append, List.append_assoc]
            exact h1.ends _
          gi_wp2
          exact ⟨KeepsFrom.refl _ _, .inl ⟨rfl, hF⟩, hBW⟩
        · have gn : (n' == 0) = false := by simp [hn0]
          by_cases hwho : x.2.op.dot.who = who
          · have gw : (x.2.op.dot.who != who) = false := by simp [hwho]
            have gw2 : (x.2.op.dot.who == who) = true := by simp [hwho]
            have cq : W.cell? ⟨w2.heap.size + 2, 0, none⟩ = some (.pointer (some ⟨w2.heap.size + 1, 0, none⟩)) := by rw [h10.cell]; rfl
            have x1 : W.cell? ⟨Bx, 1, none⟩ = some (.int .i64 x.2.op.dot.n) := by rw [hbX.cell]; rfl
            have x2 : W.cell? ⟨Bx, 2, none⟩ = some (.int .i64 x.2.op.what) := by rw [hbX.cell]; rfl
            have x3 : W.cell? ⟨Bx, 3, none⟩ = some (.string x.2.op.place) := by rw [hbX.cell]; rfl
            have x4 : W.cell? ⟨Bx, 4, none⟩ = some (.int .i64 x.2.op.letter) := by rw [hbX.cell]; rfl
            have x5 : W.cell? ⟨Bx, 5, none⟩ = some (.slice x.2.at_ x.2.op.seen.length x.2.cap) := by rw [hbX.cell]; rfl
            have HMN : Hid (0 ≤ (st.maker who).n ∧ (st.maker who).n ≤ 9999) := by
              obtain ⟨k3, hk3, _, e2, e3, e4⟩ := nOf_known HOK.out.known hgood
              show 0 ≤ nOf st.known ⟨who, 0⟩ ∧ nOf st.known ⟨who, 0⟩ ≤ 9999
              rw [← e2]
              exact ⟨e3, e4⟩
            have hONE := one_any W W0.heap.size (w2.heap.size + 1) bm w2.heap.size V' st bk m A' c' cl' ys' kvs' h11 h12 (by have := h11.br; have := h11.map.lt; omega) h4 x.2.op x.2.at_ x.2.cap (by have := HMN.out; have h6' : (st.maker who).n ≤ m.n := h6; omega) (by have := HMN.out; have h7' : m.n ≤ (st.maker who).n + _ := h7; simp at h7'; omega) (by simp at h8; omega) (by omega)
            have HONE := Lib.hid hONE
            clear hONE
            have HKEEP := Lib.hid (And.intro h1 (And.intro h7 (And.intro h8 (And.intro h12 (And.intro h9 (And.intro h11 (And.intro h10 (And.intro h13 hI.size))))))))
            clear h1 h7 h8 h12 h9 h11 hbX h10 hI
            obtain ⟨xi, ⟨⟨⟨xw, xn⟩, what, p, letter, seen⟩, ya, yc⟩⟩ := x
            unfold LOp.val at HONE
            dsimp only at HONE hwho x1 x2 x3 x4 x5 cx
            clear gw gw2
            subst hwho
            have gw : (xw != xw) = false := by simp
            gi_wp2
            refine ⟨trivial, CallsIn.inRound l (callsIn_wide.2 (HONE.out.mono ?_))⟩
            rintro e W6 ⟨rfl, ht⟩
            have HTO := Lib.hid ht
            clear ht HONE
            generalize hun : st.unOne ⟨bk, m⟩ ⟨⟨xw, xn⟩, what, p, letter, seen⟩ = un at *
            obtain ⟨U1, is, ke⟩ := un
            have hnot : ∀ j, j < W0.heap.size → j ∉ (w2.heap.size + 1) :: bm :: w2.heap.size :: ob V' := fun j hj hm => by
              have h11 := HKEEP.out.2.2.2.2.2.1
              have hb := h11.mkis.base
              rcases List.mem_cons.1 hm with e | hm
              · omega
              · rcases List.mem_cons.1 hm with e | hm
                · omega
                · rcases List.mem_cons.1 hm with e | hm
                  · omega
                  · have := (h11.mkis.ops.row.lt j hm).1
                    omega
            have HNOT := Lib.hid hnot
            have HX6 : Hid (Boxes W6 w.heap.size xw n') := by
              have hz := HSZ.out
              obtain ⟨V6, c6, ys6, A6, cl6, kvs6, _, _, k3, _⟩ := HTO.out
              have h9 := HKEEP.out.2.2.2.2.1
              exact ⟨k3.blk h9.who (hnot _ (by omega)), k3.blk h9.n (hnot _ (by omega)), k3.blk h9.row (hnot _ (by omega)), k3.blk h9.err (hnot _ (by omega))⟩
            clear hnot
            by_cases he : ke = 0
            · subst he
              have HV : Hid (errV 0 = Value.nilIface) := rfl
              dsimp only
              rw [HV.out]
              have c1 : W6.cell? ⟨w.heap.size + 1, 0, none⟩ = some (.int .i64 n') := by rw [HX6.out.n.cell]; rfl
              have f1 := HX6.out.n.frozen 0
              have qn : IntKind.i64.wrap (n' - 1) = n' - 1 := IntWalk.i64_in _ (by omega)
              have HNX : Hid (∀ W7, Only [w.heap.size + 1] W6 W7 → KeepsOthers W6 W7 → Boxes W7 w.heap.size xw (if is = true then n' - 1 else n') →
                  KeepsFrom (wr.heap.size + 1) W W7 ∧ KeepT (wr.heap.size :: ob V) W W7 ∧
                  UInv st (wr.heap.size + 1) W0.heap.size w.heap.size (w2.heap.size + 2) (w2.heap.size + 1) bm w2.heap.size xw n ⟨st.book, st.maker xw⟩ ((pre ++ [(xi, (⟨⟨⟨xw, xn⟩, what, p, letter, seen⟩, ya, yc⟩ : OpAt))]).map fun x => x.2.op) W7 ∧ Below w.heap.size w W7) := by
                intro W7 ho hko hbx
                have hz := HSZ.out
                obtain ⟨e1, e7, e8, e12, e9, e11, e10, e13, eD⟩ := HKEEP.out
                have eD' : wr.heap.size + 1 ≤ W.heap.size := eD
                obtain ⟨V6, c6, ys6, A6, cl6, kvs6, _, _, k3, _⟩ := HTO.out
                have hbl : Below w.heap.size w W6 := hBW.trans (k3.below hBW.size (fun g hg => by
                  rcases Nat.lt_or_ge g W0.heap.size with h | h
                  · exact absurd hg (HNOT.out g h)
                  · omega))
                have hKF := (e11.keepsFrom k3 hrD).trans (hko.from _)
                rw [World.size_alloc] at hKF
                have hON := HON.out.size
                have hs2x := HB2.out.size
                have hbmlt : bm < w2.heap.size := HBM.out
                have hq : w2.heap.size + 2 ∉ (w2.heap.size + 1) :: bm :: w2.heap.size :: ob V' := fun hm => by
                  rcases List.mem_cons.1 hm with e | hm
                  · omega
                  · rcases List.mem_cons.1 hm with e | hm
                    · omega
                    · rcases List.mem_cons.1 hm with e | hm
                      · omega
                      · have := e13 _ hm
                        omega
                refine ⟨hKF, ?_, ?_, hbl.trans (ho.below hbl.size (fun g hg => by simp at hg; omega))⟩
                · have hT : ∀ g ∈ wr.heap.size :: ob V, w2.heap.size + 2 < g ∧ g < wr.heap.size + 1 := fun g hg => ⟨by
                    rcases List.mem_cons.1 hg with e | hg
                    · omega
                    · have := (HO.out.row.lt g hg).1
                      omega, HVT.out g hg⟩
                  refine KeepT.trans (KeepT.only k3 (fun g hg => ⟨by have := (hT g hg).2; omega, fun hm => ?_⟩)) (KeepT.only ho (fun g hg => ⟨by have := (hT g hg).2; have := k3.size; omega, fun hm => by have := (hT g hg).1; simp at hm; omega⟩))
                  have h3 := hT g hg
                  rcases List.mem_cons.1 hm with e | hm
                  · omega
                  · rcases List.mem_cons.1 hm with e | hm
                    · omega
                    · rcases List.mem_cons.1 hm with e | hm
                      · omega
                      · have := e13 _ hm
                        omega
                · rw [List.map_append]
                  exact UInv.next e1 hn0 h2 h3 h4 h5 h6 e7 e8 e10 eD' e13 hq h5.symm hun HTO.out ho (by omega) (by omega) hbx
              cases is with
              | true =>
                gi_wp2
                have o1 : Only [w.heap.size + 1] W6 (W6.setCell ⟨w.heap.size + 1, 0, none⟩ (.int .i64 (n' - 1))) := (Only.refl _ _).setCell (.inl (by simp)) _
                exact HNX.out _ o1 (KeepsOthers.setCell W6 _ _) ⟨o1.blk HX6.out.who (by simp), HX6.out.n.set_ 0 _, o1.blk HX6.out.row (by simp <;> omega), o1.blk HX6.out.err (by simp <;> omega)⟩
              | false =>
                gi_wp2
                exact HNX.out _ (Only.refl _ _) (KeepsOthers.refl _) HX6.out
            · have HV := Lib.hid (errV_ne he)
              dsimp only
              rw [HV.out]
              have c2 : W6.cell? ⟨w.heap.size + 1 + 1, 0, none⟩ = some (.slice none 0 0) := by rw [HX6.out.row.cell]; rfl
              have f2 := HX6.out.row.frozen 0
              have c3 : W6.cell? ⟨w.heap.size + 1 + 1 + 1, 0, none⟩ = some .nilIface := by rw [HX6.out.err.cell]; rfl
              have f3 := HX6.out.err.frozen 0
              gi_wp2
              obtain ⟨e1, e7, e8, e12, e9, e11, e10, e13, eD⟩ := HKEEP.out
              obtain ⟨V6, c6, ys6, A6, cl6, kvs6, _, _, k3, _⟩ := HTO.out
              have hz := HSZ.out
              have hkf := (e11.keepsFrom k3 hrD).trans (((KeepsOthers.setCell W6 ⟨w.heap.size + 1 + 1, 0, none⟩ (.slice none 0 0)).trans (KeepsOthers.setCell _ ⟨w.heap.size + 1 + 1 + 1, 0, none⟩ (errV ke))).from _)
              have hbl : Below w.heap.size w W6 := hBW.trans (k3.below hBW.size (fun g hg => by
                rcases Nat.lt_or_ge g W0.heap.size with h | h
                · exact absurd hg (HNOT.out g h)
                · omega))
              have o1 : Only [w.heap.size + 1 + 1] W6 (W6.setCell ⟨w.heap.size + 1 + 1, 0, none⟩ (.slice none 0 0)) := (Only.refl _ _).setCell (.inl (by simp)) _
              have o2 : Only [w.heap.size + 1 + 1 + 1] (W6.setCell ⟨w.heap.size + 1 + 1, 0, none⟩ (.slice none 0 0)) ((W6.setCell ⟨w.heap.size + 1 + 1, 0, none⟩ (.slice none 0 0)).setCell ⟨w.heap.size + 1 + 1 + 1, 0, none⟩ (errV ke)) := (Only.refl _ _).setCell (.inl (by simp)) _
              have b2 := o2.blk (HX6.out.row.set_ 0 (.slice none 0 0)) (by simp)
              have b3 := (o1.blk HX6.out.err (by simp)).set_ 0 (errV ke)
              have hbl2 := (hbl.setCell (p := ⟨w.heap.size + 1 + 1, 0, none⟩) (by show w.heap.size ≤ w.heap.size + 1 + 1; omega) (.slice none 0 0)).setCell (p := ⟨w.heap.size + 1 + 1 + 1, 0, none⟩) (by show w.heap.size ≤ w.heap.size + 1 + 1 + 1; omega) (errV ke)
              rw [HV.out, World.size_alloc] at hkf
              rw [HV.out] at hbl2
              refine ⟨hkf, .inr ⟨rfl, ⟨ke, U1, he, fun rest => ?_, ?_, ?_⟩⟩, hbl2⟩
              · rw [List.map_append, List.append_assoc]
                have := e1.fails (o := ⟨⟨xw, xn⟩, what, p, letter, seen⟩) hn0 h5.symm (by rw [hun]; exact he) rest
                rw [hun] at this
                exact this
              · rw [← HV.out]; exact b2
              · rw [← HV.out]; exact b3
          · have gw : (x.2.op.dot.who != who) = true := by simp [hwho]
            have gw2 : (x.2.op.dot.who == who) = false := by simp [hwho]
            have hI2 : UInv st (wr.heap.size + 1) W0.heap.size w.heap.size (w2.heap.size + 2) (w2.heap.size + 1) bm w2.heap.size who n ⟨st.book, st.maker who⟩ ((pre ++ [x]).map fun x => x.2.op) W := by
              refine ⟨⟨n', bk, m, V', c', ys', A', cl', kvs', ?_, h2, h3, h4, h5, h6, ?_, ?_, h9, h10, h11, h12, h13⟩, hI.size⟩
              · rw [List.map_append]
                exact h1.skip hn0 (by rw [show (⟨bk, m⟩ : LU).mak.who = who from h5]; exact hwho)
              · simp at h7 ⊢; omega
              · simp at h8 ⊢; omega
            gi_wp2
            exact ⟨KeepsFrom.refl _ _, KeepT.refl _ _, hI2, hBW⟩
      case done =>
        rintro D xs W hD rfl ⟨hI, hBW⟩ hK
        obtain ⟨n', bk, m, V', c', ys', A', cl', kvs', h1, h2, h3, h4, h5, h6, h7, h8, h9, h10, h11, h12, h13⟩ := hI.inv
        have c0 : W.cell? ⟨bm, 2, none⟩ = some (.slice V' ys'.length c') := by rw [h11.mkis.blk.cell]; rfl
        have c2 : W.cell? ⟨w.heap.size + 1 + 1, 0, none⟩ = some (.slice none 0 0) := by rw [h9.row.cell]; rfl
        have f2 := h9.row.frozen 0
        have c3 : W.cell? ⟨w.heap.size + 1 + 1 + 1, 0, none⟩ = some .nilIface := by rw [h9.err.cell]; rfl
        have f3 := h9.err.frozen 0
        have HI := Lib.hid hI
        subst hfr
        gi_wp2
        have hK1 := (KeepsOthers.setCell W ⟨w.heap.size + 1 + 1, 0, none⟩ (.slice V' ys'.length c')).same D _ hK rfl
        have hK2 := (KeepsOthers.setCell (W.setCell ⟨w.heap.size + 1 + 1, 0, none⟩ (.slice V' ys'.length c')) ⟨w.heap.size + 1 + 1 + 1, 0, none⟩ .nilIface).same D _ hK1 rfl
        obtain ⟨d2, d3⟩ := two_set h9.row h9.err (by omega) (.slice V' ys'.length c') .nilIface
        have e2 := cell_kept d2 (grownBy_putObj' _ D (.deferred none)) (fun r e => by cases e; exact ⟨_, hK2, rfl⟩)
        have e3 := cell_kept d3 (grownBy_putObj' _ D (.deferred none)) (fun r e => by cases e; exact ⟨_, hK2, rfl⟩)
        refine ⟨by simp, .inl ⟨_, _, rfl, run_takeDeferred hK2, ?_⟩⟩
        refine ⟨.tuple #[.slice V' ys'.length c', .nilIface], ?_, ?_⟩
        · simp [results, Tryz.f31, go_sem, e2, e3]
        · have hz := HSZ.out
          have hu := h1.done
          rw [backUp_all, HZS.out] at hu
          have hE : st.undE who n = 0 := by rw [HE.out, hu]
          have hR : st.undR who n = m.ops := by unfold LDoc.undR; rw [if_pos hE, hu]
          rw [hE, hR]
          have o1 : Only [w.heap.size + 1 + 1, w.heap.size + 1 + 1 + 1] W ((W.setCell ⟨w.heap.size + 1 + 1, 0, none⟩ (.slice V' ys'.length c')).setCell ⟨w.heap.size + 1 + 1 + 1, 0, none⟩ .nilIface) := ((Only.refl _ _).setCell (.inl (by simp)) _).setCell (.inl (by simp)) _
          have ht : Turned _ _ (some D) := ⟨grownBy_putObj' ((W.setCell ⟨w.heap.size + 1 + 1, 0, none⟩ (.slice V' ys'.length c')).setCell ⟨w.heap.size + 1 + 1 + 1, 0, none⟩ .nilIface) D (.deferred none), fun r e => by cases e; exact ⟨_, hK2, rfl⟩⟩
          have key : ∀ {e : TypeId} {size n c : Nat} {A : Option Addr} {xs : List Value}, Own W W0.heap.size e size A n c xs → Own (((W.setCell ⟨w.heap.size + 1 + 1, 0, none⟩ (.slice V' ys'.length c')).setCell ⟨w.heap.size + 1 + 1 + 1, 0, none⟩ .nilIface).putObj D (.deferred none)) w.heap.size e size A n c xs := fun ho =>
            (ht.own (ho.only o1 (fun g hg hm => by
              have := (ho.lt g hg).1
              simp at hm
              omega))).mono (by omega)
          have hsz5 := HON.out.size
          exact ⟨V', c', ys', rfl, h11.mkis.same, ⟨key h11.mkis.ops.row, fun y hy => key (h11.mkis.ops.seen y hy)⟩,
            (((hBW.setCell (p := ⟨w.heap.size + 1 + 1, 0, none⟩) (by show w.heap.size ≤ w.heap.size + 1 + 1; omega) _).setCell (p := ⟨w.heap.size + 1 + 1 + 1, 0, none⟩) (by show w.heap.size ≤ w.heap.size + 1 + 1 + 1; omega) _).trans (belowK_b (w := w) (Nat.le_refl _) _ D _ _ (by have := HBW.out.size; omega) hK2 rfl rfl))⟩
      case stop =>
        rintro D x pre W hD ⟨k2, hk2, rfl⟩ ⟨hL, hBW⟩ hK
        rcases hL with ⟨rfl, hF⟩ | ⟨rfl, hF⟩
        · obtain ⟨n', bk, m, V', c', ys', A', cl', kvs', h1, h9, h11⟩ := hF.fin
          have c0 : W.cell? ⟨bm, 2, none⟩ = some (.slice V' ys'.length c') := by rw [h11.mkis.blk.cell]; rfl
          have c2 : W.cell? ⟨w.heap.size + 1 + 1, 0, none⟩ = some (.slice none 0 0) := by rw [h9.row.cell]; rfl
          have f2 := h9.row.frozen 0
          have c3 : W.cell? ⟨w.heap.size + 1 + 1 + 1, 0, none⟩ = some .nilIface := by rw [h9.err.cell]; rfl
          have f3 := h9.err.frozen 0
          subst hfr
          gi_wp2
          have hK1 := (KeepsOthers.setCell W ⟨w.heap.size + 1 + 1, 0, none⟩ (.slice V' ys'.length c')).same D _ hK rfl
          have hK2 := (KeepsOthers.setCell (W.setCell ⟨w.heap.size + 1 + 1, 0, none⟩ (.slice V' ys'.length c')) ⟨w.heap.size + 1 + 1 + 1, 0, none⟩ .nilIface).same D _ hK1 rfl
          obtain ⟨d2, d3⟩ := two_set h9.row h9.err (by omega) (.slice V' ys'.length c') .nilIface
          have e2 := cell_kept d2 (grownBy_putObj' _ D (.deferred none)) (fun r e => by cases e; exact ⟨_, hK2, rfl⟩)
          have e3 := cell_kept d3 (grownBy_putObj' _ D (.deferred none)) (fun r e => by cases e; exact ⟨_, hK2, rfl⟩)
          refine ⟨by simp, .inl ⟨_, _, rfl, run_takeDeferred hK2, ?_⟩⟩
          refine ⟨.tuple #[.slice V' ys'.length c', .nilIface], ?_, ?_⟩
          · simp [results, Tryz.f31, go_sem, e2, e3]
          · have hz := HSZ.out
            have hu := h1 (st.ops.reverse.drop k2)
            rw [backUp_take zs hk2, HZS.out, List.take_append_drop] at hu
            have hE : st.undE who n = 0 := by rw [HE.out, hu]
            have hR : st.undR who n = m.ops := by unfold LDoc.undR; rw [if_pos hE, hu]
            rw [hE, hR]
            have o1 : Only [w.heap.size + 1 + 1, w.heap.size + 1 + 1 + 1] W ((W.setCell ⟨w.heap.size + 1 + 1, 0, none⟩ (.slice V' ys'.length c')).setCell ⟨w.heap.size + 1 + 1 + 1, 0, none⟩ .nilIface) := ((Only.refl _ _).setCell (.inl (by simp)) _).setCell (.inl (by simp)) _
            have ht : Turned _ _ (some D) := ⟨grownBy_putObj' ((W.setCell ⟨w.heap.size + 1 + 1, 0, none⟩ (.slice V' ys'.length c')).setCell ⟨w.heap.size + 1 + 1 + 1, 0, none⟩ .nilIface) D (.deferred none), fun r e => by cases e; exact ⟨_, hK2, rfl⟩⟩
            have key : ∀ {e : TypeId} {size n c : Nat} {A : Option Addr} {xs : List Value}, Own W W0.heap.size e size A n c xs → Own (((W.setCell ⟨w.heap.size + 1 + 1, 0, none⟩ (.slice V' ys'.length c')).setCell ⟨w.heap.size + 1 + 1 + 1, 0, none⟩ .nilIface).putObj D (.deferred none)) w.heap.size e size A n c xs := fun ho =>
              (ht.own (ho.only o1 (fun g hg hm => by
                have := (ho.lt g hg).1
                simp at hm
                omega))).mono (by omega)
            have hsz5 := HON.out.size
            exact ⟨V', c', ys', rfl, h11.mkis.same, ⟨key h11.mkis.ops.row, fun y hy => key (h11.mkis.ops.seen y hy)⟩,
              (((hBW.setCell (p := ⟨w.heap.size + 1 + 1, 0, none⟩) (by show w.heap.size ≤ w.heap.size + 1 + 1; omega) _).setCell (p := ⟨w.heap.size + 1 + 1 + 1, 0, none⟩) (by show w.heap.size ≤ w.heap.size + 1 + 1 + 1; omega) _).trans (belowK_b (w := w) (Nat.le_refl _) _ D _ _ (by have := HBW.out.size; omega) hK2 rfl rfl))⟩
        · obtain ⟨ke, U', h1, h2, b2, b3⟩ := hF.err
          have c2 : W.cell? ⟨w.heap.size + 1 + 1, 0, none⟩ = some (.slice none 0 0) := by rw [b2.cell]; rfl
          have c3 : W.cell? ⟨w.heap.size + 1 + 1 + 1, 0, none⟩ = some (errV ke) := by rw [b3.cell]; rfl
          have e2 := cell_kept c2 (grownBy_putObj' _ D (.deferred none)) (fun r e => by cases e; exact ⟨_, hK, rfl⟩)
          have e3 := cell_kept c3 (grownBy_putObj' _ D (.deferred none)) (fun r e => by cases e; exact ⟨_, hK, rfl⟩)
          subst hfr
          gi_wp2
          refine ⟨by simp, .inl ⟨_, _, rfl, run_takeDeferred hK, ?_⟩⟩
          refine ⟨.tuple #[.slice none 0 0, errV ke], ?_, ?_⟩
          · simp [results, Tryz.f31, go_sem, e2, e3]
          · have hz := HSZ.out
            have hsz5 := HON.out.size
            have hu := h2 (st.ops.reverse.drop k2)
            rw [backUp_take zs hk2, HZS.out, List.take_append_drop] at hu
            have hE : st.undE who n = ke := by rw [HE.out, hu]
            have hR : st.undR who n = [] := by unfold LDoc.undR; rw [if_neg (by rw [hE]; exact h1)]
            rw [hE, hR]
            exact edit_bad (hBW.trans (belowK_b (w := w) (Nat.le_refl _) _ D _ _ (by have := HBW.out.size; omega) hK rfl rfl))
end Go.Proofs.YtngalkmmpjegkaaGreatDoor
