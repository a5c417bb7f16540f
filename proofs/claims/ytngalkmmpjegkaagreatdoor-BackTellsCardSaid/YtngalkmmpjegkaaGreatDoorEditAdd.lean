/- (*edit.Maker).Add and edit.NewMaker, walked. Conditions: the document is right; the maker's number is small. -/
import Derived.Test.YtngalkmmpjegkaaGreatDoorDocKnown
import Derived.Test.YtngalkmmpjegkaaGreatDoorNthSeen
namespace Go.Proofs.YtngalkmmpjegkaaGreatDoor
open Go.RowKit
set_option linter.unusedVariables false
/-- A maker in memory, with the ops that it has made. -/
structure MkIs (w : World) (B b : Nat) (m : LMk) (V : Option Addr) (c : Nat) (ys : List OpAt) : Prop where
  blk : Blk w b 145 #[.int .i64 m.who, .int .i64 m.n, .slice V ys.length c]
  ops : OwnOps w B V c ys
  same : ys.map OpAt.op = m.ops
  base : B ≤ b
/-- The maker goes on: of what was there only it and its row may have turned. -/
def MkTo (w : World) (B b : Nat) (V : Option Addr) (m' : LMk) (w' : World) : Prop :=
  ∃ V' c' ys', MkIs w' B b m' V' c' ys' ∧ Only (b :: ob V) w w' ∧ ∀ g ∈ ob V', g ∈ ob V ∨ w.heap.size ≤ g
namespace MkIs
variable {w w' : World} {B b : Nat} {m : LMk} {V : Option Addr} {c : Nat} {ys : List OpAt}
theorem only {T : List Nat} (h : MkIs w B b m V c ys) (ho : Only T w w') (hT : ∀ g ∈ T, g < B ∨ w.heap.size ≤ g) : MkIs w' B b m V c ys :=
  ⟨ho.blk h.blk (fun hm => by have := hT _ hm; have := h.base; have := h.blk.lt; omega), ops_far h.ops ho hT, h.same, h.base⟩
theorem below (h : MkIs w B b m V c ys) (hb : Below w.heap.size w w') : MkIs w' B b m V c ys := h.only (T := []) (Only.of_below hb) (by simp)
theorem len (h : MkIs w B b m V c ys) : ys.length = m.ops.length := by rw [← h.same, List.length_map]
theorem to_self (h : MkIs w B b m V c ys) : MkTo w B b V m w := ⟨V, c, ys, h, Only.refl _ _, fun g hg => .inl hg⟩
end MkIs
theorem MkTo.trans {w w1 w2 : World} {B b : Nat} {V V1 : Option Addr} {c1 : Nat} {ys1 : List OpAt} {m1 m2 : LMk} (h1 : MkIs w1 B b m1 V1 c1 ys1) (ho : Only (b :: ob V) w w1) (hn : ∀ g ∈ ob V1, g ∈ ob V ∨ w.heap.size ≤ g) (h2 : MkTo w1 B b V1 m2 w2) : MkTo w B b V m2 w2 := by
  obtain ⟨V2, c2, ys2, i2, o2, n2⟩ := h2
  refine ⟨V2, c2, ys2, i2, ho.trans_new o2 (fun i hi => ?_), fun g hg => ?_⟩
  · rcases List.mem_cons.1 hi with hi | hi
    · exact .inl (by simp [hi])
    · rcases hn i hi with h | h
      · exact .inl (by simp [h])
      · exact .inr h
  · have := ho.size
    rcases n2 g hg with h | h
    · exact hn g h
    · exact .inr (by omega)
theorem MkTo.below {w w' : World} {B b : Nat} {m m' : LMk} {V : Option Addr} {c : Nat} {ys : List OpAt} (h : MkIs w B b m V c ys) (ht : MkTo w B b V m' w') {N : Nat} (hN : N ≤ B) (hs : B ≤ w.heap.size) : Below N w w' := by
  obtain ⟨V', c', ys', _, o, _⟩ := ht
  refine o.below (by omega) (fun g hg => ?_)
  rcases List.mem_cons.1 hg with rfl | hg
  · have := h.base; omega
  · have := (h.ops.row.lt g hg).1; omega
/-- The last step of Add: the number, the dot, the row. -/
theorem add_close {w w8 : World} {B b : Nat} {m : LMk} {V : Option Addr} {c : Nat} {ys : List OpAt} (h : MkIs w B b m V c ys) (hB : B ≤ w.heap.size) {y : OpAt} {W : World} (hW : Only [b] w W) (hbk : Blk W b 145 #[.int .i64 m.who, .int .i64 (m.n + 1), .slice V ys.length c])
    (hy : Own w B 27 2 y.at_ y.op.seen.length y.cap (dcells y.op.seen)) {V2 : Option Addr} {c2 : Nat}
    (hO : Own w8 B 30 6 V2 (ys.length + 1) c2 (ocells ys ++ OpAt.cells ⟨m.put y.op, y.at_, y.cap⟩)) (hL : Only (ob V) W w8) (hg : ∀ g ∈ ob V2, g ∈ ob V ∨ g = W.heap.size) :
    MkTo w B b V (m.add y.op) (w8.setCell ⟨b, 2, none⟩ (.slice V2 (ys.length + 1) c2)) := by
  have hbV : b ∉ ob V := h.ops.row.blk_ne h.blk (by decide)
  have hb8 := hL.blk hbk hbV
  have hwW := hW.size
  have hW8 := hL.size
  have ho : Only (b :: ob V) w w8 := (hW.mono (fun i hi => by simp at hi; exact .inl (by simp [hi]))).trans (hL.mono (fun i hi => .inl (by simp [hi])))
  have ho2 : Only (b :: ob V) w (w8.setCell ⟨b, 2, none⟩ (.slice V2 (ys.length + 1) c2)) := ho.setCell (.inl (by simp)) _
  have hset : Only [b] w8 (w8.setCell ⟨b, 2, none⟩ (.slice V2 (ys.length + 1) c2)) := (Only.refl _ _).setCell (.inl (by simp)) _
  have keep : ∀ {A : Option Addr} {n cc : Nat} {xs : List Value}, Own w B 27 2 A n cc xs → Own (w8.setCell ⟨b, 2, none⟩ (.slice V2 (ys.length + 1) c2)) B 27 2 A n cc xs := fun hA => hA.only ho2 (fun g hg hm => by
    rcases List.mem_cons.1 hm with rfl | hm
    · exact hA.blk_ne h.blk (by decide) hg
    · rcases h.ops.row.2 with ⟨h2, _⟩ | ⟨g', cap, cur, he, _, hh, _⟩
      · injection h2 with h2
        rw [h2] at hm; simp [ob] at hm
      · injection he with he
        rw [he] at hm; simp [ob] at hm; subst hm
        exact hA.blk_ne (t := 30) (cs := cur) hh (by decide) hg)
  have hb2 : b ∉ ob V2 := hO.blk_ne hb8 (by decide)
  refine ⟨V2, c2, ys ++ [⟨m.put y.op, y.at_, y.cap⟩], ⟨?_, ⟨?_, ?_⟩, ?_, h.base⟩, ho2, fun g hg2 => ?_⟩
  · have := hb8.set_ 2 (.slice V2 (ys.length + 1) c2)
    rw [List.length_append]
    exact this
  · rw [List.length_append, ocells_app]
    have e : ocells [⟨m.put y.op, y.at_, y.cap⟩] = OpAt.cells ⟨m.put y.op, y.at_, y.cap⟩ := by simp [ocells]
    rw [e]
    exact hO.only hset (fun g hg hm => by simp at hm; subst hm; exact hb2 hg)
  · intro z hz
    rcases List.mem_append.1 hz with hz | hz
    · exact keep (h.ops.seen z hz)
    · simp at hz; subst hz; exact keep hy
  · rw [List.map_append, h.same]; rfl
  · rcases hg g hg2 with h3 | h3
    · exact .inl h3
    · exact .inr (by omega)
def MkAddPost (w : World) (B b : Nat) (V : Option Addr) (m' : LMk) (e : Ending) (w' : World) : Prop := e = .returned (.tuple #[]) ∧ MkTo w B b V m' w'
set_option maxRecDepth 100000 in
set_option maxHeartbeats 40000000 in
theorem mkAdd_any (w : World) (B b : Nat) (m : LMk) (V : Option Addr) (c : Nat) (ys : List OpAt) (h : MkIs w B b m V c ys) (hB : B ≤ w.heap.size) (o : LOp) (A : Option Addr) (ca : Nat)
    (hy : Own w B 27 2 A o.seen.length ca (dcells o.seen)) (hn0 : -1000000 ≤ m.n) (hn : m.n ≤ 1000000) (hl : ys.length ≤ 100000) :
    Calls Tryz.prog 110 #[.pointer (some ⟨b, 0, none⟩), o.val A ca] w (MkAddPost w B b V (m.add o)) := by
  have HH := Lib.hid h
  have HY := Lib.hid hy
  have hbl := h.blk.lt
  obtain ⟨⟨who, n⟩, what, p, letter, seen⟩ := o
  obtain ⟨mw, mn, mo⟩ := m
  unfold LOp.val
  simp only at hn0 hn HY
  have HBox := Lib.hid (Blk.new w 30 #[.int .i64 who, .int .i64 n, .int .i64 what, .string p, .int .i64 letter, .slice A seen.length ca])
  have HB0 : Hid (Blk (w.alloc (.cells #[.int .i64 who, .int .i64 n, .int .i64 what, .string p, .int .i64 letter, .slice A seen.length ca] 30)) b 145 #[.int .i64 mw, .int .i64 mn, .slice V ys.length c]) := h.blk.alloc _
  have c1 : (w.alloc (.cells #[.int .i64 who, .int .i64 n, .int .i64 what, .string p, .int .i64 letter, .slice A seen.length ca] 30)).cell? ⟨b, 1, none⟩ = some (.int .i64 mn) := by rw [HB0.out.cell]; rfl
  have f1 := HB0.out.frozen 1
  have q1 : IntKind.i64.wrap (mn + 1) = mn + 1 := IntWalk.i64_in _ (by omega)
  clear h hy
  go_enter Tryz.func110, Tryz.ntmps110
  go_upto_region 2 with fail
  have HBm : Hid (Blk (w.setCell ⟨b, 1, none⟩ (.int .i64 (mn + 1))) b 145 #[.int .i64 mw, .int .i64 (mn + 1), .slice V ys.length c]) := HH.out.blk.set_ 1 _
  have HW1 : Hid (Only [b] w (w.setCell ⟨b, 1, none⟩ (.int .i64 (mn + 1)))) := (Only.refl _ _).setCell (.inl (by simp)) _
  have hsz : (w.setCell ⟨b, 1, none⟩ (.int .i64 (mn + 1))).heap.size = w.heap.size := by simp [World.setCell]
  have HSZ := Lib.hid hsz
  obtain ⟨w1, hw1⟩ : ∃ w1, w1 = w.setCell ⟨b, 1, none⟩ (.int .i64 (mn + 1)) := ⟨_, rfl⟩
  rw [← hw1] at HBm HW1 HSZ ⊢
  clear hw1 hsz HBox HB0 c1 f1
  have k0 : (w1.alloc (.cells #[.int .i64 who, .int .i64 n, .int .i64 what, .string p, .int .i64 letter, .slice A seen.length ca] 30)).cell? ⟨b, 0, none⟩ = some (.int .i64 mw) := by rw [(HBm.out.alloc _).cell]; rfl
  have k1 : (w1.alloc (.cells #[.int .i64 who, .int .i64 n, .int .i64 what, .string p, .int .i64 letter, .slice A seen.length ca] 30)).cell? ⟨b, 1, none⟩ = some (.int .i64 (mn + 1)) := by rw [(HBm.out.alloc _).cell]; rfl
  rw [← HSZ.out]
  go_cut [] (fun wx => ∃ n, wx = (w1.alloc (.cells #[.int .i64 mw, .int .i64 (mn + 1), .int .i64 what, .string p, .int .i64 letter, .slice A seen.length ca] 30)).drewN n)
  case first =>
    go_region
    all_goals
      go_wp2_with fail
      go_meet
      case rel => exact ⟨1, rfl⟩
  case rest =>
    obtain ⟨n2, rfl⟩ := hcut
    obtain ⟨W2, hW2⟩ : ∃ W2, W2 = (w1.alloc (.cells #[.int .i64 mw, .int .i64 (mn + 1), .int .i64 what, .string p, .int .i64 letter, .slice A seen.length ca] 30)).drewN n2 := ⟨_, rfl⟩
    have HO2 : Hid (Only [b] w W2) := by show Only _ _ _; rw [hW2]; exact (HW1.out.alloc _).drewN _
    have HM2 : Hid (Blk W2 b 145 #[.int .i64 mw, .int .i64 (mn + 1), .slice V ys.length c]) := by show Blk _ _ _ _; rw [hW2]; exact (HBm.out.alloc _).drewN _
    have HX2 : Hid (Blk W2 w1.heap.size 30 #[.int .i64 mw, .int .i64 (mn + 1), .int .i64 what, .string p, .int .i64 letter, .slice A seen.length ca]) := by show Blk _ _ _ _; rw [hW2]; exact (Blk.new w1 _ _).drewN _
    rw [← hW2]
    clear hW2 k0 k1 HBm HW1
    have j0 : W2.cell? ⟨w1.heap.size, 0, none⟩ = some (.int .i64 mw) := by rw [HX2.out.cell]; rfl
    have j1 : W2.cell? ⟨w1.heap.size, 1, none⟩ = some (.int .i64 (mn + 1)) := by rw [HX2.out.cell]; rfl
    have j2 : W2.cell? ⟨w1.heap.size, 2, none⟩ = some (.int .i64 what) := by rw [HX2.out.cell]; rfl
    have j3 : W2.cell? ⟨w1.heap.size, 3, none⟩ = some (.string p) := by rw [HX2.out.cell]; rfl
    have j4 : W2.cell? ⟨w1.heap.size, 4, none⟩ = some (.int .i64 letter) := by rw [HX2.out.cell]; rfl
    have j5 : W2.cell? ⟨w1.heap.size, 5, none⟩ = some (.slice A seen.length ca) := by rw [HX2.out.cell]; rfl
    have m2 : W2.cell? ⟨b, 2, none⟩ = some (.slice V ys.length c) := by rw [HM2.out.cell]; rfl
    have m2a : (W2.alloc (.cells #[.int .i64 mw, .int .i64 (mn + 1), .int .i64 what, .string p, .int .i64 letter, .slice A seen.length ca] 30)).cell? ⟨b, 2, none⟩ = some (.slice V ys.length c) := by rw [(HM2.out.alloc _).cell]; rfl
    have hBW : B ≤ W2.heap.size := by have := HO2.out.size; omega
    have HRW : Hid (Own W2 B 30 6 V ys.length c (ocells ys)) := HH.out.ops.row.only HO2.out (fun g hg hm => by simp at hm; subst hm; exact HH.out.ops.row.blk_ne HH.out.blk (by decide) hg)
    have hbV : b ∉ ob V := HH.out.ops.row.blk_ne HH.out.blk (by decide)
    have HONE : Hid (OneCells [Value.int .i64 mw, .int .i64 (mn + 1), .int .i64 what, .string p, .int .i64 letter, .slice A seen.length ca]) := by
      show OneCells _
      intro u hu
      simp only [List.mem_cons, List.not_mem_nil, or_false] at hu
      rcases hu with rfl | rfl | rfl | rfl | rfl | rfl <;> rfl
    have HFIT : Hid (Fits (ys.length + 1) 72) := Fits.of_small (by omega) (by decide)
    go_wp2_with fail
    go_region_law ((
      refine step_app _ (.tmp 25) (.tmp 27) rfl rfl elemO_ rfl rfl ((HRW.out.drew).alloc _) (Reads.row W2.drew 30 #[.int .i64 mw, .int .i64 (mn + 1), .int .i64 what, .string p, .int .i64 letter, .slice A seen.length ca]) HONE.out HFIT.out (by simp; omega) ?_
      intro V8 cV w8 hO hL hg
      have hb8 := hL.blk ((HM2.out.drew).alloc _) hbV
      have n2 : w8.cell? ⟨b, 2, none⟩ = some (.slice V ys.length c) := by { rw [hb8.cell]; rfl }
      have f2 := hb8.frozen 2))
    all_goals
      go_wp2_with fail
      go_end0
      exact ⟨rfl, add_close (y := ⟨⟨⟨who, n⟩, what, p, letter, seen⟩, A, ca⟩) HH.out hB (HO2.out.drew.alloc _) (HM2.out.drew.alloc _) HY.out hO hL hg⟩
/-- A maker that is new, or none. -/
def NewMkPost (w : World) (d : LDoc) (who : Int) (e : Ending) (w' : World) : Prop :=
  (LDoc.whoE who = 0 ∧ ∃ b, e = .returned (.tuple #[.pointer (some ⟨b, 0, none⟩), .nilIface]) ∧ MkIs w' w.heap.size b (d.maker who) none 0 [] ∧ Below w.heap.size w w') ∨
  (LDoc.whoE who ≠ 0 ∧ e = .returned (.tuple #[.pointer none, errV 1]) ∧ Below w.heap.size w w')
theorem nOf_known {l : List Int} (h : vecErr l = 0) {who : Int} (hw : LDoc.whoE who = 0) : ∃ (k : Nat) (hk : k < l.length), who = (k : Int) + 1 ∧ l[k] = nOf l ⟨who, 0⟩ ∧ 0 ≤ l[k] ∧ l[k] ≤ 9999 := by
  obtain ⟨h1, h2⟩ := vec_ok h
  unfold LDoc.whoE at hw
  split at hw
  · omega
  obtain ⟨k, rfl⟩ : ∃ k : Nat, who = (k : Int) + 1 := ⟨(who - 1).toNat, by omega⟩
  have hk : k < l.length := by omega
  refine ⟨k, hk, rfl, ?_, h2 _ (List.getElem_mem hk)⟩
  unfold nOf
  rw [show ((k : Int) + 1 - 1).toNat = k by omega]
  simp [List.getD, hk]
set_option maxRecDepth 100000 in
set_option maxHeartbeats 4000000 in
theorem newMk_any (w : World) (B : Nat) (S : List Nat) (b : Nat) (st : LDoc) (D : DLay) (h : DocIs w B S b st D) (ok : st.Ok) (who : Int) (hw0 : -9223372036854775808 ≤ who) (hw1 : who ≤ 9223372036854775807) :
    Calls Tryz.prog 73 #[.pointer (some ⟨b, 0, none⟩), .int .i64 who] w (NewMkPost w st who) := by
  have HA := Lib.hid (fun W => author_any W who)
  have HK := Lib.hid (known_doc w B S b st D h ok)
  have hE := errV_ne (show (1 : Int) ≠ 0 by decide)
  by_cases hw : LDoc.whoE who = 0
  · obtain ⟨k, hk, hwk, hnk, hn0, hn1⟩ := nOf_known ok.known hw
    have HL := Lib.hid (vec_ok ok.known).1
    have HW := Lib.hid hw
    have a1 : (decide (1 ≤ who) && decide (who ≤ 8)) = true := by
      unfold LDoc.whoE at hw
      split at hw
      · omega
      · simp; omega
    have HNK := Lib.hid hnk
    have HKK := Lib.hid hk
    have hk8 : k < 8 := by have := HL.out; omega
    rw [a1] at HA
    subst hwk
    have q1 : IntKind.i64.wrap ((k : Int) + 1 - 1) = (k : Int) := by rw [IntWalk.i64_in _ (by omega)]; omega
    have HR : Hid (∀ W V c, Own W w.heap.size 3 1 V st.known.length c (ints st.known) → ∃ ad, V = some ad ∧ W.cell? (ad.add k) = some (.int .i64 st.known[k])) := fun W V c hO => by
      obtain ⟨ad, e, _, hc⟩ := hO.reads.int HKK.out
      exact ⟨ad, e, hc⟩
    have k0 : (0 : Int) ≤ (k : Int) := by omega
    clear h ok hw hnk hE a1 hw0 hw1
    go_enter Tryz.func73, Tryz.ntmps73
    go_wp2_with fail
    refine (HA.out _).mono ?_
    rintro e w1 ⟨rfl, rfl⟩
    go_wp2_with fail
    refine HK.out.mono ?_
    rintro e w2 ⟨V, c, rfl, hO, hb⟩
    obtain ⟨ad, rfl, hc⟩ := HR.out _ _ _ hO
    have HB2 := Lib.hid hb
    have hkl : (k : Int) < (st.known.length : Int) := by have := HL.out; omega
    clear hO hb
    generalize st.known[k] = nk at *
    go_wp2_with fail
    go_ret2
    refine .inl ⟨HW.out, _, rfl, ⟨?_, ⟨Own.nil _ _ _ _, by simp⟩, rfl, HB2.out.size⟩, HB2.out.alloc HB2.out.size _⟩
    have := Blk.new w2 145 #[.int .i64 ((k : Int) + 1), .int .i64 nk, .slice none 0 0]
    rw [HNK.out] at this ⊢
    exact this
  · have a1 : (decide (1 ≤ who) && decide (who ≤ 8)) = false := by
      unfold LDoc.whoE at hw
      split at hw
      · simp; omega
      · omega
    have HW := Lib.hid hw
    rw [a1] at HA
    clear h ok hw a1 HK
    go_enter Tryz.func73, Tryz.ntmps73
    go_wp2_with fail
    refine (HA.out _).mono ?_
    rintro e w1 ⟨rfl, rfl⟩
    go_wp2_with fail
    go_ret2
    exact .inr ⟨HW.out, by rw [hE]; rfl, Below.refl _ _⟩
set_option maxRecDepth 100000 in
theorem mkDone_any (w : World) (B b : Nat) (m : LMk) (V : Option Addr) (c : Nat) (ys : List OpAt) (h : MkIs w B b m V c ys) (k : Int) :
    Calls Tryz.prog 87 #[.pointer (some ⟨b, 0, none⟩), errV k] w fun e w' => e = .returned (.tuple #[if k = 0 then .slice V ys.length c else .slice none 0 0, errV k]) ∧ w' = w := by
  have c2 : w.cell? ⟨b, 2, none⟩ = some (.slice V ys.length c) := by rw [h.blk.cell]; rfl
  clear h
  by_cases hk : k = 0
  · subst hk
    have HE : errV 0 = .nilIface := rfl
    rw [HE, if_pos rfl]
    go_enter Tryz.func87, Tryz.ntmps87
    go_wp2_with fail
    go_ret2
    exact ⟨rfl, rfl⟩
  · rw [errV_ne hk, if_neg hk]
    go_enter Tryz.func87, Tryz.ntmps87
    go_wp2_with fail
    go_ret2
    exact ⟨rfl, rfl⟩
end Go.Proofs.YtngalkmmpjegkaaGreatDoor
