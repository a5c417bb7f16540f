/- 4 texts in one: each says ahead of itself what is proved, and its conditions. -/
import Derived.Test.YtgjhkblnohcppaaDocKnown
import Derived.Test.YtgjhkblnohcppaaDocs2
import Derived.Test.YtgjhkblnohcppaaSyncLaw
/- sync.lacks, sync.take, walked. Conditions: the document is right; the ops can be read, and lie apart from it. -/
namespace Go.Proofs.Ytgjhkblnohcppaa
open Go.RowKit
set_option linter.unusedVariables false
def lacksO (l : List OpAt) (v : List Int) : List OpAt := l.filter fun y => lacksB v y.op
theorem lacksO_map (l : List OpAt) (v : List Int) : (lacksO l v).map OpAt.op = lacksR (l.map OpAt.op) v := by
  unfold lacksO lacksR
  rw [List.filter_map]
  rfl
theorem lacksO_take {l : List OpAt} {v : List Int} {k : Nat} (h : k < l.length) : lacksO (l.take (k + 1)) v = if lacksB v l[k].op = true then lacksO (l.take k) v ++ [l[k]] else lacksO (l.take k) v := by
  unfold lacksO
  rw [List.take_succ_eq_append_getElem h, List.filter_append]
  by_cases hb : lacksB v l[k].op = true
  · rw [if_pos hb, List.filter_cons, if_pos hb]; rfl
  · rw [if_neg hb, List.filter_cons, if_neg hb]; simp
theorem reads_op_at (W : World) (N : Nat) (h : W.heap.size = N) (y : OpAt) : Reads (W.alloc (.cells (y.op.cells y.at_ y.cap) 50)) (N + 1) 6 (some ⟨N, 0, none⟩) 1 (ocells [y]) := by
  subst h; exact reads_op W y
def LacksLoop (w : World) (l : List OpAt) (v : List Int) (o i : Value) (wr : World) : Prop :=
  ∃ (k cv : Nat) (V : Option Addr), k ≤ l.length ∧ i = .int .i64 k ∧ o = .slice V (lacksO (l.take k) v).length cv ∧ Hid (Own wr w.heap.size 50 6 V (lacksO (l.take k) v).length cv (ocells (lacksO (l.take k) v))) ∧ Hid (Below w.heap.size w wr)
def LacksPost (w : World) (l : List OpAt) (v : List Int) (e : Ending) (w' : World) : Prop :=
  ∃ V c, e = .returned (.slice V (lacksO l v).length c) ∧ Own w' w.heap.size 50 6 V (lacksO l v).length c (ocells (lacksO l v)) ∧ Below w.heap.size w w'
set_option maxRecDepth 100000 in
set_option maxHeartbeats 4000000 in
theorem slacks_any (w : World) (A : Option Addr) (c : Nat) (l : List OpAt) (K : Option Addr) (ck : Nat) (v : List Int) (h : Reads w w.heap.size 6 A l.length (ocells l)) (hg : ∀ y ∈ l, dotErr y.op.dot = 0) (hl : l.length ≤ 100000) (hv : Reads w w.heap.size 1 K v.length (ints v)) (hv8 : v.length = 8) :
    Calls Try.prog 66 #[.slice A l.length c, .slice K v.length ck] w (LacksPost w l v) := by
  have HR := Lib.hid h
  have HV := Lib.hid hv
  have HG := Lib.hid hg
  have HV8 := Lib.hid hv8
  clear h hv hg hv8
  go_enter Try.func66, Try.ntmps66
  go_wp2_with fail
  go_loopw [4, 9] (fun o i wr => LacksLoop w l v o i wr) (fun _ i _ => l.length - (intOf i).toNat)
  case atStart => exact ⟨0, 0, none, Nat.zero_le _, rfl, rfl, Own.nil _ _ _ _, Below.refl _ _⟩
  case round =>
    obtain ⟨k, cv, V, hk, rfl, rfl, HO, HB⟩ := hrel
    have k0 : (0 : Int) ≤ (k : Int) := by omega
    by_cases hlt : k < l.length
    · have k1 : (k : Int) < (l.length : Int) := by omega
      obtain ⟨ad, rfl, _, d0, d1, d2, d3, d4, d5⟩ := (HR.out.below HB.out).op hlt
      have HT := Lib.hid (lacksO_take (v := v) hlt)
      have hll : (lacksO (l.take k) v).length ≤ k := by have := List.length_filter_le (fun y : OpAt => lacksB v y.op) (l.take k); unfold lacksO; rw [List.length_take] at this; omega
      obtain ⟨j, hj, hw, n1, n2⟩ := dot_in (HG.out _ (List.getElem_mem hlt))
      have hj8 : j < v.length := by have := HV8.out; omega
      obtain ⟨av, rfl, _, _⟩ := HV.out.int hj8
      have HCV : Hid (∀ W, Below w.heap.size w W → W.cell? (av.add j) = some (.int .i64 v[j])) := fun W hb => by
        obtain ⟨a', e, _, hh⟩ := (HV.out.below hb).int hj8
        injection e with e
        subst e
        exact hh
      have hnof : nOf v l[k].op.dot = v[j] := by
        unfold nOf
        rw [hw, show ((j : Int) + 1 - 1).toNat = j by omega]
        simp [List.getD, hj8]
      have hlb : lacksB v l[k].op = decide (v[j] < l[k].op.dot.n) := by unfold lacksB; rw [hnof]
      rw [hlb] at HT
      have HRO := Lib.hid (fun (W : World) (N : Nat) (hN : W.heap.size = N) => reads_op_at W N hN l[k])
      have HON := Lib.hid (ocells_one [l[k]])
      have hF : Fits ((lacksO (l.take k) v).length + 1) 72 := Fits.of_small (by omega) (by decide)
      generalize lacksO (l.take k) v = rs at *
      generalize l[k] = y at *
      obtain ⟨⟨⟨who, n⟩, what, p, letter, seen⟩, ya, yc⟩ := y
      unfold LOp.cells at HRO
      simp only at d0 d1 d2 d3 d4 d5 hw HT HRO HON
      subst hw
      have q1 : IntKind.i64.wrap ((j : Int) + 1 - 1) = (j : Int) := by rw [IntWalk.i64_in _ (by omega)]; omega
      have j0 : (0 : Int) ≤ (j : Int) := by omega
      have j1 : (j : Int) < (v.length : Int) := by omega
      have HOX := Lib.hid (HO.out.alloc (.cells #[.int .i64 ((j : Int) + 1), .int .i64 n, .int .i64 what, .string p, .int .i64 letter, .slice ya seen.length yc] 50))
      have HBX : Hid (Below w.heap.size w (wr.alloc (.cells #[.int .i64 ((j : Int) + 1), .int .i64 n, .int .i64 what, .string p, .int .i64 letter, .slice ya seen.length yc] 50))) := HB.out.alloc HB.out.size _
      have hsz : w.heap.size ≤ wr.heap.size := HB.out.size
      have b0 : (wr.alloc (.cells #[.int .i64 ((j : Int) + 1), .int .i64 n, .int .i64 what, .string p, .int .i64 letter, .slice ya seen.length yc] 50)).cell? ⟨wr.heap.size, 0, none⟩ = some (.int .i64 ((j : Int) + 1)) := (Blk.new wr 50 _).cell 0
      have b1 : (wr.alloc (.cells #[.int .i64 ((j : Int) + 1), .int .i64 n, .int .i64 what, .string p, .int .i64 letter, .slice ya seen.length yc] 50)).cell? ⟨wr.heap.size, 1, none⟩ = some (.int .i64 n) := (Blk.new wr 50 _).cell 1
      have c0 := HCV.out _ (HB.out.alloc HB.out.size (.cells #[.int .i64 ((j : Int) + 1), .int .i64 n, .int .i64 what, .string p, .int .i64 letter, .slice ya seen.length yc] 50))
      clear hnof hlb HO
      generalize v[j] = u at *
      by_cases hlk : u < n
      · have g1 : decide (n > u) = true := decide_eq_true hlk
        have g2 : decide (u < n) = true := decide_eq_true hlk
        rw [decide_eq_true hlk] at HT
        simp only [if_true] at HT
        clear hlk
        go_wp2_with fail
        go_quiet (fail)
        go_wp2_with (at_builtin; go_loud (refine wpList_app _ (.tmp 24) (.tmp 26) rfl rfl elemO_ rfl rfl ((HOX.out.drewN _).alloc _) (HRO.out _ _ (by simp)) HON.out hF (by simp; omega) ?_; intro V2 cv2 w4 HO4 HL4 HX4; have HOn := Lib.hid HO4; have HBn : Hid (Below w.heap.size w w4) := ((below_drewN HBX.out _).alloc HBX.out.size _).trans (HL4.below (by simp; omega) (fun g hg => (HOX.out.lt g hg).1)); clear HO4 HL4 HX4))
        go_roundw
        case rel => exact ⟨k + 1, cv2, V2, by omega, by go_num, by rw [HT.out]; simp, by rw [HT.out, ocells_app, List.length_append]; exact HOn, HBn⟩
        case measure => simp [intOf]; omega
      · have g1 : decide (n > u) = false := decide_eq_false hlk
        have g2 : decide (u < n) = false := decide_eq_false hlk
        rw [decide_eq_false hlk] at HT
        simp only [Bool.false_eq_true, if_false] at HT
        clear hlk
        go_wp2_with fail
        go_quiet (fail)
        go_wp2_with fail
        go_roundw
        case rel => exact ⟨k + 1, cv, V, by omega, by go_num, by rw [HT.out], by rw [HT.out]; exact HOX.out.drewN _, below_drewN HBX.out _⟩
        case measure => simp [intOf]; omega
    · have k1 : ¬ (k : Int) < (l.length : Int) := by omega
      obtain rfl : k = l.length := by omega
      rw [List.take_length] at HO ⊢
      go_wp2_with fail
      go_ret
      exact ⟨V, cv, rfl, HO.out, HB.out⟩
end Go.Proofs.Ytgjhkblnohcppaa
/- sync.take, walked. Conditions: the document is right; the ops can be read, and lie apart from it. -/
namespace Go.Proofs.Ytgjhkblnohcppaa
open Go.RowKit
set_option linter.unusedVariables false
namespace LDoc
def tookN (d : LDoc) (l : List LOp) : Int := if d.doE l = 0 then d.takeN l else 0
end LDoc
structure TkMid (w : World) (B : Nat) (S : List Nat) (b : Nat) (A : Option Addr) (ys : List OpAt) (st : LDoc) (k : Nat) (n : Int) (wr : World) (S' : List Nat) (D' : DLay) (sk : LDoc) : Prop where
  mid : DoMid w B S b A ys st k wr S' D' sk
  num : st.takeN (ys.map OpAt.op) = n + sk.takeN ((ys.drop k).map OpAt.op)
  le : 0 ≤ n ∧ n ≤ k
def TkLoop (w : World) (B : Nat) (S : List Nat) (b : Nat) (A : Option Addr) (ys : List OpAt) (st : LDoc) (v i : Value) (wr : World) : Prop := ∃ k : Nat, ∃ (n : Int), ∃ S' D' sk, k ≤ ys.length ∧ i = .int .i64 k ∧ v = .int .i64 n ∧ Hid (TkMid w B S b A ys st k n wr S' D' sk)
theorem TkMid.next {w wr w' : World} {B b : Nat} {S S' : List Nat} {A : Option Addr} {ys : List OpAt} {st sk : LDoc} {k : Nat} {n : Int} {D' : DLay} (h : TkMid w B S b A ys st k n wr S' D' sk) (hk : k < ys.length) (o : Obj) (he : sk.applyE ys[k].op = 0) (ht : DocTo (wr.alloc o) B S' b (sk.apply ys[k].op) w') :
    ∃ S2 D2, TkMid w B S b A ys st (k + 1) (n + if sk.applyB ys[k].op = true then 1 else 0) w' S2 D2 (sk.apply ys[k].op) := by
  obtain ⟨S2, D2, h1⟩ := h.mid.next hk o he ht
  refine ⟨S2, D2, h1, ?_, ?_⟩
  · rw [h.num, List.drop_eq_getElem_cons hk, List.map_cons, LDoc.takeN, if_neg (by omega)]
    omega
  · have := h.le
    split <;> omega
def TakePost (w : World) (B : Nat) (S : List Nat) (b : Nat) (n k : Int) (st : LDoc) (e : Ending) (w' : World) : Prop := e = .returned (.tuple #[.int .i64 n, errV k]) ∧ DocTo w B S b st w'
set_option maxRecDepth 100000 in
set_option maxHeartbeats 8000000 in
theorem take_any (w : World) (B : Nat) (S : List Nat) (b : Nat) (st : LDoc) (D : DLay) (h : DocIs w B S b st D) (ok : st.Ok) (A : Option Addr) (c : Nat) (ys : List OpAt) (hr : Reads w w.heap.size 6 A ys.length (ocells ys)) (ha : 0 < ys.length → ∀ g ∈ ob A, g ∉ S)
    (hf : ∀ y ∈ ys, OpFar w S y) (hl : ys.length ≤ 1000000) :
    Calls Try.prog 65 #[.pointer (some ⟨b, 0, none⟩), .slice A ys.length c] w (TakePost w B S b (st.tookN (ys.map OpAt.op)) (st.doE (ys.map OpAt.op)) (st.doR (ys.map OpAt.op))) := by
  have HR := Lib.hid hr
  have HA := Lib.hid ha
  have HF := Lib.hid hf
  have HM0 : Hid (TkMid w B S b A ys st 0 0 w S D st) := ⟨⟨h, Only.refl _ _, fun g hg => .inl hg, ok, rfl, rfl⟩, by simp, by omega⟩
  clear hr ha hf h ok
  go_enter Try.func65, Try.ntmps65
  go_wp2_with fail
  go_loopw [6, 13] (fun v i wr => TkLoop w B S b A ys st v i wr) (fun _ i _ => ys.length - (intOf i).toNat)
  case atStart => exact ⟨0, 0, _, _, _, Nat.zero_le _, rfl, rfl, HM0.out⟩
  case round =>
    obtain ⟨k, nn, S', D', sk, hk, rfl, rfl, HM⟩ := hrel
    have k0 : (0 : Int) ≤ (k : Int) := by omega
    have hle := HM.out.le
    by_cases hlt : k < ys.length
    · have k1 : (k : Int) < (ys.length : Int) := by omega
      have hro := Reads.only HR.out HM.out.mid.only HA.out
      obtain ⟨ad, rfl, hab, d0, d1, d2, d3, d4, d5⟩ := hro.op hlt
      obtain ⟨f1, f2, f3⟩ := HF.out _ (List.getElem_mem hlt)
      have f1' := Reads.only f1 HM.out.mid.only f3
      have hfar : 0 < ys[k].op.seen.length → ∀ g ∈ ob ys[k].at_, g ∉ S' := fun hn g hg hm => by
        rcases HM.out.mid.sub g hm with h4 | h4
        · exact f3 hn g hg h4
        · obtain ⟨ad', e, hb, _⟩ := f1.2 hn
          rw [e] at hg; simp [ob] at hg; omega
      have HAP : Hid (∀ o : Obj, Calls Try.prog 31 #[.pointer (some ⟨b, 0, none⟩), ys[k].op.val ys[k].at_ ys[k].cap] (wr.alloc o) (ApplyPost (wr.alloc o) B S' b (sk.applyB ys[k].op) (sk.applyE ys[k].op) (sk.apply ys[k].op))) := fun o =>
        apply_doc (wr.alloc o) B S' b sk D' (HM.out.mid.boxed o) HM.out.mid.ok ys[k].op ys[k].at_ ys[k].cap f2 ((f1'.alloc (Nat.le_refl _) o).more (by simp)) hfar
      have HNX : Hid (∀ (he : sk.applyE ys[k].op = 0) (o : Obj) (w' : World), DocTo (wr.alloc o) B S' b (sk.apply ys[k].op) w' → ∃ S2 D2, TkMid w B S b (some ad) ys st (k + 1) (nn + if sk.applyB ys[k].op = true then 1 else 0) w' S2 D2 (sk.apply ys[k].op)) := fun he o w' ht => HM.out.next hlt o he ht
      have HST : Hid (∀ (he : sk.applyE ys[k].op ≠ 0) (o : Obj) (w' : World), DocTo (wr.alloc o) B S' b sk w' → st.doE (ys.map OpAt.op) = sk.applyE ys[k].op ∧ DocTo w B S b (st.doR (ys.map OpAt.op)) w') := fun he o w' ht => HM.out.mid.stop hlt o he ht
      have HBAD := Lib.hid (fun he : sk.applyE ys[k].op ≠ 0 => LDoc.applyE_bad (d := sk) (o := ys[k].op) rfl he)
      clear f1 f1' f2 f3 hfar hro hab
      generalize ys[k] = y at *
      have HE0 : errV 0 = .nilIface := rfl
      have q1 : IntKind.i64.wrap (nn + 1) = nn + 1 := IntWalk.i64_in _ (by omega)
      by_cases he : sk.applyE y.op = 0
      · have HNY := Lib.hid (HNX.out he)
        rw [he] at HAP
        clear HST HBAD he HNX
        generalize sk.apply y.op = sk2 at *
        cases hbb : sk.applyB y.op with
        | true =>
          rw [hbb] at HAP HNY
          simp only [if_true] at HNY
          clear hbb
          obtain ⟨⟨⟨who, n⟩, what, p, letter, seen⟩, ya, yc⟩ := y
          unfold LOp.val at HAP
          simp only at d0 d1 d2 d3 d4 d5 HAP
          go_wp2_with fail
          refine (HAP.out _).mono ?_
          rintro e w2 ⟨rfl, ht⟩
          have HN2 := Lib.hid (HNY.out _ _ ht)
          rw [HE0]
          clear ht HNY HAP
          go_wp2_with fail
          go_roundw
          case rel =>
            obtain ⟨S2, D2, hfin⟩ := HN2.out
            exact ⟨k + 1, nn + 1, S2, D2, sk2, by omega, by go_num, by first | rfl | rw [q1], hfin⟩
          case measure => simp [intOf]; omega
        | false =>
          rw [hbb] at HAP HNY
          simp only [Bool.false_eq_true, if_false] at HNY
          clear hbb
          obtain ⟨⟨⟨who, n⟩, what, p, letter, seen⟩, ya, yc⟩ := y
          unfold LOp.val at HAP
          simp only at d0 d1 d2 d3 d4 d5 HAP
          go_wp2_with fail
          refine (HAP.out _).mono ?_
          rintro e w2 ⟨rfl, ht⟩
          have HN2 := Lib.hid (HNY.out _ _ ht)
          rw [HE0]
          clear ht HNY HAP
          go_wp2_with fail
          go_roundw
          case rel =>
            obtain ⟨S2, D2, hfin⟩ := HN2.out
            exact ⟨k + 1, nn, S2, D2, sk2, by omega, by go_num, rfl, by rw [Int.add_zero] at hfin; exact hfin⟩
          case measure => simp [intOf]; omega
      · obtain ⟨_, hb, hs⟩ := HBAD.out he
        have HSU := Lib.hid (HST.out he)
        have HV := Lib.hid (errV_ne he)
        have HE := Lib.hid he
        rw [hb, hs] at HAP
        clear HNX HBAD he hb hs HST
        generalize sk.applyE y.op = ke at *
        obtain ⟨⟨⟨who, n⟩, what, p, letter, seen⟩, ya, yc⟩ := y
        unfold LOp.val at HAP
        simp only at d0 d1 d2 d3 d4 d5 HAP
        go_wp2_with fail
        refine (HAP.out _).mono ?_
        rintro e w2 ⟨rfl, ht⟩
        have HN2 := Lib.hid (HSU.out _ _ ht)
        rw [HV.out]
        clear ht HSU HAP
        go_wp2_with fail
        go_ret2
        obtain ⟨n1, n2⟩ := HN2.out
        have n3 : st.tookN (ys.map OpAt.op) = 0 := by unfold LDoc.tookN; rw [if_neg]; rw [n1]; exact HE.out
        exact ⟨by rw [n3, n1, HV.out]; rfl, n2⟩
    · have k1 : ¬ (k : Int) < (ys.length : Int) := by omega
      obtain ⟨f1, f2⟩ := HM.out.mid.fin (by omega)
      have F1 := Lib.hid f1
      have F2 := Lib.hid f2
      have F3 : Hid (st.tookN (ys.map OpAt.op) = nn) := by
        show _ = _
        unfold LDoc.tookN
        rw [if_pos f1, HM.out.num, List.drop_eq_nil_of_le (by omega)]
        simp [LDoc.takeN]
      clear f1 f2
      go_wp2_with fail
      go_ret2
      exact ⟨by rw [F1.out, F3.out]; rfl, F2.out⟩
end Go.Proofs.Ytgjhkblnohcppaa
/- sync.Both, walked. Conditions: both documents are right. -/
namespace Go.Proofs.Ytgjhkblnohcppaa
open Go.RowKit
set_option linter.unusedVariables false
namespace LDoc
def bothE (a b : LDoc) : Int := if gaveE a b ≠ 0 then gaveE a b else gaveE (gave a b) a
def bothA (a b : LDoc) : LDoc := if gaveE a b ≠ 0 then a else gave (gave a b) a
def bothN (a b : LDoc) : Int := if bothE a b = 0 then gaveN a b else 0
def bothM (a b : LDoc) : Int := if bothE a b = 0 then gaveN (gave a b) a else 0
theorem both_one {a b : LDoc} (h : gaveE a b ≠ 0) : bothE a b = gaveE a b ∧ bothA a b = a ∧ bothN a b = 0 ∧ bothM a b = 0 := by
  have e1 : bothE a b = gaveE a b := if_pos h
  refine ⟨e1, if_pos h, ?_, ?_⟩
  · unfold bothN; rw [e1, if_neg h]
  · unfold bothM; rw [e1, if_neg h]
theorem both_two {a b : LDoc} (h : gaveE a b = 0) (h2 : gaveE (gave a b) a ≠ 0) : bothE a b = gaveE (gave a b) a ∧ bothA a b = gave (gave a b) a ∧ bothN a b = 0 ∧ bothM a b = 0 := by
  have e1 : bothE a b = gaveE (gave a b) a := if_neg (fun x => x h)
  refine ⟨e1, if_neg (fun x => x h), ?_, ?_⟩
  · unfold bothN; rw [e1, if_neg h2]
  · unfold bothM; rw [e1, if_neg h2]
theorem both_all {a b : LDoc} (h : gaveE a b = 0) (h2 : gaveE (gave a b) a = 0) : bothE a b = 0 ∧ bothA a b = gave (gave a b) a ∧ bothN a b = gaveN a b ∧ bothM a b = gaveN (gave a b) a := by
  have e1 : bothE a b = 0 := by unfold bothE; rw [if_neg (fun x => x h), h2]
  refine ⟨e1, if_neg (fun x => x h), ?_, ?_⟩
  · unfold bothN; rw [if_pos e1]
  · unfold bothM; rw [if_pos e1]
theorem ops_good {a : LDoc} (h : a.Ok) {zs : List OpAt} (hz : zs.map OpAt.op = a.ops) : ∀ y ∈ zs, dotErr y.op.dot = 0 := fun y hy => by
  have : y.op ∈ a.ops := by rw [← hz]; exact List.mem_map.2 ⟨y, hy, rfl⟩
  exact (op_ok (h.ops _ this).1).1
theorem ops_small {a : LDoc} (h : a.Ok) : ∀ o ∈ a.ops, o.place.size ≤ 12 := fun o ho => place_small (op_ok (h.ops _ ho).1).2.2.1
end LDoc
namespace Scene
variable {w wr w' : World} {B b1 b2 : Nat} {s1 s2 s : LDoc} {rows rows' : List (Option Addr × List OpAt)}
theorem sub (h : Scene w B b1 b2 s1 s2 rows wr) (hs : ∀ r ∈ rows', r ∈ rows) : Scene w B b1 b2 s1 s2 rows' wr := by
  obtain ⟨S1, S2, D1, D2, h1, h2⟩ := h
  exact ⟨S1, S2, D1, D2, h1, fun r hr => h2 r (hs r hr)⟩
theorem opsL (h : Scene w B b1 b2 s1 s2 rows wr) (ok : s1.Ok) : Calls Try.prog 41 #[.pointer (some ⟨b1, 0, none⟩)] wr (fun e w' => ∃ V c zs, e = .returned (.slice V zs.length c) ∧ zs.map OpAt.op = s1.ops ∧ zs.length ≤ 400 ∧ Below wr.heap.size wr w' ∧ Scene w B b1 b2 s1 s2 ((V, zs) :: rows) w') := by
  obtain ⟨S1, S2, D1, D2, h1, h2⟩ := h
  refine (ops_doc wr _ _ _ _ _ h1.one ok).mono ?_
  rintro e w' ⟨V, c, zs, rfl, z1, z2, hb⟩
  have hl : s1.ops.length = zs.length := by rw [← z1, List.length_map]
  have hfew := ok.few
  refine ⟨V, c, zs, by rw [hl], z1, by omega, hb, S1, S2, D1, D2, h1.step hb, fun r hr => ?_⟩
  rcases List.mem_cons.1 hr with rfl | hr
  · exact OpsBy.of_own z2 (by rw [z1]; exact LDoc.ops_small ok) (fun g hg => by
      rcases List.mem_append.1 hg with h | h
      · exact (h1.one.own g h).2
      · exact (h1.two.own g h).2)
  · exact (h2 r hr).below hb
theorem opsR (h : Scene w B b1 b2 s1 s2 rows wr) (ok : s2.Ok) : Calls Try.prog 41 #[.pointer (some ⟨b2, 0, none⟩)] wr (fun e w' => ∃ V c zs, e = .returned (.slice V zs.length c) ∧ zs.map OpAt.op = s2.ops ∧ zs.length ≤ 400 ∧ Below wr.heap.size wr w' ∧ Scene w B b1 b2 s1 s2 ((V, zs) :: rows) w') :=
  (h.swap.opsL ok).mono fun e w' ⟨V, c, zs, h1, h2, h3, h4, h5⟩ => ⟨V, c, zs, h1, h2, h3, h4, h5.swap⟩
theorem knownL (h : Scene w B b1 b2 s1 s2 rows wr) (ok : s1.Ok) : Calls Try.prog 37 #[.pointer (some ⟨b1, 0, none⟩)] wr (fun e w' => ∃ V c, e = .returned (.slice V s1.known.length c) ∧ Own w' wr.heap.size 3 1 V s1.known.length c (ints s1.known) ∧ Below wr.heap.size wr w' ∧ Scene w B b1 b2 s1 s2 rows w') := by
  obtain ⟨S1, D1, h1, h2, h3⟩ := h.left (Q := fun _ _ _ => True)
  exact (known_doc wr _ _ _ _ _ h1 ok).mono fun e w' ⟨V, c, g1, g2, g3⟩ => ⟨V, c, g1, g2, g3, h.step g3⟩
theorem knownR (h : Scene w B b1 b2 s1 s2 rows wr) (ok : s2.Ok) : Calls Try.prog 37 #[.pointer (some ⟨b2, 0, none⟩)] wr (fun e w' => ∃ V c, e = .returned (.slice V s2.known.length c) ∧ Own w' wr.heap.size 3 1 V s2.known.length c (ints s2.known) ∧ Below wr.heap.size wr w' ∧ Scene w B b1 b2 s1 s2 rows w') :=
  (h.swap.knownL ok).mono fun e w' ⟨V, c, h1, h2, h3, h4⟩ => ⟨V, c, h1, h2, h3, h4.swap⟩
theorem lacks (h : Scene w B b1 b2 s1 s2 rows wr) {V : Option Addr} {zs : List OpAt} (hr : (V, zs) ∈ rows) (hg : ∀ y ∈ zs, dotErr y.op.dot = 0) (hl : zs.length ≤ 100000) {K : Option Addr} {v : List Int} (hv : Reads wr wr.heap.size 1 K v.length (ints v)) (hv8 : v.length = 8) (c ck : Nat) :
    Calls Try.prog 66 #[.slice V zs.length c, .slice K v.length ck] wr (fun e w' => ∃ V' c', e = .returned (.slice V' (lacksO zs v).length c') ∧ Below wr.heap.size wr w' ∧ Scene w B b1 b2 s1 s2 ((V', lacksO zs v) :: rows) w') := by
  obtain ⟨S1, S2, D1, D2, h1, h2⟩ := h
  refine (slacks_any wr V c zs K ck v (h2 _ hr).row hg hl hv hv8).mono ?_
  rintro e w' ⟨V', c', rfl, hO, hb⟩
  refine ⟨V', c', rfl, hb, S1, S2, D1, D2, h1.step hb, fun r hr' => ?_⟩
  rcases List.mem_cons.1 hr' with rfl | hr'
  · refine ⟨hO.reads, fun _ g hg hm => ?_, fun y hy => ((h2 _ hr).below hb).each y (List.mem_filter.1 hy).1⟩
    have := (hO.lt g hg).1
    rcases List.mem_append.1 hm with h | h
    · have := (h1.one.own g h).2; omega
    · have := (h1.two.own g h).2; omega
  · exact (h2 r hr').below hb
theorem takeL (h : Scene w B b1 b2 s1 s2 rows wr) (ok : s1.Ok) {V : Option Addr} {zs : List OpAt} (hr : (V, zs) ∈ rows) (c : Nat) (hl : zs.length ≤ 1000000) :
    Calls Try.prog 65 #[.pointer (some ⟨b1, 0, none⟩), .slice V zs.length c] wr (fun e w' => e = .returned (.tuple #[.int .i64 (s1.tookN (zs.map OpAt.op)), errV (s1.doE (zs.map OpAt.op))]) ∧ Scene w B b1 b2 (s1.doR (zs.map OpAt.op)) s2 rows w') := by
  obtain ⟨S1, D1, h1, h2, h3⟩ := h.left (Q := fun _ _ _ => True)
  exact (take_any wr B S1 b1 s1 D1 h1 ok V c zs (h2 _ hr).row (h2 _ hr).far (h2 _ hr).each hl).mono fun e w' hh => ⟨hh.1, h3 _ _ hh.2⟩
theorem takeR (h : Scene w B b1 b2 s1 s2 rows wr) (ok : s2.Ok) {V : Option Addr} {zs : List OpAt} (hr : (V, zs) ∈ rows) (c : Nat) (hl : zs.length ≤ 1000000) :
    Calls Try.prog 65 #[.pointer (some ⟨b2, 0, none⟩), .slice V zs.length c] wr (fun e w' => e = .returned (.tuple #[.int .i64 (s2.tookN (zs.map OpAt.op)), errV (s2.doE (zs.map OpAt.op))]) ∧ Scene w B b1 b2 s1 (s2.doR (zs.map OpAt.op)) rows w') :=
  (h.swap.takeL ok hr c hl).mono fun e w' hh => ⟨hh.1, hh.2.swap⟩
set_option maxRecDepth 100000 in
set_option maxHeartbeats 4000000 in
theorem both (h : Scene w B b1 b2 s1 s2 rows wr) (ok1 : s1.Ok) (ok2 : s2.Ok) :
    Calls Try.prog 35 #[.pointer (some ⟨b1, 0, none⟩), .pointer (some ⟨b2, 0, none⟩)] wr (fun e w' => e = .returned (.tuple #[.int .i64 (LDoc.bothN s1 s2), .int .i64 (LDoc.bothM s1 s2), errV (LDoc.bothE s1 s2)]) ∧ Scene w B b1 b2 (LDoc.bothA s1 s2) (LDoc.gave s1 s2) rows w') := by
  have HS := Lib.hid h
  have OK1 := Lib.hid ok1
  have OK2 := Lib.hid ok2
  have OK3 : Hid ((LDoc.gave s1 s2).Ok) := LDoc.doR_ok _ ok2
  have HE0 : errV 0 = .nilIface := rfl
  have hk1 : s1.known.length = 8 := (vec_ok ok1.known).1
  have hk2 : s2.known.length = 8 := (vec_ok ok2.known).1
  have HK1 := Lib.hid hk1
  have HK2 := Lib.hid hk2
  have HC := Lib.hid (h.opsL ok1)
  clear h ok1 ok2 hk1 hk2
  go_enter Try.func35, Try.ntmps35
  go_wp2_with fail
  refine HC.out.mono ?_
  rintro e w1 ⟨V1, c1, z1, rfl, hz1, hzl1, hb, hs⟩
  have HS1 := Lib.hid hs
  have HZ1 := Lib.hid hz1
  have HC := Lib.hid (HS1.out.knownR OK2.out)
  clear hs hb hz1 HS
  go_wp2_with fail
  refine HC.out.mono ?_
  rintro e w2 ⟨K, ck, rfl, hO, hb, hs⟩
  have HC := Lib.hid (hs.lacks (V := V1) (zs := z1) (by simp) (LDoc.ops_good OK1.out HZ1.out) (by omega) hO.reads HK2.out c1 ck)
  clear hs hb hO HS1
  go_wp2_with fail
  refine HC.out.mono ?_
  rintro e w3 ⟨V3, c3, rfl, hb, hs⟩
  have hll : (lacksO z1 s2.known).length ≤ 400 := by have := List.length_filter_le (fun y : OpAt => lacksB s2.known y.op) z1; unfold lacksO; omega
  have hmap : (lacksO z1 s2.known).map OpAt.op = lacksR s1.ops s2.known := by rw [lacksO_map, HZ1.out]
  have HS3 := Lib.hid hs
  have HC : Hid (Calls Try.prog 65 #[.pointer (some ⟨b2, 0, none⟩), .slice V3 (lacksO z1 s2.known).length c3] w3 (fun e w' => e = .returned (.tuple #[.int .i64 (s2.tookN (lacksR s1.ops s2.known)), errV (LDoc.gaveE s1 s2)]) ∧ Scene w B b1 b2 s1 (LDoc.gave s1 s2) rows w')) := by
    have := hs.takeR OK2.out (V := V3) (zs := lacksO z1 s2.known) (by simp) c3 (by omega)
    rw [hmap] at this
    exact this.mono fun e w' hh => ⟨hh.1, hh.2.sub (fun r hr => by simp [hr])⟩
  have HNE : Hid (LDoc.gaveE s1 s2 = 0 → s2.tookN (lacksR s1.ops s2.known) = LDoc.gaveN s1 s2) := fun h => if_pos h
  clear hs hb hll hmap
  generalize lacksO z1 s2.known = L1 at *
  generalize s2.tookN (lacksR s1.ops s2.known) = n1 at *
  by_cases he : LDoc.gaveE s1 s2 = 0
  · have HE := Lib.hid he
    rw [he] at HC
    go_wp2_with fail
    refine HC.out.mono ?_
    rintro e w4 ⟨rfl, hs⟩
    rw [HE0]
    have HC := Lib.hid (hs.opsR OK3.out)
    clear hs HS3 he
    go_wp2_with fail
    refine HC.out.mono ?_
    rintro e w5 ⟨V5, c5, z5, rfl, hz5, hzl5, hb, hs⟩
    have HZ5 := Lib.hid hz5
    have HC := Lib.hid (hs.knownL OK1.out)
    clear hs hb hz5
    go_wp2_with fail
    refine HC.out.mono ?_
    rintro e w6 ⟨K6, ck6, rfl, hO, hb, hs⟩
    have HC := Lib.hid (hs.lacks (V := V5) (zs := z5) (by simp) (LDoc.ops_good OK3.out HZ5.out) (by omega) hO.reads HK1.out c5 ck6)
    clear hs hb hO
    go_wp2_with fail
    refine HC.out.mono ?_
    rintro e w7 ⟨V7, c7, rfl, hb, hs⟩
    have hll : (lacksO z5 s1.known).length ≤ 400 := by have := List.length_filter_le (fun y : OpAt => lacksB s1.known y.op) z5; unfold lacksO; omega
    have hmap : (lacksO z5 s1.known).map OpAt.op = lacksR (LDoc.gave s1 s2).ops s1.known := by rw [lacksO_map, HZ5.out]
    have HC : Hid (Calls Try.prog 65 #[.pointer (some ⟨b1, 0, none⟩), .slice V7 (lacksO z5 s1.known).length c7] w7 (fun e w' => e = .returned (.tuple #[.int .i64 (s1.tookN (lacksR (LDoc.gave s1 s2).ops s1.known)), errV (LDoc.gaveE (LDoc.gave s1 s2) s1)]) ∧ Scene w B b1 b2 (LDoc.gave (LDoc.gave s1 s2) s1) (LDoc.gave s1 s2) rows w')) := by
      have := hs.takeL OK1.out (V := V7) (zs := lacksO z5 s1.known) (by simp) c7 (by omega)
      rw [hmap] at this
      exact this.mono fun e w' hh => ⟨hh.1, hh.2.sub (fun r hr => by simp [hr])⟩
    have HNE2 : Hid (LDoc.gaveE (LDoc.gave s1 s2) s1 = 0 → s1.tookN (lacksR (LDoc.gave s1 s2).ops s1.known) = LDoc.gaveN (LDoc.gave s1 s2) s1) := fun h => if_pos h
    clear hs hb hll hmap
    generalize lacksO z5 s1.known = L2 at *
    generalize s1.tookN (lacksR (LDoc.gave s1 s2).ops s1.known) = n2 at *
    by_cases he2 : LDoc.gaveE (LDoc.gave s1 s2) s1 = 0
    · have HA := Lib.hid (LDoc.both_all HE.out he2)
      have H2 := Lib.hid (HNE2.out he2)
      rw [he2] at HC
      clear he2
      go_wp2_with fail
      refine HC.out.mono ?_
      rintro e w8 ⟨rfl, hs⟩
      rw [HE0]
      have HSF := Lib.hid hs
      clear hs HC
      go_wp2_with fail
      go_ret3
      obtain ⟨a1, a2, a3, a4⟩ := HA.out
      exact ⟨by rw [a1, a3, a4, ← HNE.out HE.out, ← H2.out]; rfl, by rw [a2]; exact HSF.out⟩
    · have HA := Lib.hid (LDoc.both_two HE.out he2)
      have HV := Lib.hid (errV_ne he2)
      clear he2
      go_wp2_with fail
      refine HC.out.mono ?_
      rintro e w8 ⟨rfl, hs⟩
      rw [HV.out]
      have HSF := Lib.hid hs
      clear hs HC
      go_wp2_with fail
      go_ret3
      obtain ⟨a1, a2, a3, a4⟩ := HA.out
      exact ⟨by rw [a1, a3, a4, HV.out]; rfl, by rw [a2]; exact HSF.out⟩
  · have HA := Lib.hid (LDoc.both_one he)
    have HV := Lib.hid (errV_ne he)
    clear he
    go_wp2_with fail
    refine HC.out.mono ?_
    rintro e w8 ⟨rfl, hs⟩
    rw [HV.out]
    have HSF := Lib.hid hs
    clear hs HC
    go_wp2_with fail
    go_ret3
    obtain ⟨a1, a2, a3, a4⟩ := HA.out
    exact ⟨by rw [a1, a3, a4, HV.out]; rfl, by rw [a2]; exact HSF.out⟩
end Scene
end Go.Proofs.Ytgjhkblnohcppaa
/- sync.Lacks, walked: its copy, own down to the dots. Conditions: the ops can be read. -/
namespace Go.Proofs.Ytgjhkblnohcppaa
open Go.RowKit
set_option linter.unusedVariables false
/-- The first fault of some ops. -/
def opsFault : List LOp → Int
  | [] => 0
  | o :: t => if opErr o ≠ 0 then opErr o else opsFault t
theorem opsFault_zero : ∀ {l : List LOp}, (∀ o ∈ l, opErr o = 0) → opsFault l = 0
  | [], _ => rfl
  | o :: t, h => by rw [opsFault, if_neg (by have := h o (by simp); omega)]; exact opsFault_zero (fun x hx => h x (by simp [hx]))
theorem opsFault_drop {l : List LOp} {k : Nat} (hk : k < l.length) : opsFault (l.drop k) = if opErr l[k] ≠ 0 then opErr l[k] else opsFault (l.drop (k + 1)) := by
  rw [List.drop_eq_getElem_cons hk, opsFault]
theorem opsFault_mdrop {l : List OpAt} {k : Nat} (hk : k < l.length) : opsFault ((l.drop k).map OpAt.op) = if opErr l[k].op ≠ 0 then opErr l[k].op else opsFault ((l.drop (k + 1)).map OpAt.op) := by
  rw [List.drop_eq_getElem_cons hk, List.map_cons, opsFault]
theorem opsFault_ok : ∀ {l : List LOp}, opsFault l = 0 → ∀ o ∈ l, opErr o = 0
  | [], _ => by simp
  | o :: t, h => by
    unfold opsFault at h
    split at h
    · rename_i h1; exact absurd h h1
    · rename_i h1
      intro x hx
      rcases List.mem_cons.1 hx with rfl | hx
      · omega
      · exact opsFault_ok h x hx
def lackE (l : List LOp) (v : List Int) : Int := if vecErr v ≠ 0 then vecErr v else if 400 < l.length then 4 else opsFault l
def giveO (k : Int) (l : List LOp) : List LOp := if k = 0 then l else []
/-- Midway: the ops so far, each with dots of its own. -/
structure OutMid (w : World) (l : List OpAt) (V : Option Addr) (c : Nat) (zs : List OpAt) (k : Nat) (wr : World) : Prop where
  below : Below w.heap.size w wr
  own : OwnOps wr w.heap.size V c zs
  same : zs.map OpAt.op = (l.take k).map OpAt.op
  rest : opsFault (l.map OpAt.op) = opsFault ((l.drop k).map OpAt.op)
def OutLoop (w : World) (l : List OpAt) (o i : Value) (wr : World) : Prop := ∃ (k c : Nat) (V : Option Addr) (zs : List OpAt), k ≤ l.length ∧ i = .int .i64 k ∧ o = .slice V zs.length c ∧ Hid (OutMid w l V c zs k wr)
def OutPost (w : World) (l : List LOp) (k : Int) (e : Ending) (w' : World) : Prop :=
  ∃ V c zs, e = .returned (.tuple #[.slice V zs.length c, errV k]) ∧ zs.map OpAt.op = l ∧ OwnOps w' w.heap.size V c zs ∧ Below w.heap.size w w'
theorem out_bad {w w' : World} {k : Int} (hb : Below w.heap.size w w') : OutPost w [] k (.returned (.tuple #[.slice none 0 0, errV k])) w' := ⟨none, 0, [], rfl, rfl, ⟨Own.nil _ _ _ _, by simp⟩, hb⟩
theorem OutMid.step {w wr w2 w3 w4 : World} {l : List OpAt} {V : Option Addr} {c : Nat} {zs : List OpAt} {k : Nat} (h : OutMid w l V c zs k wr) (hk : k < l.length) (he : opErr l[k].op = 0) (hb2 : Below wr.heap.size wr w2) {Vd : Option Addr} {cd : Nat} (hd : Own w2 wr.heap.size 47 2 Vd l[k].op.seen.length cd (dcells l[k].op.seen))
    {b : Nat} (hbx : wr.heap.size ≤ b) (hnb : ∀ g ∈ ob Vd, g ≠ b) (h3 : Only [b] w2 w3) {V2 : Option Addr} {c2 : Nat} (hO : Own w4 w.heap.size 50 6 V2 (zs.length + 1) c2 (ocells zs ++ ocells [⟨l[k].op, Vd, cd⟩])) (h4 : Only (ob V) w3 w4) :
    OutMid w l V2 c2 (zs ++ [⟨l[k].op, Vd, cd⟩]) (k + 1) w4 := by
  have s0 := h.below.size
  have s2 := hb2.size
  have s3 := h3.size
  have hbelow : Below w.heap.size w w4 := ((h.below.trans (hb2.mono s0)).trans (h3.below (by omega) (fun g hg => by simp at hg; omega))).trans (h4.below (by omega) (fun g hg => (h.own.row.lt g hg).1))
  have ho4 : Only (b :: ob V) w2 w4 := (h3.mono (fun i hi => by simp at hi; simp [hi])).trans (h4.mono (fun i hi => by simp [hi]))
  have hdn : ∀ {A : Option Addr} {n cc : Nat} {xs : List Value}, Own wr w.heap.size 47 2 A n cc xs → Own w4 w.heap.size 47 2 A n cc xs := fun {A n cc xs} hx => (hx.below hb2).only ho4 (fun g hg hm => by
    rcases List.mem_cons.1 hm with h1 | h1
    · have := (hx.lt g hg).2; omega
    · rcases h.own.row.2 with ⟨h2, _⟩ | ⟨g', cap, cur, hh, _, hbk, _⟩
      · injection h2 with h2; rw [h2] at h1; simp [ob] at h1
      · injection hh with hh; rw [hh] at h1; simp [ob] at h1; subst h1
        exact hx.blk_ne (t := 50) hbk (by decide) hg)
  refine ⟨hbelow, ⟨by rw [List.length_append, ocells_app]; exact hO, fun z hz => ?_⟩, ?_, ?_⟩
  · rcases List.mem_append.1 hz with hz | hz
    · exact hdn (h.own.seen z hz)
    · simp at hz; subst hz
      refine (hd.only ho4 (fun g hg hm => ?_)).mono s0
      rcases List.mem_cons.1 hm with h1 | h1
      · exact hnb g hg h1
      · have := (h.own.row.lt g h1).2; have := (hd.lt g hg).1; omega
  · rw [List.map_append, h.same, List.take_succ_eq_append_getElem hk, List.map_append]; rfl
  · rw [h.rest, opsFault_mdrop hk, if_neg (by omega)]
set_option maxRecDepth 100000 in
set_option maxHeartbeats 8000000 in
theorem lacks_any (w : World) (A : Option Addr) (c : Nat) (l : List OpAt) (K : Option Addr) (ck : Nat) (v : List Int) (h : Reads w w.heap.size 6 A l.length (ocells l)) (hs : ∀ y ∈ l, Reads w w.heap.size 2 y.at_ y.op.seen.length (dcells y.op.seen)) (hp : ∀ y ∈ l, y.op.place.size ≤ 9223372036854775807) (hl : l.length ≤ 9223372036854775807)
    (hv : Reads w w.heap.size 1 K v.length (ints v)) (hvl : v.length ≤ 9223372036854775807) :
    Calls Try.prog 40 #[.slice A l.length c, .slice K v.length ck] w (OutPost w (giveO (lackE (l.map OpAt.op) v) (lacksR (l.map OpAt.op) v)) (lackE (l.map OpAt.op) v)) := by
  have HR := Lib.hid h
  have HS := Lib.hid hs
  have HP := Lib.hid hp
  have HV := Lib.hid hv
  have HC := Lib.hid (vector_any w K ck v hv hvl)
  have HE0 : errV 0 = .nilIface := rfl
  clear h hs hp hv
  by_cases he : vecErr v = 0
  · rw [he, HE0] at HC
    have hv8 := (vec_ok he).1
    have HV8 := Lib.hid hv8
    by_cases hfew : 400 < l.length
    · have HF : Hid (lackE (l.map OpAt.op) v = 4) := by show _ = _; unfold lackE; rw [if_neg (by omega), if_pos (by simpa using hfew)]
      have hgt : (400 : Int) < (l.length : Int) := by omega
      have hgd : decide ((l.length : Int) > 400) = true := decide_eq_true hgt
      clear he hfew hv8
      go_enter Try.func40, Try.ntmps40
      go_wp2_with fail
      refine HC.out.mono ?_
      rintro e w1 ⟨rfl, rfl⟩
      go_wp2_with fail
      go_ret2
      rw [HF.out]
      exact out_bad (Below.refl _ _)
    · have HF : Hid (lackE (l.map OpAt.op) v = opsFault (l.map OpAt.op)) := by show _ = _; unfold lackE; rw [if_neg (by omega), if_neg (by simpa using hfew)]
      have hle : ¬ (400 : Int) < (l.length : Int) := by omega
      have hl4 : l.length ≤ 400 := by omega
      clear he hfew hv8
      go_enter Try.func40, Try.ntmps40
      go_wp2_with fail
      refine HC.out.mono ?_
      rintro e w1 ⟨rfl, rfl⟩
      have HM0 : Hid (OutMid w1 l none 0 [] 0 w1) := ⟨Below.refl _ _, ⟨Own.nil _ _ _ _, by simp⟩, rfl, rfl⟩
      go_wp2_with fail
      go_loopw [7, 22] (fun o i wr => OutLoop w1 l o i wr) (fun _ i _ => l.length - (intOf i).toNat)
      case atStart => exact ⟨0, 0, none, [], Nat.zero_le _, rfl, rfl, HM0.out⟩
      case round =>
        obtain ⟨k, cz, V, zs, hk, rfl, rfl, HM⟩ := hrel
        have k0 : (0 : Int) ≤ (k : Int) := by omega
        have hzl : zs.length ≤ k := by have := congrArg List.length HM.out.same; simp at this; omega
        by_cases hlt : k < l.length
        · have k1 : (k : Int) < (l.length : Int) := by omega
          obtain ⟨ad, rfl, _, d0, d1, d2, d3, d4, d5⟩ := (HR.out.below HM.out.below).op hlt
          have HNX := Lib.hid (fun he w2 w3 w4 hb2 Vd cd hd b hbx hnb h3 V2 c2 hO h4 => HM.out.step (w2 := w2) (w3 := w3) (w4 := w4) hlt he hb2 (Vd := Vd) (cd := cd) hd (b := b) hbx hnb h3 (V2 := V2) (c2 := c2) hO h4)
          have HBW := Lib.hid HM.out.below
          have HRS := Lib.hid (HS.out _ (List.getElem_mem hlt))
          have HPS := Lib.hid (HP.out _ (List.getElem_mem hlt))
          have HRST : Hid (opsFault (l.map OpAt.op) = if opErr l[k].op ≠ 0 then opErr l[k].op else opsFault ((l.drop (k + 1)).map OpAt.op)) := by
            show _ = _
            rw [HM.out.rest, opsFault_mdrop hlt]
          have HOZ := Lib.hid HM.out.own.row
          have hF : Fits (zs.length + 1) 72 := Fits.of_small (by omega) (by decide)
          generalize l[k] = y at *
          obtain ⟨W0, hW0⟩ : ∃ W0, W0 = wr.alloc (.cells (y.op.cells y.at_ y.cap) 50) := ⟨_, rfl⟩
          have hbX : Below wr.heap.size wr W0 := by rw [hW0]; exact (Below.refl _ _).alloc (Nat.le_refl _) _
          have hbk : Blk W0 wr.heap.size 50 (y.op.cells y.at_ y.cap) := by rw [hW0]; exact Blk.new wr _ _
          have HBK := Lib.hid hbk
          have HBX := Lib.hid hbX
          have hrs0 := ((HRS.out.below HBW.out).more HBW.out.size)
          have HCK := Lib.hid (opCheck_any W0 y.at_ y.cap y.op ((hrs0.below hbX).more hbX.size) HPS.out)
          have HRD := Lib.hid (fun W (hb : Below wr.heap.size wr W) => (hrs0.below hb).more hb.size)
          clear hbk hbX hrs0 HRS HPS
          by_cases he : opErr y.op = 0
          · obtain ⟨_, _, _, _, _, _, hs40, _⟩ := op_ok he
            have HE := Lib.hid he
            rw [he, HE0] at HCK
            have hFd : Fits (0 + y.op.seen.length) 16 := Fits.of_small (by omega) (by decide)
            clear he HRST
            obtain ⟨⟨⟨who, n⟩, what, p, letter, seen⟩, ya, yc⟩ := y
            unfold LOp.cells at hW0 HBK
            unfold LOp.val at HCK
            simp only at d0 d1 d2 d3 d4 d5 hW0 HBK HCK HRD HNX hs40 hFd
            have b0 : W0.cell? ⟨wr.heap.size, 0, none⟩ = some (.int .i64 who) := HBK.out.cell 0
            have b1 : W0.cell? ⟨wr.heap.size, 1, none⟩ = some (.int .i64 n) := HBK.out.cell 1
            have b2 : W0.cell? ⟨wr.heap.size, 2, none⟩ = some (.int .i64 what) := HBK.out.cell 2
            have b3 : W0.cell? ⟨wr.heap.size, 3, none⟩ = some (.string p) := HBK.out.cell 3
            have b4 : W0.cell? ⟨wr.heap.size, 4, none⟩ = some (.int .i64 letter) := HBK.out.cell 4
            have b5 : W0.cell? ⟨wr.heap.size, 5, none⟩ = some (.slice ya seen.length yc) := HBK.out.cell 5
            go_wp2_with fail
            rw [← hW0]
            clear hW0
            refine HCK.out.mono ?_
            rintro e w2 ⟨rfl, hb2⟩
            have HB2 := Lib.hid (HBX.out.trans (hb2.mono HBX.out.size))
            have HBK2 := Lib.hid (HBK.out.below hb2 HBK.out.lt)
            have hb2s : wr.heap.size < w2.heap.size := Nat.lt_of_lt_of_le HBK.out.lt hb2.size
            clear hb2 b0 b1 b2 b3 b4 b5 d0 d1 d2 d3 d4 d5 HCK
            have b5 : w2.cell? ⟨wr.heap.size, 5, none⟩ = some (.slice ya seen.length yc) := HBK2.out.cell 5
            have HDS := Lib.hid (HRD.out w2 HB2.out)
            have HOD := Lib.hid (oneCells_d seen)
            have HNI : Hid (Own w2 w2.heap.size 47 2 none 0 0 []) := Own.nil _ _ _ _
            have HOS : Hid (∀ (w3 : World) (u : Value), Only [] w2 w3 → Own (w3.setCell ⟨wr.heap.size, 5, none⟩ u) w1.heap.size 50 6 V zs.length cz (ocells zs)) := fun w3 u ho => ((HOZ.out.below HB2.out).only ho (by simp)).only ((Only.refl [wr.heap.size] w3).setCell (p := ⟨wr.heap.size, 5, none⟩) (.inl (by simp)) u) (fun g hg hm => by
              have := (HOZ.out.lt g hg).2; simp at hm; omega)
            have HRO := Lib.hid (fun (W : World) (N : Nat) (hN : W.heap.size = N) (Vd : Option Addr) (cd : Nat) => reads_op_at W N hN ⟨⟨⟨who, n⟩, what, p, letter, seen⟩, Vd, cd⟩)
            unfold LOp.cells at HRO
            simp only at HRO
            have hsw : w1.heap.size ≤ wr.heap.size := HBW.out.size
            have HON := Lib.hid (fun (Vd : Option Addr) (cd : Nat) => ocells_one [(⟨⟨⟨who, n⟩, what, p, letter, seen⟩, Vd, cd⟩ : OpAt)])
            go_wp2_with (first
              | (at_builtin; refine wpList_app _ (.const (.slice none 0 0)) (.tmp 32) rfl rfl elemD_ rfl rfl HNI.out HDS.out HOD.out hFd (Nat.le_refl _) ?_; intro Vd cd w3 HOd HLd HXd; have HLn : Hid (Only [] w2 w3) := HLd; have HBK3 := Lib.hid (HLn.out.blk HBK2.out (by simp)); have hs3 : w2.heap.size ≤ w3.heap.size := HLn.out.size
                 have e0 : w3.cell? ⟨wr.heap.size, 0, none⟩ = some (.int .i64 who) := HBK3.out.cell 0
                 have e1 : w3.cell? ⟨wr.heap.size, 1, none⟩ = some (.int .i64 n) := HBK3.out.cell 1
                 have e2 : w3.cell? ⟨wr.heap.size, 2, none⟩ = some (.int .i64 what) := HBK3.out.cell 2
                 have e3 : w3.cell? ⟨wr.heap.size, 3, none⟩ = some (.string p) := HBK3.out.cell 3
                 have e4 : w3.cell? ⟨wr.heap.size, 4, none⟩ = some (.int .i64 letter) := HBK3.out.cell 4
                 have e5 : w3.cell? ⟨wr.heap.size, 5, none⟩ = some (.slice ya seen.length yc) := HBK3.out.cell 5
                 have f5 := HBK3.out.frozen 5
                 have HODn := Lib.hid HOd; clear HOd HLd HXd)
              | (at_builtin; go_loud (refine wpList_app _ (.tmp 35) (.tmp 37) rfl rfl elemO_ rfl rfl ((HOS.out _ _ HLn.out).alloc _) (HRO.out _ _ (by simp [World.setCell]) _ _) (HON.out _ _) hF (by simp [World.setCell]; omega) ?_; intro V2 cv2 w4 HO4 HL4 HX4; have HFIN := Lib.hid (HNX.out HE.out w3 _ w4 (HB2.out.trans (HLn.out.below_nil.mono HB2.out.size)) Vd cd ((by simpa using HODn.out : Own w3 w2.heap.size 47 2 Vd seen.length cd (dcells seen)).mono (by omega)) wr.heap.size (Nat.le_refl _) (fun g hg => by have := (HODn.out.lt g hg).1; omega) (((Only.refl [wr.heap.size] w3).setCell (p := ⟨wr.heap.size, 5, none⟩) (.inl (by simp)) _).alloc _) V2 cv2 HO4 HL4); clear HO4 HL4 HX4)))
            go_roundw
            case rel => exact ⟨k + 1, cv2, V2, _, by omega, by go_num, by simp, HFIN.out⟩
            case measure => simp [intOf]; omega
          · have HV := Lib.hid (errV_ne he)
            rw [if_pos he] at HRST
            have HKE := Lib.hid he
            clear he HNX
            obtain ⟨⟨⟨who, n⟩, what, p, letter, seen⟩, ya, yc⟩ := y
            unfold LOp.cells at hW0 HBK
            unfold LOp.val at HCK
            simp only at d0 d1 d2 d3 d4 d5 hW0 HBK HCK HRD
            have b0 : W0.cell? ⟨wr.heap.size, 0, none⟩ = some (.int .i64 who) := HBK.out.cell 0
            have b1 : W0.cell? ⟨wr.heap.size, 1, none⟩ = some (.int .i64 n) := HBK.out.cell 1
            have b2 : W0.cell? ⟨wr.heap.size, 2, none⟩ = some (.int .i64 what) := HBK.out.cell 2
            have b3 : W0.cell? ⟨wr.heap.size, 3, none⟩ = some (.string p) := HBK.out.cell 3
            have b4 : W0.cell? ⟨wr.heap.size, 4, none⟩ = some (.int .i64 letter) := HBK.out.cell 4
            have b5 : W0.cell? ⟨wr.heap.size, 5, none⟩ = some (.slice ya seen.length yc) := HBK.out.cell 5
            generalize opErr ⟨⟨who, n⟩, what, p, letter, seen⟩ = ke at *
            go_wp2_with fail
            rw [← hW0]
            clear hW0
            refine HCK.out.mono ?_
            rintro e w2 ⟨rfl, hb2⟩
            rw [HV.out]
            have HB2 := Lib.hid (HBW.out.trans ((HBX.out.trans (hb2.mono HBX.out.size)).mono HBW.out.size))
            clear hb2
            go_wp2_with fail
            go_ret2
            have hz : giveO (lackE (l.map OpAt.op) v) (lacksR (l.map OpAt.op) v) = [] := by
              unfold giveO; rw [if_neg]; rw [HF.out, HRST.out]; exact HKE.out
            rw [hz, HF.out, HRST.out]
            exact (by have := out_bad (k := ke) HB2.out; rw [HV.out] at this; exact this)
        · have k1 : ¬ (k : Int) < (l.length : Int) := by omega
          obtain rfl : k = l.length := by omega
          have hsm : zs.map OpAt.op = l.map OpAt.op := by rw [HM.out.same, List.take_length]
          have hz0 : opsFault (l.map OpAt.op) = 0 := by rw [HM.out.rest, List.drop_length]; rfl
          have hgo := opsFault_ok hz0
          have HSL := Lib.hid (slacks_any wr V cz zs K ck v HM.out.own.row.reads (fun y hy => (op_ok (hgo y.op (by rw [← hsm]; exact List.mem_map.2 ⟨y, hy, rfl⟩))).1) (by omega) ((HV.out.below HM.out.below).more HM.out.below.size) HV8.out)
          have HMO := Lib.hid HM.out.own
          have HMB := Lib.hid HM.out.below
          have HFZ : Hid (lackE (l.map OpAt.op) v = 0) := by show _ = _; rw [HF.out, hz0]
          have HSM := Lib.hid hsm
          clear hsm hz0 hgo HM
          go_wp2_with fail
          refine HSL.out.mono ?_
          rintro e w2 ⟨V2, c2, rfl, hO, hb⟩
          have HB2 := Lib.hid (HMB.out.trans (hb.mono HMB.out.size))
          have HO2 := Lib.hid hO
          have HS2 : Hid (∀ z ∈ lacksO zs v, Own w2 w1.heap.size 47 2 z.at_ z.op.seen.length z.cap (dcells z.op.seen)) := fun z hz => (HMO.out.seen z (List.mem_filter.1 hz).1).below hb
          have hsz : w1.heap.size ≤ wr.heap.size := HMB.out.size
          clear hb hO HSL
          go_wp2_with fail
          go_ret2
          rw [HFZ.out]
          exact ⟨V2, c2, lacksO zs v, rfl, by rw [lacksO_map, HSM.out]; rfl, ⟨HO2.out.mono hsz, HS2.out⟩, HB2.out⟩
  · have HEV := Lib.hid (errV_ne he)
    have HF : Hid (lackE (l.map OpAt.op) v = vecErr v) := if_pos he
    have HG : Hid (giveO (vecErr v) (lacksR (l.map OpAt.op) v) = []) := if_neg he
    clear he
    generalize vecErr v = ke at *
    go_enter Try.func40, Try.ntmps40
    go_wp2_with fail
    refine HC.out.mono ?_
    rintro e w1 ⟨rfl, rfl⟩
    rw [HEV.out]
    go_wp2_with fail
    go_ret2
    rw [HF.out, HG.out]
    have := out_bad (k := ke) (Below.refl w1.heap.size w1)
    rw [HEV.out] at this
    exact this
end Go.Proofs.Ytgjhkblnohcppaa
