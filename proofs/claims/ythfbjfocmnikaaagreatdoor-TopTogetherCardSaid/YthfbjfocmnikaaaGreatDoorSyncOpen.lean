/- 25 texts in one: each says ahead of itself what is proved, and its conditions. -/
import Derived.BigQuiet
import Derived.Deep.CutBlock
import Derived.Deep.RegionHeld3
import Derived.Deep.Upon
import Derived.Laws.ResultCell
import Derived.Test.YthfbjfocmnikaaaGreatDoorBookAt
import Derived.Test.YthfbjfocmnikaaaGreatDoorBookFind
import Derived.Test.YthfbjfocmnikaaaGreatDoorBookWrite
import Derived.Test.YthfbjfocmnikaaaGreatDoorDecode
import Derived.Test.YthfbjfocmnikaaaGreatDoorDocApply
import Derived.Test.YthfbjfocmnikaaaGreatDoorDocGo
import Derived.Test.YthfbjfocmnikaaaGreatDoorDocKnown
import Derived.Test.YthfbjfocmnikaaaGreatDoorMarkCut
import Derived.Test.YthfbjfocmnikaaaGreatDoorMarkJoin
import Derived.Test.YthfbjfocmnikaaaGreatDoorMarkLaw
import Derived.Test.YthfbjfocmnikaaaGreatDoorOpEnc
import Derived.Test.YthfbjfocmnikaaaGreatDoorOpenOp
import Derived.Test.YthfbjfocmnikaaaGreatDoorReadSpec
import Derived.Test.YthfbjfocmnikaaaGreatDoorRefPlace
import Derived.Test.YthfbjfocmnikaaaGreatDoorSameMarks
import Derived.Test.YthfbjfocmnikaaaGreatDoorSmall
import Derived.Test.YthfbjfocmnikaaaGreatDoorUnpack
/- sync.lacks, sync.take, walked. Conditions: the document is right; the ops can be read, and lie apart from it. -/
namespace Go.Proofs.YthfbjfocmnikaaaGreatDoor
open Go.RowKit
set_option linter.unusedVariables false
def lacksO (l : List OpAt) (v : List Int) : List OpAt := l.filter fun y => lacksB v y.op
theorem lacksO_map (l : List OpAt) (v : List Int) : (lacksO l v).map OpAt.op = lacksR (l.map OpAt.op) v := by
  unfold lacksO lacksR
  rw [List.filter_map]
  rfl
theorem lacksO_take {l : List OpAt} {v : List Int} {k : Nat} (h : k < l.length) : lacksO (l.take (k + 1)) v = if lacksB v l[k].op = true then lacksO (l.take k) v ++ [l[k]] else lacksO (l.take k) v := by
  unfold lacksO
  rw [List.take_succ_eq_append_getElem h, List.filter_append]
  by_cases hb : lacksB v l[k].op = true
  · rw [if_pos hb, List.filter_cons, if_pos hb]; rfl
  · rw [if_neg hb, List.filter_cons, if_neg hb]; simp
theorem reads_op_at (W : World) (N : Nat) (h : W.heap.size = N) (y : OpAt) : Reads (W.alloc (.cells (y.op.cells y.at_ y.cap) 30)) (N + 1) 6 (some ⟨N, 0, none⟩) 1 (ocells [y]) := by
  subst h; exact reads_op W y
def LacksLoop (w : World) (l : List OpAt) (v : List Int) (o i : Value) (wr : World) : Prop :=
  ∃ (k cv : Nat) (V : Option Addr), k ≤ l.length ∧ i = .int .i64 k ∧ o = .slice V (lacksO (l.take k) v).length cv ∧ Hid (Own wr w.heap.size 30 6 V (lacksO (l.take k) v).length cv (ocells (lacksO (l.take k) v))) ∧ Hid (Below w.heap.size w wr)
def LacksPost (w : World) (l : List OpAt) (v : List Int) (e : Ending) (w' : World) : Prop :=
  ∃ V c, e = .returned (.slice V (lacksO l v).length c) ∧ Own w' w.heap.size 30 6 V (lacksO l v).length c (ocells (lacksO l v)) ∧ Below w.heap.size w w'
set_option maxRecDepth 100000 in
set_option maxHeartbeats 4000000 in
theorem slacks_any (w : World) (A : Option Addr) (c : Nat) (l : List OpAt) (K : Option Addr) (ck : Nat) (v : List Int) (h : Reads w w.heap.size 6 A l.length (ocells l)) (hg : ∀ y ∈ l, dotErr y.op.dot = 0) (hl : l.length ≤ 100000) (hv : Reads w w.heap.size 1 K v.length (ints v)) (hv8 : v.length = 8) :
    Calls Tryz.prog 207 #[.slice A l.length c, .slice K v.length ck] w (LacksPost w l v) := by
  have HR := Lib.hid h
  have HV := Lib.hid hv
  have HG := Lib.hid hg
  have HV8 := Lib.hid hv8
  clear h hv hg hv8
  go_enter Tryz.func207, Tryz.ntmps207
  go_wp2_with fail
  go_loopw [4, 9] (fun o i wr => LacksLoop w l v o i wr) (fun _ i _ => l.length - (intOf i).toNat)
  case atStart => exact ⟨0, 0, none, Nat.zero_le _, rfl, rfl, Own.nil _ _ _ _, Below.refl _ _⟩
  case round =>
    obtain ⟨k, cv, V, hk, rfl, rfl, HO, HB⟩ := hrel
    have k0 : (0 : Int) ≤ (k : Int) := by omega
    by_cases hlt : k < l.length
    · have k1 : (k : Int) < (l.length : Int) := by omega
      obtain ⟨ad, rfl, _, d0, d1, d2, d3, d4, d5⟩ := (HR.out.below HB.out).op hlt
      have HT := Lib.hid (lacksO_take (v := v) hlt)
      have hll : (lacksO (l.take k) v).length ≤ k := by have := List.length_filter_le (fun y : OpAt => lacksB v y.op) (l.take k); unfold lacksO; rw [List.length_take] at this; omega
      obtain ⟨j, hj, hw, n1, n2⟩ := dot_in (HG.out _ (List.getElem_mem hlt))
      have hj8 : j < v.length := by have := HV8.out; omega
      obtain ⟨av, rfl, _, _⟩ := HV.out.int hj8
      have HCV : Hid (∀ W, Below w.heap.size w W → W.cell? (av.add j) = some (.int .i64 v[j])) := fun W hb => by
        obtain ⟨a', e, _, hh⟩ := (HV.out.below hb).int hj8
        injection e with e
        subst e
        exact hh
      have hnof : nOf v l[k].op.dot = v[j] := by
        unfold nOf
        rw [hw, show ((j : Int) + 1 - 1).toNat = j by omega]
        simp [List.getD, hj8]
      have hlb : lacksB v l[k].op = decide (v[j] < l[k].op.dot.n) := by unfold lacksB; rw [hnof]
      rw [hlb] at HT
      have HRO := Lib.hid (fun (W : World) (N : Nat) (hN : W.heap.size = N) => reads_op_at W N hN l[k])
      have HON := Lib.hid (ocells_one [l[k]])
      have hF : Fits ((lacksO (l.take k) v).length + 1) 72 := Fits.of_small (by omega) (by decide)
      generalize lacksO (l.take k) v = rs at *
      generalize l[k] = y at *
      obtain ⟨⟨⟨who, n⟩, what, p, letter, seen⟩, ya, yc⟩ := y
      unfold LOp.cells at HRO
      simp only at d0 d1 d2 d3 d4 d5 hw HT HRO HON
      subst hw
      have q1 : IntKind.i64.wrap ((j : Int) + 1 - 1) = (j : Int) := by rw [IntWalk.i64_in _ (by omega)]; omega
      have j0 : (0 : Int) ≤ (j : Int) := by omega
      have j1 : (j : Int) < (v.length : Int) := by omega
      have HOX := Lib.hid (HO.out.alloc (.cells #[.int .i64 ((j : Int) + 1), .int .i64 n, .int .i64 what, .string p, .int .i64 letter, .slice ya seen.length yc] 30))
      have HBX : Hid (Below w.heap.size w (wr.alloc (.cells #[.int .i64 ((j : Int) + 1), .int .i64 n, .int .i64 what, .string p, .int .i64 letter, .slice ya seen.length yc] 30))) := HB.out.alloc HB.out.size _
      have hsz : w.heap.size ≤ wr.heap.size := HB.out.size
      have b0 : (wr.alloc (.cells #[.int .i64 ((j : Int) + 1), .int .i64 n, .int .i64 what, .string p, .int .i64 letter, .slice ya seen.length yc] 30)).cell? ⟨wr.heap.size, 0, none⟩ = some (.int .i64 ((j : Int) + 1)) := (Blk.new wr 30 _).cell 0
      have b1 : (wr.alloc (.cells #[.int .i64 ((j : Int) + 1), .int .i64 n, .int .i64 what, .string p, .int .i64 letter, .slice ya seen.length yc] 30)).cell? ⟨wr.heap.size, 1, none⟩ = some (.int .i64 n) := (Blk.new wr 30 _).cell 1
      have c0 := HCV.out _ (HB.out.alloc HB.out.size (.cells #[.int .i64 ((j : Int) + 1), .int .i64 n, .int .i64 what, .string p, .int .i64 letter, .slice ya seen.length yc] 30))
      clear hnof hlb HO
      generalize v[j] = u at *
      by_cases hlk : u < n
      · have g1 : decide (n > u) = true := decide_eq_true hlk
        have g2 : decide (u < n) = true := decide_eq_true hlk
        rw [decide_eq_true hlk] at HT
        simp only [if_true] at HT
        clear hlk
        go_wp2_with fail
        go_quiet (fail)
        go_wp2_with (at_builtin; go_loud (refine wpList_app _ (.tmp 24) (.tmp 26) rfl rfl elemO_ rfl rfl ((HOX.out.drewN _).alloc _) (HRO.out _ _ (by simp)) HON.out hF (by simp; omega) ?_; intro V2 cv2 w4 HO4 HL4 HX4; have HOn := Lib.hid HO4; have HBn : Hid (Below w.heap.size w w4) := ((below_drewN HBX.out _).alloc HBX.out.size _).trans (HL4.below (by simp; omega) (fun g hg => (HOX.out.lt g hg).1)); clear HO4 HL4 HX4))
        go_roundw
        case rel => exact ⟨k + 1, cv2, V2, by omega, by go_num, by rw [HT.out]; simp, by rw [HT.out, ocells_app, List.length_append]; exact HOn, HBn⟩
        case measure => simp [intOf]; omega
      · have g1 : decide (n > u) = false := decide_eq_false hlk
        have g2 : decide (u < n) = false := decide_eq_false hlk
        rw [decide_eq_false hlk] at HT
        simp only [Bool.false_eq_true, if_false] at HT
        clear hlk
        go_wp2_with fail
        go_quiet (fail)
        go_wp2_with fail
        go_roundw
        case rel => exact ⟨k + 1, cv, V, by omega, by go_num, by rw [HT.out], by rw [HT.out]; exact HOX.out.drewN _, below_drewN HBX.out _⟩
        case measure => simp [intOf]; omega
    · have k1 : ¬ (k : Int) < (l.length : Int) := by omega
      obtain rfl : k = l.length := by omega
      rw [List.take_length] at HO ⊢
      go_wp2_with fail
      go_ret
      exact ⟨V, cv, rfl, HO.out, HB.out⟩
end Go.Proofs.YthfbjfocmnikaaaGreatDoor
/- sync.take, walked. Conditions: the document is right; the ops can be read, and lie apart from it. -/
namespace Go.Proofs.YthfbjfocmnikaaaGreatDoor
open Go.RowKit
set_option linter.unusedVariables false
namespace LDoc
def tookN (d : LDoc) (l : List LOp) : Int := if d.doE l = 0 then d.takeN l else 0
end LDoc
structure TkMid (w : World) (B : Nat) (S : List Nat) (b : Nat) (A : Option Addr) (ys : List OpAt) (st : LDoc) (k : Nat) (n : Int) (wr : World) (S' : List Nat) (D' : DLay) (sk : LDoc) : Prop where
  mid : DoMid w B S b A ys st k wr S' D' sk
  num : st.takeN (ys.map OpAt.op) = n + sk.takeN ((ys.drop k).map OpAt.op)
  le : 0 ≤ n ∧ n ≤ k
def TkLoop (w : World) (B : Nat) (S : List Nat) (b : Nat) (A : Option Addr) (ys : List OpAt) (st : LDoc) (v i : Value) (wr : World) : Prop := ∃ k : Nat, ∃ (n : Int), ∃ S' D' sk, k ≤ ys.length ∧ i = .int .i64 k ∧ v = .int .i64 n ∧ Hid (TkMid w B S b A ys st k n wr S' D' sk)
theorem TkMid.next {w wr w' : World} {B b : Nat} {S S' : List Nat} {A : Option Addr} {ys : List OpAt} {st sk : LDoc} {k : Nat} {n : Int} {D' : DLay} (h : TkMid w B S b A ys st k n wr S' D' sk) (hk : k < ys.length) (o : Obj) (he : sk.applyE ys[k].op = 0) (ht : DocTo (wr.alloc o) B S' b (sk.apply ys[k].op) w') :
    ∃ S2 D2, TkMid w B S b A ys st (k + 1) (n + if sk.applyB ys[k].op = true then 1 else 0) w' S2 D2 (sk.apply ys[k].op) := by
  obtain ⟨S2, D2, h1⟩ := h.mid.next hk o he ht
  refine ⟨S2, D2, h1, ?_, ?_⟩
  · rw [h.num, List.drop_eq_getElem_cons hk, List.map_cons, LDoc.takeN, if_neg (by omega)]
    omega
  · have := h.le
    split <;> omega
def TakePost (w : World) (B : Nat) (S : List Nat) (b : Nat) (n k : Int) (st : LDoc) (e : Ending) (w' : World) : Prop := e = .returned (.tuple #[.int .i64 n, errV k]) ∧ DocTo w B S b st w'
set_option maxRecDepth 100000 in
set_option maxHeartbeats 8000000 in
theorem take_any (w : World) (B : Nat) (S : List Nat) (b : Nat) (st : LDoc) (D : DLay) (h : DocIs w B S b st D) (ok : st.Ok) (A : Option Addr) (c : Nat) (ys : List OpAt) (hr : Reads w w.heap.size 6 A ys.length (ocells ys)) (ha : 0 < ys.length → ∀ g ∈ ob A, g ∉ S)
    (hf : ∀ y ∈ ys, OpFar w S y) (hl : ys.length ≤ 1000000) :
    Calls Tryz.prog 209 #[.pointer (some ⟨b, 0, none⟩), .slice A ys.length c] w (TakePost w B S b (st.tookN (ys.map OpAt.op)) (st.doE (ys.map OpAt.op)) (st.doR (ys.map OpAt.op))) := by
  have HR := Lib.hid hr
  have HA := Lib.hid ha
  have HF := Lib.hid hf
  have HM0 : Hid (TkMid w B S b A ys st 0 0 w S D st) := ⟨⟨h, Only.refl _ _, fun g hg => .inl hg, ok, rfl, rfl⟩, by simp, by omega⟩
  clear hr ha hf h ok
  go_enter Tryz.func209, Tryz.ntmps209
  go_wp2_with fail
  go_loopw [6, 13] (fun v i wr => TkLoop w B S b A ys st v i wr) (fun _ i _ => ys.length - (intOf i).toNat)
  case atStart => exact ⟨0, 0, _, _, _, Nat.zero_le _, rfl, rfl, HM0.out⟩
  case round =>
    obtain ⟨k, nn, S', D', sk, hk, rfl, rfl, HM⟩ := hrel
    have k0 : (0 : Int) ≤ (k : Int) := by omega
    have hle := HM.out.le
    by_cases hlt : k < ys.length
    · have k1 : (k : Int) < (ys.length : Int) := by omega
      have hro := Reads.only HR.out HM.out.mid.only HA.out
      obtain ⟨ad, rfl, hab, d0, d1, d2, d3, d4, d5⟩ := hro.op hlt
      obtain ⟨f1, f2, f3⟩ := HF.out _ (List.getElem_mem hlt)
      have f1' := Reads.only f1 HM.out.mid.only f3
      have hfar : 0 < ys[k].op.seen.length → ∀ g ∈ ob ys[k].at_, g ∉ S' := fun hn g hg hm => by
        rcases HM.out.mid.sub g hm with h4 | h4
        · exact f3 hn g hg h4
        · obtain ⟨ad', e, hb, _⟩ := f1.2 hn
          rw [e] at hg; simp [ob] at hg; omega
      have HAP : Hid (∀ o : Obj, Calls Tryz.prog 36 #[.pointer (some ⟨b, 0, none⟩), ys[k].op.val ys[k].at_ ys[k].cap] (wr.alloc o) (ApplyPost (wr.alloc o) B S' b (sk.applyB ys[k].op) (sk.applyE ys[k].op) (sk.apply ys[k].op))) := fun o =>
        apply_doc (wr.alloc o) B S' b sk D' (HM.out.mid.boxed o) HM.out.mid.ok ys[k].op ys[k].at_ ys[k].cap f2 ((f1'.alloc (Nat.le_refl _) o).more (by simp)) hfar
      have HNX : Hid (∀ (he : sk.applyE ys[k].op = 0) (o : Obj) (w' : World), DocTo (wr.alloc o) B S' b (sk.apply ys[k].op) w' → ∃ S2 D2, TkMid w B S b (some ad) ys st (k + 1) (nn + if sk.applyB ys[k].op = true then 1 else 0) w' S2 D2 (sk.apply ys[k].op)) := fun he o w' ht => HM.out.next hlt o he ht
      have HST : Hid (∀ (he : sk.applyE ys[k].op ≠ 0) (o : Obj) (w' : World), DocTo (wr.alloc o) B S' b sk w' → st.doE (ys.map OpAt.op) = sk.applyE ys[k].op ∧ DocTo w B S b (st.doR (ys.map OpAt.op)) w') := fun he o w' ht => HM.out.mid.stop hlt o he ht
      have HBAD := Lib.hid (fun he : sk.applyE ys[k].op ≠ 0 => LDoc.applyE_bad (d := sk) (o := ys[k].op) rfl he)
      clear f1 f1' f2 f3 hfar hro hab
      generalize ys[k] = y at *
      have HE0 : errV 0 = .nilIface := rfl
      have q1 : IntKind.i64.wrap (nn + 1) = nn + 1 := IntWalk.i64_in _ (by omega)
      by_cases he : sk.applyE y.op = 0
      · have HNY := Lib.hid (HNX.out he)
        rw [he] at HAP
        clear HST HBAD he HNX
        generalize sk.apply y.op = sk2 at *
        cases hbb : sk.applyB y.op with
        | true =>
          rw [hbb] at HAP HNY
          simp only [if_true] at HNY
          clear hbb
          obtain ⟨⟨⟨who, n⟩, what, p, letter, seen⟩, ya, yc⟩ := y
          unfold LOp.val at HAP
          simp only at d0 d1 d2 d3 d4 d5 HAP
          go_wp2_with fail
          refine (HAP.out _).mono ?_
          rintro e w2 ⟨rfl, ht⟩
          have HN2 := Lib.hid (HNY.out _ _ ht)
          rw [HE0]
          clear ht HNY HAP
          go_wp2_with fail
          go_roundw
          case rel =>
            obtain ⟨S2, D2, hfin⟩ := HN2.out
            exact ⟨k + 1, nn + 1, S2, D2, sk2, by omega, by go_num, by first | rfl | rw [q1], hfin⟩
          case measure => simp [intOf]; omega
        | false =>
          rw [hbb] at HAP HNY
          simp only [Bool.false_eq_true, if_false] at HNY
          clear hbb
          obtain ⟨⟨⟨who, n⟩, what, p, letter, seen⟩, ya, yc⟩ := y
          unfold LOp.val at HAP
          simp only at d0 d1 d2 d3 d4 d5 HAP
          go_wp2_with fail
          refine (HAP.out _).mono ?_
          rintro e w2 ⟨rfl, ht⟩
          have HN2 := Lib.hid (HNY.out _ _ ht)
          rw [HE0]
          clear ht HNY HAP
          go_wp2_with fail
          go_roundw
          case rel =>
            obtain ⟨S2, D2, hfin⟩ := HN2.out
            exact ⟨k + 1, nn, S2, D2, sk2, by omega, by go_num, rfl, by rw [Int.add_zero] at hfin; exact hfin⟩
          case measure => simp [intOf]; omega
      · obtain ⟨_, hb, hs⟩ := HBAD.out he
        have HSU := Lib.hid (HST.out he)
        have HV := Lib.hid (errV_ne he)
        have HE := Lib.hid he
        rw [hb, hs] at HAP
        clear HNX HBAD he hb hs HST
        generalize sk.applyE y.op = ke at *
        obtain ⟨⟨⟨who, n⟩, what, p, letter, seen⟩, ya, yc⟩ := y
        unfold LOp.val at HAP
        simp only at d0 d1 d2 d3 d4 d5 HAP
        go_wp2_with fail
        refine (HAP.out _).mono ?_
        rintro e w2 ⟨rfl, ht⟩
        have HN2 := Lib.hid (HSU.out _ _ ht)
        rw [HV.out]
        clear ht HSU HAP
        go_wp2_with fail
        go_ret2
        obtain ⟨n1, n2⟩ := HN2.out
        have n3 : st.tookN (ys.map OpAt.op) = 0 := by unfold LDoc.tookN; rw [if_neg]; rw [n1]; exact HE.out
        exact ⟨by rw [n3, n1, HV.out]; rfl, n2⟩
    · have k1 : ¬ (k : Int) < (ys.length : Int) := by omega
      obtain ⟨f1, f2⟩ := HM.out.mid.fin (by omega)
      have F1 := Lib.hid f1
      have F2 := Lib.hid f2
      have F3 : Hid (st.tookN (ys.map OpAt.op) = nn) := by
        show _ = _
        unfold LDoc.tookN
        rw [if_pos f1, HM.out.num, List.drop_eq_nil_of_le (by omega)]
        simp [LDoc.takeN]
      clear f1 f2
      go_wp2_with fail
      go_ret2
      exact ⟨by rw [F1.out, F3.out]; rfl, F2.out⟩
end Go.Proofs.YthfbjfocmnikaaaGreatDoor
/- The document's Dot, less, before, Mark, walked. Conditions: places that an int may count. -/
namespace Go.Proofs.YthfbjfocmnikaaaGreatDoor
open Go.RowKit
set_option linter.unusedVariables false
end Go.Proofs.YthfbjfocmnikaaaGreatDoor
/- leafref1.Op, walked: it tells the same as op.Check. Conditions: none of our own. -/
namespace Go.Proofs.YthfbjfocmnikaaaGreatDoor
open Go.RowKit
set_option linter.unusedVariables false
end Go.Proofs.YthfbjfocmnikaaaGreatDoor
/- The reference's document in memory: which blocks it turns, which it only reads. Plain lemmas. Conditions: none. -/
namespace Go.Proofs.YthfbjfocmnikaaaGreatDoor
open Go.RowKit
set_option linter.unusedVariables false
/-- Where the parts of the reference's document lie. -/
structure RLay where
  a1 : Option Addr
  c1 : Nat
  a2 : Option Addr
  c2 : Nat
  a3 : Option Addr
  c3 : Nat
  a4 : Option Addr
  c4 : Nat
  ys : List OpAt
def RLay.cells (D : RLay) (st : LDoc) : Array Value := #[.slice D.a1 st.book.length D.c1, .slice D.a2 st.marks.length D.c2, .slice D.a3 st.known.length D.c3, .slice D.a4 st.ops.length D.c4]
/-- A row that is read alone: its block is one of S, or lies below B, and is none of T. -/
structure Seat (w : World) (B : Nat) (S T : List Nat) (size : Nat) (A : Option Addr) (n : Nat) (xs : List Value) : Prop where
  row : Reads w w.heap.size size A n xs
  in_ : 0 < n → ∀ g ∈ ob A, g < B ∨ g ∈ S
  out : 0 < n → ∀ g ∈ ob A, g ∉ T
namespace Seat
variable {w w' : World} {B size n : Nat} {S S' T T' U : List Nat} {A : Option Addr} {xs : List Value}
theorem only (h : Seat w B S T size A n xs) (ho : Only U w w') (hU : ∀ g ∈ U, B ≤ g ∧ g ∉ S) : Seat w' B S T size A n xs :=
  ⟨h.row.only ho fun hn g hg hm => by
    obtain ⟨h1, h2⟩ := hU g hm
    rcases h.in_ hn g hg with h3 | h3
    · omega
    · exact h2 h3, h.in_, h.out⟩
/-- What may turn has turned. -/
theorem turned (h : Seat w B S T size A n xs) (ho : Only U w w') (hU : ∀ g ∈ U, g ∈ T ∨ w.heap.size ≤ g) : Seat w' B S T size A n xs :=
  ⟨h.row.only ho fun hn g hg hm => by
    obtain ⟨ad, e, hb, _⟩ := h.row.2 hn
    rcases hU g hm with h3 | h3
    · exact h.out hn g hg h3
    · rw [e] at hg; simp [ob] at hg; omega, h.in_, h.out⟩
theorem lt (h : Seat w B S T size A n xs) (hn : 0 < n) : ∀ g ∈ ob A, g < w.heap.size := fun g hg => by
  obtain ⟨ad, e, hb, _⟩ := h.row.2 hn
  rw [e] at hg; simp [ob] at hg; omega
theorem more (h : Seat w B S T size A n xs) (hS : ∀ g ∈ S, g ∈ S') (hT : ∀ g ∈ T', g ∈ T ∨ w.heap.size ≤ g) : Seat w B S' T' size A n xs :=
  ⟨h.row, fun hn g hg => (h.in_ hn g hg).imp id (hS g), fun hn g hg hm => by
    rcases hT g hm with h1 | h1
    · exact h.out hn g hg h1
    · have := h.lt hn g hg; omega⟩
theorem of_own {N c : Nat} {e : TypeId} (h : Own w N e size A n c xs) (hS : ∀ g ∈ ob A, g ∈ S) (hT : ∀ g ∈ T, g < N) : Seat w B S T size A n xs :=
  ⟨h.reads, fun _ g hg => .inr (hS g hg), fun _ g hg hm => by have := (h.lt g hg).1; have := hT g hm; omega⟩
end Seat
/-- The blocks that the reference's document turns. -/
def RLay.turns (D : RLay) (b : Nat) : List Nat := b :: (ob D.a3 ++ ob D.a4)
structure RDocIs (w : World) (B : Nat) (S : List Nat) (b : Nat) (st : LDoc) (D : RLay) : Prop where
  blk : Blk w b 53 (D.cells st)
  book : Seat w B S (D.turns b) 3 D.a1 st.book.length (lcells st.book)
  bookc : st.book.length ≤ D.c1 ∧ D.c1 ≤ 9223372036854775807
  marks : Seat w B S (D.turns b) 3 D.a2 st.marks.length (mcells st.marks)
  marksc : st.marks.length ≤ D.c2 ∧ D.c2 ≤ 9223372036854775807
  known : Own w B 3 1 D.a3 st.known.length D.c3 (ints st.known)
  ops : Own w B 30 6 D.a4 st.ops.length D.c4 (ocells D.ys)
  same : D.ys.map OpAt.op = st.ops
  seen : ∀ y ∈ D.ys, Seat w B S (D.turns b) 2 y.at_ y.op.seen.length (dcells y.op.seen)
  sub : ∀ g ∈ D.turns b, g ∈ S
  own : ∀ g ∈ S, B ≤ g ∧ g < w.heap.size
/-- What a step leaves: another document, only its blocks turned. -/
def RDocTo (w : World) (B : Nat) (S : List Nat) (b : Nat) (D : RLay) (st : LDoc) (w' : World) : Prop :=
  ∃ S' D', RDocIs w' B S' b st D' ∧ Only (D.turns b) w w' ∧ (∀ g ∈ S', g ∈ S ∨ w.heap.size ≤ g) ∧ (∀ g ∈ D'.turns b, g ∈ D.turns b ∨ w.heap.size ≤ g) ∧ D'.a3 = D.a3 ∧ D'.c3 = D.c3
namespace RDocIs
variable {w w' : World} {B : Nat} {S T : List Nat} {b : Nat} {st : LDoc} {D : RLay}
theorem only (h : RDocIs w B S b st D) (ho : Only T w w') (hT : ∀ g ∈ T, B ≤ g ∧ g ∉ S) : RDocIs w' B S b st D where
  blk := ho.blk h.blk (fun hm => (hT _ hm).2 (h.sub _ (by simp [RLay.turns])))
  book := h.book.only ho hT
  bookc := h.bookc
  marks := h.marks.only ho hT
  marksc := h.marksc
  known := h.known.only ho (fun g hg hm => (hT g hm).2 (h.sub g (by simp [RLay.turns, hg])))
  ops := h.ops.only ho (fun g hg hm => (hT g hm).2 (h.sub g (by simp [RLay.turns, hg])))
  same := h.same
  seen := fun y hy => (h.seen y hy).only ho hT
  sub := h.sub
  own := fun g hg => ⟨(h.own g hg).1, Nat.lt_of_lt_of_le (h.own g hg).2 ho.size⟩
theorem below (h : RDocIs w B S b st D) (hb : Below w.heap.size w w') : RDocIs w' B S b st D := h.only (T := []) (Only.of_below hb) (by simp)
theorem drewN (h : RDocIs w B S b st D) (n : Nat) : RDocIs (w.drewN n) B S b st D := h.below (below_drewN (Below.refl _ _) n)
theorem ys_len (h : RDocIs w B S b st D) : D.ys.length = st.ops.length := by rw [← h.same, List.length_map]
theorem b4 (h : RDocIs w B S b st D) : b ∉ ob D.a4 := h.ops.blk_ne h.blk (by decide)
theorem b3 (h : RDocIs w B S b st D) : b ∉ ob D.a3 := h.known.blk_ne h.blk (by decide)
theorem to_self (h : RDocIs w B S b st D) (hb : Below w.heap.size w w') : RDocTo w B S b D st w' := ⟨S, D, h.below hb, Only.of_below hb, fun g hg => .inl hg, fun g hg => .inl hg, rfl, rfl⟩
theorem mono {B' : Nat} (h : RDocIs w B S b st D) (hB : ∀ g ∈ S, B' ≤ g) (hh : B ≤ B') : RDocIs w B' S b st D :=
  { h with
    book := ⟨h.book.row, fun hn g hg => (h.book.in_ hn g hg).imp (by omega) id, h.book.out⟩
    marks := ⟨h.marks.row, fun hn g hg => (h.marks.in_ hn g hg).imp (by omega) id, h.marks.out⟩
    known := by
      rcases h.known with ⟨h1, h2⟩
      refine ⟨h1, ?_⟩
      rcases h2 with h2 | ⟨g, cap, cur, hv, hb, hr⟩
      · exact .inl h2
      · exact .inr ⟨g, cap, cur, hv, hB g (h.sub g (by injection hv with hv; simp [RLay.turns, hv, ob])), hr⟩
    ops := by
      rcases h.ops with ⟨h1, h2⟩
      refine ⟨h1, ?_⟩
      rcases h2 with h2 | ⟨g, cap, cur, hv, hb, hr⟩
      · exact .inl h2
      · exact .inr ⟨g, cap, cur, hv, hB g (h.sub g (by injection hv with hv; simp [RLay.turns, hv, ob])), hr⟩
    seen := fun y hy => ⟨(h.seen y hy).row, fun hn g hg => ((h.seen y hy).in_ hn g hg).imp (by omega) id, (h.seen y hy).out⟩
    own := fun g hg => ⟨hB g hg, (h.own g hg).2⟩ }
end RDocIs
/-- The program's document and the reference's, beside each other. -/
structure Twin (w : World) (B b1 b2 : Nat) (s1 s2 : LDoc) (wr : World) (S1 S2 : List Nat) (D1 : DLay) (D2 : RLay) : Prop where
  one : DocIs wr B S1 b1 s1 D1
  two : RDocIs wr B S2 b2 s2 D2
  apart : ∀ g ∈ S1, g ∉ S2
  below : Below w.heap.size w wr
  base : w.heap.size ≤ B
namespace Twin
variable {w wr w' : World} {B b1 b2 : Nat} {s1 s2 s : LDoc} {S1 S2 : List Nat} {D1 : DLay} {D2 : RLay}
theorem left (h : Twin w B b1 b2 s1 s2 wr S1 S2 D1 D2) (ht : DocTo wr B S1 b1 s w') : ∃ S' D', Twin w B b1 b2 s s2 w' S' S2 D' D2 ∧ Only S1 wr w' ∧ ∀ g ∈ S', g ∈ S1 ∨ wr.heap.size ≤ g := by
  obtain ⟨S', D', h1, h2, h3⟩ := ht
  refine ⟨S', D', ⟨h1, h.two.only h2 (fun g hg => ⟨(h.one.own g hg).1, h.apart g hg⟩), fun g hg hm => ?_, h.below.trans (h2.below h.below.size (fun g hg => by have := (h.one.own g hg).1; have := h.base; omega)), h.base⟩, h2, h3⟩
  rcases h3 g hg with h4 | h4
  · exact h.apart g h4 hm
  · have := (h.two.own g hm).2; omega
theorem right (h : Twin w B b1 b2 s1 s2 wr S1 S2 D1 D2) (ht : RDocTo wr B S2 b2 D2 s w') : ∃ S' D', Twin w B b1 b2 s1 s w' S1 S' D1 D' ∧ Only (D2.turns b2) wr w' ∧ ∀ g ∈ S', g ∈ S2 ∨ wr.heap.size ≤ g := by
  obtain ⟨S', D', h1, h2, h3, _⟩ := ht
  refine ⟨S', D', ⟨h.one.only h2 (fun g hg hm => h.apart g hm (h.two.sub g hg)), h1, fun g hg hm => ?_, h.below.trans (h2.below h.below.size (fun g hg => by have := (h.two.own g (h.two.sub g hg)).1; have := h.base; omega)), h.base⟩, h2, h3⟩
  rcases h3 g hm with h4 | h4
  · exact h.apart g hg h4
  · have := (h.one.own g hg).2; omega
theorem step (h : Twin w B b1 b2 s1 s2 wr S1 S2 D1 D2) (hb : Below wr.heap.size wr w') : Twin w B b1 b2 s1 s2 w' S1 S2 D1 D2 :=
  ⟨h.one.below hb, h.two.below hb, h.apart, h.below.trans (hb.mono h.below.size), h.base⟩
theorem drewN (h : Twin w B b1 b2 s1 s2 wr S1 S2 D1 D2) (n : Nat) : Twin w B b1 b2 s1 s2 (wr.drewN n) S1 S2 D1 D2 := h.step (below_drewN (Below.refl _ _) n)
/-- The program's is there; the reference's is newly made. -/
theorem make (hw : Below w.heap.size w wr) (hB : w.heap.size ≤ B) (h1 : DocIs wr B S1 b1 s1 D1) (hb : Below wr.heap.size wr w') (h2 : RDocIs w' B S2 b2 s2 D2) (hS : ∀ g ∈ S2, wr.heap.size ≤ g) : Twin w B b1 b2 s1 s2 w' S1 S2 D1 D2 :=
  ⟨h1.below hb, h2, fun g hg hm => by have := (h1.own g hg).2; have := hS g hm; omega, hw.trans (hb.mono hw.size), hB⟩
end Twin
end Go.Proofs.YthfbjfocmnikaaaGreatDoor
/- The document's In, walked. Conditions: few dots. -/
namespace Go.Proofs.YthfbjfocmnikaaaGreatDoor
open Go.RowKit MarkJoin
set_option linter.unusedVariables false
end Go.Proofs.YthfbjfocmnikaaaGreatDoor
/- (*leafref2.Doc).seen, New, walked. Conditions: the document is right. -/
namespace Go.Proofs.YthfbjfocmnikaaaGreatDoor
open Go.RowKit
set_option linter.unusedVariables false
section
variable (w : World) (B : Nat) (S : List Nat) (b : Nat) (st : LDoc) (D : RLay) (h : RDocIs w B S b st D) (ok : st.Ok)
include h ok
end
end Go.Proofs.YthfbjfocmnikaaaGreatDoor
/- The reference's document: its parts laid anew. Plain lemmas. Conditions: none. -/
namespace Go.Proofs.YthfbjfocmnikaaaGreatDoor
open Go.RowKit
set_option linter.unusedVariables false
namespace RDocIs
variable {w w' : World} {B : Nat} {S S' T : List Nat} {b : Nat} {st : LDoc} {D : RLay}
theorem setBook (h : RDocIs w B S b st D) (hS : ∀ g ∈ S, g ∈ S') (hO : ∀ g ∈ S', B ≤ g ∧ g < w.heap.size) {V : Option Addr} {c : Nat} {l : List LLeaf} (hV : Seat w B S' (D.turns b) 3 V l.length (lcells l)) (hc : l.length ≤ c ∧ c ≤ 9223372036854775807) :
    RDocIs (w.setCell ⟨b, 0, none⟩ (.slice V l.length c)) B S' b { st with book := l } { D with a1 := V, c1 := c } := by
  have ho : Only [b] w (w.setCell ⟨b, 0, none⟩ (.slice V l.length c)) := (Only.refl _ _).setCell (.inl (by simp)) _
  have hU : ∀ g ∈ [b], g ∈ D.turns b ∨ w.heap.size ≤ g := by simp [RLay.turns]
  refine ⟨h.blk.set_ 0 _, hV.turned ho hU, hc, (h.marks.turned ho hU).more hS (fun g hg => .inl hg), h.marksc, h.known.only ho (fun g hg hm => ?_), h.ops.only ho (fun g hg hm => ?_), h.same, fun y hy => ((h.seen y hy).turned ho hU).more hS (fun g hg => .inl hg), fun g hg => hS g (h.sub g hg), fun g hg => ⟨(hO g hg).1, Nat.lt_of_lt_of_le (hO g hg).2 ho.size⟩⟩
  · simp at hm; subst hm; exact h.b3 hg
  · simp at hm; subst hm; exact h.b4 hg
theorem setMarks (h : RDocIs w B S b st D) (hS : ∀ g ∈ S, g ∈ S') (hO : ∀ g ∈ S', B ≤ g ∧ g < w.heap.size) {V : Option Addr} {c : Nat} {l : List LMark} (hV : Seat w B S' (D.turns b) 3 V l.length (mcells l)) (hc : l.length ≤ c ∧ c ≤ 9223372036854775807) :
    RDocIs (w.setCell ⟨b, 1, none⟩ (.slice V l.length c)) B S' b { st with marks := l } { D with a2 := V, c2 := c } := by
  have ho : Only [b] w (w.setCell ⟨b, 1, none⟩ (.slice V l.length c)) := (Only.refl _ _).setCell (.inl (by simp)) _
  have hU : ∀ g ∈ [b], g ∈ D.turns b ∨ w.heap.size ≤ g := by simp [RLay.turns]
  refine ⟨h.blk.set_ 1 _, (h.book.turned ho hU).more hS (fun g hg => .inl hg), h.bookc, hV.turned ho hU, hc, h.known.only ho (fun g hg hm => ?_), h.ops.only ho (fun g hg hm => ?_), h.same, fun y hy => ((h.seen y hy).turned ho hU).more hS (fun g hg => .inl hg), fun g hg => hS g (h.sub g hg), fun g hg => ⟨(hO g hg).1, Nat.lt_of_lt_of_le (hO g hg).2 ho.size⟩⟩
  · simp at hm; subst hm; exact h.b3 hg
  · simp at hm; subst hm; exact h.b4 hg
end RDocIs
theorem RDocIs.congr {w : World} {B : Nat} {S : List Nat} {b : Nat} {st s2 : LDoc} {D : RLay} (h : RDocIs w B S b st D) (e1 : s2.book = st.book) (e2 : s2.marks = st.marks) (e3 : s2.known = st.known) (e4 : s2.ops = st.ops) : RDocIs w B S b s2 D := by
  have hc : D.cells s2 = D.cells st := by unfold RLay.cells; rw [e1, e2, e3, e4]
  exact ⟨by rw [hc]; exact h.blk, by rw [e1]; exact h.book, by rw [e1]; exact h.bookc, by rw [e2]; exact h.marks, by rw [e2]; exact h.marksc, by rw [e3]; exact h.known, by rw [e4]; exact h.ops, by rw [e4]; exact h.same, h.seen, h.sub, h.own⟩
/-- What the reference's step on the book and the marks gives. -/
structure RTurn (w : World) (B : Nat) (S : List Nat) (b : Nat) (st : LDoc) (D : RLay) (o : LOp) (V1 : Option Addr) (d1 : Nat) (l1 : List LLeaf) (V2 : Option Addr) (d2 : Nat) (l2 : List LMark) (S' : List Nat) (wx : World) : Prop where
  ok : st.turnE o = 0 → l1 = (st.turn o).book ∧ l2 = (st.turn o).marks
  below : Below w.heap.size w wx
  sub : ∀ g ∈ S, g ∈ S'
  new_ : ∀ g ∈ S', g ∈ S ∨ w.heap.size ≤ g
  own : ∀ g ∈ S', B ≤ g ∧ g < wx.heap.size
  book : Seat wx B S' (D.turns b) 3 V1 l1.length (lcells l1)
  bookc : l1.length ≤ d1 ∧ d1 ≤ 9223372036854775807
  marks : Seat wx B S' (D.turns b) 3 V2 l2.length (mcells l2)
  marksc : l2.length ≤ d2 ∧ d2 ≤ 9223372036854775807
namespace RTurn
variable {w wx : World} {B : Nat} {S S' : List Nat} {b : Nat} {st : LDoc} {D : RLay} {o : LOp}
theorem stays (h : RDocIs w B S b st D) (hb : Below w.heap.size w wx) (hm : st.turnE o = 0 → st.book = (st.turn o).book ∧ st.marks = (st.turn o).marks) : RTurn w B S b st D o D.a1 D.c1 st.book D.a2 D.c2 st.marks S wx :=
  let h' := h.below hb
  ⟨hm, hb, fun g hg => hg, fun g hg => .inl hg, h'.own, h'.book, h'.bookc, h'.marks, h'.marksc⟩
end RTurn
end Go.Proofs.YthfbjfocmnikaaaGreatDoor
/- The document's Text, Nth, Ahead, walked. Conditions: a book that is right, or letters that are bytes. -/
namespace Go.Proofs.YthfbjfocmnikaaaGreatDoor
open Go.RowKit
set_option linter.unusedVariables false
end Go.Proofs.YthfbjfocmnikaaaGreatDoor
/- The document's set, walked. Conditions: a book that is not too long. -/
namespace Go.Proofs.YthfbjfocmnikaaaGreatDoor
open Go.RowKit
set_option linter.unusedVariables false
end Go.Proofs.YthfbjfocmnikaaaGreatDoor
/- The document's Write, Strike, walked. Conditions: a book that is right. -/
namespace Go.Proofs.YthfbjfocmnikaaaGreatDoor
open Go.RowKit
set_option linter.unusedVariables false
end Go.Proofs.YthfbjfocmnikaaaGreatDoor
/- The document's Marks, With, Without, walked. Conditions: places that an int may count. -/
namespace Go.Proofs.YthfbjfocmnikaaaGreatDoor
open Go.RowKit
set_option linter.unusedVariables false
end Go.Proofs.YthfbjfocmnikaaaGreatDoor
/- The document's Without, walked. Conditions: few marks, few dots. -/
namespace Go.Proofs.YthfbjfocmnikaaaGreatDoor
open Go.RowKit
set_option linter.unusedVariables false
end Go.Proofs.YthfbjfocmnikaaaGreatDoor
/- (*leafref2.Doc).Apply, walked: it does what the program's does. Conditions: the document is right, and says what was done. -/
namespace Go.Proofs.YthfbjfocmnikaaaGreatDoor
open Go.RowKit
set_option linter.unusedVariables false
section
variable (w : World) (B : Nat) (S : List Nat) (b : Nat) (st : LDoc) (D : RLay) (h : RDocIs w B S b st D) (ok : st.Ok) (hs : Says st.ops st)
include h ok hs
end
end Go.Proofs.YthfbjfocmnikaaaGreatDoor
/- (*leafref2.Doc).Take, walked. Conditions: the document is right; the ops can be read, and lie apart from what it turns. -/
namespace Go.Proofs.YthfbjfocmnikaaaGreatDoor
open Go.RowKit
set_option linter.unusedVariables false
theorem RDocIs.grow {w : World} {B : Nat} {S S' : List Nat} {b : Nat} {st : LDoc} {D : RLay} (h : RDocIs w B S' b st D) (hS : ∀ g ∈ S, B ≤ g ∧ g < w.heap.size) : RDocIs w B (S' ++ S) b st D :=
  { h with
    book := h.book.more (fun g hg => by simp [hg]) (fun g hg => .inl hg)
    marks := h.marks.more (fun g hg => by simp [hg]) (fun g hg => .inl hg)
    seen := fun y hy => (h.seen y hy).more (fun g hg => by simp [hg]) (fun g hg => .inl hg)
    sub := fun g hg => by simp [h.sub g hg]
    own := fun g hg => by
      rcases List.mem_append.1 hg with h1 | h1
      · exact h.own g h1
      · exact hS g h1 }
/-- Midway. -/
structure RTkMid (w : World) (B : Nat) (S : List Nat) (b : Nat) (D : RLay) (ys : List OpAt) (st : LDoc) (k : Nat) (n : Int) (wr : World) (S' : List Nat) (D' : RLay) (sk : LDoc) : Prop where
  doc : RDocIs wr B S' b sk D'
  has : ∀ g ∈ S, g ∈ S'
  own : ∀ g ∈ S, B ≤ g ∧ g < w.heap.size
  only : Only (D.turns b) w wr
  sub : ∀ g ∈ S', g ∈ S ∨ w.heap.size ≤ g
  tn : ∀ g ∈ D'.turns b, g ∈ D.turns b ∨ w.heap.size ≤ g
  kn : D'.a3 = D.a3 ∧ D'.c3 = D.c3
  ok : sk.Ok
  says : Says sk.ops sk
  restE : st.doE (ys.map OpAt.op) = sk.doE ((ys.drop k).map OpAt.op)
  restR : st.doR (ys.map OpAt.op) = sk.doR ((ys.drop k).map OpAt.op)
  num : st.takeN (ys.map OpAt.op) = n + sk.takeN ((ys.drop k).map OpAt.op)
  le : 0 ≤ n ∧ n ≤ k
namespace RTkMid
variable {w wr w' : World} {B b : Nat} {S S' : List Nat} {ys : List OpAt} {st sk : LDoc} {k : Nat} {n : Int} {D D' : RLay}
theorem next (h : RTkMid w B S b D ys st k n wr S' D' sk) (hk : k < ys.length) (he : sk.applyE ys[k].op = 0) (ht : RDocTo wr B S' b D' (sk.apply ys[k].op) w') :
    ∃ S2 D2, RTkMid w B S b D ys st (k + 1) (n + if sk.applyB ys[k].op = true then 1 else 0) w' S2 D2 (sk.apply ys[k].op) := by
  obtain ⟨S2, D2, h1, h2, h3, h4, h5, h6⟩ := ht
  have hd := List.drop_eq_getElem_cons hk
  have hs0 := h.only.size
  have hs1 := h2.size
  refine ⟨S2 ++ S, D2, h1.grow (fun g hg => ⟨(h.own g hg).1, by have := (h.own g hg).2; omega⟩), fun g hg => by simp [hg], h.own, h.only.trans_new h2 (fun i hi => h.tn i hi), fun g hg => ?_, fun g hg => ?_, ⟨h5.trans h.kn.1, h6.trans h.kn.2⟩, LDoc.apply_ok h.ok _, LDoc.apply_says h.ok h.says _, ?_, ?_, ?_, ?_⟩
  · rcases List.mem_append.1 hg with hg | hg
    · rcases h3 g hg with h4 | h4
      · exact h.sub g h4
      · exact .inr (by omega)
    · exact .inl hg
  · rcases h4 g hg with h5 | h5
    · exact h.tn g h5
    · exact .inr (by omega)
  · rw [h.restE, hd, List.map_cons, LDoc.doE, if_neg (by omega)]
  · rw [h.restR, hd, List.map_cons, LDoc.doR, if_neg (by omega)]
  · rw [h.num, hd, List.map_cons, LDoc.takeN, if_neg (by omega)]
    omega
  · have := h.le
    split <;> omega
theorem close {s2 : LDoc} (h : RTkMid w B S b D ys st k n wr S' D' sk) (ht : RDocTo wr B S' b D' s2 w') : RDocTo w B S b D s2 w' := by
  obtain ⟨S2, D2, h1, h2, h3, h4, k5, k6⟩ := ht
  have hs0 := h.only.size
  refine ⟨S2, D2, h1, h.only.trans_new h2 (fun i hi => h.tn i hi), fun g hg => ?_, fun g hg => ?_, k5.trans h.kn.1, k6.trans h.kn.2⟩
  · rcases h3 g hg with h5 | h5
    · exact h.sub g h5
    · exact .inr (by omega)
  · rcases h4 g hg with h5 | h5
    · exact h.tn g h5
    · exact .inr (by omega)
theorem stop (h : RTkMid w B S b D ys st k n wr S' D' sk) (hk : k < ys.length) (he : sk.applyE ys[k].op ≠ 0) (ht : RDocTo wr B S' b D' sk w') : st.doE (ys.map OpAt.op) = sk.applyE ys[k].op ∧ RDocTo w B S b D (st.doR (ys.map OpAt.op)) w' := by
  have hd := List.drop_eq_getElem_cons hk
  refine ⟨by rw [h.restE, hd, List.map_cons, LDoc.doE, if_pos he], ?_⟩
  rw [h.restR, hd, List.map_cons, LDoc.doR, if_pos he]
  exact h.close ht
theorem fin (h : RTkMid w B S b D ys st k n wr S' D' sk) (hk : ys.length ≤ k) : st.doE (ys.map OpAt.op) = 0 ∧ st.tookN (ys.map OpAt.op) = n ∧ RDocTo w B S b D (st.doR (ys.map OpAt.op)) wr := by
  have hd : ys.drop k = [] := List.drop_eq_nil_of_le hk
  have e : st.doE (ys.map OpAt.op) = 0 := by rw [h.restE, hd]; rfl
  refine ⟨e, ?_, ?_⟩
  · unfold LDoc.tookN
    rw [if_pos e, h.num, hd]
    simp [LDoc.takeN]
  · rw [h.restR, hd]
    exact ⟨S', D', h.doc, h.only, h.sub, h.tn, h.kn.1, h.kn.2⟩
end RTkMid
end Go.Proofs.YthfbjfocmnikaaaGreatDoor
/- op.Pack, walked: the exact bytes of a parcel, or what is wrong. Conditions: stated. -/
namespace Go.Proofs.YthfbjfocmnikaaaGreatDoor
open Go.RowKit
set_option linter.unusedVariables false
def opsErr : List LOp → Int
  | [] => 0
  | o :: t => if opErr o = 0 then opsErr t else opErr o
def twoB (n : Nat) : List UInt8 := [u8 ((n : Int) / 256), u8 ((n : Int) % 256)]
def packBody (l : List LOp) : List UInt8 := l.flatMap fun o => twoB (opBytes o).length ++ opBytes o
def packErr (l : List LOp) : Int := if 400 < l.length then 4 else opsErr l
def packBytes (l : List LOp) : List UInt8 := twoB l.length ++ packBody l
def packRes (l : List LOp) : ByteArray := if packErr l = 0 then strOf (packBytes l) else ⟨#[]⟩
def PackPost (w : World) (l : List LOp) (e : Ending) (w' : World) : Prop := e = .returned (.tuple #[.string (packRes l), errV (packErr l)]) ∧ Below w.heap.size w w'
theorem opsErr_append {l : List LOp} {o : LOp} {t : List LOp} (h : opsErr l = 0) : opsErr (l ++ o :: t) = if opErr o = 0 then opsErr t else opErr o := by
  induction l with
  | nil => rfl
  | cons a l ih =>
    unfold opsErr at h
    by_cases ha : opErr a = 0
    · rw [if_pos ha] at h
      rw [List.cons_append, opsErr, if_pos ha, ih h]
    · rw [if_neg ha] at h; exact absurd h ha
theorem opBytes_len {o : LOp} (h : opErr o = 0) : (opBytes o).length ≤ 139 := by
  have := body_len (opOk_of h)
  unfold opBytes
  rw [List.length_append]
  simp only [List.length_cons, List.length_nil]
  omega
theorem packBody_len {l : List LOp} (h : opsErr l = 0) : (packBody l).length ≤ 141 * l.length := by
  induction l with
  | nil => simp [packBody]
  | cons a l ih =>
    unfold opsErr at h
    by_cases ha : opErr a = 0
    · rw [if_pos ha] at h
      have := ih h
      have h2 := opBytes_len ha
      unfold packBody at this ⊢
      rw [List.flatMap_cons, List.length_append, List.length_append, List.length_cons]
      have h3 : (twoB (opBytes a).length).length = 2 := rfl
      omega
    · rw [if_neg ha] at h; exact absurd h ha
theorem own_str {wr : World} {B n cv : Nat} {V : Option Addr} {l : List UInt8} (h : Own wr B 5 1 V n cv (bs l)) (hn : 0 < n) :
    (convert 122 9 (.slice V n cv)).run Tryz.prog wr = .ok (.string (strOf l)) wr := by
  obtain ⟨g, rfl, _, _⟩ := h.head hn
  have hl := h.len
  rw [bs_len] at hl
  have hl : n = l.length := by omega
  subst hl
  refine run_convert_bytes_back (P := Tryz.prog) wr 122 9 5 ⟨g, 0, none⟩ cv l Tryz.underlying122 Tryz.underlying5 Tryz.underlying9 (fun j hj => ?_)
  have e : (⟨g, 0, none⟩ : Addr).add j = ⟨g, j, none⟩ := by unfold Addr.add; by_cases h : j = 0 <;> simp [h]
  rw [e, h.cellAt (by omega)]
  simp [bs, hj]
/-- Midway: so many ops are written. -/
structure PackSt (w : World) (l : List LOp) (k : Nat) (V : Option Addr) (n cv : Nat) (wr : World) : Prop where
  own : Own wr w.heap.size 5 1 V n cv (bs (twoB l.length ++ packBody (l.take k)))
  bel : Below w.heap.size w wr
  ok : opsErr (l.take k) = 0
def PackLoop (w : World) (l : List LOp) (i v : Value) (wr : World) : Prop := ∃ k V n cv, k ≤ l.length ∧ i = .int .i64 (k : Nat) ∧ v = .slice V n cv ∧ Hid (PackSt w l k V n cv wr)
set_option maxRecDepth 100000 in
set_option maxHeartbeats 4000000 in
theorem pack_any (w : World) (A : Option Addr) (ca : Nat) (l : List OpAt) (h : Reads w w.heap.size 6 A l.length (ocells l)) (hg : ∀ y ∈ l, Reads w w.heap.size 2 y.at_ y.op.seen.length (dcells y.op.seen) ∧ y.op.place.size ≤ 9223372036854775807) (hl : l.length ≤ 9223372036854775807) :
    Calls Tryz.prog 206 #[.slice A l.length ca] w (PackPost w (l.map OpAt.op)) := by
  have HR := Lib.hid h
  have HG := Lib.hid hg
  have HT := Lib.hid (fun w n h0 h1 => two_any w n h0 h1)
  have HEN := Lib.hid (fun W A c o h hp => encode_any W A c o h hp)
  clear h hg
  by_cases h4 : 400 < l.length
  · have HP : Hid (packErr (l.map OpAt.op) = 4) := by show _ = _; rw [packErr, if_pos (by simpa using h4)]
    have k4 : (400 : Int) < (l.length : Int) := by omega
    clear h4
    go_enter Tryz.func206, Tryz.ntmps206
    go_wp2_with fail
    refine bodyPost_ret (results_tmp2 rfl _ _ _) rfl ⟨?_, Below.refl _ _⟩
    rw [packRes, HP.out, if_neg (by decide)]
    rfl
  · have k4 : ¬ (400 : Int) < (l.length : Int) := by omega
    have HP : Hid (packErr (l.map OpAt.op) = opsErr (l.map OpAt.op)) := by show _ = _; rw [packErr, if_neg (by simpa using h4)]
    have hl4 : l.length ≤ 400 := by omega
    clear h4 hl
    go_enter Tryz.func206, Tryz.ntmps206
    go_wp2_with fail
    refine (HT.out _ _ (by omega) (by omega)).mono ?_
    rintro e w1 ⟨rfl, rfl⟩
    have HS0 : Hid (PackSt w (l.map OpAt.op) 0 (some ⟨w.heap.size, 0, none⟩) 2 2 (w.alloc (.cells #[.int .u8 ((l.length : Int) / 256), .int .u8 ((l.length : Int) % 256)] 5))) := by
      refine ⟨?_, (Below.refl _ _).alloc (Nat.le_refl _) _, rfl⟩
      have := Own.fresh w w.heap.size (Nat.le_refl _) (twoB l.length) (by simp [twoB]) #[.int .u8 ((l.length : Int) / 256), .int .u8 ((l.length : Int) % 256)] (by simp [bs, twoB, u8_val (show 0 ≤ (l.length : Int) / 256 by omega) (show (l.length : Int) / 256 ≤ 255 by omega), u8_val (show 0 ≤ (l.length : Int) % 256 by omega) (show (l.length : Int) % 256 ≤ 255 by omega)])
      rw [List.length_map]
      simpa [packBody, twoB] using this
    go_wp2_with fail
    go_loopw [4, 18] (fun v i wr => PackLoop w (l.map OpAt.op) i v wr) (fun v i _ => l.length - (intOf i).toNat)
    case atStart => exact ⟨0, _, _, _, Nat.zero_le _, rfl, rfl, HS0⟩
    case round =>
      obtain ⟨k, V, n, cv, hk, rfl, rfl, HM⟩ := hrel
      rw [List.length_map] at hk
      clear HS0
      by_cases hkn : k < l.length
      · obtain ⟨ad, rfl, hab, c0, c1, c2, c3, c4, c5⟩ := (HR.out.below HM.out.bel).op hkn
        have k1 : (k : Int) < (l.length : Int) := by omega
        have k0 : (0 : Int) ≤ (k : Int) := by omega
        have hgk := HG.out _ (List.getElem_mem hkn)
        have HGR := Lib.hid ((hgk.1.below HM.out.bel).more HM.out.bel.size)
        have HGP := Lib.hid hgk.2
        have hdr : l.map OpAt.op = (l.map OpAt.op).take k ++ l[k].op :: (l.drop (k + 1)).map OpAt.op := by
          rw [← List.map_take, ← List.map_cons, ← List.map_append, ← List.drop_eq_getElem_cons hkn, List.take_append_drop]
        have htk : (l.map OpAt.op).take (k + 1) = (l.map OpAt.op).take k ++ [l[k].op] := by
          rw [List.take_succ_eq_append_getElem (by simpa using hkn), List.getElem_map]
        have HDR := Lib.hid hdr
        have HTK := Lib.hid htk
        clear hgk hdr htk
        generalize l[k] = y at *
        obtain ⟨o, yA, yc⟩ := y
        simp only at HDR HTK HGR HGP c0 c1 c2 c3 c4 c5
        have HBN := Lib.hid (Blk.new wr 30 (o.cells yA yc))
        have HO := Lib.hid (Below.alloc (Below.refl wr.heap.size wr) (Nat.le_refl _) (.cells (o.cells yA yc) 30))
        have b0 := HBN.out.cell 0
        have b1 := HBN.out.cell 1
        have b2 := HBN.out.cell 2
        have b3 := HBN.out.cell 3
        have b4 := HBN.out.cell 4
        have b5 := HBN.out.cell 5
        obtain ⟨⟨d1, d2⟩, o2, o3, o4, o5⟩ := o
        unfold LOp.cells at *
        simp only at b0 b1 b2 b3 b4 b5 c0 c1 c2 c3 c4 c5 HGR HGP
        obtain ⟨W1, hW1⟩ : ∃ W1, W1 = wr.alloc (.cells #[.int .i64 d1, .int .i64 d2, .int .i64 o2, .string o3, .int .i64 o4, .slice yA o5.length yc] 30) := ⟨_, rfl⟩
        have HGR1 : Hid (Reads W1 W1.heap.size 2 yA o5.length (dcells o5)) := by rw [hW1]; exact (HGR.out.below ((Below.refl _ _).alloc (Nat.le_refl _) _)).more (by simp)
        have HB1 : Hid (Below w.heap.size w W1) := by rw [hW1]; exact HM.out.bel.alloc HM.out.bel.size _
        have HV1 : Hid (Own W1 w.heap.size 5 1 V n cv (bs (twoB (l.map OpAt.op).length ++ packBody ((l.map OpAt.op).take k)))) := by rw [hW1]; exact HM.out.own.alloc _
        clear HO HBN HGR
        go_wp2_with fail
        rw [← hW1]
        clear hW1 b0 b1 b2 b3 b4 b5 c0 c1 c2 c3 c4 c5
        refine (HEN.out W1 yA yc ⟨⟨d1, d2⟩, o2, o3, o4, o5⟩ HGR1.out HGP.out).mono ?_
        generalize (⟨⟨d1, d2⟩, o2, o3, o4, o5⟩ : LOp) = o at *
        rintro e w2 ⟨rfl, hb2⟩
        have HB2 : Hid (Below w.heap.size w w2) := HB1.out.trans (hb2.mono HB1.out.size)
        have HV2 := Lib.hid (HV1.out.below hb2)
        clear hb2 HV1 HB1 HGR1
        by_cases he : opErr o = 0
        · have her : encRes o = strOf (opBytes o) := by rw [encRes, if_pos he]
          have HOK : Hid (opsErr ((l.map OpAt.op).take (k + 1)) = 0) := by show _ = _; rw [HTK.out, opsErr_append HM.out.ok, if_pos he]; rfl
          rw [show errV (opErr o) = .nilIface by rw [he]; rfl, her]
          have hsz : (strOf (opBytes o)).size = (opBytes o).length := strOf_size _
          have hlen := opBytes_len he
          have hn : n = 2 + (packBody ((l.map OpAt.op).take k)).length := by
            have h1 := HV2.out.len
            rw [bs_len, List.length_append] at h1
            have h2 : (twoB (l.map OpAt.op).length).length = 2 := rfl
            omega
          have hpl := packBody_len HM.out.ok
          rw [List.length_take, List.length_map] at hpl
          have hn2 : n ≤ 60000 := by have : min k l.length ≤ 400 := by omega
                                     omega
          have hz1 : (0 : Int) ≤ ((strOf (opBytes o)).size : Int) := by omega
          have hz2 : ((strOf (opBytes o)).size : Int) ≤ 65535 := by omega
          have HF1 : Fits (n + 2) 1 := Fits.of_small (by omega) (by decide)
          have HF2 : Fits (n + 2 + (strOf (opBytes o)).size) 1 := Fits.of_small (by omega) (by decide)
          have HPO : Hid (bs (twoB (l.map OpAt.op).length ++ packBody ((l.map OpAt.op).take k)) ++ bs (twoB (strOf (opBytes o)).size) ++ bs (strOf (opBytes o)).data.toList = bs (twoB (l.map OpAt.op).length ++ packBody ((l.map OpAt.op).take (k + 1)))) := by
            show _ = _
            rw [HTK.out, bs_append, bs_append, hsz]
            congr 1
            unfold packBody
            simp [strOf]
          have HT2 := Lib.hid (fun W => two_post W _ hz1 hz2)
          have HBS : w.heap.size ≤ w2.heap.size := HB2.out.size
          clear he her hsz hlen hn hpl hn2 hz1 hz2 HDR HP
          go_wp2_with fail
          refine (HT2.out w2).mono ?_
          rintro e w3 ⟨g, rfl, HRd, hb3⟩
          have HB3 : Hid (Below w.heap.size w w3) := HB2.out.trans (hb3.mono HB2.out.size)
          have HV3 := Lib.hid (HV2.out.below hb3)
          have HRD := Lib.hid HRd
          clear hb3 HRd HV2 HB2 HT2
          go_wp2_with (at_builtin; first
            | ((refine wpList_app _ (.tmp 30) (.tmp 33) rfl rfl elemB rfl rfl HV3.out HRD.out (oneCells_bs _) HF1 HB3.out.size ?_; intro V4 cv4 w4 HO HL HX; have HV4 := Lib.hid HO; have HB4 : Hid (Below w.heap.size w w4) := (HB3.out.trans (HL.below HB3.out.size (fun i hi => (HV3.out.lt i hi).1))); clear HO HL HX))
            | ((refine wpList_appS (.tmp 34) (.tmp 35) rfl rfl rfl rfl HV4.out HF2 HB4.out.size ?_; intro V5 cv5 w5 HO HL; have HV5 := Lib.hid HO; have HB5 : Hid (Below w.heap.size w w5) := (HB4.out.trans (HL.below HB4.out.size (fun i hi => (HV4.out.lt i hi).1))); clear HO HL)))
          go_roundw
          case rel => exact ⟨k + 1, V5, n + 2 + (strOf (opBytes o)).size, cv5, by simp; omega, by go_num, rfl, Lib.hid ⟨by rw [← HPO.out]; exact HV5.out, HB5.out, HOK.out⟩⟩
          case measure => simp [intOf]; omega
        · have HEP : Hid (packErr (l.map OpAt.op) = opErr o) := by show _ = _; rw [HP.out, HDR.out, opsErr_append HM.out.ok, if_neg he]
          have HNE := Lib.hid he
          rw [show errV (opErr o) = .iface 119 (.int .i64 (opErr o)) by rw [errV, if_neg he]]
          clear he
          go_wp2_with fail
          refine bodyPost_ret (results_tmp2 rfl _ _ _) rfl ⟨?_, HB2.out⟩
          rw [packRes, HEP.out, if_neg HNE.out, errV, if_neg HNE.out]
          rfl
      · have k1 : ¬ (k : Int) < (l.length : Int) := by omega
        have hk : k = l.length := by omega
        have htk : (l.map OpAt.op).take k = l.map OpAt.op := by rw [hk]; exact List.take_of_length_le (by simp)
        have HPB : Hid (packRes (l.map OpAt.op) = strOf (twoB (l.map OpAt.op).length ++ packBody ((l.map OpAt.op).take k)) ∧ packErr (l.map OpAt.op) = 0) := by
          have := HM.out.ok
          rw [htk] at this ⊢
          exact ⟨by rw [packRes, HP.out, if_pos this]; rfl, HP.out.trans this⟩
        have hn : 0 < n := by
          have h1 := HM.out.own.len
          rw [bs_len, List.length_append] at h1
          have h2 : (twoB (l.map OpAt.op).length).length = 2 := rfl
          omega
        have hcv := own_str HM.out.own hn
        clear hk htk HP hn
        go_wp2_with fail
        refine bodyPost_ret (results_tmp2 rfl _ _ _) rfl ⟨?_, HM.out.bel⟩
        rw [HPB.out.1, HPB.out.2, List.length_map]
        rfl
end Go.Proofs.YthfbjfocmnikaaaGreatDoor
/- Parcels, as plain laws: what is packed is unpacked; what is unpacked is packed so. Conditions: none of our own. -/
namespace Go.Proofs.YthfbjfocmnikaaaGreatDoor
open Go.RowKit
set_option linter.unusedVariables false
theorem twoB_nat {n : Nat} (h : n ≤ 65535) : ∃ c d : UInt8, twoB n = [c, d] ∧ c.toNat * 256 + d.toNat = n := by
  refine ⟨_, _, rfl, ?_⟩
  have h1 := u8_val (show (0 : Int) ≤ (n : Int) / 256 by omega) (show (n : Int) / 256 ≤ 255 by omega)
  have h2 := u8_val (show (0 : Int) ≤ (n : Int) % 256 by omega) (show (n : Int) % 256 ≤ 255 by omega)
  omega
theorem twoB_of (c d : UInt8) : twoB (c.toNat * 256 + d.toNat) = [c, d] := by
  have hc := UInt8.toNat_lt c
  have hd := UInt8.toNat_lt d
  unfold twoB u8
  have e1 : (((c.toNat * 256 + d.toNat : Nat) : Int) / 256).toNat = c.toNat := by omega
  have e2 : (((c.toNat * 256 + d.toNat : Nat) : Int) % 256).toNat = d.toNat := by omega
  rw [e1, e2]
  simp
theorem unpackN_pack {l : List LOp} (h : opsErr l = 0) : unpackN l.length (packBody l) = some l := by
  induction l with
  | nil => rfl
  | cons a l ih =>
    unfold opsErr at h
    by_cases ha : opErr a = 0
    · rw [if_pos ha] at h
      have h2 := opBytes_len ha
      obtain ⟨c, d, e1, e2⟩ := twoB_nat (n := (opBytes a).length) (by omega)
      have e : packBody (a :: l) = c :: d :: (opBytes a ++ packBody l) := by
        unfold packBody
        rw [List.flatMap_cons, e1]
        simp
      rw [e, List.length_cons, unpackN, e2, if_neg (by rw [List.length_append]; omega), List.take_left' rfl, List.drop_left' rfl, dec_enc ha, ih h]
      rfl
    · rw [if_neg ha] at h; exact absurd h ha
theorem unpack_pack {l : List LOp} (h : packErr l = 0) : unpackOf (packBytes l) = some l := by
  unfold packErr at h
  by_cases h4 : 400 < l.length
  · rw [if_pos h4] at h; omega
  · rw [if_neg h4] at h
    obtain ⟨c, d, e1, e2⟩ := twoB_nat (n := l.length) (by omega)
    have e : packBytes l = c :: d :: packBody l := by unfold packBytes; rw [e1]; rfl
    rw [e, unpackOf, e2, if_neg h4, unpackN_pack h]
theorem pack_unpackN {n : Nat} {t : List UInt8} {l : List LOp} (h : unpackN n t = some l) : opsErr l = 0 ∧ l.length = n ∧ packBody l = t := by
  induction n generalizing t l with
  | zero =>
    unfold unpackN at h
    by_cases ht : t = []
    · rw [if_pos ht] at h
      injection h with h
      subst h
      exact ⟨rfl, rfl, ht.symm⟩
    · rw [if_neg ht] at h; cases h
  | succ n ih =>
    match t, h with
    | c :: d :: t, h =>
      rw [unpackN] at h
      by_cases hq : t.length < c.toNat * 256 + d.toNat
      · rw [if_pos hq] at h; cases h
      · rw [if_neg hq] at h
        cases hd : decOf (strOf (t.take (c.toNat * 256 + d.toNat))) with
        | none => rw [hd] at h; cases h
        | some o =>
          rw [hd] at h
          simp only at h
          cases hu : unpackN n (t.drop (c.toNat * 256 + d.toNat)) with
          | none => rw [hu] at h; cases h
          | some l' =>
            rw [hu] at h
            injection h with h
            subst h
            obtain ⟨i1, i2, i3⟩ := ih hu
            obtain ⟨d1, d2⟩ := dec_some hd
            have d2' : opBytes o = t.take (c.toNat * 256 + d.toNat) := d2
            refine ⟨by rw [opsErr, if_pos d1]; exact i1, by rw [List.length_cons, i2], ?_⟩
            have hl : (opBytes o).length = c.toNat * 256 + d.toNat := by rw [d2', List.length_take]; omega
            have e : packBody (o :: l') = twoB (opBytes o).length ++ opBytes o ++ packBody l' := by unfold packBody; rw [List.flatMap_cons]
            rw [e, hl, twoB_of, d2', i3, List.append_assoc, List.take_append_drop]
            rfl
    | [], h => rw [unpackN] at h; cases h; simp
    | [a], h => rw [unpackN] at h; cases h; simp
theorem pack_unpack {t : List UInt8} {l : List LOp} (h : unpackOf t = some l) : packErr l = 0 ∧ packBytes l = t := by
  match t, h with
  | c :: d :: t, h =>
    rw [unpackOf] at h
    by_cases h4 : 400 < c.toNat * 256 + d.toNat
    · rw [if_pos h4] at h; cases h
    · rw [if_neg h4] at h
      obtain ⟨i1, i2, i3⟩ := pack_unpackN h
      refine ⟨by rw [packErr, i2, if_neg h4]; exact i1, ?_⟩
      rw [packBytes, i2, twoB_of, i3]
      rfl
  | [], h => cases h
  | [a], h => cases h
end Go.Proofs.YthfbjfocmnikaaaGreatDoor
/- A row of bytes that a text was turned into: bytes appended to it. Plain lemmas. Conditions: none. -/
namespace Go.Proofs.YthfbjfocmnikaaaGreatDoor
open Go.RowKit
set_option linter.unusedVariables false
theorem bs_at' {l : List UInt8} {k : Nat} (h : k < l.length) : (bs l)[k]? = some (.int .u8 l[k].toNat) := by simp [bs, h]
/-- A row of bytes in a block of the call's own, its spare free. -/
structure BRow (w : World) (B g n c : Nat) (l : List UInt8) : Prop where
  base : B ≤ g
  lt : g < w.heap.size
  len : l.length = n
  le : n ≤ c
  max : c ≤ maxLen
  cells : ∀ j (hj : j < l.length), w.cell? ⟨g, j, none⟩ = some (.int .u8 (l[j].toNat : Int))
  there : ∀ j, j < c → (w.cell? ⟨g, j, none⟩).isSome = true ∧ w.frozen? ⟨g, j, none⟩ = false
namespace BRow
variable {w w' : World} {B g n c : Nat} {l : List UInt8}
theorem below (h : BRow w B g n c l) (hb : Below w.heap.size w w') : BRow w' B g n c l :=
  ⟨h.base, Nat.lt_of_lt_of_le h.lt hb.size, h.len, h.le, h.max, fun j hj => (hb.cell h.lt).trans (h.cells j hj), fun j hj => ⟨by rw [hb.cell (p := ⟨g, j, none⟩) h.lt]; exact (h.there j hj).1, by rw [hb.frozen (p := ⟨g, j, none⟩) h.lt]; exact (h.there j hj).2⟩⟩
theorem mono {B' : Nat} (h : BRow w B g n c l) (hB : B' ≤ B) : BRow w B' g n c l := { h with base := Nat.le_trans hB h.base }
theorem came (h : BRow w B g n c l) : Came w 1 (some ⟨g, 0, none⟩) g 0 n c (bs l) := by
  refine ⟨h.le, fun _ => rfl, fun _ => h.lt, by rw [bs_len, h.len]; omega, fun j u hu => ?_, fun j hj => ?_⟩
  · by_cases hj : j < l.length
    · rw [bs_at' hj] at hu
      obtain rfl := Option.some.inj hu
      rw [Nat.zero_add]
      exact h.cells j hj
    · rw [List.getElem?_eq_none (by rw [bs_len]; omega)] at hu; cases hu
  · have := h.there (0 + n * 1 + j) (by omega)
    exact this
theorem reads (h : BRow w B g n c l) : Reads w w.heap.size 1 (some ⟨g, 0, none⟩) n (bs l) := by
  refine ⟨by rw [bs_len, h.len]; omega, fun _ => ⟨_, rfl, h.lt, fun j u hu => ?_⟩⟩
  by_cases hj : j < l.length
  · rw [bs_at' hj] at hu
    obtain rfl := Option.some.inj hu
    have e1 : (⟨g, 0, none⟩ : Addr).add j = ⟨g, j, none⟩ := by
      unfold Addr.add
      by_cases hj : j = 0 <;> simp [hj]
    rw [e1]
    exact h.cells j hj
  · rw [List.getElem?_eq_none (by rw [bs_len]; omega)] at hu; cases hu
/-- The row as a text. -/
theorem text (h : BRow w B g n c l) : (convert 122 9 (.slice (some ⟨g, 0, none⟩) n c)).run Tryz.prog w = .ok (.string (strOf l)) w := by
  have := h.len
  subst this
  refine run_convert_bytes_back (P := Tryz.prog) w 122 9 5 ⟨g, 0, none⟩ c l Tryz.underlying122 Tryz.underlying5 Tryz.underlying9 (fun j hj => ?_)
  have e1 : (⟨g, 0, none⟩ : Addr).add j = ⟨g, j, none⟩ := by
    unfold Addr.add
    by_cases hj : j = 0 <;> simp [hj]
  rw [e1]
  exact h.cells j hj
end BRow
end Go.Proofs.YthfbjfocmnikaaaGreatDoor
/- leafref1.two, number, Bytes, walked: the bytes of an op without fault. Conditions: stated. -/
namespace Go.Proofs.YthfbjfocmnikaaaGreatDoor
open Go.RowKit
set_option linter.unusedVariables false
def RTwoPost (w : World) (B : Nat) (V : Option Addr) (n : Nat) (l : List UInt8) (k : Nat) (e : Ending) (w' : World) : Prop :=
  ∃ V' cv', e = .returned (.slice V' (n + 1 + 1) cv') ∧ Own w' B 5 1 V' (n + 1 + 1) cv' (bs (l ++ twoB k)) ∧ Only (ob V) w w'
end Go.Proofs.YthfbjfocmnikaaaGreatDoor
/- leafref1.Bytes, walked: the bytes of an op without fault. Conditions: it is without fault. -/
namespace Go.Proofs.YthfbjfocmnikaaaGreatDoor
open Go.RowKit
set_option linter.unusedVariables false
theorem EncSt.two {w wr w' : World} {o : LOp} {A V : Option Addr} {c n cv k : Nat} {l : List UInt8} (h : EncSt w o A c V n cv l wr) {e : Ending} (hp : RTwoPost wr (w.heap.size + 1) V n l k e w') :
    ∃ V' cv', e = .returned (.slice V' (n + 1 + 1) cv') ∧ EncSt w o A c V' (n + 1 + 1) cv' (l ++ twoB k) w' := by
  obtain ⟨V', cv', rfl, h1, h2⟩ := hp
  refine ⟨V', cv', rfl, h1, h2.blk h.box (fun hm => by have := (h.own.lt _ hm).1; omega), h.bel.trans (h2.below h.bel.size (fun i hi => by have := (h.own.lt _ hi).1; omega))⟩
end Go.Proofs.YthfbjfocmnikaaaGreatDoor
/- Bytes read as an op, as the document reads them: it guesses, then writes what it guessed. Plain. Conditions: none. -/
namespace Go.Proofs.YthfbjfocmnikaaaGreatDoor
open Go.RowKit
set_option linter.unusedVariables false
end Go.Proofs.YthfbjfocmnikaaaGreatDoor
/- leafref1.Decode, walked: it reads what op.Decode reads. Conditions: none of our own. -/
namespace Go.Proofs.YthfbjfocmnikaaaGreatDoor
open Go.RowKit
set_option linter.unusedVariables false
/-- Midway: the result's cells, the op's cells. -/
structure GMid (w : World) (o : LOp) (V : Option Addr) (cv : Nat) (wr : World) : Prop where
  res : Blk wr w.heap.size 30 #[.int .i64 0, .int .i64 0, .int .i64 0, .string ⟨#[]⟩, .int .i64 0, .slice none 0 0]
  box : Blk wr (w.heap.size + 1) 30 (o.cells V cv)
  own : Own wr w.heap.size 27 2 V o.seen.length cv (dcells o.seen)
  bel : Below w.heap.size w wr
namespace GMid
variable {w wr w' : World} {o o' : LOp} {V : Option Addr} {cv : Nat}
theorem below (h : GMid w o V cv wr) (hb : Below wr.heap.size wr w') : GMid w o V cv w' :=
  ⟨h.res.below hb h.res.lt, h.box.below hb h.box.lt, h.own.below hb, h.bel.trans (hb.mono h.bel.size)⟩
theorem alloc (h : GMid w o V cv wr) (b : Obj) : GMid w o V cv (wr.alloc b) := h.below ((Below.refl _ _).alloc (Nat.le_refl _) _)
theorem set_ (h : GMid w o V cv wr) (i : Nat) (u : Value) (hc : (o.cells V cv).setIfInBounds i u = o'.cells V cv) (hs : o'.seen = o.seen) : GMid w o' V cv (wr.setCell ⟨w.heap.size + 1, i, none⟩ u) := by
  refine ⟨h.res.far (by simp) _, ?_, ?_, h.bel.setCell (by simp) _⟩
  · have := h.box.set_ i u
    rw [hc] at this
    exact this
  · rw [hs]
    exact h.own.only ((Only.refl [w.heap.size + 1] wr).setCell (.inl (by simp)) _) (fun g hg hm => by simp at hm; subst hm; exact h.own.blk_ne h.box (by decide) hg)
theorem only {T : List Nat} (h : GMid w o V cv wr) (ho : Only T wr w') (hT : ∀ g ∈ T, g ≠ w.heap.size ∧ g ≠ w.heap.size + 1 ∧ w.heap.size ≤ g ∧ g ∉ ob V) : GMid w o V cv w' :=
  ⟨ho.blk h.res (fun hm => (hT _ hm).1 rfl), ho.blk h.box (fun hm => (hT _ hm).2.1 rfl), h.own.only ho (fun g hg hm => (hT g hm).2.2.2 hg), h.bel.trans (ho.below h.bel.size (fun i hi => (hT i hi).2.2.1))⟩
/-- A dot more: the row has been appended to, and is laid. -/
theorem app (h : GMid w o V cv wr) {d : LDot} {V' : Option Addr} {n c' : Nat} (hn : n = o.seen.length + 1) (hO : Own w' w.heap.size 27 2 V' n c' (dcells o.seen ++ dcells [d])) (hL : Only (ob V) wr w') (ho' : o' = { o with seen := o.seen ++ [d] }) :
    GMid w o' V' c' (w'.setCell ⟨w.heap.size + 1, 5, none⟩ (.slice V' n c')) := by
  subst ho' hn
  have hb := hL.blk h.box (h.own.blk_ne h.box (by decide))
  refine ⟨(hL.blk h.res (h.own.blk_ne h.res (by decide))).far (by simp) _, ?_, ?_, (h.bel.trans (hL.below h.bel.size (fun i hi => (h.own.lt i hi).1))).setCell (by simp) _⟩
  · have := hb.set_ 5 (.slice V' (o.seen.length + 1) c')
    have e : (o.cells V cv).setIfInBounds 5 (.slice V' (o.seen.length + 1) c') = LOp.cells { o with seen := o.seen ++ [d] } V' c' := by simp [LOp.cells]
    rw [e] at this
    exact this
  · have e1 : dcells (o.seen ++ [d]) = dcells o.seen ++ dcells [d] := by simp [dcells]
    simp only [List.length_append, List.length_cons, List.length_nil]
    rw [e1]
    exact hO.only ((Only.refl [w.heap.size + 1] w').setCell (.inl (by simp)) _) (fun g hg hm => by simp at hm; subst hm; exact hO.blk_ne hb (by decide) hg)
end GMid
end Go.Proofs.YthfbjfocmnikaaaGreatDoor
/- leafref1.Unpack, walked: it reads what op.Unpack reads. Conditions: none of our own. -/
namespace Go.Proofs.YthfbjfocmnikaaaGreatDoor
open Go.RowKit
set_option linter.unusedVariables false
/-- Midway: so many ops are read. -/
structure RUMid (w : World) (m : Nat) (t L : List UInt8) (k a : Nat) (V : Option Addr) (cv : Nat) (ys : List OpAt) (wr : World) : Prop where
  bel : Below w.heap.size w wr
  own : Own wr w.heap.size 30 6 V k cv (ocells ys)
  seen : ∀ y ∈ ys, Own wr w.heap.size 27 2 y.at_ y.op.seen.length y.cap (dcells y.op.seen)
  is : unpackN m t = (unpackN (m - k) (L.drop a)).map fun r => ys.map OpAt.op ++ r
  lo : a ≤ L.length
  small : a ≤ 2 + 141 * k
theorem str_at (s : ByteArray) (j : Nat) (hj : j < s.size) : s.data.toList[j]? = some s[j] := by
  have : j < s.data.toList.length := by rw [Array.length_toList]; exact hj
  rw [List.getElem?_eq_getElem this]
  simp
  rfl
end Go.Proofs.YthfbjfocmnikaaaGreatDoor
/- sync.Both, walked. Conditions: both documents are right. -/
namespace Go.Proofs.YthfbjfocmnikaaaGreatDoor
open Go.RowKit
set_option linter.unusedVariables false
namespace LDoc
theorem ops_good {a : LDoc} (h : a.Ok) {zs : List OpAt} (hz : zs.map OpAt.op = a.ops) : ∀ y ∈ zs, dotErr y.op.dot = 0 := fun y hy => by
  have : y.op ∈ a.ops := by rw [← hz]; exact List.mem_map.2 ⟨y, hy, rfl⟩
  exact (op_ok (h.ops _ this).1).1
theorem ops_small {a : LDoc} (h : a.Ok) : ∀ o ∈ a.ops, o.place.size ≤ 12 := fun o ho => place_small (op_ok (h.ops _ ho).1).2.2.1
end LDoc
namespace Scene
variable {w wr w' : World} {B b1 b2 : Nat} {s1 s2 s : LDoc} {rows rows' : List (Option Addr × List OpAt)}
theorem sub (h : Scene w B b1 b2 s1 s2 rows wr) (hs : ∀ r ∈ rows', r ∈ rows) : Scene w B b1 b2 s1 s2 rows' wr := by
  obtain ⟨S1, S2, D1, D2, h1, h2⟩ := h
  exact ⟨S1, S2, D1, D2, h1, fun r hr => h2 r (hs r hr)⟩
theorem lacks (h : Scene w B b1 b2 s1 s2 rows wr) {V : Option Addr} {zs : List OpAt} (hr : (V, zs) ∈ rows) (hg : ∀ y ∈ zs, dotErr y.op.dot = 0) (hl : zs.length ≤ 100000) {K : Option Addr} {v : List Int} (hv : Reads wr wr.heap.size 1 K v.length (ints v)) (hv8 : v.length = 8) (c ck : Nat) :
    Calls Tryz.prog 207 #[.slice V zs.length c, .slice K v.length ck] wr (fun e w' => ∃ V' c', e = .returned (.slice V' (lacksO zs v).length c') ∧ Below wr.heap.size wr w' ∧ Scene w B b1 b2 s1 s2 ((V', lacksO zs v) :: rows) w') := by
  obtain ⟨S1, S2, D1, D2, h1, h2⟩ := h
  refine (slacks_any wr V c zs K ck v (h2 _ hr).row hg hl hv hv8).mono ?_
  rintro e w' ⟨V', c', rfl, hO, hb⟩
  refine ⟨V', c', rfl, hb, S1, S2, D1, D2, h1.step hb, fun r hr' => ?_⟩
  rcases List.mem_cons.1 hr' with rfl | hr'
  · refine ⟨hO.reads, fun _ g hg hm => ?_, fun y hy => ((h2 _ hr).below hb).each y (List.mem_filter.1 hy).1⟩
    have := (hO.lt g hg).1
    rcases List.mem_append.1 hm with h | h
    · have := (h1.one.own g h).2; omega
    · have := (h1.two.own g h).2; omega
  · exact (h2 r hr').below hb
end Scene
end Go.Proofs.YthfbjfocmnikaaaGreatDoor
/- sync.Open, sync.Parcel, and the reference's Open, walked. Conditions: the documents are right. -/
namespace Go.Proofs.YthfbjfocmnikaaaGreatDoor
open Go.RowKit
set_option linter.unusedVariables false
theorem opsErr_all : ∀ {l : List LOp}, opsErr l = 0 → ∀ o ∈ l, opErr o = 0
  | [], _ => by simp
  | a :: l, h => by
    unfold opsErr at h
    by_cases ha : opErr a = 0
    · rw [if_pos ha] at h
      intro o ho
      rcases List.mem_cons.1 ho with rfl | ho
      · exact ha
      · exact opsErr_all h o ho
    · rw [if_neg ha] at h
      exact absurd h ha
theorem opsErr_of : ∀ {l : List LOp}, (∀ o ∈ l, opErr o = 0) → opsErr l = 0
  | [], _ => rfl
  | a :: l, h => by
    unfold opsErr
    rw [if_pos (h a (by simp))]
    exact opsErr_of (fun o ho => h o (by simp [ho]))
theorem unpack_good {t : List UInt8} {l : List LOp} (h : unpackOf t = some l) : l.length ≤ 400 ∧ ∀ o ∈ l, o.place.size ≤ 12 := by
  obtain ⟨h1, _⟩ := pack_unpack h
  unfold packErr at h1
  by_cases h4 : 400 < l.length
  · rw [if_pos h4] at h1; cases h1
  · rw [if_neg h4] at h1
    exact ⟨by omega, fun o ho => place_small (op_ok (opsErr_all h1 o ho)).2.2.1⟩
theorem data_str (s : ByteArray) : strOf s.data.toList = s := by apply ByteArray.ext; simp [strOf]
namespace LDoc
/-- A parcel that is opened: how many were new, what is wrong, what there is then. -/
def openE (d : LDoc) (s : ByteArray) : Int := match unpackOf s.data.toList with
  | none => 2
  | some l => d.doE l
def openN (d : LDoc) (s : ByteArray) : Int := match unpackOf s.data.toList with
  | none => 0
  | some l => d.tookN l
def openR (d : LDoc) (s : ByteArray) : LDoc := match unpackOf s.data.toList with
  | none => d
  | some l => d.doR l
end LDoc
set_option maxRecDepth 100000 in
set_option maxHeartbeats 4000000 in
theorem open_any (w : World) (B : Nat) (S : List Nat) (b : Nat) (st : LDoc) (D : DLay) (h : DocIs w B S b st D) (ok : st.Ok) (s : ByteArray) :
    Calls Tryz.prog 170 #[.pointer (some ⟨b, 0, none⟩), .string s] w (fun e w' => e = .returned (.tuple #[.int .i64 (st.openN s), errV (st.openE s)]) ∧ DocTo w B S b (st.openR s) w') := by
  have HU := Lib.hid (unpack_any w s.data.toList)
  rw [data_str] at HU
  have HV := Lib.hid (errV_ne (show (2 : Int) ≠ 0 by decide))
  have HE0 : errV 0 = .nilIface := rfl
  have HD := Lib.hid h
  have HOK := Lib.hid ok
  have HEE : Hid (st.openE s = match unpackOf s.data.toList with | none => 2 | some l => st.doE l) := rfl
  have HNN : Hid (st.openN s = match unpackOf s.data.toList with | none => 0 | some l => st.tookN l) := rfl
  have HRR : Hid (st.openR s = match unpackOf s.data.toList with | none => st | some l => st.doR l) := rfl
  have HG := Lib.hid (fun l (hl : unpackOf s.data.toList = some l) => unpack_good hl)
  rw [HEE.out, HNN.out, HRR.out]
  clear h ok HEE HNN HRR
  generalize unpackOf s.data.toList = r at *
  cases r with
  | none =>
    unfold UnpPost at HU
    dsimp only at HU ⊢
    rw [HV.out] at HU ⊢
    go_enter Tryz.func170, Tryz.ntmps170
    go_wp2_with fail
    refine HU.out.mono ?_
    rintro e w1 ⟨rfl, hb⟩
    have HT : Hid (DocTo w B S b st w1) := DocTo.same HD.out hb
    clear hb HU
    go_wp2_with fail
    go_ret2
    exact ⟨rfl, HT.out⟩
  | some l =>
    obtain ⟨g1, g2⟩ := HG.out l rfl
    have G2 := Lib.hid g2
    unfold UnpPost at HU
    dsimp only at HU ⊢
    clear HG g2
    go_enter Tryz.func170, Tryz.ntmps170
    go_wp2_with fail
    refine HU.out.mono ?_
    rintro e w1 ⟨A, c, ys, rfl, hy, hO, hs, hb⟩
    have hyl : ys.length = l.length := by rw [← hy, List.length_map]
    have HTK : Hid (Calls Tryz.prog 209 #[.pointer (some ⟨b, 0, none⟩), .slice A l.length c] w1 (fun e w' => e = .returned (.tuple #[.int .i64 (st.tookN l), errV (st.doE l)]) ∧ DocTo w B S b (st.doR l) w')) := by
      have hlow : ∀ g ∈ S, g < w.heap.size := fun g hg => (HD.out.own g hg).2
      have := take_any w1 B S b st D (HD.out.below hb) HOK.out A c ys (by rw [hyl]; exact hO.reads) (fun _ g hg hm => by have := (hO.lt g hg).1; have := hlow g hm; omega)
        (fun y hy2 => ⟨(hs y hy2).1.reads, by have := (hs y hy2).2; omega, fun _ g hg hm => by have := ((hs y hy2).1.lt g hg).1; have := hlow g hm; omega⟩) (by omega)
      rw [hy, hyl] at this
      refine this.mono ?_
      rintro e w' ⟨rfl, S', D', q1, q2, q3⟩
      have hz := hb.size
      exact ⟨rfl, S', D', q1, (Only.of_below hb).trans q2, fun g hg => by
        rcases q3 g hg with h | h
        · exact .inl h
        · exact .inr (by omega)⟩
    clear hy hO hs hb HU hyl
    go_wp2_with fail
    refine HTK.out.mono ?_
    rintro e w2 ⟨rfl, ht⟩
    have HT := Lib.hid ht
    clear ht HTK
    go_wp2_with fail
    go_ret2
    exact ⟨rfl, HT.out⟩
namespace LDoc
def parcE (d : LDoc) (v : List Int) : Int := if vecErr v ≠ 0 then vecErr v else packErr (lacksR d.ops v)
def parcR (d : LDoc) (v : List Int) : ByteArray := if vecErr v ≠ 0 then ⟨#[]⟩ else packRes (lacksR d.ops v)
end LDoc
set_option maxRecDepth 100000 in
set_option maxHeartbeats 4000000 in
theorem parcel_any (w : World) (B : Nat) (S : List Nat) (b : Nat) (st : LDoc) (D : DLay) (h : DocIs w B S b st D) (ok : st.Ok) (K : Option Addr) (ck : Nat) (v : List Int) (hv : Reads w w.heap.size 1 K v.length (ints v)) (hvl : v.length ≤ 9223372036854775807) :
    Calls Tryz.prog 168 #[.pointer (some ⟨b, 0, none⟩), .slice K v.length ck] w (fun e w' => e = .returned (.tuple #[.string (st.parcR v), errV (st.parcE v)]) ∧ Below w.heap.size w w') := by
  have HV := Lib.hid (vector_any w K ck v hv hvl)
  have HE0 : errV 0 = .nilIface := rfl
  have HRV := Lib.hid hv
  by_cases hve : vecErr v = 0
  · have HOP := Lib.hid (ops_doc w B S b st D h ok)
    have HPE : Hid (st.parcE v = packErr (lacksR st.ops v)) := if_neg (by simp [hve])
    have HPR : Hid (st.parcR v = packRes (lacksR st.ops v)) := if_neg (by simp [hve])
    have hv8 := (vec_ok hve).1
    have HV8 := Lib.hid hv8
    have HOK := Lib.hid ok
    rw [hve, HE0] at HV
    rw [HPE.out, HPR.out]
    clear HPE HPR hve h ok hv hv8
    go_enter Tryz.func168, Tryz.ntmps168
    go_wp2_with fail
    refine HV.out.mono ?_
    rintro e w' ⟨rfl, hw⟩
    obtain rfl := hw.symm
    go_wp2_with fail
    refine HOP.out.mono ?_
    rintro e w1 ⟨V, c, zs, rfl, hz, hO, hb⟩
    have hzl : st.ops.length = zs.length := by rw [← hz, List.length_map]
    have hfew := HOK.out.few
    have hz4 : zs.length ≤ 400 := by omega
    rw [hzl]
    clear hfew hzl
    have HLK : Hid (Calls Tryz.prog 207 #[.slice V zs.length c, .slice K v.length ck] w1 (LacksPost w1 zs v)) := by
      exact slacks_any w1 V c zs K ck v hO.row.reads (LDoc.ops_good HOK.out hz) (by omega) ((HRV.out.below hb).more hb.size) HV8.out
    have HB1 := Lib.hid hb
    have HZ := Lib.hid hz
    have HO := Lib.hid hO
    clear hz hO hb
    go_wp2_with fail
    refine HLK.out.mono ?_
    rintro e w2 ⟨V2, c2, rfl, hO2, hb2⟩
    have hml : (lacksO zs v).length ≤ zs.length := List.length_filter_le _ _
    have HPK : Hid (Calls Tryz.prog 206 #[.slice V2 (lacksO zs v).length c2] w2 (PackPost w2 (lacksR st.ops v))) := by
      have := pack_any w2 V2 c2 (lacksO zs v) hO2.reads (fun y hy => by
        have hy2 : y ∈ zs := (List.mem_filter.1 hy).1
        refine ⟨((HO.out.seen y hy2).below hb2).reads, ?_⟩
        have := LDoc.ops_small HOK.out y.op (by rw [← HZ.out]; exact List.mem_map.2 ⟨y, hy2, rfl⟩)
        omega) (by omega)
      rw [lacksO_map, HZ.out] at this
      exact this
    have HB2 := Lib.hid (HB1.out.trans (hb2.mono HB1.out.size))
    clear hO2 hb2 HLK
    generalize (lacksO zs v).length = L at *
    go_wp2_with fail
    refine HPK.out.mono ?_
    rintro e w3 ⟨rfl, hb3⟩
    have HB3 := Lib.hid (HB2.out.trans (hb3.mono HB2.out.size))
    clear hb3 HPK
    go_wp2_with fail
    go_ret2
    exact ⟨rfl, HB3.out⟩
  · have HPE : Hid (st.parcE v = vecErr v) := if_pos hve
    have HPR : Hid (st.parcR v = ⟨#[]⟩) := if_pos hve
    have HVV := Lib.hid (errV_ne hve)
    rw [HPE.out, HPR.out]
    rw [HVV.out] at HV ⊢
    clear HPE HPR hve h ok hv
    go_enter Tryz.func168, Tryz.ntmps168
    go_wp2_with fail
    refine HV.out.mono ?_
    rintro e w' ⟨rfl, hw⟩
    obtain rfl := hw.symm
    go_wp2_with fail
    go_ret2
    exact ⟨rfl, Below.refl _ _⟩
end Go.Proofs.YthfbjfocmnikaaaGreatDoor
