/- 5 texts in one: each says ahead of itself what is proved, and its conditions. -/
import Derived.Test.YtngalkmmpjegkaaBookWrite
import Derived.Test.YtngalkmmpjegkaaIns
import Derived.Test.YtngalkmmpjegkaaInsMark
import Derived.Test.YtngalkmmpjegkaaMapLaw
import Derived.Test.YtngalkmmpjegkaaMarkLaw
import Derived.Test.YtngalkmmpjegkaaMarkSeen
import Derived.Test.YtngalkmmpjegkaaOpenOp
import Derived.Test.YtngalkmmpjegkaaVecAdd
/- slices.Clone of marks, marks' binary search, marks.Cut, walked. Conditions: places that an int may count. -/
namespace Go.Proofs.Ytngalkmmpjegkaa
open Go.RowKit
set_option linter.unusedVariables false
theorem oneCells_m (l : List LMark) : OneCells (mcells l) := by
  intro u hu
  simp only [mcells, List.mem_flatMap] at hu
  obtain ⟨e, _, hu⟩ := hu
  simp only [LMark.cells, List.mem_cons, List.not_mem_nil, or_false] at hu
  rcases hu with rfl | rfl | rfl <;> rfl
set_option maxRecDepth 100000 in
theorem cloneM (w : World) (B : Nat) (A : Option Addr) (n c : Nat) (xs : List Value) (hr : Reads w B 3 A n xs) (h1 : OneCells xs) (hf : Fits n 32) (hB : B ≤ w.heap.size) :
    Calls Try.prog 75 #[.slice A n c] w (ClonePost w 113 3 n xs) := by
  have HF : Fits (0 + n) 32 := by simpa using hf
  have HR := hr.alloc hB (.cells #[] 113)
  cases A with
  | none =>
    have he := Lib.run_eql_slice_nil (P := Try.prog) w 44 113 none n c 0 0 Try.underlying44
    go_enter Try.func75, Try.ntmps75
    go_wp2
    go_ret
    have hn : n = 0 := by
      rcases Nat.eq_zero_or_pos n with h | h
      · exact h
      · obtain ⟨_, h, _⟩ := hr.2 h; cases h
    subst hn
    have hx : xs = [] := List.eq_nil_of_length_eq_zero (by simpa using hr.1)
    subst hx
    exact ⟨none, 0, rfl, Own.nil _ _ _ _, Below.refl _ _⟩
  | some ad =>
    have heS := Lib.run_eql_slice_nil (P := Try.prog) w 44 113 (some ad) n c 0 0 Try.underlying44
    go_enter Try.func75, Try.ntmps75
    go_wp2_with (at_builtin; refine wpList_app _ (.tmp 5) (.tmp 6) rfl rfl InsMark.elem rfl rfl (Own.made w 113 w.heap.size (Nat.le_refl _) 3) HR h1 HF (by simp) ?_; intro A' c' w1 HO HL HB)
    go_ret
    refine ⟨A', c', rfl, by simpa using HO, ?_⟩
    exact ((Below.refl _ _).alloc (Nat.le_refl _) _).trans (HL.below (by simp) (by simp [ob]))

def MFindLoop (w : World) (l : List LMark) (m : LMark) (x y : Value) (wr : World) : Prop :=
  ∃ i j : Nat, i ≤ j ∧ j ≤ l.length ∧ x = .int .i64 i ∧ y = .int .i64 j ∧ Hid (Below w.heap.size w wr) ∧
    Hid (∀ k (hk : k < l.length), k < i → ltM l[k] m) ∧ Hid (∀ k (hk : k < l.length), j ≤ k → ¬ ltM l[k] m)
def MFindPost (w : World) (l : List LMark) (m : LMark) (e : Ending) (w' : World) : Prop := e = .returned (.tuple #[.int .i64 (aheadM l m : Int), .bool (hasM l m)]) ∧ Below w.heap.size w w'
set_option maxRecDepth 100000 in
set_option maxHeartbeats 4000000 in
theorem msearch_any (w : World) (A : Option Addr) (c : Nat) (l : List LMark) (m : LMark) (h : Reads w w.heap.size 3 A l.length (mcells l)) (hn : l.length ≤ 1000) (hr : l.Pairwise ltM) :
    Calls Try.prog 73 #[.slice A l.length c, .agg #[.string m.place, .int .i64 m.dot.who, .int .i64 m.dot.n], .func (Fn.func 74) #[] #[]] w (MFindPost w l m) := by
  obtain ⟨W0, hW0⟩ : ∃ W0, W0 = w.alloc (.cells #[.string m.place, .int .i64 m.dot.who, .int .i64 m.dot.n] 113) := ⟨_, rfl⟩
  have HW0 := Lib.hid hW0
  have HSZ : Hid (w.heap.size < W0.heap.size) := by show _ < _; rw [hW0]; simp
  have HBW : Hid (Below w.heap.size w W0) := by show Below _ _ _; rw [hW0]; exact (Below.refl _ _).alloc (Nat.le_refl _) _
  have HR : Hid (∀ W, Below W0.heap.size W0 W → Reads W w.heap.size 3 A l.length (mcells l)) := fun W hb => ((h.keep (w' := W0) (fun p hp => HBW.out.cell hp)).keep (w' := W) (fun p hp => hb.cell (by have := HSZ.out; omega)))
  have HBK : Hid (∀ W, Below W0.heap.size W0 W → Blk W w.heap.size 113 #[.string m.place, .int .i64 m.dot.who, .int .i64 m.dot.n]) := fun W hb => by
    have h0 : Blk W0 w.heap.size 113 #[.string m.place, .int .i64 m.dot.who, .int .i64 m.dot.n] := by rw [hW0]; exact Blk.new w _ _
    exact h0.below hb HSZ.out
  have HO := Lib.hid (fun w (a b : LMark) => markOrder_any w a b)
  have HRi := Lib.hid (fun i j hi hj hij => mrising_at hr i j hi hj hij)
  obtain ⟨q, ⟨d, n⟩⟩ := m
  clear h hr
  go_enter Try.func73, Try.ntmps73
  go_wp2_with fail
  rw [← hW0]
  clear hW0
  go_loopw [9, 10] (fun x y wr => MFindLoop W0 l ⟨q, ⟨d, n⟩⟩ x y wr) (fun x y _ => (intOf y - intOf x).toNat)
  case atStart => exact ⟨0, l.length, by omega, by omega, rfl, rfl, Below.refl _ _, fun k hk h => by omega, fun k hk h => by omega⟩
  case round =>
    obtain ⟨i, j, hij, hj, rfl, rfl, HB, H1, H2⟩ := hrel
    have d0 : wr.cell? ⟨w.heap.size, 0, none⟩ = some (.string q) := by rw [(HBK.out _ HB.out).cell]; rfl
    have d1 : wr.cell? ⟨w.heap.size, 1, none⟩ = some (.int .i64 d) := by rw [(HBK.out _ HB.out).cell]; rfl
    have d2 : wr.cell? ⟨w.heap.size, 2, none⟩ = some (.int .i64 n) := by rw [(HBK.out _ HB.out).cell]; rfl
    have hwb : W0.heap.size ≤ wr.heap.size := HB.out.size
    have HBd : Hid (w.heap.size < wr.heap.size) := Nat.lt_of_lt_of_le HSZ.out hwb
    by_cases hlt : i < j
    · have hlt1 : (i : Int) < (j : Int) := by omega
      have hm1 : i ≤ (i + j) / 2 := by omega
      have hm2 : (i + j) / 2 < j := by omega
      have hml : (i + j) / 2 < l.length := by omega
      have hmi : ((i : Int) + (j : Int)) / 2 < (l.length : Int) := by omega
      have hm0 : (0 : Int) ≤ ((i : Int) + (j : Int)) / 2 := by omega
      obtain ⟨ad, rfl, hb, e0, e1, e2⟩ := (HR.out _ HB.out).mark hml
      have HX : Hid (∀ k (hk : k < l.length), k < (i + j) / 2 → ltM l[k] l[(i + j) / 2]) := fun k hk h => HRi.out k _ hk hml h
      have HY : Hid (∀ k (hk : k < l.length), (i + j) / 2 < k → ltM l[(i + j) / 2] l[k]) := fun k hk h => HRi.out _ k hml hk h
      have HZ : Hid (∀ k (hk : k < l.length), k = (i + j) / 2 → l[k] = l[(i + j) / 2]) := fun k hk h => by subst h; rfl
      generalize l[(i + j) / 2] = x at e0 e1 e2 HX HY HZ
      have HCL : Hid (ordM x ⟨q, ⟨d, n⟩⟩ < 0 ↔ ltM x ⟨q, ⟨d, n⟩⟩) := ordM_lt
      obtain ⟨py, ⟨dy, ny⟩⟩ := x
      simp only at e0 e1 e2
      have HO1 := Lib.hid (fun w => HO.out w ⟨py, ⟨dy, ny⟩⟩ ⟨q, ⟨d, n⟩⟩)
      have hmq : ((i : Int) + (j : Int)) / 2 = (((i + j) / 2 : Nat) : Int) := by omega
      have HMQ := Lib.hid hmq
      clear hmq
      generalize ordM ⟨py, ⟨dy, ny⟩⟩ ⟨q, ⟨d, n⟩⟩ = cv at *
      have HAB : Hid ((ad.add ((i + j) / 2 * 3)).block < wr.heap.size) := by show _ < _; rw [block_of_add]; have := HBd.out; omega
      go_wp2_with fail
      rw [HMQ.out]
      rw [HMQ.out] at hmi hm0
      generalize (i + j) / 2 = mid at *
      have hw3 : IntKind.i64.wrap (mid : Int) = (mid : Int) := IntWalk.i64_in _ (by omega)
      clear hlt HMQ
      by_cases hneg : cv < 0
      · have HL := Lib.hid (HCL.out.1 hneg)
        go_region_held3 (fun w' => w'.cell? (ad.add (mid * 3)) = some (.string py) ∧ w'.cell? ⟨(ad.add (mid * 3)).block, (ad.add (mid * 3)).off + 1, none⟩ = some (.int .i64 dy) ∧ w'.cell? ⟨(ad.add (mid * 3)).block, (ad.add (mid * 3)).off + 2, none⟩ = some (.int .i64 ny) ∧ w'.cell? ⟨w.heap.size, 0, none⟩ = some (.string q) ∧ w'.cell? ⟨w.heap.size, 1, none⟩ = some (.int .i64 d) ∧ w'.cell? ⟨w.heap.size, 2, none⟩ = some (.int .i64 n))
          (first | go_keep | (refine ⟨?_, ?_, ?_, ?_, ?_, ?_⟩ <;> assumption))
          (first | (go_at_call 74; refine (HO1.out _).mono ?_; rintro e3 w2 ⟨rfl, hb3'⟩; have hb3 : Below wr.heap.size wr w2 := below_of_drew hb3'; have k0 : w2.cell? (ad.add (mid * 3)) = some (.string py) := ((hb3.cell HAB.out).trans e0); have k1 : w2.cell? ⟨(ad.add (mid * 3)).block, (ad.add (mid * 3)).off + 1, none⟩ = some (.int .i64 dy) := ((hb3.cell (by exact HAB.out)).trans e1); have k2 : w2.cell? ⟨(ad.add (mid * 3)).block, (ad.add (mid * 3)).off + 2, none⟩ = some (.int .i64 ny) := ((hb3.cell (by exact HAB.out)).trans e2); have k3 : w2.cell? ⟨w.heap.size, 0, none⟩ = some (.string q) := ((hb3.cell HBd.out).trans d0); have k4 : w2.cell? ⟨w.heap.size, 1, none⟩ = some (.int .i64 d) := ((hb3.cell HBd.out).trans d1); have k5 : w2.cell? ⟨w.heap.size, 2, none⟩ = some (.int .i64 n) := ((hb3.cell HBd.out).trans d2); have HB3 := Lib.hid (HB.out.trans (hb3.mono HB.out.size)); clear hb3 hb3'))
        go_wp2_with fail
        go_roundw
        case rel =>
          refine ⟨mid + 1, j, by omega, hj, by go_num, rfl, HB3, fun k hk h => ?_, H2⟩
          rcases Nat.lt_or_ge k mid with h1 | h1
          · exact ltM_trans (HX.out k hk h1) HL.out
          · rw [HZ.out k hk (by omega)]; exact HL.out
        case measure => simp [intOf]; omega
      · have HL : Hid (¬ ltM ⟨py, ⟨dy, ny⟩⟩ ⟨q, ⟨d, n⟩⟩) := fun h => hneg (HCL.out.2 h)
        go_region_held3 (fun w' => w'.cell? (ad.add (mid * 3)) = some (.string py) ∧ w'.cell? ⟨(ad.add (mid * 3)).block, (ad.add (mid * 3)).off + 1, none⟩ = some (.int .i64 dy) ∧ w'.cell? ⟨(ad.add (mid * 3)).block, (ad.add (mid * 3)).off + 2, none⟩ = some (.int .i64 ny) ∧ w'.cell? ⟨w.heap.size, 0, none⟩ = some (.string q) ∧ w'.cell? ⟨w.heap.size, 1, none⟩ = some (.int .i64 d) ∧ w'.cell? ⟨w.heap.size, 2, none⟩ = some (.int .i64 n))
          (first | go_keep | (refine ⟨?_, ?_, ?_, ?_, ?_, ?_⟩ <;> assumption))
          (first | (go_at_call 74; refine (HO1.out _).mono ?_; rintro e3 w2 ⟨rfl, hb3'⟩; have hb3 : Below wr.heap.size wr w2 := below_of_drew hb3'; have k0 : w2.cell? (ad.add (mid * 3)) = some (.string py) := ((hb3.cell HAB.out).trans e0); have k1 : w2.cell? ⟨(ad.add (mid * 3)).block, (ad.add (mid * 3)).off + 1, none⟩ = some (.int .i64 dy) := ((hb3.cell (by exact HAB.out)).trans e1); have k2 : w2.cell? ⟨(ad.add (mid * 3)).block, (ad.add (mid * 3)).off + 2, none⟩ = some (.int .i64 ny) := ((hb3.cell (by exact HAB.out)).trans e2); have k3 : w2.cell? ⟨w.heap.size, 0, none⟩ = some (.string q) := ((hb3.cell HBd.out).trans d0); have k4 : w2.cell? ⟨w.heap.size, 1, none⟩ = some (.int .i64 d) := ((hb3.cell HBd.out).trans d1); have k5 : w2.cell? ⟨w.heap.size, 2, none⟩ = some (.int .i64 n) := ((hb3.cell HBd.out).trans d2); have HB3 := Lib.hid (HB.out.trans (hb3.mono HB.out.size)); clear hb3 hb3'))
        go_wp2_with fail
        go_roundw
        case rel =>
          refine ⟨i, mid, by omega, by omega, rfl, rfl, HB3, H1, fun k hk h hh => ?_⟩
          rcases Nat.eq_or_lt_of_le h with h1 | h1
          · rw [HZ.out k hk h1.symm] at hh; exact HL.out hh
          · exact HL.out (ltM_trans (HY.out k hk h1) hh)
        case measure => simp [intOf]; omega
    · obtain rfl : i = j := by omega
      have HA : Hid (aheadM l ⟨q, ⟨d, n⟩⟩ = i) := aheadM_of hj (fun k hk h => H1.out k hk h) (fun k hk h => H2.out k hk h)
      clear H1 H2 hlt
      by_cases hil : i < l.length
      · have hi1 : (i : Int) < (l.length : Int) := by omega
        have hi0 : (0 : Int) ≤ (i : Int) := by omega
        obtain ⟨ad, rfl, hb, e0, e1, e2⟩ := (HR.out _ HB.out).mark hil
        have HHs : Hid (hasM l ⟨q, ⟨d, n⟩⟩ = decide (ordM l[i] ⟨q, ⟨d, n⟩⟩ = 0)) := by
          show _ = _
          unfold hasM
          rw [HA.out, List.getElem?_eq_getElem hil]
        generalize l[i] = x at e0 e1 e2 HHs
        obtain ⟨py, ⟨dy, ny⟩⟩ := x
        simp only at e0 e1 e2
        have HO1 := Lib.hid (fun w => HO.out w ⟨py, ⟨dy, ny⟩⟩ ⟨q, ⟨d, n⟩⟩)
        generalize ordM ⟨py, ⟨dy, ny⟩⟩ ⟨q, ⟨d, n⟩⟩ = cv at *
        have HHb : Hid (hasM l ⟨q, ⟨d, n⟩⟩ = (cv == 0)) := by show _ = _; rw [HHs.out]; by_cases h : cv = 0 <;> simp [h]
        have HAB : Hid ((ad.add (i * 3)).block < wr.heap.size) := by show _ < _; rw [block_of_add]; have := HBd.out; omega
        have hw3 : IntKind.i64.wrap (i : Int) = (i : Int) := IntWalk.i64_in _ (by omega)
        have t1 : decide ((i : Int) < (l.length : Int)) = true := decide_eq_true hi1
        go_wp2_with fail
        go_region_held3 (fun w' => w'.cell? (ad.add (i * 3)) = some (.string py) ∧ w'.cell? ⟨(ad.add (i * 3)).block, (ad.add (i * 3)).off + 1, none⟩ = some (.int .i64 dy) ∧ w'.cell? ⟨(ad.add (i * 3)).block, (ad.add (i * 3)).off + 2, none⟩ = some (.int .i64 ny) ∧ w'.cell? ⟨w.heap.size, 0, none⟩ = some (.string q) ∧ w'.cell? ⟨w.heap.size, 1, none⟩ = some (.int .i64 d) ∧ w'.cell? ⟨w.heap.size, 2, none⟩ = some (.int .i64 n))
          (first | go_keep | (refine ⟨?_, ?_, ?_, ?_, ?_, ?_⟩ <;> assumption))
          (first | (go_at_call 74; refine (HO1.out _).mono ?_; rintro e3 w2 ⟨rfl, hb3'⟩; have hb3 : Below wr.heap.size wr w2 := below_of_drew hb3'; have k0 : w2.cell? (ad.add (i * 3)) = some (.string py) := ((hb3.cell HAB.out).trans e0); have k1 : w2.cell? ⟨(ad.add (i * 3)).block, (ad.add (i * 3)).off + 1, none⟩ = some (.int .i64 dy) := ((hb3.cell (by exact HAB.out)).trans e1); have k2 : w2.cell? ⟨(ad.add (i * 3)).block, (ad.add (i * 3)).off + 2, none⟩ = some (.int .i64 ny) := ((hb3.cell (by exact HAB.out)).trans e2); have k3 : w2.cell? ⟨w.heap.size, 0, none⟩ = some (.string q) := ((hb3.cell HBd.out).trans d0); have k4 : w2.cell? ⟨w.heap.size, 1, none⟩ = some (.int .i64 d) := ((hb3.cell HBd.out).trans d1); have k5 : w2.cell? ⟨w.heap.size, 2, none⟩ = some (.int .i64 n) := ((hb3.cell HBd.out).trans d2); have HB3 := Lib.hid (HB.out.trans (hb3.mono HB.out.size)); clear hb3 hb3'))
        go_wp2_with fail
        go_ret2
        exact ⟨by rw [HA.out, HHb.out]; rfl, HBW.out.trans (HB3.out.mono HBW.out.size)⟩
      · have hd : decide ((i : Int) < (l.length : Int)) = false := by simp; omega
        have hd2 : decide (i < l.length) = false := by simp; omega
        have HHs : Hid (hasM l ⟨q, ⟨d, n⟩⟩ = false) := by
          show _ = _
          unfold hasM
          rw [HA.out, List.getElem?_eq_none (by omega)]
        go_wp2_with fail
        go_quiet (fail)
        go_wp2_with fail
        go_ret2
        exact ⟨by rw [HA.out, HHs.out]; rfl, HBW.out.trans ((below_drewN HB.out _).mono HBW.out.size)⟩
/-- Marks and an error are given back; the marks are of the call's own. -/
def MarksPost (w : World) (l : List LMark) (k : Int) (e : Ending) (w' : World) : Prop :=
  ∃ V c, e = .returned (.tuple #[.slice V l.length c, errV k]) ∧ Own w' w.heap.size 113 3 V l.length c (mcells l) ∧ Below w.heap.size w w'
def giveM (k : Int) (l : List LMark) : List LMark := if k = 0 then l else []
theorem giveM_bad {k : Int} (h : k ≠ 0) (l : List LMark) : giveM k l = [] := if_neg h
theorem marks_none {w w' : World} {k : Int} (hb : Below w.heap.size w w') : MarksPost w [] k (.returned (.tuple #[.slice none 0 0, errV k])) w' := ⟨none, 0, rfl, Own.nil _ _ _ _, hb⟩
theorem mcells_take (l : List LMark) (i : Nat) : (mcells l).take (i * 3) = mcells (l.take i) := by
  induction l generalizing i with
  | nil => simp [mcells]
  | cons x l ih =>
    cases i with
    | zero => simp [mcells]
    | succ i =>
      show (x.cells ++ mcells l).take ((i + 1) * 3) = x.cells ++ mcells (l.take i)
      rw [← ih, List.take_append, List.take_of_length_le (by simp [LMark.cells]; omega), show (i + 1) * 3 - x.cells.length = i * 3 by simp [LMark.cells]; omega]
theorem mcells_drop (l : List LMark) (i : Nat) : (mcells l).drop (i * 3) = mcells (l.drop i) := by
  induction l generalizing i with
  | nil => simp [mcells]
  | cons x l ih =>
    cases i with
    | zero => simp [mcells]
    | succ i =>
      show (x.cells ++ mcells l).drop ((i + 1) * 3) = mcells (l.drop i)
      rw [← ih, List.drop_append, List.drop_of_length_le (by simp [LMark.cells]; omega), show (i + 1) * 3 - x.cells.length = i * 3 by simp [LMark.cells]; omega, List.nil_append]
theorem mcells_put (l : List LMark) (i : Nat) (x : LMark) : (mcells l).take (i * 3) ++ x.cells ++ (mcells l).drop (i * 3) = mcells (cutPut l i x) := by
  rw [mcells_take, mcells_drop]; simp [cutPut, mcells]
set_option maxRecDepth 100000 in
set_option maxHeartbeats 4000000 in
theorem cut_any (w : World) (A : Option Addr) (c : Nat) (l : List LMark) (m : LMark) (h : Reads w w.heap.size 3 A l.length (mcells l)) (hs : MSized l) (hn : l.length ≤ 9223372036854775807) (hm : m.place.size ≤ 9223372036854775807) :
    Calls Try.prog 59 #[.slice A l.length c, .agg #[.string m.place, .int .i64 m.dot.who, .int .i64 m.dot.n]] w (MarksPost w (giveM (cutErr l m) (cutRes l m)) (cutErr l m)) := by
  obtain ⟨W0, hW0⟩ : ∃ W0, W0 = w.alloc (.cells #[.string m.place, .int .i64 m.dot.who, .int .i64 m.dot.n] 113) := ⟨_, rfl⟩
  have HSZ : Hid (w.heap.size < W0.heap.size) := by show _ < _; rw [hW0]; simp
  have HBW : Hid (Below w.heap.size w W0) := by show Below _ _ _; rw [hW0]; exact (Below.refl _ _).alloc (Nat.le_refl _) _
  have HR : Hid (∀ W, Below W0.heap.size W0 W → Reads W W.heap.size 3 A l.length (mcells l)) := fun W hb => ((((h.below HBW.out).more HBW.out.size).below hb).more hb.size)
  have HBK : Hid (∀ W, Below W0.heap.size W0 W → W.cell? ⟨w.heap.size, 0, none⟩ = some (.string m.place) ∧ W.cell? ⟨w.heap.size, 1, none⟩ = some (.int .i64 m.dot.who) ∧ W.cell? ⟨w.heap.size, 2, none⟩ = some (.int .i64 m.dot.n)) := fun W hb => by
    have h0 : Blk W0 w.heap.size 113 #[.string m.place, .int .i64 m.dot.who, .int .i64 m.dot.n] := by rw [hW0]; exact Blk.new w _ _
    have h1 := h0.below hb HSZ.out
    exact ⟨by rw [h1.cell]; rfl, by rw [h1.cell]; rfl, by rw [h1.cell]; rfl⟩
  have HC := Lib.hid (fun W (hb : Below W0.heap.size W0 W) => marksCheck_any W A c l (HR.out W hb) hs hn)
  have HM := Lib.hid (fun W => markOne_any W m hm)
  clear h hs
  obtain ⟨q, ⟨d, n⟩⟩ := m
  simp only at hW0 HBK HM
  have HB0 : Hid (Below W0.heap.size W0 W0) := Below.refl _ _
  by_cases he : marksErr l = 0
  · have HE := Lib.hid he
    have ok := marks_ok' he
    have hfew := ok.few
    have HS := Lib.hid (fun W (hb : Below W0.heap.size W0 W) => msearch_any W A c l ⟨q, ⟨d, n⟩⟩ (HR.out W hb) (by omega) ok.rising)
    by_cases hq : markErr ⟨q, ⟨d, n⟩⟩ = 0
    · have HQ := Lib.hid hq
      have hal := aheadM_le l ⟨q, ⟨d, n⟩⟩
      have HCL := Lib.hid (fun w3 (h3 : Below W0.heap.size W0 w3) W (hb : Below w3.heap.size w3 W) c => cloneM W w3.heap.size A l.length c (mcells l) ((HR.out w3 h3).below hb) (oneCells_m l) (Fits.of_small (by omega) (by decide)) hb.size)
      cases hh : hasM l ⟨q, ⟨d, n⟩⟩ with
      | true =>
        have HF : Hid (cutErr l ⟨q, ⟨d, n⟩⟩ = 0 ∧ cutRes l ⟨q, ⟨d, n⟩⟩ = l) := ⟨by unfold cutErr; rw [if_neg (fun x => x he), if_neg (fun x => x hq), if_pos hh], if_pos hh⟩
        have HHs := Lib.hid hh
        clear he hq hh ok
        go_enter Try.func59, Try.ntmps59
        go_wp2_with fail
        rw [← hW0]
        clear hW0
        refine (HC.out _ HB0.out).mono ?_
        rintro e w1 ⟨rfl, hb1⟩
        rw [HE.out, show errV 0 = .nilIface from rfl]
        have HB1 := Lib.hid hb1
        obtain ⟨d0, d1, d2⟩ := HBK.out _ hb1
        clear hb1
        go_wp2_with fail
        refine (HM.out _).mono ?_
        rintro e w2 ⟨rfl, hb2⟩
        rw [HQ.out, show errV 0 = .nilIface from rfl]
        have HB2 := Lib.hid (HB1.out.trans (hb2.mono HB1.out.size))
        clear hb2 d0 d1 d2
        obtain ⟨d0, d1, d2⟩ := HBK.out _ HB2.out
        go_wp2_with fail
        refine (HS.out _ HB2.out).mono ?_
        rintro e w3 ⟨rfl, hb3⟩
        rw [HHs.out]
        have HB3 := Lib.hid (HB2.out.trans (hb3.mono HB2.out.size))
        clear hb3 d0 d1 d2
        go_wp2_with fail
        refine (HCL.out _ HB3.out _ (Below.refl _ _) _).mono ?_
        rintro e w4 ⟨V, cV, rfl, hO, hb4⟩
        have HB4 : Hid (Below w.heap.size w w4) := HBW.out.trans ((HB3.out.trans (hb4.mono HB3.out.size)).mono HBW.out.size)
        have HO := Lib.hid (hO.mono (Nat.le_trans HBW.out.size HB3.out.size))
        clear hO hb4
        go_wp2_with fail
        go_ret2
        rw [HF.out.1, HF.out.2, giveM, if_pos rfl]
        exact ⟨V, cV, rfl, HO.out, HB4.out⟩
      | false =>
        have HHs := Lib.hid hh
        have HN2 := Lib.hid (fun hlt => cut_zero ok hq (.inr hlt) : l.length < 40 → cutErr l ⟨q, ⟨d, n⟩⟩ = 0)
        have HN4 : Hid (40 ≤ l.length → cutErr l ⟨q, ⟨d, n⟩⟩ = 4) := fun h4 => by unfold cutErr; rw [if_neg (fun x => x he), if_neg (fun x => x hq), if_neg (by rw [hh]; decide), if_pos h4]
        have HRS : Hid (cutRes l ⟨q, ⟨d, n⟩⟩ = cutPut l (aheadM l ⟨q, ⟨d, n⟩⟩) ⟨q, ⟨d, n⟩⟩) := by show _ = _; unfold cutRes; rw [if_neg (by rw [hh]; decide)]
        have HP : Hid ((cutPut l (aheadM l ⟨q, ⟨d, n⟩⟩) ⟨q, ⟨d, n⟩⟩).length = l.length + 1) := cutPut_len _ _ _ hal
        have HPC := Lib.hid (mcells_put l (aheadM l ⟨q, ⟨d, n⟩⟩) ⟨q, ⟨d, n⟩⟩)
        have HIN := Lib.hid (fun W B c vb V (hO : Own W B 113 3 V l.length c (mcells l)) (hV : Blk W vb 113 #[.string q, .int .i64 d, .int .i64 n]) (hne : vb ∉ ob V) (hB : B ≤ W.heap.size) =>
          InsMark.any W B c l.length vb (mcells l) (LMark.cells ⟨q, ⟨d, n⟩⟩) (aheadM l ⟨q, ⟨d, n⟩⟩) V hO hV rfl hne (oneCells_m l) (by intro u hu; simp [LMark.cells] at hu; rcases hu with rfl | rfl | rfl <;> rfl) (by omega) hB hal)
        clear he hq hh ok
        go_enter Try.func59, Try.ntmps59
        go_wp2_with fail
        rw [← hW0]
        clear hW0
        refine (HC.out _ HB0.out).mono ?_
        rintro e w1 ⟨rfl, hb1⟩
        rw [HE.out, show errV 0 = .nilIface from rfl]
        have HB1 := Lib.hid hb1
        obtain ⟨d0, d1, d2⟩ := HBK.out _ hb1
        clear hb1
        go_wp2_with fail
        refine (HM.out _).mono ?_
        rintro e w2 ⟨rfl, hb2⟩
        rw [HQ.out, show errV 0 = .nilIface from rfl]
        have HB2 := Lib.hid (HB1.out.trans (hb2.mono HB1.out.size))
        clear hb2 d0 d1 d2
        obtain ⟨d0, d1, d2⟩ := HBK.out _ HB2.out
        go_wp2_with fail
        refine (HS.out _ HB2.out).mono ?_
        rintro e w3 ⟨rfl, hb3⟩
        rw [HHs.out]
        have HB3 := Lib.hid (HB2.out.trans (hb3.mono HB2.out.size))
        clear hb3 d0 d1 d2
        obtain ⟨d0, d1, d2⟩ := HBK.out _ HB3.out
        generalize aheadM l ⟨q, ⟨d, n⟩⟩ = i at *
        by_cases h40 : 40 ≤ l.length
        · have g1 : decide ((l.length : Int) ≥ 40) = true := decide_eq_true (by omega)
          have HF := Lib.hid (HN4.out h40)
          clear h40
          go_wp2_with fail
          go_ret2
          rw [HF.out, giveM_bad (by decide)]
          exact marks_none (HBW.out.trans (HB3.out.mono HBW.out.size))
        · have g1 : decide ((l.length : Int) ≥ 40) = false := decide_eq_false (by omega)
          have HF := Lib.hid (HN2.out (by omega))
          have HCL3 := Lib.hid (fun W (hb : Below w3.heap.size w3 W) c => HCL.out w3 HB3.out W hb c)
          have HBd : Hid (w.heap.size < w3.heap.size) := Nat.lt_of_lt_of_le HSZ.out HB3.out.size
          clear HN2 HN4
          go_wp2_with fail
          go_region_held3 (fun w' => w'.cell? ⟨w.heap.size, 0, none⟩ = some (.string q) ∧ w'.cell? ⟨w.heap.size, 1, none⟩ = some (.int .i64 d) ∧ w'.cell? ⟨w.heap.size, 2, none⟩ = some (.int .i64 n))
            (first | go_keep | (refine ⟨?_, ?_, ?_⟩ <;> assumption))
            (first
              | (go_at_call 75; refine (HCL3.out _ (by first | exact (Below.refl _ _).drew | exact ((Below.refl _ _).alloc (Nat.le_refl _) _).drew) _).mono ?_; rintro e1 w4 ⟨V, cV, rfl, hO, hb⟩; have k0 : w4.cell? ⟨w.heap.size, 0, none⟩ = some (.string q) := ((hb.cell (by first | exact HBd.out | (simp; have := HBd.out; omega))).trans (by first | exact d0 | (exact (World.cell?_alloc_lt _ _ _ (by exact HBd.out)).trans d0))); have k1 : w4.cell? ⟨w.heap.size, 1, none⟩ = some (.int .i64 d) := ((hb.cell (by first | exact HBd.out | (simp; have := HBd.out; omega))).trans (by first | exact d1 | (exact (World.cell?_alloc_lt _ _ _ (by exact HBd.out)).trans d1))); have k2 : w4.cell? ⟨w.heap.size, 2, none⟩ = some (.int .i64 n) := ((hb.cell (by first | exact HBd.out | (simp; have := HBd.out; omega))).trans (by first | exact d2 | (exact (World.cell?_alloc_lt _ _ _ (by exact HBd.out)).trans d2))); have hz : w3.heap.size ≤ w4.heap.size := (by have := hb.size; simp at this; omega); have HBd4 : Hid (w.heap.size < w4.heap.size) := (by show _ < _; have := HBd.out; omega); have HNV : Hid (∀ g ∈ ob V, w3.heap.size ≤ g) := (fun g hg => by have := (hO.lt g hg).1; simp at this; omega); have HO := Lib.hid hO; have HB := Lib.hid hb; have HBW4 : Hid (Below w3.heap.size w3 w4) := (by first | exact (Below.refl _ _).drew.trans hb | exact (((Below.refl _ _).alloc (Nat.le_refl _) _).drew).trans (hb.mono (by simp <;> omega))); clear hO hb)
              | (go_at_call 76; refine (HIN.out _ w3.heap.size cV _ V (by first | exact HO.out.mono (by simp <;> omega) | exact (HO.out.mono (by simp <;> omega)).alloc _) (by first | exact Blk.new _ _ _ | exact (blk_new_at (by simp)).drew.below HB.out (by simp <;> omega)) (by intro hm; have h1 := (HO.out.lt _ hm).1; have h2 := (HO.out.lt _ hm).2; first | omega | (simp at h1; omega)) (by first | exact hz | omega | (simp <;> omega))).mono ?_; rintro e2 w5 ⟨V2, cV2, rfl, hO2, hl2, hg2⟩; have j0 : w5.cell? ⟨w.heap.size, 0, none⟩ = some (.string q) := ((hl2.cell (by first | (have := HBd4.out; omega) | (simp; have := HBd4.out; omega)) (fun hm => by have h1 := HNV.out _ hm; have h2 := HBd.out; simp at h1; omega)).trans (by first | exact k0 | (exact (World.cell?_alloc_lt _ _ _ (by exact HBd4.out)).trans k0))); have j1 : w5.cell? ⟨w.heap.size, 1, none⟩ = some (.int .i64 d) := ((hl2.cell (by first | (have := HBd4.out; omega) | (simp; have := HBd4.out; omega)) (fun hm => by have h1 := HNV.out _ hm; have h2 := HBd.out; simp at h1; omega)).trans (by first | exact k1 | (exact (World.cell?_alloc_lt _ _ _ (by exact HBd4.out)).trans k1))); have j2 : w5.cell? ⟨w.heap.size, 2, none⟩ = some (.int .i64 n) := ((hl2.cell (by first | (have := HBd4.out; omega) | (simp; have := HBd4.out; omega)) (fun hm => by have h1 := HNV.out _ hm; have h2 := HBd.out; simp at h1; omega)).trans (by first | exact k2 | (exact (World.cell?_alloc_lt _ _ _ (by exact HBd4.out)).trans k2)))))
          all_goals
            go_wp2_with fail
            go_ret2
            rw [HF.out, HRS.out, giveM, if_pos rfl]
            have hb2 := hl2.below (B := w3.heap.size) (by first | omega | (simp <;> omega)) (fun g hg => HNV.out g hg)
            have hb5 : Below w3.heap.size w3 w5 := by
              first
                | exact HBW4.out.trans hb2
                | exact (HBW4.out.alloc (by omega) _).trans hb2
            refine ⟨V2, cV2, by rw [HP.out]; rfl, by rw [HP.out, ← HPC.out]; exact hO2.mono (Nat.le_trans HBW.out.size HB3.out.size), HBW.out.trans ((HB3.out.trans (hb5.mono HB3.out.size)).mono HBW.out.size)⟩
    · have HV := Lib.hid (errV_ne hq)
      have HF : Hid (cutErr l ⟨q, ⟨d, n⟩⟩ = markErr ⟨q, ⟨d, n⟩⟩) := by show _ = _; unfold cutErr; rw [if_neg (fun x => x he), if_pos hq]
      have HN := Lib.hid hq
      clear he hq ok
      go_enter Try.func59, Try.ntmps59
      go_wp2_with fail
      rw [← hW0]
      clear hW0
      refine (HC.out _ HB0.out).mono ?_
      rintro e w1 ⟨rfl, hb1⟩
      rw [HE.out, show errV 0 = .nilIface from rfl]
      have HB1 := Lib.hid hb1
      obtain ⟨d0, d1, d2⟩ := HBK.out _ hb1
      clear hb1
      go_wp2_with fail
      refine (HM.out _).mono ?_
      rintro e w2 ⟨rfl, hb2⟩
      rw [HV.out]
      have HB2 := Lib.hid (HB1.out.trans (hb2.mono HB1.out.size))
      clear hb2
      go_wp2_with fail
      go_ret2
      rw [HF.out, giveM_bad HN.out, ← HV.out]
      exact marks_none (HBW.out.trans (HB2.out.mono HBW.out.size))
  · have HV := Lib.hid (errV_ne he)
    have HF : Hid (cutErr l ⟨q, ⟨d, n⟩⟩ = marksErr l) := by show _ = _; unfold cutErr; rw [if_pos he]
    have HN := Lib.hid he
    clear he
    go_enter Try.func59, Try.ntmps59
    go_wp2_with fail
    rw [← hW0]
    clear hW0
    refine (HC.out _ HB0.out).mono ?_
    rintro e w1 ⟨rfl, hb1⟩
    rw [HV.out]
    have HB1 := Lib.hid hb1
    clear hb1
    go_wp2_with fail
    go_ret2
    rw [HF.out, giveM_bad HN.out, ← HV.out]
    exact marks_none (HBW.out.trans (HB1.out.mono HBW.out.size))
end Go.Proofs.Ytngalkmmpjegkaa
/- Is a dot among some (slices.Index, Contains); which marks a join takes away; slices.IndexFunc of marks, walked. Conditions: few dots. -/
namespace Go.Proofs.Ytngalkmmpjegkaa
open Go.RowKit
set_option linter.unusedVariables false
namespace MarkJoin
set_option maxRecDepth 100000 in
theorem eq_dot (W : World) (x0 y0 : Int) (x1 y1 : Int) : (Op.equalIn 10000 35 (.agg #[.int .i64 x0, .int .i64 x1]) (.agg #[.int .i64 y0, .int .i64 y1])).run Try.prog W = .ok (x0 == y0 && (x1 == y1)) W := by
  have ui := Try.underlying3
  have hS : Try.prog.underlying 35 = some (.struct (Try.prog.fieldsOf 35)) := by kernel_rfl
  have hp : Try.prog.stoodInHeld 35 = false := by kernel_rfl
  rw [show (10000 : Nat) = 9999 + 1 from rfl, run_equalIn_agg W 9999 35 _ _ hS hp]
  simp only [Program.fieldsOf, Try.underlying35]
  go_simp
  by_cases h0 : x0 = y0 <;> by_cases h1 : x1 = y1 <;> simp [h0, h1]
theorem dot_same {x0 y0 : Int} {x1 y1 : Int} : (x0 == y0 && (x1 == y1)) = decide ((⟨x0, x1⟩ : LDot) = ⟨y0, y1⟩) := by
  rw [Bool.eq_iff_iff]
  simp only [Bool.and_eq_true, beq_iff_eq, decide_eq_true_eq, LDot.mk.injEq]
def IdxLoop (w : World) (l : List LDot) (d : LDot) (i : Value) (wr : World) : Prop :=
  ∃ k : Nat, k ≤ l.length ∧ i = .int .i64 k ∧ Hid (Below w.heap.size w wr) ∧ Hid (∀ j (hj : j < l.length), j < k → l[j] ≠ d)
def IdxPost (w : World) (b : Bool) (e : Ending) (w' : World) : Prop := ∃ r : Int, e = .returned (.int .i64 r) ∧ decide (0 ≤ r) = b ∧ Below w.heap.size w w'
set_option maxRecDepth 100000 in
set_option maxHeartbeats 2000000 in
theorem index_any (w : World) (A : Option Addr) (c : Nat) (l : List LDot) (d : LDot) (h : Reads w w.heap.size 2 A l.length (dcells l)) (hn : l.length ≤ 1000) :
    Calls Try.prog 88 #[.slice A l.length c, .agg #[.int .i64 d.who, .int .i64 d.n]] w (IdxPost w (inD l d)) := by
  obtain ⟨W0, hW0⟩ : ∃ W0, W0 = w.alloc (.cells #[.int .i64 d.who, .int .i64 d.n] 35) := ⟨_, rfl⟩
  have HSZ : Hid (w.heap.size < W0.heap.size) := by show _ < _; rw [hW0]; simp
  have HBW : Hid (Below w.heap.size w W0) := by show Below _ _ _; rw [hW0]; exact (Below.refl _ _).alloc (Nat.le_refl _) _
  have HR : Hid (∀ W, Below W0.heap.size W0 W → Reads W W.heap.size 2 A l.length (dcells l)) := fun W hb => ((((h.below HBW.out).more HBW.out.size).below hb).more hb.size)
  have HBK : Hid (∀ W, Below W0.heap.size W0 W → W.cell? ⟨w.heap.size, 0, none⟩ = some (.int .i64 d.who) ∧ W.cell? ⟨w.heap.size, 1, none⟩ = some (.int .i64 d.n)) := fun W hb => by
    have h0 : Blk W0 w.heap.size 35 #[.int .i64 d.who, .int .i64 d.n] := by rw [hW0]; exact Blk.new w _ _
    have h1 := h0.below hb HSZ.out
    exact ⟨by rw [h1.cell]; rfl, by rw [h1.cell]; rfl⟩
  clear h
  obtain ⟨d0, d1⟩ := d
  simp only at hW0 HBK
  go_enter Try.func88, Try.ntmps88
  go_wp2_with fail
  rw [← hW0]
  clear hW0
  go_loopw [8] (fun i wr => IdxLoop W0 l ⟨d0, d1⟩ i wr) (fun i _ => l.length - (intOf i).toNat)
  case atStart => exact ⟨0, by omega, rfl, Below.refl _ _, fun j hj h => by omega⟩
  case round =>
    obtain ⟨k, hk, rfl, HB, HN⟩ := hrel
    by_cases hkn : k < l.length
    · obtain ⟨ad, rfl, hb, c0, c1⟩ := (HR.out _ HB.out).dot hkn
      obtain ⟨b0, b1⟩ := HBK.out _ HB.out
      have hlt : (k : Int) < (l.length : Int) := by omega
      have hk0 : (0 : Int) ≤ (k : Int) := by omega
      have HX : Hid (∀ x, x = l[k] → ∀ j (hj : j < l.length), j < k + 1 → (x ≠ ⟨d0, d1⟩) → l[j] ≠ ⟨d0, d1⟩) := fun x hx j hj hjk hne => by
        rcases Nat.eq_or_lt_of_le (Nat.le_of_lt_succ hjk) with h | h
        · subst h; rw [← hx]; exact hne
        · exact HN.out j hj h
      have HM : Hid (∀ x, x = l[k] → x = ⟨d0, d1⟩ → inD l ⟨d0, d1⟩ = true) := fun x hx he => inD_iff.2 (by rw [← he, hx]; exact List.getElem_mem hkn)
      generalize hlk : l[k] = x at *
      have HX2 := Lib.hid (HX.out x rfl)
      have HM2 := Lib.hid (HM.out x rfl)
      clear HX HM hlk
      obtain ⟨x0, x1⟩ := x
      simp only at c0 c1
      have heq := fun W => eq_dot W d0 x0 d1 x1
      by_cases hx : (⟨x0, x1⟩ : LDot) = ⟨d0, d1⟩
      · have g1 : (d0 == x0 && (d1 == x1)) = true := by rw [dot_same]; exact decide_eq_true hx.symm
        have HT := Lib.hid (HM2.out hx)
        clear hx
        go_wp2_with fail
        go_quiet (fail)
        go_wp2_with fail
        go_ret
        exact ⟨(k : Int), rfl, by rw [HT.out]; exact decide_eq_true hk0, HBW.out.trans ((below_drewN HB.out _).mono HBW.out.size)⟩
      · have g1 : (d0 == x0 && (d1 == x1)) = false := by rw [dot_same]; exact decide_eq_false (fun h => hx h.symm)
        have HT : Hid (∀ j (hj : j < l.length), j < k + 1 → l[j] ≠ ⟨d0, d1⟩) := fun j hj hjk => HX2.out j hj hjk hx
        clear hx
        go_wp2_with fail
        go_quiet (fail)
        go_wp2_with fail
        go_roundw
        case rel => exact ⟨k + 1, by omega, by go_num, below_drewN HB.out _, HT⟩
        case measure => simp [intOf]; omega
    · have hd : decide ((k : Int) < (l.length : Int)) = false := by simp; omega
      have HT : Hid (inD l ⟨d0, d1⟩ = false) := by
        show _ = _
        cases h : inD l ⟨d0, d1⟩
        · rfl
        · obtain ⟨j, hj, e⟩ := List.getElem_of_mem (inD_iff.1 h)
          exact absurd e (HN.out j hj (by omega))
      go_wp2_with fail
      go_ret
      exact ⟨-1, rfl, by rw [HT.out]; rfl, HBW.out.trans (HB.out.mono HBW.out.size)⟩
set_option maxRecDepth 100000 in
theorem contains_any (w : World) (A : Option Addr) (c : Nat) (l : List LDot) (d : LDot) (h : Reads w w.heap.size 2 A l.length (dcells l)) (hn : l.length ≤ 1000) :
    Calls Try.prog 79 #[.slice A l.length c, .agg #[.int .i64 d.who, .int .i64 d.n]] w (CheckPost w (.bool (inD l d))) := by
  have HI := Lib.hid (index_any (w.alloc (.cells #[.int .i64 d.who, .int .i64 d.n] 35)) A c l d ((h.alloc (Nat.le_refl _) _).more (by simp)) hn)
  have HB : Hid (Below w.heap.size w (w.alloc (.cells #[.int .i64 d.who, .int .i64 d.n] 35))) := (Below.refl _ _).alloc (Nat.le_refl _) _
  clear h
  go_enter Try.func79, Try.ntmps79
  go_wp2_with fail
  refine HI.out.mono ?_
  rintro e w1 ⟨r, rfl, hr, hb1⟩
  have HB1 := Lib.hid (HB.out.trans (hb1.mono HB.out.size))
  have HR := Lib.hid hr
  clear hb1 hr
  go_wp2_with fail
  go_ret
  exact ⟨by rw [← HR.out]; rfl, HB1.out⟩
/-- What a join has caught. -/
structure Env (w : World) (B : Nat) (p : ByteArray) (seen : List LDot) (b4 b5 : Nat) (A : Option Addr) (c : Nat) : Prop where
  l4 : b4 < B
  l5 : b5 < B
  k4 : w.cell? ⟨b4, 0, none⟩ = some (.string p)
  k5 : w.cell? ⟨b5, 0, none⟩ = some (.slice A seen.length c)
  row : Reads w B 2 A seen.length (dcells seen)
  few : seen.length ≤ 1000
theorem Env.below {w w' : World} {B : Nat} {p : ByteArray} {seen : List LDot} {b4 b5 : Nat} {A : Option Addr} {c : Nat} (h : Env w B p seen b4 b5 A c) (hb : Below B w w') : Env w' B p seen b4 b5 A c :=
  ⟨h.l4, h.l5, (hb.cell h.l4).trans h.k4, (hb.cell h.l5).trans h.k5, h.row.keep (fun p hp => hb.cell hp), h.few⟩
theorem Env.alloc {w : World} {B : Nat} {p : ByteArray} {seen : List LDot} {b4 b5 : Nat} {A : Option Addr} {c : Nat} (h : Env w B p seen b4 b5 A c) (hB : B ≤ w.heap.size) (o : Obj) : Env (w.alloc o) B p seen b4 b5 A c :=
  h.below ((Below.refl _ _).alloc hB _)
set_option maxRecDepth 100000 in
set_option maxHeartbeats 1000000 in
theorem fn_any (w : World) (B : Nat) (p : ByteArray) (seen : List LDot) (b4 b5 : Nat) (A : Option Addr) (c : Nat) (m : LMark) (h : Env w B p seen b4 b5 A c) (hB : B ≤ w.heap.size) :
    Calls Try.prog 78 #[.agg #[.string m.place, .int .i64 m.dot.who, .int .i64 m.dot.n], .pointer (some ⟨b4, 0, none⟩), .pointer (some ⟨b5, 0, none⟩)] w (CheckPost w (.bool (joined p seen m))) := by
  obtain ⟨q, ⟨d, n⟩⟩ := m
  have HE := Lib.hid (h.alloc hB (.cells #[.string q, .int .i64 d, .int .i64 n] 113))
  have HB : Hid (Below w.heap.size w (w.alloc (.cells #[.string q, .int .i64 d, .int .i64 n] 113))) := (Below.refl _ _).alloc (Nat.le_refl _) _
  have HC := Lib.hid (contains_any (w.alloc (.cells #[.string q, .int .i64 d, .int .i64 n] 113)) A c seen ⟨d, n⟩ (HE.out.row.more (by simp; omega)) HE.out.few)
  have k4 := HE.out.k4
  have k5 := HE.out.k5
  have hz4 := h.l4
  have hz5 := h.l5
  have hj4 : ¬ b4 = w.heap.size := by omega
  have hj5 : ¬ b5 = w.heap.size := by omega
  clear h
  by_cases hq : q = p
  · have g1 : (q.toList == p.toList) = true := by simp [hq]
    have HF : Hid (joined p seen ⟨q, ⟨d, n⟩⟩ = inD seen ⟨d, n⟩) := by show _ = _; unfold joined; rw [decide_eq_true hq]; rfl
    clear hq
    go_enter Try.func78, Try.ntmps78
    go_wp2_with fail
    refine HC.out.mono ?_
    rintro e w1 ⟨rfl, hb1⟩
    have HB1 := Lib.hid (HB.out.trans (hb1.mono HB.out.size))
    clear hb1
    go_wp2_with fail
    go_ret
    exact ⟨by rw [HF.out]; rfl, HB1.out⟩
  · have g1 : (q.toList == p.toList) = false := by rw [beq_eq_false_iff_ne]; exact fun h => hq (tl_inj h)
    have HF : Hid (joined p seen ⟨q, ⟨d, n⟩⟩ = false) := by show _ = _; unfold joined; rw [decide_eq_false hq]; rfl
    clear hq
    go_enter Try.func78, Try.ntmps78
    go_wp2_with fail
    go_ret
    exact ⟨by rw [HF.out]; rfl, HB.out⟩
/-- The first that is taken away. -/
def FirstAt (l : List LMark) (p : ByteArray) (seen : List LDot) (r : Int) : Prop :=
  (r = -1 ∧ ∀ x ∈ l, joined p seen x = false) ∨ (∃ k, ∃ hk : k < l.length, r = (k : Int) ∧ joined p seen l[k] = true ∧ ∀ j (hj : j < l.length), j < k → joined p seen l[j] = false)
def FirstLoop (w : World) (B : Nat) (l : List LMark) (p : ByteArray) (seen : List LDot) (i : Value) (wr : World) : Prop :=
  ∃ k : Nat, k ≤ l.length ∧ i = .int .i64 k ∧ Hid (Below w.heap.size w wr) ∧ Hid (∀ j (hj : j < l.length), j < k → joined p seen l[j] = false)
def FirstPost (w : World) (l : List LMark) (p : ByteArray) (seen : List LDot) (e : Ending) (w' : World) : Prop := ∃ r : Int, e = .returned (.int .i64 r) ∧ FirstAt l p seen r ∧ Below w.heap.size w w'
set_option maxRecDepth 100000 in
set_option maxHeartbeats 2000000 in
theorem first_any (w : World) (B : Nat) (p : ByteArray) (seen : List LDot) (b4 b5 : Nat) (A2 : Option Addr) (c2 : Nat) (h : Env w B p seen b4 b5 A2 c2) (hB : B ≤ w.heap.size)
    (A : Option Addr) (c : Nat) (l : List LMark) (hr : Reads w w.heap.size 3 A l.length (mcells l)) (hn : l.length ≤ 1000) :
    Calls Try.prog 87 #[.slice A l.length c, .func (Fn.func 78) #[] #[.pointer (some ⟨b4, 0, none⟩), .pointer (some ⟨b5, 0, none⟩)]] w (FirstPost w l p seen) := by
  have HR := Lib.hid hr
  have HF := Lib.hid (fun W (hb : Below w.heap.size w W) m => fn_any W B p seen b4 b5 A2 c2 m (h.below (hb.mono hB)) (Nat.le_trans hB hb.size))
  clear h hr
  go_enter Try.func87, Try.ntmps87
  go_wp2_with fail
  go_loopw [8] (fun i wr => FirstLoop w B l p seen i wr) (fun i _ => l.length - (intOf i).toNat)
  case atStart => exact ⟨0, by omega, rfl, Below.refl _ _, fun j hj h => by omega⟩
  case round =>
    obtain ⟨k, hk, rfl, HBr, HN⟩ := hrel
    by_cases hkn : k < l.length
    · obtain ⟨ad, rfl, hb, c0, c1, c2⟩ := (HR.out.below HBr.out).mark hkn
      have hlt : (k : Int) < (l.length : Int) := by omega
      have hk0 : (0 : Int) ≤ (k : Int) := by omega
      have HX : Hid (joined p seen l[k] = false → ∀ j (hj : j < l.length), j < k + 1 → joined p seen l[j] = false) := fun hne j hj hjk => by
        rcases Nat.eq_or_lt_of_le (Nat.le_of_lt_succ hjk) with h | h
        · subst h; exact hne
        · exact HN.out j hj h
      have HY : Hid (joined p seen l[k] = true → FirstAt l p seen k) := fun he => .inr ⟨k, hkn, rfl, he, HN.out⟩
      generalize l[k] = x at c0 c1 c2 HX HY
      obtain ⟨q, ⟨d, n⟩⟩ := x
      simp only at c0 c1 c2
      cases hj : joined p seen ⟨q, ⟨d, n⟩⟩ with
      | true =>
        have HT := Lib.hid (HY.out hj)
        have HJ := Lib.hid hj
        clear hj
        go_wp2_with fail
        refine (HF.out _ HBr.out ⟨q, ⟨d, n⟩⟩).mono ?_
        rintro e w1 ⟨rfl, hb1⟩
        rw [HJ.out]
        have HB1 := Lib.hid (HBr.out.trans (hb1.mono HBr.out.size))
        clear hb1
        go_wp2_with fail
        go_ret
        exact ⟨(k : Int), rfl, HT.out, HB1.out⟩
      | false =>
        have HT := Lib.hid (HX.out hj)
        have HJ := Lib.hid hj
        clear hj
        go_wp2_with fail
        refine (HF.out _ HBr.out ⟨q, ⟨d, n⟩⟩).mono ?_
        rintro e w1 ⟨rfl, hb1⟩
        rw [HJ.out]
        have HB1 := Lib.hid (HBr.out.trans (hb1.mono HBr.out.size))
        clear hb1
        go_wp2_with fail
        go_roundw
        case rel => exact ⟨k + 1, by omega, by go_num, HB1, HT⟩
        case measure => simp [intOf]; omega
    · have hd : decide ((k : Int) < (l.length : Int)) = false := by simp; omega
      have HT : Hid (FirstAt l p seen (-1)) := .inl ⟨rfl, fun x hx => by
        obtain ⟨j, hj, rfl⟩ := List.getElem_of_mem hx
        exact HN.out j hj (by omega)⟩
      go_wp2_with fail
      go_ret
      exact ⟨-1, rfl, HT.out, HBr.out⟩
end MarkJoin
end Go.Proofs.Ytngalkmmpjegkaa
/- clear on the end of a row of the call's own. Plain lemmas. Conditions: none. -/
namespace Go.Proofs.Ytngalkmmpjegkaa
open Go.RowKit
set_option linter.unusedVariables false
theorem zeroCells_len (z : Array Value) (n : Nat) : (Builtin.zeroCells z n).size = n * z.size := by simp [Builtin.zeroCells]
theorem zeroCells_one {z : Array Value} (h : ∀ u ∈ z.toList, u.oneCell' = true) (n : Nat) : ∀ u ∈ (Builtin.zeroCells z n).toList, u.oneCell' = true := by
  intro u hu
  simp only [Builtin.zeroCells, Array.toList_map, List.mem_map, Array.toList_range, List.mem_range] at hu
  obtain ⟨i, hi, rfl⟩ := hu
  have hz : 0 < z.size := by
    rcases Nat.eq_zero_or_pos z.size with h0 | h0
    · rw [h0, Nat.mul_zero] at hi; omega
    · exact h0
  have hm : i % z.size < z.size := Nat.mod_lt _ hz
  rw [getElem!_pos z _ hm]
  exact h _ (by rw [Array.mem_toList_iff]; exact Array.getElem_mem hm)
theorem clear_own {P : Program} {w : World} {B g n c size : Nat} {t e : TypeId} {xs : List Value} {z : Value} (ht : P.underlying t = some (.slice e)) (hv : ∀ w, (zeroValue e).run P w = .ok z w) (hzs : z.cells.size = size)
    (hz1 : ∀ u ∈ z.cells.toList, u.oneCell' = true) (hO : Own w B e size (some ⟨g, 0, none⟩) n c xs) (i : Nat) (hi : i < n) :
    ∃ w', (∀ ty, (Builtin.clear_ #[t] ty #[.slice (some ⟨g, i * size, none⟩) (n - i) (c - i)]).run P w = .ok (.tuple #[]) w') ∧ Own w' B e size (some ⟨g, 0, none⟩) i c (xs.take (i * size)) ∧ Only [g] w w' := by
  obtain ⟨h1, h2⟩ := hO
  rcases h2 with ⟨h2, _⟩ | ⟨g', cap, cur, e1, e2, e3, e4, e5, e6, e7⟩
  · cases h2
  · injection e1 with e1 _ ec
    injection e1 with e1
    injection e1 with e1
    subst e1 ec
    have hzl : (Builtin.zeroCells z.cells (n - i)).toList.length = (n - i) * size := by rw [Array.length_toList, zeroCells_len, hzs]
    have hmul : (n - i) * size = n * size - i * size := Nat.sub_mul n i size
    have hle : i * size ≤ n * size := Nat.mul_le_mul_right size (by omega)
    have hle2 : n * size ≤ c * size := Nat.mul_le_mul_right size e4
    have hst := run_storeCells_at (P := P) g (i * size) e (Builtin.zeroCells z.cells (n - i)).toList 0 cur w e3 (by rw [hzl, e6]; omega) (zeroCells_one hz1 _)
    simp only [Nat.add_zero] at hst
    refine ⟨w.setRow g (cur.toList.take (i * size) ++ (Builtin.zeroCells z.cells (n - i)).toList ++ cur.toList.drop (i * size + (Builtin.zeroCells z.cells (n - i)).toList.length)).toArray, fun ty => ?_, ?_, only_setRow w (e := e) (cur := cur) e3 _⟩
    · obtain ⟨m, hm⟩ : ∃ m, n - i = m + 1 := ⟨n - i - 1, by omega⟩
      rw [hm] at hst ⊢
      simp [Builtin.clear_, run_underlying ht, hv, hst]
    · refine ⟨by rw [List.length_take, h1]; omega, .inr ⟨g, c, _, rfl, e2, setRow_heap w g cur _ e _ e3, by omega, e5, ?_, ?_⟩⟩
      · simp only [List.size_toArray, List.length_append, List.length_take, List.length_drop, Array.length_toList, hzl, e6]
        omega
      · simp only [List.append_assoc]
        rw [List.take_append_of_le_length (by rw [List.length_take, Array.length_toList, e6]; omega), List.take_take, ← e7, List.take_take, Nat.min_self, Nat.min_eq_left hle]
end Go.Proofs.Ytngalkmmpjegkaa
/- clear on a row of the call's own; slices.DeleteFunc of marks; marks.Join, walked. Conditions: places that an int may count. -/
namespace Go.Proofs.Ytngalkmmpjegkaa
open Go.RowKit
set_option linter.unusedVariables false
namespace MarkDel
open MarkJoin
def keepM (p : ByteArray) (seen : List LDot) (m : LMark) : Bool := !joined p seen m
def DelLoop (w : World) (B g c : Nat) (l : List LMark) (p : ByteArray) (seen : List LDot) (i j : Value) (wr : World) : Prop :=
  ∃ (a b : Nat) (X : List LMark), a < b ∧ b ≤ l.length ∧ i = .int .i64 a ∧ j = .int .i64 b ∧ X.length = l.length ∧ Hid (X.take a = (l.take b).filter (keepM p seen)) ∧ Hid (X.drop b = l.drop b) ∧
    Hid (Own wr B 113 3 (some ⟨g, 0, none⟩) l.length c (mcells X)) ∧ Hid (Only [g] w wr)
def DelPost (w : World) (B : Nat) (l' : List LMark) (e : Ending) (w' : World) : Prop := ∃ A c, e = .returned (.slice A l'.length c) ∧ Own w' B 113 3 A l'.length c (mcells l') ∧ Below B w w'
theorem some_at {xs : List Value} {j : Nat} (h : j < xs.length) : ∃ v, xs[j]? = some v := ⟨_, List.getElem?_eq_getElem h⟩
theorem mcells_set (X : List LMark) (a : Nat) (ha : a < X.length) (m : LMark) : (((mcells X).set (a * 3) (.string m.place)).set (a * 3 + 1) (.int .i64 m.dot.who)).set (a * 3 + 2) (.int .i64 m.dot.n) = mcells (X.set a m) := by
  induction X generalizing a with
  | nil => simp at ha
  | cons x X ih =>
    cases a with
    | zero => rfl
    | succ a =>
      show (((x.cells ++ mcells X).set ((a + 1) * 3) _).set ((a + 1) * 3 + 1) _).set ((a + 1) * 3 + 2) _ = x.cells ++ mcells (X.set a m)
      rw [← ih a (by simpa using ha), List.set_append_right _ _ (by simp [LMark.cells]; omega), List.set_append_right _ _ (by simp [LMark.cells]; omega), List.set_append_right _ _ (by simp [LMark.cells]; omega)]
      rw [show (a + 1) * 3 - x.cells.length = a * 3 by simp [LMark.cells]; omega, show (a + 1) * 3 + 1 - x.cells.length = a * 3 + 1 by simp [LMark.cells]; omega, show (a + 1) * 3 + 2 - x.cells.length = a * 3 + 2 by simp [LMark.cells]; omega]
theorem zero_mark (w : World) : (zeroValue 113).run Try.prog w = .ok (.agg #[.string ⟨#[]⟩, .int .i64 0, .int .i64 0]) w := by kernel_rfl
set_option maxRecDepth 100000 in
set_option maxHeartbeats 4000000 in
theorem del_any (w : World) (B : Nat) (p : ByteArray) (seen : List LDot) (b4 b5 : Nat) (A2 : Option Addr) (c2 : Nat) (h : Env w B p seen b4 b5 A2 c2) (hB : B ≤ w.heap.size)
    (A : Option Addr) (c : Nat) (l : List LMark) (hO : Own w B 113 3 A l.length c (mcells l)) (hn : l.length ≤ 1000) :
    Calls Try.prog 77 #[.slice A l.length c, .func (Fn.func 78) #[] #[.pointer (some ⟨b4, 0, none⟩), .pointer (some ⟨b5, 0, none⟩)]] w (DelPost w B (joinRes l p seen)) := by
  have HFi := Lib.hid (first_any w B p seen b4 b5 A2 c2 h hB A c l hO.reads hn)
  have HF := Lib.hid (fun W (hb : Below B w W) m => fn_any W B p seen b4 b5 A2 c2 m (h.below hb) (Nat.le_trans hB hb.size))
  have HO := Lib.hid hO
  have hcap := hO.cap_le
  have hcm : c ≤ 9223372036854775807 := by have := hO.cap_max; unfold maxLen at this; omega
  clear h hO
  go_enter Try.func77, Try.ntmps77
  go_wp2_with fail
  refine HFi.out.mono ?_
  rintro e w1 ⟨r, rfl, hr, hb1⟩
  have HB1 : Hid (Below B w w1) := hb1.mono hB
  have HO1 := Lib.hid (HO.out.below hb1)
  clear hb1
  rcases hr with ⟨rfl, hno⟩ | ⟨k, hk, rfl, hj, hfirst⟩
  · have HJ : Hid (joinRes l p seen = l) := List.filter_eq_self.2 (fun x hx => by rw [hno x hx]; rfl)
    clear hno
    go_wp2_with fail
    go_ret
    rw [HJ.out]
    exact ⟨A, c, rfl, HO1.out, HB1.out⟩
  · obtain ⟨g, rfl, hg1, hg2⟩ := HO1.out.head (by omega)
    have g0 : ((k : Int) == -1) = false := by rw [beq_eq_false_iff_ne]; omega
    have HST : Hid (l.take k = (l.take (k + 1)).filter (keepM p seen)) := by
      show _ = _
      rw [List.take_succ_eq_append_getElem hk, List.filter_append, List.filter_eq_self.2 (fun x hx => by
        obtain ⟨j, hj, rfl⟩ := List.getElem_of_mem hx
        rw [List.length_take] at hj
        rw [List.getElem_take]
        unfold keepM
        rw [hfirst j (by omega) (by omega)]; rfl)]
      simp [keepM, hj]
    clear hj hfirst
    go_wp2_with fail
    go_loopw [5, 6] (fun i j wr => DelLoop w1 B g c l p seen i j wr) (fun _ j _ => l.length - (intOf j).toNat)
    case atStart => exact ⟨k, k + 1, l, by omega, by omega, rfl, by go_num, rfl, HST, rfl, HO1, Only.refl _ _⟩
    case round =>
      obtain ⟨a, b, X, hab, hbl, rfl, rfl, hX, HT, HD, HOr, HL⟩ := hrel
      have HBr : Hid (Below B w wr) := HB1.out.trans (HL.out.below (Nat.le_trans hB HB1.out.size) (by simp; exact hg1))
      by_cases hbn : b < l.length
      · have hbX : b < X.length := by omega
        have haX : a < X.length := by omega
        have hlt : (b : Int) < (l.length : Int) := by omega
        have hlt' : (a : Int) < (l.length : Int) := by omega
        have b0 : (0 : Int) ≤ (b : Int) := by omega
        have a0 : (0 : Int) ≤ (a : Int) := by omega
        have hx : X[b] = l[b] := by
          have := HD.out
          rw [List.drop_eq_getElem_cons hbX, List.drop_eq_getElem_cons hbn] at this
          exact (List.cons.injEq .. ▸ this).1
        have c0 : wr.cell? ⟨g, b * 3, none⟩ = some (.string X[b].place) := by rw [HOr.out.cellAt (by omega), show b * 3 = b * 3 + 0 from rfl, mcells_at X b 0 hbX (by omega)]; rfl
        have c1 : wr.cell? ⟨g, b * 3 + 1, none⟩ = some (.int .i64 X[b].dot.who) := by rw [HOr.out.cellAt (by omega), mcells_at X b 1 hbX (by omega)]; rfl
        have c2 : wr.cell? ⟨g, b * 3 + 2, none⟩ = some (.int .i64 X[b].dot.n) := by rw [HOr.out.cellAt (by omega), mcells_at X b 2 hbX (by omega)]; rfl
        have s0 : ∃ v, wr.cell? ⟨g, a * 3, none⟩ = some v := ⟨_, by rw [HOr.out.cellAt (by omega), show a * 3 = a * 3 + 0 from rfl, mcells_at X a 0 haX (by omega)]; rfl⟩
        rw [hx] at c0 c1 c2
        have HTJ : Hid (joined p seen l[b] = true → (l.take (b + 1)).filter (keepM p seen) = (l.take b).filter (keepM p seen)) := fun h => by
          rw [List.take_succ_eq_append_getElem hbn, List.filter_append]; simp [keepM, h]
        have HTK : Hid (joined p seen l[b] = false → (l.take (b + 1)).filter (keepM p seen) = (l.take b).filter (keepM p seen) ++ [l[b]]) := fun h => by
          rw [List.take_succ_eq_append_getElem hbn, List.filter_append]; simp [keepM, h]
        have HXS : Hid ((X.set a l[b]).take (a + 1) = X.take a ++ [l[b]]) := by
          show _ = _
          rw [List.take_succ_eq_append_getElem (by rw [List.length_set]; exact haX), List.getElem_set_self, List.take_set_of_le (Nat.le_refl _)]
        have HXD : Hid ((X.set a l[b]).drop (b + 1) = l.drop (b + 1)) := by
          show _ = _
          rw [List.drop_set_of_lt (by omega)]
          have := HD.out
          rw [List.drop_eq_getElem_cons hbX, List.drop_eq_getElem_cons hbn] at this
          exact (List.cons.injEq .. ▸ this).2
        have HDD : Hid (X.drop (b + 1) = l.drop (b + 1)) := by
          show _ = _
          have := HD.out
          rw [List.drop_eq_getElem_cons hbX, List.drop_eq_getElem_cons hbn] at this
          exact (List.cons.injEq .. ▸ this).2
        clear hx
        generalize l[b] = x at *
        obtain ⟨q, ⟨d, n⟩⟩ := x
        simp only at c0 c1 c2
        have HFx := Lib.hid (fun W hb => HF.out W hb ⟨q, ⟨d, n⟩⟩)
        cases hj : joined p seen ⟨q, ⟨d, n⟩⟩ with
        | true =>
          have HT2 : Hid (X.take a = (l.take (b + 1)).filter (keepM p seen)) := by show _ = _; rw [HTJ.out hj]; exact HT.out
          have HJ := Lib.hid hj
          have HBa : Hid (Below wr.heap.size wr (wr.alloc (.cells #[.string q, .int .i64 d, .int .i64 n] 113))) := (Below.refl _ _).alloc (Nat.le_refl _) _
          have HBa2 : Hid (Below B w (wr.alloc (.cells #[.string q, .int .i64 d, .int .i64 n] 113))) := HBr.out.trans (HBa.out.mono (Nat.le_trans hB HBr.out.size))
          clear hj HTJ HTK s0
          go_wp2_with fail
          refine (HFx.out _ HBa2.out).mono ?_
          rintro e w2 ⟨rfl, hb2⟩
          rw [HJ.out]
          have HW2 := Lib.hid (HBa.out.trans (hb2.mono HBa.out.size))
          clear hb2
          go_wp2_with fail
          go_roundw
          case rel => exact ⟨a, b + 1, X, by omega, by omega, rfl, by go_num, hX, HT2, HDD, HOr.out.below HW2.out, HL.out.trans (Only.of_below HW2.out)⟩
          case measure => simp [intOf]; omega
        | false =>
          have HT2 : Hid ((X.set a ⟨q, ⟨d, n⟩⟩).take (a + 1) = (l.take (b + 1)).filter (keepM p seen)) := by show _ = _; rw [HTK.out hj, HXS.out, HT.out]
          have HJ := Lib.hid hj
          have HBa : Hid (Below wr.heap.size wr (wr.alloc (.cells #[.string q, .int .i64 d, .int .i64 n] 113))) := (Below.refl _ _).alloc (Nat.le_refl _) _
          have HBa2 : Hid (Below B w (wr.alloc (.cells #[.string q, .int .i64 d, .int .i64 n] 113))) := HBr.out.trans (HBa.out.mono (Nat.le_trans hB HBr.out.size))
          have hgl : g < wr.heap.size := (HOr.out.lt g (by simp [ob])).2
          clear hj HTJ HTK
          go_wp2_with fail
          refine (HFx.out _ HBa2.out).mono ?_
          rintro e w2 ⟨rfl, hb2⟩
          rw [HJ.out]
          have HW2 := Lib.hid (HBa.out.trans (hb2.mono HBa.out.size))
          have HOw := Lib.hid (HOr.out.below HW2.out)
          have HBX : Hid (Blk w2 wr.heap.size 113 #[.string q, .int .i64 d, .int .i64 n]) := (Blk.new wr _ _).below hb2 (by simp)
          have k0 : w2.cell? ⟨wr.heap.size, 0, none⟩ = some (.string q) := by rw [HBX.out.cell]; rfl
          have k1 : w2.cell? ⟨wr.heap.size, 1, none⟩ = some (.int .i64 d) := by rw [HBX.out.cell]; rfl
          have k2 : w2.cell? ⟨wr.heap.size, 2, none⟩ = some (.int .i64 n) := by rw [HBX.out.cell]; rfl
          clear hb2 s0
          have HO1 := Lib.hid (HOw.out.storeK (k := a * 3) (by omega) (.string q))
          have HO2 := Lib.hid (HO1.out.storeK (k := a * 3 + 1) (by omega) (.int .i64 d))
          have HO3 := Lib.hid (HO2.out.storeK (k := a * 3 + 2) (by omega) (.int .i64 n))
          have t0 : ∃ v, w2.cell? ⟨g, a * 3, none⟩ = some v := by rw [HOw.out.cellAt (by omega)]; exact some_at (by rw [mcells_len]; omega)
          have t1 : ∃ v, (w2.setCell ⟨g, a * 3, none⟩ (.string q)).cell? ⟨g, a * 3 + 1, none⟩ = some v := by rw [HO1.out.cellAt (by omega)]; exact some_at (by rw [List.length_set, mcells_len]; omega)
          have t2 : ∃ v, ((w2.setCell ⟨g, a * 3, none⟩ (.string q)).setCell ⟨g, a * 3 + 1, none⟩ (.int .i64 d)).cell? ⟨g, a * 3 + 2, none⟩ = some v := by rw [HO2.out.cellAt (by omega)]; exact some_at (by rw [List.length_set, List.length_set, mcells_len]; omega)
          have f0 := HOw.out.frozenAt (a * 3)
          have f1 := HO1.out.frozenAt (a * 3 + 1)
          have f2 := HO2.out.frozenAt (a * 3 + 2)
          obtain ⟨v0, t0⟩ := t0
          obtain ⟨v1, t1⟩ := t1
          obtain ⟨v2, t2⟩ := t2
          have HL2 : Hid (Only [g] w1 (((w2.setCell ⟨g, a * 3, none⟩ (.string q)).setCell ⟨g, a * 3 + 1, none⟩ (.int .i64 d)).setCell ⟨g, a * 3 + 2, none⟩ (.int .i64 n))) :=
            (((HL.out.trans (Only.of_below HW2.out)).setCell (.inl (by simp)) _).setCell (.inl (by simp)) _).setCell (.inl (by simp)) _
          have HXC : Hid ((((mcells X).set (a * 3) (.string q)).set (a * 3 + 1) (.int .i64 d)).set (a * 3 + 2) (.int .i64 n) = mcells (X.set a ⟨q, ⟨d, n⟩⟩)) := mcells_set X a haX ⟨q, ⟨d, n⟩⟩
          rw [HXC.out] at HO3
          go_wp2_with fail
          go_roundw
          case rel => exact ⟨a + 1, b + 1, X.set a ⟨q, ⟨d, n⟩⟩, by omega, by omega, by go_num, by go_num, by rw [List.length_set]; exact hX, HT2, HXD, HO3, HL2⟩
          case measure => simp [intOf]; omega
      · obtain rfl : b = l.length := by omega
        have hd : decide ((l.length : Int) < (l.length : Int)) = false := by simp
        have HJ : Hid (X.take a = joinRes l p seen) := by show _ = _; rw [HT.out, List.take_length]; rfl
        have HJL : Hid ((joinRes l p seen).length = a) := by show _ = _; rw [← HJ.out, List.length_take]; omega
        obtain ⟨w2, hcl, hO2, hL2⟩ := clear_own (P := Try.prog) (size := 3) (t := 44) (z := .agg #[.string ⟨#[]⟩, .int .i64 0, .int .i64 0]) Try.underlying44 zero_mark rfl (by intro u hu; simp [Value.cells] at hu; rcases hu with rfl | rfl | rfl <;> rfl) HOr.out a (by omega)
        rw [mcells_take, HJ.out] at hO2
        have HO2 := Lib.hid hO2
        have HB2 : Hid (Below B w w2) := HBr.out.trans (hL2.below (Nat.le_trans hB HBr.out.size) (by simp; exact hg1))
        have q0 : (0 : Int) ≤ (a : Int) := by omega
        have q1 : (a : Int) ≤ (l.length : Int) := by omega
        have q2 : (a : Int) ≤ (c : Int) := by omega
        have q3 : ¬ (c = a) := by omega
        clear hO2 hL2
        go_wp2_with fail
        go_ret
        refine ⟨some ⟨g, 0, none⟩, c, by rw [HJL.out]; rfl, by rw [HJL.out]; exact HO2.out, HB2.out⟩
end MarkDel
set_option maxRecDepth 100000 in
set_option maxHeartbeats 4000000 in
theorem join_any (w : World) (A : Option Addr) (c : Nat) (l : List LMark) (p : ByteArray) (A2 : Option Addr) (c2 : Nat) (seen : List LDot) (h : Reads w w.heap.size 3 A l.length (mcells l)) (hs : MSized l) (hn : l.length ≤ 9223372036854775807) (hp : p.size ≤ 9223372036854775807)
    (h2 : Reads w w.heap.size 2 A2 seen.length (dcells seen)) (hn2 : seen.length ≤ 9223372036854775807) :
    Calls Try.prog 60 #[.slice A l.length c, .string p, .slice A2 seen.length c2] w (MarksPost w (giveM (joinErr l p seen) (joinRes l p seen)) (joinErr l p seen)) := by
  obtain ⟨W0, hW0⟩ : ∃ W0, W0 = (w.alloc (.cells #[.string p] 9)).alloc (.cells #[.slice A2 seen.length c2] 36) := ⟨_, rfl⟩
  have HSZ : Hid (w.heap.size + 1 < W0.heap.size) := by show _ < _; rw [hW0]; simp
  have HBW : Hid (Below w.heap.size w W0) := by show Below _ _ _; rw [hW0]; exact ((Below.refl _ _).alloc (Nat.le_refl _) _).alloc (by simp) _
  have HR : Hid (∀ W, Below W0.heap.size W0 W → Reads W W.heap.size 3 A l.length (mcells l)) := fun W hb => ((((h.below HBW.out).more HBW.out.size).below hb).more hb.size)
  have HR2 : Hid (∀ W, Below W0.heap.size W0 W → Reads W W.heap.size 2 A2 seen.length (dcells seen)) := fun W hb => ((((h2.below HBW.out).more HBW.out.size).below hb).more hb.size)
  have HBK : Hid (∀ W, Below W0.heap.size W0 W → W.cell? ⟨w.heap.size, 0, none⟩ = some (.string p) ∧ W.cell? ⟨w.heap.size + 1, 0, none⟩ = some (.slice A2 seen.length c2)) := fun W hb => by
    have h0 : Blk W0 w.heap.size 9 #[.string p] := by rw [hW0]; exact (Blk.new w _ _).alloc _
    have h1 : Blk W0 (w.heap.size + 1) 36 #[.slice A2 seen.length c2] := by rw [hW0]; exact blk_new_at (by simp)
    have k0 := h0.below hb (by have := HSZ.out; omega)
    have k1 := h1.below hb HSZ.out
    exact ⟨by rw [k0.cell]; rfl, by rw [k1.cell]; rfl⟩
  have HC := Lib.hid (fun W (hb : Below W0.heap.size W0 W) => marksCheck_any W A c l (HR.out W hb) hs hn)
  have HP := Lib.hid (fun W => check_any W p hp)
  have hmf : ∀ (fn : Fn) (first cap : Array Value) (w : World), (Instr.makeFunc fn first cap).run Try.prog w = .ok (.func fn first cap) w := fun _ _ _ _ => rfl
  clear h hs h2 hp
  have HB0 : Hid (Below W0.heap.size W0 W0) := Below.refl _ _
  by_cases he : marksErr l = 0
  · have HE := Lib.hid he
    have ok := marks_ok' he
    have hfew := ok.few
    by_cases hq : placeErr p = 0
    · have HQ := Lib.hid hq
      by_cases h40 : 40 < seen.length
      · have HF : Hid (joinErr l p seen = 4) := by show _ = _; unfold joinErr; rw [if_neg (fun x => x he), if_neg (fun x => x hq), if_pos h40]
        have g1 : decide ((seen.length : Int) > 40) = true := decide_eq_true (by omega)
        have g1n : decide ((40 : Int) < (seen.length : Int)) = true := decide_eq_true (by omega)
        have g1m : decide (40 < seen.length) = true := decide_eq_true h40
        clear he hq ok h40
        go_enter Try.func60, Try.ntmps60
        go_wp2_with fail
        rw [← hW0]
        clear hW0
        refine (HC.out _ HB0.out).mono ?_
        rintro e w1 ⟨rfl, hb1⟩
        rw [HE.out, show errV 0 = .nilIface from rfl]
        have HB1 := Lib.hid hb1
        obtain ⟨d0, d1⟩ := HBK.out _ hb1
        clear hb1
        go_wp2_with fail
        refine (HP.out _).mono ?_
        rintro e w2 ⟨rfl, hb2⟩
        rw [HQ.out, show errV 0 = .nilIface from rfl]
        have HB2 := Lib.hid (HB1.out.trans (hb2.mono HB1.out.size))
        clear hb2 d0 d1
        obtain ⟨d0, d1⟩ := HBK.out _ HB2.out
        go_wp2_with fail
        go_ret2
        rw [HF.out, giveM_bad (by decide)]
        exact marks_none (HBW.out.trans (HB2.out.mono HBW.out.size))
      · have hs40 : seen.length ≤ 40 := by omega
        have HRI := Lib.hid (fun W (hb : Below W0.heap.size W0 W) => rise_any W A2 c2 seen (HR2.out W hb) (by omega))
        have HF : Hid (joinErr l p seen = riseErr seen) := by show _ = _; unfold joinErr; rw [if_neg (fun x => x he), if_neg (fun x => x hq), if_neg h40]
        have g1m : decide (40 < seen.length) = false := decide_eq_false h40
        clear he hq ok h40
        by_cases hr : riseErr seen = 0
        · have HRE := Lib.hid hr
          have HCL := Lib.hid (fun w3 (h3 : Below W0.heap.size W0 w3) => cloneM w3 w3.heap.size A l.length c (mcells l) (HR.out w3 h3) (oneCells_m l) (Fits.of_small (by omega) (by decide)) (Nat.le_refl _))
          have HDE := Lib.hid (fun W B h hB V cV hO => MarkDel.del_any W B p seen w.heap.size (w.heap.size + 1) A2 c2 h hB V cV l hO (by omega))
          clear hr
          go_enter Try.func60, Try.ntmps60
          go_wp2_with fail
          rw [← hW0]
          clear hW0
          refine (HC.out _ HB0.out).mono ?_
          rintro e w1 ⟨rfl, hb1⟩
          rw [HE.out, show errV 0 = .nilIface from rfl]
          have HB1 := Lib.hid hb1
          obtain ⟨d0, d1⟩ := HBK.out _ hb1
          clear hb1
          go_wp2_with fail
          refine (HP.out _).mono ?_
          rintro e w2 ⟨rfl, hb2⟩
          rw [HQ.out, show errV 0 = .nilIface from rfl]
          have HB2 := Lib.hid (HB1.out.trans (hb2.mono HB1.out.size))
          clear hb2 d0 d1
          obtain ⟨d0, d1⟩ := HBK.out _ HB2.out
          go_wp2_with fail
          refine (HRI.out _ HB2.out).mono ?_
          rintro e w3 ⟨rfl, hb3⟩
          rw [HRE.out, show errV 0 = .nilIface from rfl]
          have HB3 := Lib.hid (HB2.out.trans (hb3.mono HB2.out.size))
          clear hb3 d0 d1
          go_wp2_with fail
          refine (HCL.out _ HB3.out).mono ?_
          rintro e w4 ⟨V, cV, rfl, hO, hb4⟩
          have HO := Lib.hid hO
          have HB4 := Lib.hid hb4
          have HEN : Hid (MarkJoin.Env w4 w3.heap.size p seen w.heap.size (w.heap.size + 1) A2 c2) := by
            obtain ⟨d0, d1⟩ := HBK.out _ HB3.out
            have h1 := HSZ.out
            have h2 := HB3.out.size
            exact MarkJoin.Env.below ⟨by omega, by omega, d0, d1, HR2.out _ HB3.out, by omega⟩ HB4.out
          clear hO hb4
          go_wp2_with fail
          refine (HDE.out _ _ HEN.out HB4.out.size _ _ HO.out).mono ?_
          rintro e w5 ⟨V2, cV2, rfl, hO2, hb5⟩
          have HO2 := Lib.hid (hO2.mono (Nat.le_trans HBW.out.size HB3.out.size))
          have HB5 : Hid (Below w.heap.size w w5) := HBW.out.trans (((HB3.out.trans (HB4.out.mono HB3.out.size)).trans (hb5.mono HB3.out.size)).mono HBW.out.size)
          clear hO2 hb5
          go_wp2_with fail
          go_ret2
          rw [HF.out, HRE.out, giveM, if_pos rfl]
          exact ⟨V2, cV2, rfl, HO2.out, HB5.out⟩
        · have HV := Lib.hid (errV_ne hr)
          have HN := Lib.hid hr
          clear hr
          go_enter Try.func60, Try.ntmps60
          go_wp2_with fail
          rw [← hW0]
          clear hW0
          refine (HC.out _ HB0.out).mono ?_
          rintro e w1 ⟨rfl, hb1⟩
          rw [HE.out, show errV 0 = .nilIface from rfl]
          have HB1 := Lib.hid hb1
          obtain ⟨d0, d1⟩ := HBK.out _ hb1
          clear hb1
          go_wp2_with fail
          refine (HP.out _).mono ?_
          rintro e w2 ⟨rfl, hb2⟩
          rw [HQ.out, show errV 0 = .nilIface from rfl]
          have HB2 := Lib.hid (HB1.out.trans (hb2.mono HB1.out.size))
          clear hb2 d0 d1
          obtain ⟨d0, d1⟩ := HBK.out _ HB2.out
          go_wp2_with fail
          refine (HRI.out _ HB2.out).mono ?_
          rintro e w3 ⟨rfl, hb3⟩
          rw [HV.out]
          have HB3 := Lib.hid (HB2.out.trans (hb3.mono HB2.out.size))
          clear hb3 d0 d1
          go_wp2_with fail
          go_ret2
          rw [HF.out, giveM_bad HN.out, ← HV.out]
          exact marks_none (HBW.out.trans (HB3.out.mono HBW.out.size))
    · have HV := Lib.hid (errV_ne hq)
      have HF : Hid (joinErr l p seen = placeErr p) := by show _ = _; unfold joinErr; rw [if_neg (fun x => x he), if_pos hq]
      have HN := Lib.hid hq
      clear he hq ok
      go_enter Try.func60, Try.ntmps60
      go_wp2_with fail
      rw [← hW0]
      clear hW0
      refine (HC.out _ HB0.out).mono ?_
      rintro e w1 ⟨rfl, hb1⟩
      rw [HE.out, show errV 0 = .nilIface from rfl]
      have HB1 := Lib.hid hb1
      obtain ⟨d0, d1⟩ := HBK.out _ hb1
      clear hb1
      go_wp2_with fail
      refine (HP.out _).mono ?_
      rintro e w2 ⟨rfl, hb2⟩
      rw [HV.out]
      have HB2 := Lib.hid (HB1.out.trans (hb2.mono HB1.out.size))
      clear hb2
      go_wp2_with fail
      go_ret2
      rw [HF.out, giveM_bad HN.out, ← HV.out]
      exact marks_none (HBW.out.trans (HB2.out.mono HBW.out.size))
  · have HV := Lib.hid (errV_ne he)
    have HF : Hid (joinErr l p seen = marksErr l) := by show _ = _; unfold joinErr; rw [if_pos he]
    have HN := Lib.hid he
    clear he
    go_enter Try.func60, Try.ntmps60
    go_wp2_with fail
    rw [← hW0]
    clear hW0
    refine (HC.out _ HB0.out).mono ?_
    rintro e w1 ⟨rfl, hb1⟩
    rw [HV.out]
    have HB1 := Lib.hid hb1
    clear hb1
    go_wp2_with fail
    go_ret2
    rw [HF.out, giveM_bad HN.out, ← HV.out]
    exact marks_none (HBW.out.trans (HB1.out.mono HBW.out.size))
end Go.Proofs.Ytngalkmmpjegkaa
/- A document, as it is changed by ops: plain. Conditions: none. -/
namespace Go.Proofs.Ytngalkmmpjegkaa
open Go.RowKit
set_option linter.unusedVariables false
/-- A key of the cuts that were seen by joins. -/
structure JKey where
  place : ByteArray
  dot : LDot
  deriving DecidableEq
def JKey.val (k : JKey) : Value := .agg #[.string k.place, .int .i64 k.dot.who, .int .i64 k.dot.n]
def boolV (b : Bool) : Value := .bool b
structure LDoc where
  book : List LLeaf
  marks : List LMark
  known : List Int
  ops : List LOp
  joined : List (JKey × Bool)
namespace LDoc
def new : LDoc := ⟨[], [], [0, 0, 0, 0, 0, 0, 0, 0], [], []⟩
def gone (d : LDoc) (o : LOp) : Bool := (get (⟨o.place, o.dot⟩ : JKey) d.joined).getD false
def cutE (d : LDoc) (o : LOp) : Int := if d.gone o = true then 0 else cutErr d.marks ⟨o.place, o.dot⟩
def cut (d : LDoc) (o : LOp) : LDoc := if d.gone o = true then d else if cutErr d.marks ⟨o.place, o.dot⟩ = 0 then { d with marks := cutRes d.marks ⟨o.place, o.dot⟩ } else d
def insAll (p : ByteArray) (j : List (JKey × Bool)) (l : List LDot) : List (JKey × Bool) := l.foldl (fun j x => ins ⟨p, x⟩ true j) j
def joinE (d : LDoc) (o : LOp) : Int := joinErr d.marks o.place o.seen
def join (d : LDoc) (o : LOp) : LDoc := if d.joinE o = 0 then { d with marks := joinRes d.marks o.place o.seen, joined := insAll o.place d.joined o.seen } else d
def turnE (d : LDoc) (o : LOp) : Int :=
  if o.what = 1 then writeErr d.book o.place o.letter else if o.what = 2 then strikeErr d.book o.place else if o.what = 3 then d.cutE o else if o.what = 4 then d.joinE o else 0
def turn (d : LDoc) (o : LOp) : LDoc :=
  if o.what = 1 then (if writeErr d.book o.place o.letter = 0 then { d with book := writeRes d.book o.place o.letter } else d)
  else if o.what = 2 then (if strikeErr d.book o.place = 0 then { d with book := strikeRes d.book o.place } else d)
  else if o.what = 3 then d.cut o else if o.what = 4 then d.join o else { d with book := [] }
def applyE (d : LDoc) (o : LOp) : Int :=
  if opErr o ≠ 0 then opErr o else if vdErr d.known o.dot ≠ 0 then vdErr d.known o.dot else if hasRes d.known o.dot = true then 0
  else if addErr d.known o.dot ≠ 0 then addErr d.known o.dot else if 400 ≤ d.ops.length then 4 else d.turnE o
def applyB (d : LDoc) (o : LOp) : Bool := decide (d.applyE o = 0) && !(decide (opErr o = 0) && hasRes d.known o.dot)
def apply (d : LDoc) (o : LOp) : LDoc := if d.applyB o = true then { d.turn o with known := addRes d.known o.dot, ops := d.ops ++ [o] } else d
end LDoc
end Go.Proofs.Ytngalkmmpjegkaa
