/- slices.Clone of marks, marks' binary search, marks.Cut, walked. Conditions: places that an int may count. -/
import Derived.Test.YthfbjfocmnikaaaGreatDoorInsMark
import Derived.Test.YthfbjfocmnikaaaGreatDoorMarkLaw
namespace Go.Proofs.YthfbjfocmnikaaaGreatDoor
open Go.RowKit
set_option linter.unusedVariables false
theorem oneCells_m (l : List LMark) : OneCells (mcells l) := by
  intro u hu
  simp only [mcells, List.mem_flatMap] at hu
  obtain ⟨e, _, hu⟩ := hu
  simp only [LMark.cells, List.mem_cons, List.not_mem_nil, or_false] at hu
  rcases hu with rfl | rfl | rfl <;> rfl
set_option maxRecDepth 100000 in
theorem cloneM (w : World) (B : Nat) (A : Option Addr) (n c : Nat) (xs : List Value) (hr : Reads w B 3 A n xs) (h1 : OneCells xs) (hf : Fits n 32) (hB : B ≤ w.heap.size) :
    Calls Tryz.prog 75 #[.slice A n c] w (ClonePost w 136 3 n xs) := by
  have HF : Fits (0 + n) 32 := by simpa using hf
  have HR := hr.alloc hB (.cells #[] 136)
  cases A with
  | none =>
    have he := Lib.run_eql_slice_nil (P := Tryz.prog) w 51 136 none n c 0 0 Tryz.underlying51
    go_enter Tryz.func75, Tryz.ntmps75
    go_wp2
    go_ret
    have hn : n = 0 := by
      rcases Nat.eq_zero_or_pos n with h | h
      · exact h
      · obtain ⟨_, h, _⟩ := hr.2 h; cases h
    subst hn
    have hx : xs = [] := List.eq_nil_of_length_eq_zero (by simpa using hr.1)
    subst hx
    exact ⟨none, 0, rfl, Own.nil _ _ _ _, Below.refl _ _⟩
  | some ad =>
    have heS := Lib.run_eql_slice_nil (P := Tryz.prog) w 51 136 (some ad) n c 0 0 Tryz.underlying51
    go_enter Tryz.func75, Tryz.ntmps75
    go_wp2_with (at_builtin; refine wpList_app _ (.tmp 5) (.tmp 6) rfl rfl InsMark.elem rfl rfl (Own.made w 136 w.heap.size (Nat.le_refl _) 3) HR h1 HF (by simp) ?_; intro A' c' w1 HO HL HB)
    go_ret
    refine ⟨A', c', rfl, by simpa using HO, ?_⟩
    exact ((Below.refl _ _).alloc (Nat.le_refl _) _).trans (HL.below (by simp) (by simp [ob]))

def MFindLoop (w : World) (l : List LMark) (m : LMark) (x y : Value) (wr : World) : Prop :=
  ∃ i j : Nat, i ≤ j ∧ j ≤ l.length ∧ x = .int .i64 i ∧ y = .int .i64 j ∧ Hid (Below w.heap.size w wr) ∧
    Hid (∀ k (hk : k < l.length), k < i → ltM l[k] m) ∧ Hid (∀ k (hk : k < l.length), j ≤ k → ¬ ltM l[k] m)
def MFindPost (w : World) (l : List LMark) (m : LMark) (e : Ending) (w' : World) : Prop := e = .returned (.tuple #[.int .i64 (aheadM l m : Int), .bool (hasM l m)]) ∧ Below w.heap.size w w'
set_option maxRecDepth 100000 in
set_option maxHeartbeats 4000000 in
theorem msearch_any (w : World) (A : Option Addr) (c : Nat) (l : List LMark) (m : LMark) (h : Reads w w.heap.size 3 A l.length (mcells l)) (hn : l.length ≤ 1000) (hr : l.Pairwise ltM) :
    Calls Tryz.prog 223 #[.slice A l.length c, .agg #[.string m.place, .int .i64 m.dot.who, .int .i64 m.dot.n], .func (Fn.func 224) #[] #[]] w (MFindPost w l m) := by
  obtain ⟨W0, hW0⟩ : ∃ W0, W0 = w.alloc (.cells #[.string m.place, .int .i64 m.dot.who, .int .i64 m.dot.n] 136) := ⟨_, rfl⟩
  have HW0 := Lib.hid hW0
  have HSZ : Hid (w.heap.size < W0.heap.size) := by show _ < _; rw [hW0]; simp
  have HBW : Hid (Below w.heap.size w W0) := by show Below _ _ _; rw [hW0]; exact (Below.refl _ _).alloc (Nat.le_refl _) _
  have HR : Hid (∀ W, Below W0.heap.size W0 W → Reads W w.heap.size 3 A l.length (mcells l)) := fun W hb => ((h.keep (w' := W0) (fun p hp => HBW.out.cell hp)).keep (w' := W) (fun p hp => hb.cell (by have := HSZ.out; omega)))
  have HBK : Hid (∀ W, Below W0.heap.size W0 W → Blk W w.heap.size 136 #[.string m.place, .int .i64 m.dot.who, .int .i64 m.dot.n]) := fun W hb => by
    have h0 : Blk W0 w.heap.size 136 #[.string m.place, .int .i64 m.dot.who, .int .i64 m.dot.n] := by rw [hW0]; exact Blk.new w _ _
    exact h0.below hb HSZ.out
  have HO := Lib.hid (fun w (a b : LMark) => markOrder_any w a b)
  have HRi := Lib.hid (fun i j hi hj hij => mrising_at hr i j hi hj hij)
  obtain ⟨q, ⟨d, n⟩⟩ := m
  clear h hr
  go_enter Tryz.func223, Tryz.ntmps223
  go_wp2_with fail
  rw [← hW0]
  clear hW0
  go_loopw [9, 10] (fun x y wr => MFindLoop W0 l ⟨q, ⟨d, n⟩⟩ x y wr) (fun x y _ => (intOf y - intOf x).toNat)
  case atStart => exact ⟨0, l.length, by omega, by omega, rfl, rfl, Below.refl _ _, fun k hk h => by omega, fun k hk h => by omega⟩
  case round =>
    obtain ⟨i, j, hij, hj, rfl, rfl, HB, H1, H2⟩ := hrel
    have d0 : wr.cell? ⟨w.heap.size, 0, none⟩ = some (.string q) := by rw [(HBK.out _ HB.out).cell]; rfl
    have d1 : wr.cell? ⟨w.heap.size, 1, none⟩ = some (.int .i64 d) := by rw [(HBK.out _ HB.out).cell]; rfl
    have d2 : wr.cell? ⟨w.heap.size, 2, none⟩ = some (.int .i64 n) := by rw [(HBK.out _ HB.out).cell]; rfl
    have hwb : W0.heap.size ≤ wr.heap.size := HB.out.size
    have HBd : Hid (w.heap.size < wr.heap.size) := Nat.lt_of_lt_of_le HSZ.out hwb
    by_cases hlt : i < j
    · have hlt1 : (i : Int) < (j : Int) := by omega
      have hm1 : i ≤ (i + j) / 2 := by omega
      have hm2 : (i + j) / 2 < j := by omega
      have hml : (i + j) / 2 < l.length := by omega
      have hmi : ((i : Int) + (j : Int)) / 2 < (l.length : Int) := by omega
      have hm0 : (0 : Int) ≤ ((i : Int) + (j : Int)) / 2 := by omega
      obtain ⟨ad, rfl, hb, e0, e1, e2⟩ := (HR.out _ HB.out).mark hml
      have HX : Hid (∀ k (hk : k < l.length), k < (i + j) / 2 → ltM l[k] l[(i + j) / 2]) := fun k hk h => HRi.out k _ hk hml h
      have HY : Hid (∀ k (hk : k < l.length), (i + j) / 2 < k → ltM l[(i + j) / 2] l[k]) := fun k hk h => HRi.out _ k hml hk h
      have HZ : Hid (∀ k (hk : k < l.length), k = (i + j) / 2 → l[k] = l[(i + j) / 2]) := fun k hk h => by subst h; rfl
      generalize l[(i + j) / 2] = x at e0 e1 e2 HX HY HZ
      have HCL : Hid (ordM x ⟨q, ⟨d, n⟩⟩ < 0 ↔ ltM x ⟨q, ⟨d, n⟩⟩) := ordM_lt
      obtain ⟨py, ⟨dy, ny⟩⟩ := x
      simp only at e0 e1 e2
      have HO1 := Lib.hid (fun w => HO.out w ⟨py, ⟨dy, ny⟩⟩ ⟨q, ⟨d, n⟩⟩)
      have hmq : ((i : Int) + (j : Int)) / 2 = (((i + j) / 2 : Nat) : Int) := by omega
      have HMQ := Lib.hid hmq
      clear hmq
      generalize ordM ⟨py, ⟨dy, ny⟩⟩ ⟨q, ⟨d, n⟩⟩ = cv at *
      have HAB : Hid ((ad.add ((i + j) / 2 * 3)).block < wr.heap.size) := by show _ < _; rw [block_of_add]; have := HBd.out; omega
      go_wp2_with fail
      rw [HMQ.out]
      rw [HMQ.out] at hmi hm0
      generalize (i + j) / 2 = mid at *
      have hw3 : IntKind.i64.wrap (mid : Int) = (mid : Int) := IntWalk.i64_in _ (by omega)
      clear hlt HMQ
      by_cases hneg : cv < 0
      · have HL := Lib.hid (HCL.out.1 hneg)
        go_region_held3 (fun w' => w'.cell? (ad.add (mid * 3)) = some (.string py) ∧ w'.cell? ⟨(ad.add (mid * 3)).block, (ad.add (mid * 3)).off + 1, none⟩ = some (.int .i64 dy) ∧ w'.cell? ⟨(ad.add (mid * 3)).block, (ad.add (mid * 3)).off + 2, none⟩ = some (.int .i64 ny) ∧ w'.cell? ⟨w.heap.size, 0, none⟩ = some (.string q) ∧ w'.cell? ⟨w.heap.size, 1, none⟩ = some (.int .i64 d) ∧ w'.cell? ⟨w.heap.size, 2, none⟩ = some (.int .i64 n))
          (first | go_keep | (refine ⟨?_, ?_, ?_, ?_, ?_, ?_⟩ <;> assumption))
          (first | (go_at_call 224; refine (HO1.out _).mono ?_; rintro e3 w2 ⟨rfl, hb3'⟩; have hb3 : Below wr.heap.size wr w2 := below_of_drew hb3'; have k0 : w2.cell? (ad.add (mid * 3)) = some (.string py) := ((hb3.cell HAB.out).trans e0); have k1 : w2.cell? ⟨(ad.add (mid * 3)).block, (ad.add (mid * 3)).off + 1, none⟩ = some (.int .i64 dy) := ((hb3.cell (by exact HAB.out)).trans e1); have k2 : w2.cell? ⟨(ad.add (mid * 3)).block, (ad.add (mid * 3)).off + 2, none⟩ = some (.int .i64 ny) := ((hb3.cell (by exact HAB.out)).trans e2); have k3 : w2.cell? ⟨w.heap.size, 0, none⟩ = some (.string q) := ((hb3.cell HBd.out).trans d0); have k4 : w2.cell? ⟨w.heap.size, 1, none⟩ = some (.int .i64 d) := ((hb3.cell HBd.out).trans d1); have k5 : w2.cell? ⟨w.heap.size, 2, none⟩ = some (.int .i64 n) := ((hb3.cell HBd.out).trans d2); have HB3 := Lib.hid (HB.out.trans (hb3.mono HB.out.size)); clear hb3 hb3'))
        go_wp2_with fail
        go_roundw
        case rel =>
          refine ⟨mid + 1, j, by omega, hj, by go_num, rfl, HB3, fun k hk h => ?_, H2⟩
          rcases Nat.lt_or_ge k mid with h1 | h1
          · exact ltM_trans (HX.out k hk h1) HL.out
          · rw [HZ.out k hk (by omega)]; exact HL.out
        case measure => simp [intOf]; omega
      · have HL : Hid (¬ ltM ⟨py, ⟨dy, ny⟩⟩ ⟨q, ⟨d, n⟩⟩) := fun h => hneg (HCL.out.2 h)
        go_region_held3 (fun w' => w'.cell? (ad.add (mid * 3)) = some (.string py) ∧ w'.cell? ⟨(ad.add (mid * 3)).block, (ad.add (mid * 3)).off + 1, none⟩ = some (.int .i64 dy) ∧ w'.cell? ⟨(ad.add (mid * 3)).block, (ad.add (mid * 3)).off + 2, none⟩ = some (.int .i64 ny) ∧ w'.cell? ⟨w.heap.size, 0, none⟩ = some (.string q) ∧ w'.cell? ⟨w.heap.size, 1, none⟩ = some (.int .i64 d) ∧ w'.cell? ⟨w.heap.size, 2, none⟩ = some (.int .i64 n))
          (first | go_keep | (refine ⟨?_, ?_, ?_, ?_, ?_, ?_⟩ <;> assumption))
          (first | (go_at_call 224; refine (HO1.out _).mono ?_; rintro e3 w2 ⟨rfl, hb3'⟩; have hb3 : Below wr.heap.size wr w2 := below_of_drew hb3'; have k0 : w2.cell? (ad.add (mid * 3)) = some (.string py) := ((hb3.cell HAB.out).trans e0); have k1 : w2.cell? ⟨(ad.add (mid * 3)).block, (ad.add (mid * 3)).off + 1, none⟩ = some (.int .i64 dy) := ((hb3.cell (by exact HAB.out)).trans e1); have k2 : w2.cell? ⟨(ad.add (mid * 3)).block, (ad.add (mid * 3)).off + 2, none⟩ = some (.int .i64 ny) := ((hb3.cell (by exact HAB.out)).trans e2); have k3 : w2.cell? ⟨w.heap.size, 0, none⟩ = some (.string q) := ((hb3.cell HBd.out).trans d0); have k4 : w2.cell? ⟨w.heap.size, 1, none⟩ = some (.int .i64 d) := ((hb3.cell HBd.out).trans d1); have k5 : w2.cell? ⟨w.heap.size, 2, none⟩ = some (.int .i64 n) := ((hb3.cell HBd.out).trans d2); have HB3 := Lib.hid (HB.out.trans (hb3.mono HB.out.size)); clear hb3 hb3'))
        go_wp2_with fail
        go_roundw
        case rel =>
          refine ⟨i, mid, by omega, by omega, rfl, rfl, HB3, H1, fun k hk h hh => ?_⟩
          rcases Nat.eq_or_lt_of_le h with h1 | h1
          · rw [HZ.out k hk h1.symm] at hh; exact HL.out hh
          · exact HL.out (ltM_trans (HY.out k hk h1) hh)
        case measure => simp [intOf]; omega
    · obtain rfl : i = j := by omega
      have HA : Hid (aheadM l ⟨q, ⟨d, n⟩⟩ = i) := aheadM_of hj (fun k hk h => H1.out k hk h) (fun k hk h => H2.out k hk h)
      clear H1 H2 hlt
      by_cases hil : i < l.length
      · have hi1 : (i : Int) < (l.length : Int) := by omega
        have hi0 : (0 : Int) ≤ (i : Int) := by omega
        obtain ⟨ad, rfl, hb, e0, e1, e2⟩ := (HR.out _ HB.out).mark hil
        have HHs : Hid (hasM l ⟨q, ⟨d, n⟩⟩ = decide (ordM l[i] ⟨q, ⟨d, n⟩⟩ = 0)) := by
          show _ = _
          unfold hasM
          rw [HA.out, List.getElem?_eq_getElem hil]
        generalize l[i] = x at e0 e1 e2 HHs
        obtain ⟨py, ⟨dy, ny⟩⟩ := x
        simp only at e0 e1 e2
        have HO1 := Lib.hid (fun w => HO.out w ⟨py, ⟨dy, ny⟩⟩ ⟨q, ⟨d, n⟩⟩)
        generalize ordM ⟨py, ⟨dy, ny⟩⟩ ⟨q, ⟨d, n⟩⟩ = cv at *
        have HHb : Hid (hasM l ⟨q, ⟨d, n⟩⟩ = (cv == 0)) := by show _ = _; rw [HHs.out]; by_cases h : cv = 0 <;> simp [h]
        have HAB : Hid ((ad.add (i * 3)).block < wr.heap.size) := by show _ < _; rw [block_of_add]; have := HBd.out; omega
        have hw3 : IntKind.i64.wrap (i : Int) = (i : Int) := IntWalk.i64_in _ (by omega)
        have t1 : decide ((i : Int) < (l.length : Int)) = true := decide_eq_true hi1
        go_wp2_with fail
        go_region_held3 (fun w' => w'.cell? (ad.add (i * 3)) = some (.string py) ∧ w'.cell? ⟨(ad.add (i * 3)).block, (ad.add (i * 3)).off + 1, none⟩ = some (.int .i64 dy) ∧ w'.cell? ⟨(ad.add (i * 3)).block, (ad.add (i * 3)).off + 2, none⟩ = some (.int .i64 ny) ∧ w'.cell? ⟨w.heap.size, 0, none⟩ = some (.string q) ∧ w'.cell? ⟨w.heap.size, 1, none⟩ = some (.int .i64 d) ∧ w'.cell? ⟨w.heap.size, 2, none⟩ = some (.int .i64 n))
          (first | go_keep | (refine ⟨?_, ?_, ?_, ?_, ?_, ?_⟩ <;> assumption))
          (first | (go_at_call 224; refine (HO1.out _).mono ?_; rintro e3 w2 ⟨rfl, hb3'⟩; have hb3 : Below wr.heap.size wr w2 := below_of_drew hb3'; have k0 : w2.cell? (ad.add (i * 3)) = some (.string py) := ((hb3.cell HAB.out).trans e0); have k1 : w2.cell? ⟨(ad.add (i * 3)).block, (ad.add (i * 3)).off + 1, none⟩ = some (.int .i64 dy) := ((hb3.cell (by exact HAB.out)).trans e1); have k2 : w2.cell? ⟨(ad.add (i * 3)).block, (ad.add (i * 3)).off + 2, none⟩ = some (.int .i64 ny) := ((hb3.cell (by exact HAB.out)).trans e2); have k3 : w2.cell? ⟨w.heap.size, 0, none⟩ = some (.string q) := ((hb3.cell HBd.out).trans d0); have k4 : w2.cell? ⟨w.heap.size, 1, none⟩ = some (.int .i64 d) := ((hb3.cell HBd.out).trans d1); have k5 : w2.cell? ⟨w.heap.size, 2, none⟩ = some (.int .i64 n) := ((hb3.cell HBd.out).trans d2); have HB3 := Lib.hid (HB.out.trans (hb3.mono HB.out.size)); clear hb3 hb3'))
        go_wp2_with fail
        go_ret2
        exact ⟨by rw [HA.out, HHb.out]; rfl, HBW.out.trans (HB3.out.mono HBW.out.size)⟩
      · have hd : decide ((i : Int) < (l.length : Int)) = false := by simp; omega
        have hd2 : decide (i < l.length) = false := by simp; omega
        have HHs : Hid (hasM l ⟨q, ⟨d, n⟩⟩ = false) := by
          show _ = _
          unfold hasM
          rw [HA.out, List.getElem?_eq_none (by omega)]
        go_wp2_with fail
        go_quiet (fail)
        go_wp2_with fail
        go_ret2
        exact ⟨by rw [HA.out, HHs.out]; rfl, HBW.out.trans ((below_drewN HB.out _).mono HBW.out.size)⟩
/-- Marks and an error are given back; the marks are of the call's own. -/
def MarksPost (w : World) (l : List LMark) (k : Int) (e : Ending) (w' : World) : Prop :=
  ∃ V c, e = .returned (.tuple #[.slice V l.length c, errV k]) ∧ Own w' w.heap.size 136 3 V l.length c (mcells l) ∧ Below w.heap.size w w'
def giveM (k : Int) (l : List LMark) : List LMark := if k = 0 then l else []
theorem giveM_bad {k : Int} (h : k ≠ 0) (l : List LMark) : giveM k l = [] := if_neg h
theorem marks_none {w w' : World} {k : Int} (hb : Below w.heap.size w w') : MarksPost w [] k (.returned (.tuple #[.slice none 0 0, errV k])) w' := ⟨none, 0, rfl, Own.nil _ _ _ _, hb⟩
theorem mcells_take (l : List LMark) (i : Nat) : (mcells l).take (i * 3) = mcells (l.take i) := by
  induction l generalizing i with
  | nil => simp [mcells]
  | cons x l ih =>
    cases i with
    | zero => simp [mcells]
    | succ i =>
      show (x.cells ++ mcells l).take ((i + 1) * 3) = x.cells ++ mcells (l.take i)
      rw [← ih, List.take_append, List.take_of_length_le (by simp [LMark.cells]; omega), show (i + 1) * 3 - x.cells.length = i * 3 by simp [LMark.cells]; omega]
theorem mcells_drop (l : List LMark) (i : Nat) : (mcells l).drop (i * 3) = mcells (l.drop i) := by
  induction l generalizing i with
  | nil => simp [mcells]
  | cons x l ih =>
    cases i with
    | zero => simp [mcells]
    | succ i =>
      show (x.cells ++ mcells l).drop ((i + 1) * 3) = mcells (l.drop i)
      rw [← ih, List.drop_append, List.drop_of_length_le (by simp [LMark.cells]; omega), show (i + 1) * 3 - x.cells.length = i * 3 by simp [LMark.cells]; omega, List.nil_append]
theorem mcells_put (l : List LMark) (i : Nat) (x : LMark) : (mcells l).take (i * 3) ++ x.cells ++ (mcells l).drop (i * 3) = mcells (cutPut l i x) := by
  rw [mcells_take, mcells_drop]; simp [cutPut, mcells]
set_option maxRecDepth 100000 in
set_option maxHeartbeats 4000000 in
theorem cut_any (w : World) (A : Option Addr) (c : Nat) (l : List LMark) (m : LMark) (h : Reads w w.heap.size 3 A l.length (mcells l)) (hs : MSized l) (hn : l.length ≤ 9223372036854775807) (hm : m.place.size ≤ 9223372036854775807) :
    Calls Tryz.prog 189 #[.slice A l.length c, .agg #[.string m.place, .int .i64 m.dot.who, .int .i64 m.dot.n]] w (MarksPost w (giveM (cutErr l m) (cutRes l m)) (cutErr l m)) := by
  obtain ⟨W0, hW0⟩ : ∃ W0, W0 = w.alloc (.cells #[.string m.place, .int .i64 m.dot.who, .int .i64 m.dot.n] 136) := ⟨_, rfl⟩
  have HSZ : Hid (w.heap.size < W0.heap.size) := by show _ < _; rw [hW0]; simp
  have HBW : Hid (Below w.heap.size w W0) := by show Below _ _ _; rw [hW0]; exact (Below.refl _ _).alloc (Nat.le_refl _) _
  have HR : Hid (∀ W, Below W0.heap.size W0 W → Reads W W.heap.size 3 A l.length (mcells l)) := fun W hb => ((((h.below HBW.out).more HBW.out.size).below hb).more hb.size)
  have HBK : Hid (∀ W, Below W0.heap.size W0 W → W.cell? ⟨w.heap.size, 0, none⟩ = some (.string m.place) ∧ W.cell? ⟨w.heap.size, 1, none⟩ = some (.int .i64 m.dot.who) ∧ W.cell? ⟨w.heap.size, 2, none⟩ = some (.int .i64 m.dot.n)) := fun W hb => by
    have h0 : Blk W0 w.heap.size 136 #[.string m.place, .int .i64 m.dot.who, .int .i64 m.dot.n] := by rw [hW0]; exact Blk.new w _ _
    have h1 := h0.below hb HSZ.out
    exact ⟨by rw [h1.cell]; rfl, by rw [h1.cell]; rfl, by rw [h1.cell]; rfl⟩
  have HC := Lib.hid (fun W (hb : Below W0.heap.size W0 W) => marksCheck_any W A c l (HR.out W hb) hs hn)
  have HM := Lib.hid (fun W => markOne_any W m hm)
  clear h hs
  obtain ⟨q, ⟨d, n⟩⟩ := m
  simp only at hW0 HBK HM
  have HB0 : Hid (Below W0.heap.size W0 W0) := Below.refl _ _
  by_cases he : marksErr l = 0
  · have HE := Lib.hid he
    have ok := marks_ok' he
    have hfew := ok.few
    have HS := Lib.hid (fun W (hb : Below W0.heap.size W0 W) => msearch_any W A c l ⟨q, ⟨d, n⟩⟩ (HR.out W hb) (by omega) ok.rising)
    by_cases hq : markErr ⟨q, ⟨d, n⟩⟩ = 0
    · have HQ := Lib.hid hq
      have hal := aheadM_le l ⟨q, ⟨d, n⟩⟩
      have HCL := Lib.hid (fun w3 (h3 : Below W0.heap.size W0 w3) W (hb : Below w3.heap.size w3 W) c => cloneM W w3.heap.size A l.length c (mcells l) ((HR.out w3 h3).below hb) (oneCells_m l) (Fits.of_small (by omega) (by decide)) hb.size)
      cases hh : hasM l ⟨q, ⟨d, n⟩⟩ with
      | true =>
        have HF : Hid (cutErr l ⟨q, ⟨d, n⟩⟩ = 0 ∧ cutRes l ⟨q, ⟨d, n⟩⟩ = l) := ⟨by unfold cutErr; rw [if_neg (fun x => x he), if_neg (fun x => x hq), if_pos hh], if_pos hh⟩
        have HHs := Lib.hid hh
        clear he hq hh ok
        go_enter Tryz.func189, Tryz.ntmps189
        go_wp2_with fail
        rw [← hW0]
        clear hW0
        refine (HC.out _ HB0.out).mono ?_
        rintro e w1 ⟨rfl, hb1⟩
        rw [HE.out, show errV 0 = .nilIface from rfl]
        have HB1 := Lib.hid hb1
        obtain ⟨d0, d1, d2⟩ := HBK.out _ hb1
        clear hb1
        go_wp2_with fail
        refine (HM.out _).mono ?_
        rintro e w2 ⟨rfl, hb2⟩
        rw [HQ.out, show errV 0 = .nilIface from rfl]
        have HB2 := Lib.hid (HB1.out.trans (hb2.mono HB1.out.size))
        clear hb2 d0 d1 d2
        obtain ⟨d0, d1, d2⟩ := HBK.out _ HB2.out
        go_wp2_with fail
        refine (HS.out _ HB2.out).mono ?_
        rintro e w3 ⟨rfl, hb3⟩
        rw [HHs.out]
        have HB3 := Lib.hid (HB2.out.trans (hb3.mono HB2.out.size))
        clear hb3 d0 d1 d2
        go_wp2_with fail
        refine (HCL.out _ HB3.out _ (Below.refl _ _) _).mono ?_
        rintro e w4 ⟨V, cV, rfl, hO, hb4⟩
        have HB4 : Hid (Below w.heap.size w w4) := HBW.out.trans ((HB3.out.trans (hb4.mono HB3.out.size)).mono HBW.out.size)
        have HO := Lib.hid (hO.mono (Nat.le_trans HBW.out.size HB3.out.size))
        clear hO hb4
        go_wp2_with fail
        go_ret2
        rw [HF.out.1, HF.out.2, giveM, if_pos rfl]
        exact ⟨V, cV, rfl, HO.out, HB4.out⟩
      | false =>
        have HHs := Lib.hid hh
        have HN2 := Lib.hid (fun hlt => cut_zero ok hq (.inr hlt) : l.length < 40 → cutErr l ⟨q, ⟨d, n⟩⟩ = 0)
        have HN4 : Hid (40 ≤ l.length → cutErr l ⟨q, ⟨d, n⟩⟩ = 4) := fun h4 => by unfold cutErr; rw [if_neg (fun x => x he), if_neg (fun x => x hq), if_neg (by rw [hh]; decide), if_pos h4]
        have HRS : Hid (cutRes l ⟨q, ⟨d, n⟩⟩ = cutPut l (aheadM l ⟨q, ⟨d, n⟩⟩) ⟨q, ⟨d, n⟩⟩) := by show _ = _; unfold cutRes; rw [if_neg (by rw [hh]; decide)]
        have HP : Hid ((cutPut l (aheadM l ⟨q, ⟨d, n⟩⟩) ⟨q, ⟨d, n⟩⟩).length = l.length + 1) := cutPut_len _ _ _ hal
        have HPC := Lib.hid (mcells_put l (aheadM l ⟨q, ⟨d, n⟩⟩) ⟨q, ⟨d, n⟩⟩)
        have HIN := Lib.hid (fun W B c vb V (hO : Own W B 136 3 V l.length c (mcells l)) (hV : Blk W vb 136 #[.string q, .int .i64 d, .int .i64 n]) (hne : vb ∉ ob V) (hB : B ≤ W.heap.size) =>
          InsMark.any W B c l.length vb (mcells l) (LMark.cells ⟨q, ⟨d, n⟩⟩) (aheadM l ⟨q, ⟨d, n⟩⟩) V hO hV rfl hne (oneCells_m l) (by intro u hu; simp [LMark.cells] at hu; rcases hu with rfl | rfl | rfl <;> rfl) (by omega) hB hal)
        clear he hq hh ok
        go_enter Tryz.func189, Tryz.ntmps189
        go_wp2_with fail
        rw [← hW0]
        clear hW0
        refine (HC.out _ HB0.out).mono ?_
        rintro e w1 ⟨rfl, hb1⟩
        rw [HE.out, show errV 0 = .nilIface from rfl]
        have HB1 := Lib.hid hb1
        obtain ⟨d0, d1, d2⟩ := HBK.out _ hb1
        clear hb1
        go_wp2_with fail
        refine (HM.out _).mono ?_
        rintro e w2 ⟨rfl, hb2⟩
        rw [HQ.out, show errV 0 = .nilIface from rfl]
        have HB2 := Lib.hid (HB1.out.trans (hb2.mono HB1.out.size))
        clear hb2 d0 d1 d2
        obtain ⟨d0, d1, d2⟩ := HBK.out _ HB2.out
        go_wp2_with fail
        refine (HS.out _ HB2.out).mono ?_
        rintro e w3 ⟨rfl, hb3⟩
        rw [HHs.out]
        have HB3 := Lib.hid (HB2.out.trans (hb3.mono HB2.out.size))
        clear hb3 d0 d1 d2
        obtain ⟨d0, d1, d2⟩ := HBK.out _ HB3.out
        generalize aheadM l ⟨q, ⟨d, n⟩⟩ = i at *
        by_cases h40 : 40 ≤ l.length
        · have g1 : decide ((l.length : Int) ≥ 40) = true := decide_eq_true (by omega)
          have HF := Lib.hid (HN4.out h40)
          clear h40
          go_wp2_with fail
          go_ret2
          rw [HF.out, giveM_bad (by decide)]
          exact marks_none (HBW.out.trans (HB3.out.mono HBW.out.size))
        · have g1 : decide ((l.length : Int) ≥ 40) = false := decide_eq_false (by omega)
          have HF := Lib.hid (HN2.out (by omega))
          have HCL3 := Lib.hid (fun W (hb : Below w3.heap.size w3 W) c => HCL.out w3 HB3.out W hb c)
          have HBd : Hid (w.heap.size < w3.heap.size) := Nat.lt_of_lt_of_le HSZ.out HB3.out.size
          clear HN2 HN4
          go_wp2_with fail
          go_region_held3 (fun w' => w'.cell? ⟨w.heap.size, 0, none⟩ = some (.string q) ∧ w'.cell? ⟨w.heap.size, 1, none⟩ = some (.int .i64 d) ∧ w'.cell? ⟨w.heap.size, 2, none⟩ = some (.int .i64 n))
            (first | go_keep | (refine ⟨?_, ?_, ?_⟩ <;> assumption))
            (first
              | (go_at_call 75; refine (HCL3.out _ (by first | exact (Below.refl _ _).drew | exact ((Below.refl _ _).alloc (Nat.le_refl _) _).drew) _).mono ?_; rintro e1 w4 ⟨V, cV, rfl, hO, hb⟩; have k0 : w4.cell? ⟨w.heap.size, 0, none⟩ = some (.string q) := ((hb.cell (by first | exact HBd.out | (simp; have := HBd.out; omega))).trans (by first | exact d0 | (exact (World.cell?_alloc_lt _ _ _ (by exact HBd.out)).trans d0))); have k1 : w4.cell? ⟨w.heap.size, 1, none⟩ = some (.int .i64 d) := ((hb.cell (by first | exact HBd.out | (simp; have := HBd.out; omega))).trans (by first | exact d1 | (exact (World.cell?_alloc_lt _ _ _ (by exact HBd.out)).trans d1))); have k2 : w4.cell? ⟨w.heap.size, 2, none⟩ = some (.int .i64 n) := ((hb.cell (by first | exact HBd.out | (simp; have := HBd.out; omega))).trans (by first | exact d2 | (exact (World.cell?_alloc_lt _ _ _ (by exact HBd.out)).trans d2))); have hz : w3.heap.size ≤ w4.heap.size := (by have := hb.size; simp at this; omega); have HBd4 : Hid (w.heap.size < w4.heap.size) := (by show _ < _; have := HBd.out; omega); have HNV : Hid (∀ g ∈ ob V, w3.heap.size ≤ g) := (fun g hg => by have := (hO.lt g hg).1; simp at this; omega); have HO := Lib.hid hO; have HB := Lib.hid hb; have HBW4 : Hid (Below w3.heap.size w3 w4) := (by first | exact (Below.refl _ _).drew.trans hb | exact (((Below.refl _ _).alloc (Nat.le_refl _) _).drew).trans (hb.mono (by simp <;> omega))); clear hO hb)
              | (go_at_call 225; refine (HIN.out _ w3.heap.size cV _ V (by first | exact HO.out.mono (by simp <;> omega) | exact (HO.out.mono (by simp <;> omega)).alloc _) (by first | exact Blk.new _ _ _ | exact (blk_new_at (by simp)).drew.below HB.out (by simp <;> omega)) (by intro hm; have h1 := (HO.out.lt _ hm).1; have h2 := (HO.out.lt _ hm).2; first | omega | (simp at h1; omega)) (by first | exact hz | omega | (simp <;> omega))).mono ?_; rintro e2 w5 ⟨V2, cV2, rfl, hO2, hl2, hg2⟩; have j0 : w5.cell? ⟨w.heap.size, 0, none⟩ = some (.string q) := ((hl2.cell (by first | (have := HBd4.out; omega) | (simp; have := HBd4.out; omega)) (fun hm => by have h1 := HNV.out _ hm; have h2 := HBd.out; simp at h1; omega)).trans (by first | exact k0 | (exact (World.cell?_alloc_lt _ _ _ (by exact HBd4.out)).trans k0))); have j1 : w5.cell? ⟨w.heap.size, 1, none⟩ = some (.int .i64 d) := ((hl2.cell (by first | (have := HBd4.out; omega) | (simp; have := HBd4.out; omega)) (fun hm => by have h1 := HNV.out _ hm; have h2 := HBd.out; simp at h1; omega)).trans (by first | exact k1 | (exact (World.cell?_alloc_lt _ _ _ (by exact HBd4.out)).trans k1))); have j2 : w5.cell? ⟨w.heap.size, 2, none⟩ = some (.int .i64 n) := ((hl2.cell (by first | (have := HBd4.out; omega) | (simp; have := HBd4.out; omega)) (fun hm => by have h1 := HNV.out _ hm; have h2 := HBd.out; simp at h1; omega)).trans (by first | exact k2 | (exact (World.cell?_alloc_lt _ _ _ (by exact HBd4.out)).trans k2)))))
          all_goals
            go_wp2_with fail
            go_ret2
            rw [HF.out, HRS.out, giveM, if_pos rfl]
            have hb2 := hl2.below (B := w3.heap.size) (by first | omega | (simp <;> omega)) (fun g hg => HNV.out g hg)
            have hb5 : Below w3.heap.size w3 w5 := by
              first
                | exact HBW4.out.trans hb2
                | exact (HBW4.out.alloc (by omega) _).trans hb2
            refine ⟨V2, cV2, by rw [HP.out]; rfl, by rw [HP.out, ← HPC.out]; exact hO2.mono (Nat.le_trans HBW.out.size HB3.out.size), HBW.out.trans ((HB3.out.trans (hb5.mono HB3.out.size)).mono HBW.out.size)⟩
    · have HV := Lib.hid (errV_ne hq)
      have HF : Hid (cutErr l ⟨q, ⟨d, n⟩⟩ = markErr ⟨q, ⟨d, n⟩⟩) := by show _ = _; unfold cutErr; rw [if_neg (fun x => x he), if_pos hq]
      have HN := Lib.hid hq
      clear he hq ok
      go_enter Tryz.func189, Tryz.ntmps189
      go_wp2_with fail
      rw [← hW0]
      clear hW0
      refine (HC.out _ HB0.out).mono ?_
      rintro e w1 ⟨rfl, hb1⟩
      rw [HE.out, show errV 0 = .nilIface from rfl]
      have HB1 := Lib.hid hb1
      obtain ⟨d0, d1, d2⟩ := HBK.out _ hb1
      clear hb1
      go_wp2_with fail
      refine (HM.out _).mono ?_
      rintro e w2 ⟨rfl, hb2⟩
      rw [HV.out]
      have HB2 := Lib.hid (HB1.out.trans (hb2.mono HB1.out.size))
      clear hb2
      go_wp2_with fail
      go_ret2
      rw [HF.out, giveM_bad HN.out, ← HV.out]
      exact marks_none (HBW.out.trans (HB2.out.mono HBW.out.size))
  · have HV := Lib.hid (errV_ne he)
    have HF : Hid (cutErr l ⟨q, ⟨d, n⟩⟩ = marksErr l) := by show _ = _; unfold cutErr; rw [if_pos he]
    have HN := Lib.hid he
    clear he
    go_enter Tryz.func189, Tryz.ntmps189
    go_wp2_with fail
    rw [← hW0]
    clear hW0
    refine (HC.out _ HB0.out).mono ?_
    rintro e w1 ⟨rfl, hb1⟩
    rw [HV.out]
    have HB1 := Lib.hid hb1
    clear hb1
    go_wp2_with fail
    go_ret2
    rw [HF.out, giveM_bad HN.out, ← HV.out]
    exact marks_none (HBW.out.trans (HB1.out.mono HBW.out.size))
end Go.Proofs.YthfbjfocmnikaaaGreatDoor
