/- leafref2.Least, walked: the least cost from one text to another one. Conditions: texts of at most 200 bytes. -/
import Derived.Deep.CutBlock
import Derived.Test.YteiadcdaleckjaaDoorDiffTab
import Derived.Test.YteiadcdaleckjaaDoorLeastLaw
namespace Go.Proofs.YteiadcdaleckjaaDoor
open Go.RowKit
set_option linter.unusedVariables false
def DF (a b : ByteArray) (i j : Nat) : Nat := Df.dd (a.data.toList.take i) (b.data.toList.take j)
/-- A row that is filled up to k. -/
def NF (F : Nat → Nat) (k q : Nat) : Nat := if q ≤ k then F q else 0
theorem take_at (a : ByteArray) (i : Nat) (h : i < a.size) : a.data.toList.take (i + 1) = a.data.toList.take i ++ [a[i]] := by
  rw [List.take_succ_eq_append_getElem (by rw [Array.length_toList]; exact h)]
  rfl
theorem take_len (a : ByteArray) (i : Nat) (h : i ≤ a.size) : (a.data.toList.take i).length = i := by
  rw [List.length_take, Array.length_toList, show a.data.size = a.size from rfl]; omega
theorem DF_zero {a b : ByteArray} {j : Nat} (hj : j ≤ b.size) : DF a b 0 j = j := by
  unfold DF
  rw [List.take_zero, Df.dd_nil, take_len b j hj]
theorem DF_left {a b : ByteArray} {i : Nat} (hi : i ≤ a.size) : DF a b i 0 = i := by
  unfold DF
  rw [List.take_zero, Df.dd_nil_right, take_len a i hi]
theorem DF_le {a b : ByteArray} {i j : Nat} (hi : i ≤ a.size) (hj : j ≤ b.size) : DF a b i j ≤ i + j := by
  unfold DF Df.dd
  rw [take_len a i hi, take_len b j hj]; omega
theorem DF_step {a b : ByteArray} {i j : Nat} (hi : i < a.size) (hj : j < b.size) : (DF a b (i + 1) (j + 1) : Int) = Df.step (DF a b i (j + 1)) (DF a b (i + 1) j) (DF a b i j) (a[i] == b[j]) := by
  unfold DF
  rw [take_at a i hi, take_at b j hj, Df.dd_snoc]
theorem DF_all (a b : ByteArray) : DF a b a.size b.size + 2 * Df.lcs a.data.toList b.data.toList = a.size + b.size := by
  unfold DF Df.dd
  have e1 : a.data.toList.take a.size = a.data.toList := List.take_of_length_le (by rw [Array.length_toList]; exact Nat.le_refl _)
  have e2 : b.data.toList.take b.size = b.data.toList := List.take_of_length_le (by rw [Array.length_toList]; exact Nat.le_refl _)
  have h := Df.lcs_le a.data.toList b.data.toList
  rw [Array.length_toList, Array.length_toList, show a.data.size = a.size from rfl, show b.data.size = b.size from rfl] at h
  rw [e1, e2, Array.length_toList, Array.length_toList, show a.data.size = a.size from rfl, show b.data.size = b.size from rfl]
  omega
def FillL (w : World) (g m : Nat) (i : Value) (wr : World) : Prop := ∃ k : Nat, k ≤ m + 1 ∧ i = .int .i64 k ∧ Hid (Blk wr g 3 (rowCells m fun q => if q < k then q else 0)) ∧ Hid (Below w.heap.size w wr)
def OutL (w : World) (a b : ByteArray) (row i : Value) (wr : World) : Prop :=
  ∃ j g : Nat, j ≤ a.size ∧ i = .int .i64 ((j : Int) + 1) ∧ row = .slice (some ⟨g, 0, none⟩) (b.size + 1) (b.size + 1) ∧ w.heap.size ≤ g ∧ Hid (Blk wr g 3 (rowCells b.size (DF a b j))) ∧ Hid (Below w.heap.size w wr)
def InL (w : World) (a b : ByteArray) (j g g2 : Nat) (k : Value) (wr : World) : Prop :=
  ∃ q : Nat, q ≤ b.size ∧ k = .int .i64 ((q : Int) + 1) ∧ Hid (Blk wr g 3 (rowCells b.size (DF a b j))) ∧ Hid (Blk wr g2 3 (rowCells b.size (NF (DF a b (j + 1)) q))) ∧ Hid (Below w.heap.size w wr)
set_option maxRecDepth 100000 in
set_option maxHeartbeats 8000000 in
theorem rleast_any (w : World) (a b : ByteArray) (ha : a.size ≤ 200) (hb : b.size ≤ 200) :
    Calls Tryd.prog 9 #[.string a, .string b] w (CheckPost w (.int .i64 (DF a b a.size b.size : Int))) := by
  have hmk := fun W => run_make_row' (P := Tryd.prog) 60 3 (.int .i64 0) 8 Tryd.underlying60 (by kernel_rfl) rfl .i64 .i64 (b.size + 1) (by omega) (by omega) W
  rw [made_row] at hmk
  simp only [Int.natCast_add, Int.natCast_one] at hmk
  have HB0 : Hid (Blk (w.alloc (.cells (rowCells b.size fun _ => 0) 3)) w.heap.size 3 (rowCells b.size fun q => if q < 0 then q else 0)) := by
    have := Blk.new w 3 (rowCells b.size fun _ => 0)
    rw [rowCells_congr (F := fun q => if q < 0 then q else 0) (G := fun _ => 0) (fun k hk => if_neg (by omega))]
    exact this
  have HL0 : Hid (Below w.heap.size w (w.alloc (.cells (rowCells b.size fun _ => 0) 3))) := (Below.refl _ _).alloc (Nat.le_refl _) _
  generalize hR : (rowCells b.size fun _ => 0) = R at hmk HB0 HL0
  have HR := Lib.hid hR
  clear hR
  go_enter Tryd.func9, Tryd.ntmps9
  go_upto_block 0 with (fail)
  go_cut [] (fun wx => Hid (Blk wx w.heap.size 3 (rowCells b.size (DF a b 0))) ∧ Hid (Below w.heap.size w wx))
  case first =>
    go_wp2_with fail
    go_loopw [6] (fun i wr => FillL w w.heap.size b.size i wr) (fun i _ => b.size + 1 - (intOf i).toNat)
    case atStart => exact ⟨0, by omega, rfl, HB0, HL0⟩
    case round =>
      obtain ⟨k, hk, rfl, HB, HL⟩ := hrel
      clear hmk HB0 HL0
      have k0 : (0 : Int) ≤ (k : Int) := by omega
      by_cases hlt : k < b.size + 1
      · have k1 : (k : Int) ≤ (b.size : Int) := by omega
        have k2 : (k : Int) < (b.size : Int) + 1 := by omega
        have c0 : wr.cell? ⟨w.heap.size, k, none⟩ = some (.int .i64 0) := by rw [HB.out.cell, rowCells_at (by omega), if_neg (by omega)]; rfl
        have f0 : wr.frozen? ⟨w.heap.size, k, none⟩ = false := HB.out.frozen k
        have HB2 : Hid (Blk (wr.setCell ⟨w.heap.size, k, none⟩ (.int .i64 (k : Int))) w.heap.size 3 (rowCells b.size fun q => if q < k + 1 then q else 0)) := by
          rw [← rowCells_set (F := fun q => if q < k then q else 0) (q := k) (v := k) (fun q hq => by
            by_cases h : q = k
            · rw [if_pos h, if_pos (by omega)]; exact h
            · rw [if_neg h]
              by_cases h2 : q < k
              · rw [if_pos h2, if_pos (by omega)]
              · rw [if_neg h2, if_neg (by omega)])]
          exact HB.out.set_ _ _
        have HL2 : Hid (Below w.heap.size w (wr.setCell ⟨w.heap.size, k, none⟩ (.int .i64 (k : Int)))) := HL.out.setCell (Nat.le_refl _) _
        go_wp2_with fail
        go_roundw
        case rel => exact ⟨k + 1, by omega, by go_num, HB2, HL2⟩
        case measure => simp [intOf]; omega
      · have k1 : ¬ (k : Int) ≤ (b.size : Int) := by omega
        have HF : Hid (Blk wr w.heap.size 3 (rowCells b.size (DF a b 0))) := by
          rw [rowCells_congr (F := DF a b 0) (G := fun q => if q < k then q else 0) (fun q hq => by rw [DF_zero hq, if_pos (by omega)])]
          exact HB.out
        go_wp2_with fail
        go_meet
        case rel => exact ⟨HF, HL⟩
  case rest =>
    obtain ⟨HB1, HL1⟩ := hcut
    obtain ⟨w1, hw1⟩ : ∃ x : World, x = wc := ⟨_, rfl⟩
    subst hw1
    clear HB0 HL0
    go_wp2_with fail
    go_loopw [5, 7] (fun r i wr => OutL w a b r i wr) (fun _ i _ => (a.size + 1 - intOf i).toNat)
    case atStart => exact ⟨0, w.heap.size, Nat.zero_le _, rfl, rfl, Nat.le_refl _, HB1, HL1⟩
    case round =>
      obtain ⟨j, g, hj, rfl, rfl, hg, HB, HL⟩ := hrel
      clear HB1 HL1
      have j0 : (0 : Int) ≤ (j : Int) := by omega
      by_cases hlt : j < a.size
      · have j1 : (j : Int) + 1 ≤ (a.size : Int) := by omega
        have hm := hmk wr
        have hgl := HB.out.lt
        obtain ⟨g2, hg2⟩ : ∃ g2, g2 = wr.heap.size := ⟨_, rfl⟩
        have HBa := Lib.hid (HB.out.alloc (.cells R 3))
        have HNa : Hid (Blk (wr.alloc (.cells R 3)) g2 3 (rowCells b.size fun _ => 0)) := by
          have := Blk.new wr 3 R
          rw [← HR.out] at this ⊢
          rw [hg2]
          exact this
        have HLa := Lib.hid (HL.out.alloc HL.out.size (.cells R 3))
        have hws : w.heap.size ≤ wr.heap.size := HL.out.size
        rw [← hg2] at hm
        have hgg : g ≠ g2 := by omega
        have hwg : w.heap.size ≤ g2 := by omega
        clear hg2 hgl
        generalize wr.alloc (.cells R 3) = wa at *
        have c0 : wa.cell? ⟨g2, 0, none⟩ = some (.int .i64 0) := by rw [HNa.out.cell, rowCells_at (by omega)]; rfl
        have f0 : wa.frozen? ⟨g2, 0, none⟩ = false := HNa.out.frozen 0
        have HN0 : Hid (Blk (wa.setCell ⟨g2, 0, none⟩ (.int .i64 ((j : Int) + 1))) g2 3 (rowCells b.size (NF (DF a b (j + 1)) 0))) := by
          rw [← rowCells_set (F := fun _ => 0) (q := 0) (v := j + 1) (fun q hq => by
            unfold NF
            by_cases h : q = 0
            · rw [if_pos (by omega), if_pos h, h, DF_left (by omega)]
            · rw [if_neg (by omega), if_neg h])]
          have := HNa.out.set_ 0 (.int .i64 ((j : Int) + 1))
          rw [show (((j + 1 : Nat) : Nat) : Int) = (j : Int) + 1 by omega]
          exact this
        have HBn := Lib.hid (HBa.out.far (p := ⟨g2, 0, none⟩) (by simpa using hgg) (.int .i64 ((j : Int) + 1)))
        have HLn := Lib.hid (HLa.out.setCell (p := ⟨g2, 0, none⟩) hwg (.int .i64 ((j : Int) + 1)))
        clear c0 f0
        have c0 : wa.cell? ⟨g2, 0, none⟩ = some (.int .i64 0) := by rw [HNa.out.cell, rowCells_at (by omega)]; rfl
        have f0 : wa.frozen? ⟨g2, 0, none⟩ = false := HNa.out.frozen 0
        have m0 : (0 : Int) < (b.size : Int) + 1 := by omega
        clear HBa HNa HLa hmk
        go_upto_block 4 with (fail)
        obtain ⟨wn, hwn⟩ : ∃ wn, wn = wa.setCell ⟨g2, 0, none⟩ (.int .i64 ((j : Int) + 1)) := ⟨_, rfl⟩
        rw [← hwn] at HN0 HBn HLn ⊢
        clear hwn c0 f0
        go_cut [] (fun wx => Hid (Blk wx g2 3 (rowCells b.size (DF a b (j + 1)))) ∧ Hid (Below w.heap.size w wx))
        case first =>
          go_wp2_with fail
          go_loopw [9] (fun k wr => InL w a b j g g2 k wr) (fun k _ => (b.size + 1 - intOf k).toNat)
          case atStart => exact ⟨0, Nat.zero_le _, rfl, HBn, HN0, HLn⟩
          case round =>
            obtain ⟨q, hq, rfl, HB3, HN3, HL3⟩ := hrel
            clear HN0 HBn HLn
            have q0 : (0 : Int) ≤ (q : Int) := by omega
            by_cases hq2 : q < b.size
            · have q1 : (q : Int) + 1 ≤ (b.size : Int) := by omega
              have b1 := DF_le (a := a) (b := b) (i := j) (j := q + 1) hj (by omega)
              have b2 := DF_le (a := a) (b := b) (i := j + 1) (j := q) (by omega) (by omega)
              have b3 := DF_le (a := a) (b := b) (i := j) (j := q) hj (by omega)
              have HS := Lib.hid (DF_step (a := a) (b := b) hlt hq2)
              have HC : Hid (∀ W, Blk W g 3 (rowCells b.size (DF a b j)) → W.cell? ⟨g, q + 1, none⟩ = some (.int .i64 (DF a b j (q + 1) : Int)) ∧ W.cell? ⟨g, q, none⟩ = some (.int .i64 (DF a b j q : Int))) := fun W h => ⟨by rw [h.cell, rowCells_at (by omega)], by rw [h.cell, rowCells_at (by omega)]⟩
              have HC2 : Hid (∀ W, Blk W g2 3 (rowCells b.size (NF (DF a b (j + 1)) q)) → W.cell? ⟨g2, q, none⟩ = some (.int .i64 (DF a b (j + 1) q : Int)) ∧ W.cell? ⟨g2, q + 1, none⟩ = some (.int .i64 0)) := fun W h => by
                refine ⟨?_, ?_⟩
                · rw [h.cell, rowCells_at (by omega)]
                  unfold NF
                  rw [if_pos (Nat.le_refl _)]
                · rw [h.cell, rowCells_at (by omega)]
                  unfold NF
                  rw [if_neg (by omega)]
                  rfl
              have HNX : Hid (∀ W (v : Int), Blk W g2 3 (rowCells b.size (NF (DF a b (j + 1)) q)) → (DF a b (j + 1) (q + 1) : Int) = v → Blk (W.setCell ⟨g2, q + 1, none⟩ (.int .i64 v)) g2 3 (rowCells b.size (NF (DF a b (j + 1)) (q + 1)))) := fun W v h hv => by
                subst hv
                rw [← rowCells_set (F := NF (DF a b (j + 1)) q) (q := q + 1) (v := DF a b (j + 1) (q + 1)) (fun k hk => by
                  unfold NF
                  by_cases h : k = q + 1
                  · rw [if_pos (by omega), if_pos h, h]
                  · rw [if_neg h]
                    by_cases h2 : k ≤ q
                    · rw [if_pos h2, if_pos (by omega)]
                    · rw [if_neg h2, if_neg (by omega)])]
                exact h.set_ _ _
              obtain ⟨c1, c2⟩ := HC.out wr HB3.out
              obtain ⟨c3, c4⟩ := HC2.out wr HN3.out
              generalize DF a b j (q + 1) = up at *
              generalize DF a b j q = dg at *
              generalize DF a b (j + 1) q = lf at *
              have t1 : ((q : Int) + 1).toNat = q + 1 := by omega
              have t2 : (0 : Int) ≤ (q : Int) + 1 := by omega
              have t3 : (q : Int) + 1 < (b.size : Int) + 1 := by omega
              have t4 : (q : Int) < (b.size : Int) + 1 := by omega
              have t5 : (q : Int) < (b.size : Int) := by omega
              have t6 : (j : Int) < (a.size : Int) := by omega
              have qs : IntKind.i64.wrap ((q : Int) + 1 - 1) = (q : Int) := by rw [IntWalk.i64_in _ (by omega)]; omega
              have js : IntKind.i64.wrap ((j : Int) + 1 - 1) = (j : Int) := by rw [IntWalk.i64_in _ (by omega)]; omega
              have v1 : IntKind.i64.wrap ((up : Int) + 1) = (up : Int) + 1 := IntWalk.i64_in _ (by omega)
              have v2 : IntKind.i64.wrap ((lf : Int) + 1) = (lf : Int) + 1 := IntWalk.i64_in _ (by omega)
              obtain ⟨n1, hn1⟩ : ∃ n1 : Int, n1 = if (lf : Int) + 1 < (up : Int) + 1 then (lf : Int) + 1 else (up : Int) + 1 := ⟨_, rfl⟩
              obtain ⟨n2, hn2⟩ : ∃ n2 : Int, n2 = Df.step up lf dg (a[j] == b[q]) := ⟨_, rfl⟩
              have HN1 := Lib.hid hn1
              have HN2 : Hid (n2 = if (a[j] == b[q]) = true ∧ (dg : Int) < n1 then (dg : Int) else n1) := by show _ = _; rw [hn2, hn1]; rfl
              rw [← hn2] at HS
              have n1b : -1000 ≤ n1 ∧ n1 ≤ 1000 := by rw [hn1]; split <;> omega
              have n1b0 := n1b.1
              have n1b1 := n1b.2
              clear hn1 hn2 n1b b1 b2 b3
              go_upto_if 56 with (fail)
              go_cut [10] (fun v wx => v = .int .i64 n1 ∧ wx = wr)
              case first =>
                by_cases h1 : (lf : Int) + 1 < (up : Int) + 1
                · have HE : Hid (n1 = (lf : Int) + 1) := by show _ = _; rw [HN1.out, if_pos h1]
                  go_wp2_with fail
                  go_meet
                  case rel => exact ⟨by rw [HE.out], rfl⟩
                · have HE : Hid (n1 = (up : Int) + 1) := by show _ = _; rw [HN1.out, if_neg h1]
                  go_wp2_with fail
                  go_meet
                  case rel => exact ⟨by rw [HE.out], rfl⟩
              case rest =>
                obtain ⟨rfl, hwc⟩ := hcut
                rw [hwc]
                clear hwc HN1
                go_upto_region 17 with (fail)
                go_cut [80] (fun v wx => v = .bool ((a[j] == b[q]) && decide ((dg : Int) < n1)) ∧ ∃ n, wx = wr.drewN n)
                case first =>
                  by_cases hab : a[j] = b[q]
                  · have g1 : ((a[j].toNat : Int) == (b[q].toNat : Int)) = true := by rw [hab]; simp
                    have HG : Hid ((a[j] == b[q]) = true) := by show _ = _; rw [hab]; simp
                    clear hab
                    by_cases hd : (dg : Int) < n1
                    · have g2' : decide ((dg : Int) < n1) = true := decide_eq_true hd
                      go_quiet (fail)
                      go_wp2_with fail
                      go_meet
                      case rel => exact ⟨by rw [HG.out, g2']; rfl, _, rfl⟩
                    · have g2' : decide ((dg : Int) < n1) = false := decide_eq_false hd
                      go_quiet (fail)
                      go_wp2_with fail
                      go_meet
                      case rel => exact ⟨by rw [HG.out, g2']; rfl, _, rfl⟩
                  · have g1 : ((a[j].toNat : Int) == (b[q].toNat : Int)) = false := by simp; intro h; exact hab (UInt8.toNat_inj.1 (by omega))
                    have HG : Hid ((a[j] == b[q]) = false) := by show _ = _; simpa using hab
                    clear hab
                    go_quiet (fail)
                    go_wp2_with fail
                    go_meet
                    case rel => exact ⟨by rw [HG.out]; rfl, _, rfl⟩
                case rest =>
                  obtain ⟨rfl, nq, hwc⟩ := hcut
                  have HB4 : Hid (Blk wc g 3 (rowCells b.size (DF a b j))) := by rw [hwc]; exact HB3.out.drewN nq
                  have HN4 : Hid (Blk wc g2 3 (rowCells b.size (NF (DF a b (j + 1)) q))) := by rw [hwc]; exact HN3.out.drewN nq
                  have HL4 : Hid (Below w.heap.size w wc) := by rw [hwc]; exact below_drewN HL3.out nq
                  obtain ⟨w4, hw4⟩ : ∃ x : World, x = wc := ⟨_, rfl⟩
                  subst hw4
                  clear hwc HB3 HN3 HL3 c1 c2 c3 c4
                  obtain ⟨c1, c2⟩ := HC.out w4 HB4.out
                  obtain ⟨c3, c4⟩ := HC2.out w4 HN4.out
                  have f4 : w4.frozen? ⟨g2, q + 1, none⟩ = false := HN4.out.frozen (q + 1)
                  have HN5 := Lib.hid (HNX.out w4 n2 HN4.out HS.out)
                  have HB5 := Lib.hid (HB4.out.far (p := ⟨g2, q + 1, none⟩) (by simpa using hgg) (.int .i64 n2))
                  have HL5 := Lib.hid (HL4.out.setCell (p := ⟨g2, q + 1, none⟩) hwg (.int .i64 n2))
                  clear HNX HS HB4 HN4 HL4 HC HC2
                  cases hc : ((a[j] == b[q]) && decide ((dg : Int) < n1)) with
                  | true =>
                    obtain rfl : n2 = (dg : Int) := by
                      rw [Bool.and_eq_true, decide_eq_true_eq] at hc
                      rw [HN2.out, if_pos hc]
                    clear hc HN2
                    go_wp2_with fail
                    go_roundw
                    case rel => exact ⟨q + 1, by omega, by go_num, HB5, HN5, HL5⟩
                    case measure => simp [intOf]; omega
                  | false =>
                    obtain rfl : n2 = n1 := by
                      rw [HN2.out, if_neg (fun h => by rw [h.1, decide_eq_true h.2] at hc; cases hc)]
                    clear hc HN2
                    go_wp2_with fail
                    go_roundw
                    case rel => exact ⟨q + 1, by omega, by go_num, HB5, HN5, HL5⟩
                    case measure => simp [intOf]; omega
            · have q1 : ¬ (q : Int) + 1 ≤ (b.size : Int) := by omega
              obtain rfl : q = b.size := by omega
              have HF : Hid (Blk wr g2 3 (rowCells b.size (DF a b (j + 1)))) := by
                rw [rowCells_congr (F := DF a b (j + 1)) (G := NF (DF a b (j + 1)) b.size) (fun q hq => by unfold NF; rw [if_pos hq])]
                exact HN3.out
              go_wp2_with fail
              go_meet
              case rel => exact ⟨HF, HL3⟩
        case rest =>
          obtain ⟨HB3, HL3⟩ := hcut
          go_wp2_with fail
          go_roundw
          case rel => exact ⟨j + 1, g2, by omega, by go_num, rfl, hwg, HB3, HL3⟩
          case measure => simp [intOf]; omega
      · have j1 : ¬ (j : Int) + 1 ≤ (a.size : Int) := by omega
        obtain rfl : j = a.size := by omega
        have c0 : wr.cell? ⟨g, b.size, none⟩ = some (.int .i64 (DF a b a.size b.size : Int)) := by rw [HB.out.cell, rowCells_at (Nat.le_refl _)]
        have b0 : (0 : Int) ≤ (b.size : Int) := by omega
        have b1 : (b.size : Int) < (b.size : Int) + 1 := by omega
        go_wp2_with fail
        go_ret
        exact ⟨rfl, HL.out⟩
end Go.Proofs.YteiadcdaleckjaaDoor
