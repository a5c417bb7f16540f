/- diff.table, walked: what both have from each place on. Conditions: texts of at most 200 bytes. -/
import Derived.Deep.RegionHeld3
import Derived.Test.YteiadcdaleckjaaDoorDiffLaw
namespace Go.Proofs.YteiadcdaleckjaaDoor
open Go.RowKit
set_option linter.unusedVariables false

def TL (a b : ByteArray) (i k : Nat) : Nat := Df.lcs (a.data.toList.drop i) (b.data.toList.drop k)
def FT (a b : ByteArray) (p q i k : Nat) : Nat := if p ≤ i ∨ (i + 1 = p ∧ q ≤ k) then TL a b i k else 0
def rowCells (m : Nat) (F : Nat → Nat) : Array Value := ((List.range (m + 1)).map fun k => Value.int .i64 (F k : Int)).toArray
def headCells (B n m k : Nat) : Array Value := ((List.range (n + 1)).map fun i => if i < k then Value.slice (some ⟨B + 1 + i, 0, none⟩) (m + 1) (m + 1) else Value.slice none 0 0).toArray
structure Tab (wr : World) (B n m : Nat) (F : Nat → Nat → Nat) : Prop where
  heads : Blk wr B 60 (headCells B n m (n + 1))
  rows : ∀ i, i ≤ n → Blk wr (B + 1 + i) 3 (rowCells m (F i))
structure TabUp (wr : World) (B n m k : Nat) : Prop where
  heads : Blk wr B 60 (headCells B n m k)
  rows : ∀ i, i < k → Blk wr (B + 1 + i) 3 (rowCells m fun _ => 0)
  size : wr.heap.size = B + 1 + k
theorem headCells_at {B n m k i : Nat} (h : i ≤ n) : (headCells B n m k)[i]? = some (if i < k then Value.slice (some ⟨B + 1 + i, 0, none⟩) (m + 1) (m + 1) else Value.slice none 0 0) := by
  unfold headCells
  rw [List.getElem?_toArray, List.getElem?_map, List.getElem?_range (by omega)]
  rfl
theorem rowCells_at {m i : Nat} {F : Nat → Nat} (h : i ≤ m) : (rowCells m F)[i]? = some (.int .i64 (F i : Int)) := by
  unfold rowCells
  rw [List.getElem?_toArray, List.getElem?_map, List.getElem?_range (by omega)]
  rfl
theorem headCells_set (B n m k : Nat) : (headCells B n m k).setIfInBounds k (.slice (some ⟨B + 1 + k, 0, none⟩) (m + 1) (m + 1)) = headCells B n m (k + 1) := by
  unfold headCells
  apply Array.ext'
  rw [List.setIfInBounds_toArray]
  apply List.ext_getElem?
  intro i
  rw [List.getElem?_set]
  by_cases hi : i < n + 1
  · simp only [List.getElem?_map, List.getElem?_range hi, List.length_map, List.length_range, Option.map_some]
    by_cases hk : k = i
    · subst hk; simp [hi]
    · rw [if_neg hk]
      by_cases h2 : i < k
      · rw [if_pos h2, if_pos (by omega)]
      · rw [if_neg h2, if_neg (by omega)]
  · rw [List.getElem?_eq_none (by simpa using hi), List.getElem?_eq_none (by simpa using hi)]
    simp; omega
theorem rowCells_set {m q : Nat} {F G : Nat → Nat} {v : Nat} (h : ∀ k, k ≤ m → G k = if k = q then v else F k) : (rowCells m F).setIfInBounds q (.int .i64 (v : Int)) = rowCells m G := by
  unfold rowCells
  apply Array.ext'
  rw [List.setIfInBounds_toArray]
  apply List.ext_getElem?
  intro i
  rw [List.getElem?_set]
  by_cases hi : i < m + 1
  · simp only [List.getElem?_map, List.getElem?_range hi, List.length_map, List.length_range, Option.map_some]
    rw [h i (by omega)]
    by_cases hk : q = i
    · subst hk; simp [hi]
    · rw [if_neg hk, if_neg (by omega)]
  · rw [List.getElem?_eq_none (by simpa using hi), List.getElem?_eq_none (by simpa using hi)]
    simp; omega
theorem made_row (m : Nat) : (madeCells #[.int .i64 0] (m + 1)) = rowCells m fun _ => 0 := by
  apply Array.ext'
  simp [madeCells, rowCells]
  intro a _
  simp [Nat.mod_one]
theorem made_heads (B n m : Nat) : (madeCells #[.slice none 0 0] (n + 1)) = headCells B n m 0 := by
  apply Array.ext'
  simp [madeCells, headCells]
  intro a _
  simp [Nat.mod_one]
theorem rowCells_congr {m : Nat} {F G : Nat → Nat} (h : ∀ k, k ≤ m → F k = G k) : rowCells m F = rowCells m G := by
  unfold rowCells
  congr 1
  apply List.map_congr_left
  intro k hk
  rw [h k (by have := List.mem_range.1 hk; omega)]
theorem Tab.congr {wr : World} {B n m : Nat} {F G : Nat → Nat → Nat} (h : Tab wr B n m F) (hG : ∀ i k, i ≤ n → k ≤ m → F i k = G i k) : Tab wr B n m G :=
  ⟨h.heads, fun i hi => by rw [← rowCells_congr (fun k hk => hG i k hi hk)]; exact h.rows i hi⟩
theorem Tab.head {wr : World} {B n m : Nat} {F : Nat → Nat → Nat} (h : Tab wr B n m F) {i : Nat} (hi : i ≤ n) : wr.cell? ⟨B, i, none⟩ = some (.slice (some ⟨B + 1 + i, 0, none⟩) (m + 1) (m + 1)) := by
  rw [h.heads.cell, headCells_at hi, if_pos (by omega)]
theorem Tab.cell {wr : World} {B n m : Nat} {F : Nat → Nat → Nat} (h : Tab wr B n m F) {i k : Nat} (hi : i ≤ n) (hk : k ≤ m) : wr.cell? ⟨B + 1 + i, k, none⟩ = some (.int .i64 (F i k : Int)) := by
  rw [(h.rows i hi).cell, rowCells_at hk]
theorem Tab.drew {wr : World} {B n m : Nat} {F : Nat → Nat → Nat} (h : Tab wr B n m F) : Tab wr.drew B n m F := ⟨h.heads.drew, fun i hi => (h.rows i hi).drew⟩
theorem Tab.drewN {wr : World} {B n m : Nat} {F : Nat → Nat → Nat} (h : Tab wr B n m F) (j : Nat) : Tab (wr.drewN j) B n m F := ⟨h.heads.drewN j, fun i hi => (h.rows i hi).drewN j⟩
theorem Tab.set_ {wr : World} {B n m : Nat} {F G : Nat → Nat → Nat} (h : Tab wr B n m F) {p q v : Nat} (hp : p ≤ n) (hG : ∀ i k, i ≤ n → k ≤ m → G i k = if i = p ∧ k = q then v else F i k) :
    Tab (wr.setCell ⟨B + 1 + p, q, none⟩ (.int .i64 (v : Int))) B n m G := by
  refine ⟨h.heads.far (by simp; omega) _, fun i hi => ?_⟩
  by_cases hip : i = p
  · subst hip
    rw [← rowCells_set (F := F i) (q := q) (v := v) (fun k hk => by rw [hG i k hi hk]; simp)]
    exact (h.rows i hi).set_ _ _
  · rw [rowCells_congr (G := F i) (fun k hk => by rw [hG i k hi hk, if_neg (by omega)])]
    exact (h.rows i hi).far (by simp; omega) _
theorem TabUp.step {wr : World} {B n m k : Nat} (h : TabUp wr B n m k) (hk : k ≤ n) :
    TabUp ((wr.alloc (.cells (rowCells m fun _ => 0) 3)).setCell ⟨B, k, none⟩ (.slice (some ⟨wr.heap.size, 0, none⟩) (m + 1) (m + 1))) B n m (k + 1) := by
  have hs := h.size
  refine ⟨?_, fun i hi => ?_, ?_⟩
  · have := (h.heads.alloc (.cells (rowCells m fun _ => 0) 3)).set_ k (.slice (some ⟨wr.heap.size, 0, none⟩) (m + 1) (m + 1))
    rw [hs, headCells_set] at this
    rw [hs]
    exact this
  · refine Blk.far ?_ (by simp; omega) _
    by_cases hik : i = k
    · subst hik
      have := Blk.new wr 3 (rowCells m fun _ => 0)
      rwa [hs] at this
    · exact (h.rows i (by omega)).alloc _
  · simp [World.setCell, hs]; omega

theorem TL_end_a {a b : ByteArray} {i k : Nat} (h : a.size ≤ i) : TL a b i k = 0 := by
  have : a.data.toList.drop i = [] := List.drop_eq_nil_of_le (by rw [Array.length_toList]; exact h)
  unfold TL
  rw [this, Df.lcs_nil]
theorem TL_end_b {a b : ByteArray} {i k : Nat} (h : b.size ≤ k) : TL a b i k = 0 := by
  have : b.data.toList.drop k = [] := List.drop_eq_nil_of_le (by rw [Array.length_toList]; exact h)
  unfold TL
  rw [this, Df.lcs_nil_right]
theorem drop_at (a : ByteArray) (i : Nat) (h : i < a.size) : a.data.toList.drop i = a[i] :: a.data.toList.drop (i + 1) := by
  rw [List.drop_eq_getElem_cons (by rw [Array.length_toList]; exact h)]
  rfl
theorem TL_same {a b : ByteArray} {i k : Nat} (hi : i < a.size) (hk : k < b.size) (h : a[i] = b[k]) : TL a b i k = TL a b (i + 1) (k + 1) + 1 := by
  unfold TL
  rw [drop_at a i hi, drop_at b k hk, h, Df.lcs_same]
theorem TL_other {a b : ByteArray} {i k : Nat} (hi : i < a.size) (hk : k < b.size) (h : a[i] ≠ b[k]) : TL a b i k = max (TL a b (i + 1) k) (TL a b i (k + 1)) := by
  unfold TL
  rw [drop_at a i hi, drop_at b k hk, Df.lcs_other h]
theorem TL_le {a b : ByteArray} {i k : Nat} : TL a b i k ≤ a.size := by
  have := (Df.lcs_le (a.data.toList.drop i) (b.data.toList.drop k)).1
  rw [List.length_drop, Array.length_toList] at this
  unfold TL
  have h2 : a.data.size = a.size := rfl
  omega

theorem Tab.facts {wr : World} {B : Nat} {a b : ByteArray} {j l : Nat} (h : Tab wr B a.size b.size (FT a b (j + 1) (l + 1))) (hj : j < a.size) (hl : l < b.size) :
    wr.cell? ⟨B, j, none⟩ = some (.slice (some ⟨B + 1 + j, 0, none⟩) (b.size + 1) (b.size + 1)) ∧ wr.cell? ⟨B, j + 1, none⟩ = some (.slice (some ⟨B + 1 + (j + 1), 0, none⟩) (b.size + 1) (b.size + 1)) ∧
    wr.cell? ⟨B + 1 + (j + 1), l + 1, none⟩ = some (.int .i64 (TL a b (j + 1) (l + 1) : Int)) ∧ wr.cell? ⟨B + 1 + (j + 1), l, none⟩ = some (.int .i64 (TL a b (j + 1) l : Int)) ∧
    wr.cell? ⟨B + 1 + j, l + 1, none⟩ = some (.int .i64 (TL a b j (l + 1) : Int)) ∧ wr.cell? ⟨B + 1 + j, l, none⟩ = some (.int .i64 (0 : Int)) ∧ wr.frozen? ⟨B + 1 + j, l, none⟩ = false := by
  refine ⟨h.head (by omega), h.head (by omega), ?_, ?_, ?_, ?_, (h.rows j (by omega)).frozen l⟩
  · rw [h.cell (by omega) (by omega)]; unfold FT; rw [if_pos (.inl (Nat.le_refl _))]
  · rw [h.cell (by omega) (by omega)]; unfold FT; rw [if_pos (.inl (Nat.le_refl _))]
  · rw [h.cell (by omega) (by omega)]; unfold FT; rw [if_pos (.inr ⟨rfl, Nat.le_refl _⟩)]
  · rw [h.cell (by omega) (by omega)]; unfold FT; rw [if_neg (by omega)]; rfl
theorem Tab.setTL {wr : World} {B : Nat} {a b : ByteArray} {j l : Nat} (h : Tab wr B a.size b.size (FT a b (j + 1) (l + 1))) (hj : j < a.size) (hl : l < b.size) (v : Nat) (hv : TL a b j l = v) :
    Tab (wr.setCell ⟨B + 1 + j, l, none⟩ (.int .i64 (v : Int))) B a.size b.size (FT a b (j + 1) l) :=
  h.set_ (p := j) (q := l) (v := v) (by omega) (fun i k hi hk => by
    unfold FT
    by_cases h1 : i = j ∧ k = l
    · obtain ⟨rfl, rfl⟩ := h1
      rw [if_pos (.inr ⟨rfl, Nat.le_refl _⟩), if_pos ⟨rfl, rfl⟩, hv]
    · rw [if_neg h1]
      by_cases h2 : j + 1 ≤ i ∨ i + 1 = j + 1 ∧ l ≤ k
      · rw [if_pos h2, if_pos (by omega)]
      · rw [if_neg h2, if_neg (by omega)])

theorem far_drew {w : World} {p q : Addr} {u : Value} {x : Option Value} (hc : w.cell? q = x) (h : p.block ≠ q.block) : (w.setCell p u).drew.cell? q = x := by
  rw [World.cell?_drew, World.cell?_setCell_other _ _ _ _ (fun e => h (by rw [e]))]; exact hc
theorem cell_drew_off {w : World} {p q : Addr} {u : Value} {x : Option Value} (hc : w.cell? q = x) (h : p ≠ q) : (w.setCell p u).drew.cell? q = x := by
  rw [World.cell?_drew, World.cell?_setCell_other _ _ _ _ h]; exact hc
theorem ne_blk {b c i k : Nat} (h : b ≠ c) : (⟨b, i, none⟩ : Addr).block ≠ (⟨c, k, none⟩ : Addr).block := h

def TabPost (w : World) (a b : ByteArray) (e : Ending) (w' : World) : Prop :=
  e = .returned (.slice (some ⟨w.heap.size, 0, none⟩) (a.size + 1) (a.size + 1)) ∧ Tab w' w.heap.size a.size b.size (TL a b) ∧ Below w.heap.size w w'

set_option maxRecDepth 100000 in
set_option maxHeartbeats 4000000 in
theorem table_any (w : World) (a b : ByteArray) (ha : a.size ≤ 200) (hb : b.size ≤ 200) :
    Calls Tryd.prog 23 #[.string a, .string b] w (TabPost w a b) := by
  obtain ⟨B, hB⟩ : ∃ B, B = w.heap.size := ⟨_, rfl⟩
  have hmk := fun W => run_make_row' (P := Tryd.prog) 60 3 (.int .i64 0) 8 Tryd.underlying60 (by kernel_rfl) rfl .i64 .i64 (b.size + 1) (by omega) (by omega) W
  rw [made_row] at hmk
  have hmh := run_make_row' (P := Tryd.prog) 56 60 (.slice none 0 0) 24 Tryd.underlying56 (by kernel_rfl) rfl .i64 .i64 (a.size + 1) (by omega) (by omega) w
  rw [made_heads w.heap.size a.size b.size] at hmh
  have HA : Hid (TabUp (w.alloc (.cells (headCells w.heap.size a.size b.size 0) 60)) w.heap.size a.size b.size 0) := ⟨Blk.new _ _ _, fun i hi => by omega, by simp⟩
  have HBel : Hid (Below w.heap.size w (w.alloc (.cells (headCells w.heap.size a.size b.size 0) 60))) := (Below.refl _ _).alloc (Nat.le_refl _) _
  simp only [Int.natCast_add, Int.natCast_one] at hmk hmh
  generalize hC : headCells w.heap.size a.size b.size 0 = C at hmh HA HBel
  generalize hR : (rowCells b.size fun _ => 0) = R at hmk
  have HR := Lib.hid hR
  clear hC hR hB
  go_enter Tryd.func23, Tryd.ntmps23
  go_wp2_with fail
  go_loopw [15] (fun i wr => ∃ k : Nat, k ≤ a.size + 1 ∧ i = .int .i64 k ∧ Hid (TabUp wr w.heap.size a.size b.size k) ∧ Hid (Below w.heap.size w wr)) (fun i _ => a.size + 1 - (intOf i).toNat)
  case atStart => exact ⟨0, by omega, rfl, HA, HBel⟩
  case round =>
    obtain ⟨k, hk, rfl, HT, HBl⟩ := hrel
    clear HA HBel hmh
    by_cases hlt : k < a.size + 1
    · have c0 : (wr.alloc (.cells R 3)).cell? ⟨w.heap.size, k, none⟩ = some (.slice none 0 0) := by
        rw [(HT.out.heads.alloc _).cell, headCells_at (by omega), if_neg (by omega)]
      have f0 : (wr.alloc (.cells R 3)).frozen? ⟨w.heap.size, k, none⟩ = false := (HT.out.heads.alloc _).frozen k
      have hm := hmk wr
      have hkk : (k : Int) < (a.size : Int) + 1 := by omega
      clear hmk
      go_wp2_with fail
      go_roundw
      case rel => exact ⟨k + 1, by omega, by go_num, by rw [← HR.out]; exact HT.out.step (by omega), (HBl.out.alloc HBl.out.size _).setCell (Nat.le_refl _) _⟩
      case measure => simp [intOf]; omega
    · have hk2 : k = a.size + 1 := by omega
      have HTab : Hid (Tab wr w.heap.size a.size b.size (FT a b a.size (b.size + 1))) := by
        have h0 := HT.out
        rw [hk2] at h0
        exact ⟨h0.heads, fun i hi => by
          rw [rowCells_congr (G := fun _ => 0) (fun k hk => by
            unfold FT
            split
            · exact TL_end_a (by omega)
            · rfl)]
          exact h0.rows i (by omega)⟩
      have hd : decide ((k : Int) < (a.size : Int) + 1) = false := by simp; omega
      clear hmk HT hk2 HR
      go_wp2_with fail
      clear hd
      go_loopw [7] (fun i wr => ∃ (p : Nat) (i' : Int), p ≤ a.size ∧ i' = (p : Int) - 1 ∧ i = .int .i64 i' ∧ Hid (Tab wr w.heap.size a.size b.size (FT a b p (b.size + 1))) ∧ Hid (Below w.heap.size w wr)) (fun i _ => (intOf i + 1).toNat)
      case atStart => exact ⟨a.size, _, by omega, rfl, rfl, HTab, HBl⟩
      case round =>
        obtain ⟨p, i', hp, hi, rfl, HT2, HB2⟩ := hrel
        clear HTab HBl
        rcases Nat.eq_zero_or_pos p with h0 | h0
        · obtain rfl : i' = -1 := by omega
          subst h0
          clear hi
          have HX : Hid (Tab wr w.heap.size a.size b.size (TL a b)) := HT2.out.congr (fun i k hi hk => by unfold FT; rw [if_pos (.inl (by omega))])
          go_wp2_with fail
          go_ret
          exact ⟨rfl, HX.out, HB2.out⟩
        · obtain ⟨j, rfl⟩ : ∃ j, p = j + 1 := ⟨p - 1, by omega⟩
          obtain rfl : i' = (j : Int) := by omega
          clear hi h0
          go_wp2_with fail
          obtain ⟨wo, rfl⟩ : ∃ wo : World, wo = wr := ⟨_, rfl⟩
          have HI : Hid (Tab wo w.heap.size a.size b.size (FT a b (j + 1) b.size)) := HT2.out.congr (fun i k hi hk => by
            unfold FT
            by_cases h1 : j + 1 ≤ i
            · rw [if_pos (.inl h1), if_pos (.inl h1)]
            · by_cases h2 : i + 1 = j + 1 ∧ b.size ≤ k
              · rw [if_neg (by omega), if_pos (.inr h2)]; exact (TL_end_b h2.2).symm
              · rw [if_neg (by omega), if_neg (by omega)])
          clear HT2
          go_loopw [8] (fun i wr => ∃ (q : Nat) (i' : Int), q ≤ b.size ∧ i' = (q : Int) - 1 ∧ i = .int .i64 i' ∧ Hid (Tab wr w.heap.size a.size b.size (FT a b (j + 1) q)) ∧ Hid (Below w.heap.size w wr)) (fun i _ => (intOf i + 1).toNat)
          case atStart => exact ⟨b.size, _, by omega, rfl, rfl, HI, HB2⟩
          case round =>
            obtain ⟨q, i', hq, hi, rfl, HT3, HB3⟩ := hrel
            clear HI HB2
            rcases Nat.eq_zero_or_pos q with h0 | h0
            · obtain rfl : i' = -1 := by omega
              subst h0
              clear hi
              have HX := Lib.hid (HT3.out.congr (G := FT a b j (b.size + 1)) (fun i k hi hk => by
                unfold FT
                by_cases h1 : j ≤ i
                · rw [if_pos (by omega), if_pos (.inl h1)]
                · rw [if_neg (by omega), if_neg (by omega)]))
              go_wp2_with fail
              go_roundw
              case rel => exact ⟨j, _, by omega, rfl, rfl, HX, HB3⟩
              case measure => simp [intOf]
            · obtain ⟨l, rfl⟩ : ∃ l, q = l + 1 := ⟨q - 1, by omega⟩
              obtain rfl : i' = (l : Int) := by omega
              clear hi h0
              have hj : j < a.size := by omega
              have hl : l < b.size := by omega
              have hj1 : (j : Int) < (a.size : Int) := by omega
              have hl1 : (l : Int) < (b.size : Int) := by omega
              have hj0 : (0 : Int) ≤ (j : Int) := by omega
              have hl0 : (0 : Int) ≤ (l : Int) := by omega
              have b1 : TL a b (j + 1) (l + 1) ≤ 200 := Nat.le_trans TL_le ha
              have b2 : TL a b (j + 1) l ≤ 200 := Nat.le_trans TL_le ha
              have b3 : TL a b j (l + 1) ≤ 200 := Nat.le_trans TL_le ha
              by_cases hab : a[j] = b[l]
              · have HV := Lib.hid (TL_same hj hl hab)
                have g1 : ((a[j].toNat : Int) == (b[l].toNat : Int)) = true := by rw [hab]; simp
                clear hab
                go_wp2_with fail
                go_quiet (fail)
                obtain ⟨wx, hwx⟩ : ∃ wx : World, wx = wr.drewN nq := ⟨_, rfl⟩
                have HT4 : Hid (Tab wx w.heap.size a.size b.size (FT a b (j + 1) (l + 1))) := by rw [hwx]; exact HT3.out.drewN nq
                have HB4 : Hid (Below w.heap.size w wx) := by rw [hwx]; exact below_drewN HB3.out nq
                rw [← hwx]
                clear hwx HT3 HB3
                have HF := Lib.hid (HT4.out.facts hj hl)
                have HSet := Lib.hid (HT4.out.setTL hj hl)
                have e0 := HF.out.1
                have e1 := HF.out.2.1
                have d1 := HF.out.2.2.1
                have d0 := HF.out.2.2.2.2.2.1
                have f0 := HF.out.2.2.2.2.2.2
                generalize TL a b (j + 1) (l + 1) = v1 at b1 d1 HV ⊢
                go_wp2_with fail
                have q1 := IntWalk.i64_in ((j : Int) + 1) (by omega)
                have q2 := IntWalk.i64_in ((l : Int) + 1) (by omega)
                have q3 := IntWalk.i64_in ((v1 : Int) + 1) (by omega)
                have p1 : (0 : Int) ≤ (j : Int) + 1 := by omega
                have p2 : (0 : Int) ≤ (l : Int) + 1 := by omega
                have p3 : ((j : Int) + 1).toNat = j + 1 := by omega
                have p4 : ((l : Int) + 1).toNat = l + 1 := by omega
                have p5 : (j : Int) < (a.size : Int) + 1 := by omega
                have p6 : (l : Int) < (b.size : Int) + 1 := by omega
                have p7 : (j : Int) + 1 < (a.size : Int) + 1 := by omega
                have p8 : (l : Int) + 1 < (b.size : Int) + 1 := by omega
                have s0 := far_drew (u := .int .i64 ((v1 : Int) + 1)) e0 (ne_blk (b := w.heap.size + 1 + j) (i := l) (by omega))
                have s1 := far_drew (u := .int .i64 ((v1 : Int) + 1)) e1 (ne_blk (b := w.heap.size + 1 + j) (i := l) (by omega))
                have s2 := far_drew (u := .int .i64 ((v1 : Int) + 1)) d1 (ne_blk (b := w.heap.size + 1 + j) (i := l) (by omega))
                go_region_held3 (fun w' => w'.cell? ⟨w.heap.size, j, none⟩ = some (.slice (some ⟨w.heap.size + 1 + j, 0, none⟩) (b.size + 1) (b.size + 1)) ∧ w'.cell? ⟨w.heap.size, j + 1, none⟩ = some (.slice (some ⟨w.heap.size + 1 + (j + 1), 0, none⟩) (b.size + 1) (b.size + 1)) ∧ w'.cell? ⟨w.heap.size + 1 + (j + 1), l + 1, none⟩ = some (.int .i64 (v1 : Int)))
                  (first
                    | go_keep
                    | (refine ⟨?_, ?_, ?_⟩ <;> assumption))
                  (fail)
                have HX := Lib.hid (HSet.out _ HV.out)
                clear e0 e1 d0 d1 f0 s0 s1 s2 HF HSet
                go_wp2_with fail
                go_roundw
                case rel => exact ⟨l, _, by omega, rfl, rfl, HX.out.drew, ((HB4.out.setCell (by show w.heap.size ≤ w.heap.size + 1 + j; omega) _).drew)⟩
                case measure => simp [intOf]
              · have HV := Lib.hid (TL_other hj hl hab)
                have g1 : ((a[j].toNat : Int) == (b[l].toNat : Int)) = false := by simp; intro h; exact hab (UInt8.toNat_inj.1 (by omega))
                clear hab
                go_wp2_with fail
                go_quiet (fail)
                obtain ⟨wx, hwx⟩ : ∃ wx : World, wx = wr.drewN nq := ⟨_, rfl⟩
                have HT4 : Hid (Tab wx w.heap.size a.size b.size (FT a b (j + 1) (l + 1))) := by rw [hwx]; exact HT3.out.drewN nq
                have HB4 : Hid (Below w.heap.size w wx) := by rw [hwx]; exact below_drewN HB3.out nq
                rw [← hwx]
                clear hwx HT3 HB3
                have HF := Lib.hid (HT4.out.facts hj hl)
                have HSet := Lib.hid (HT4.out.setTL hj hl)
                have e0 := HF.out.1
                have e1 := HF.out.2.1
                have d2 := HF.out.2.2.2.1
                have d3 := HF.out.2.2.2.2.1
                have d0 := HF.out.2.2.2.2.2.1
                have f0 := HF.out.2.2.2.2.2.2
                generalize TL a b (j + 1) l = v2 at b2 d2 HV ⊢
                generalize TL a b j (l + 1) = v3 at b3 d3 HV ⊢
                have hmx : ∀ W, (Builtin.max_ #[3, 3] 3 #[.int .i64 (v2 : Int), .int .i64 (v3 : Int)]).run Tryd.prog W = .ok (.int .i64 ((max v2 v3 : Nat) : Int)) W := fun W => by rw [run_max_int2]; congr 2; split <;> omega
                go_wp2_with fail
                have q1 := IntWalk.i64_in ((j : Int) + 1) (by omega)
                have q2 := IntWalk.i64_in ((l : Int) + 1) (by omega)
                have p1 : (0 : Int) ≤ (j : Int) + 1 := by omega
                have p2 : (0 : Int) ≤ (l : Int) + 1 := by omega
                have p3 : ((j : Int) + 1).toNat = j + 1 := by omega
                have p4 : ((l : Int) + 1).toNat = l + 1 := by omega
                have p5 : (j : Int) < (a.size : Int) + 1 := by omega
                have p6 : (l : Int) < (b.size : Int) + 1 := by omega
                have p7 : (j : Int) + 1 < (a.size : Int) + 1 := by omega
                have p8 : (l : Int) + 1 < (b.size : Int) + 1 := by omega
                have s0 := far_drew (u := .int .i64 ((max v2 v3 : Nat) : Int)) e0 (ne_blk (b := w.heap.size + 1 + j) (i := l) (by omega))
                have s1 := far_drew (u := .int .i64 ((max v2 v3 : Nat) : Int)) e1 (ne_blk (b := w.heap.size + 1 + j) (i := l) (by omega))
                have s2 := far_drew (u := .int .i64 ((max v2 v3 : Nat) : Int)) d2 (ne_blk (b := w.heap.size + 1 + j) (i := l) (by omega))
                have s3 := cell_drew_off (u := .int .i64 ((max v2 v3 : Nat) : Int)) d3 (show (⟨w.heap.size + 1 + j, l, none⟩ : Addr) ≠ ⟨w.heap.size + 1 + j, l + 1, none⟩ from fun h => by injection h; omega)
                go_region_held3 (fun w' => w'.cell? ⟨w.heap.size, j, none⟩ = some (.slice (some ⟨w.heap.size + 1 + j, 0, none⟩) (b.size + 1) (b.size + 1)) ∧ w'.cell? ⟨w.heap.size, j + 1, none⟩ = some (.slice (some ⟨w.heap.size + 1 + (j + 1), 0, none⟩) (b.size + 1) (b.size + 1)) ∧ w'.cell? ⟨w.heap.size + 1 + (j + 1), l, none⟩ = some (.int .i64 (v2 : Int)) ∧ w'.cell? ⟨w.heap.size + 1 + j, l + 1, none⟩ = some (.int .i64 (v3 : Int)))
                  (first
                    | go_keep
                    | (refine ⟨?_, ?_, ?_, ?_⟩ <;> assumption))
                  (fail)
                have HX := Lib.hid (HSet.out _ HV.out)
                clear e0 e1 d0 d2 d3 f0 s0 s1 s2 s3 HF HSet
                go_wp2_with fail
                go_roundw
                case rel => exact ⟨l, _, by omega, rfl, rfl, HX.out.drew, ((HB4.out.setCell (by show w.heap.size ≤ w.heap.size + 1 + j; omega) _).drew)⟩
                case measure => simp [intOf]
end Go.Proofs.YteiadcdaleckjaaDoor
