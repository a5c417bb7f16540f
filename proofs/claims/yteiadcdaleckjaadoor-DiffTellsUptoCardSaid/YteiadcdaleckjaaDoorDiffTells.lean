/- leaflaw3.DiffTells, walked: of the least cost from any text to any other one; what any edits make, and cost. Conditions: the edits hold at most 1,048,576 letters; the library's one variable holds what its text lays. -/
import Derived.Deep.CutBlock
import Derived.Test.YteiadcdaleckjaaDoorDiffSame
import Derived.Test.YteiadcdaleckjaaDoorRefEdit
import Derived.Test.YteiadcdaleckjaaDoorRefLeast
import Derived.Test.YteiadcdaleckjaaDoorTold
namespace Go.Proofs.YteiadcdaleckjaaDoor
open Go.RowKit
set_option linter.unusedVariables false
namespace lawDiffTells
theorem list_len (a : ByteArray) : a.data.toList.length = a.size := by rw [Array.length_toList]; rfl
theorem strOf_data (b : ByteArray) : strOf b.data.toList = b := by
  apply ByteArray.ext
  simp [strOf]
theorem sumW_back {a s : List UInt8} {l bk : List LEd} (h : wk a l = some (s, bk)) : sumW bk ≤ a.length := by
  induction l generalizing a s bk with
  | nil => simp [wk] at h; obtain ⟨rfl, rfl⟩ := h; simp [sumW]
  | cons e l ih =>
    rw [wk] at h
    split at h
    · cases h
    · rw [Option.map_eq_some_iff] at h
      obtain ⟨⟨s', bk'⟩, h1, h2⟩ := h
      injection h2 with h2 h3
      subst h3
      have := ih h1
      rw [List.length_drop] at this
      simp only [sumW, List.map_cons, List.sum_cons] at this ⊢
      simp only [edBack, strOf_size, List.length_drop, List.length_take]
      omega
/-- Turned edits cost as much. -/
theorem cost_back {a s : List UInt8} {l bk : List LEd} (h : wk a l = some (s, bk)) (ha : a.length ≤ 200) (hs : s.length ≤ 200) : costL bk = costL l := by
  induction l generalizing a s bk with
  | nil => simp [wk] at h; obtain ⟨rfl, rfl⟩ := h; rfl
  | cons e l ih =>
    rw [wk] at h
    split at h
    · cases h
    · rename_i hb
      rw [Option.map_eq_some_iff] at h
      obtain ⟨⟨s', bk'⟩, h1, h2⟩ := h
      injection h2 with h2 h3
      subst h3
      subst h2
      have hwl : e.write.data.toList.length = e.write.size := list_len _
      simp only [List.length_append, List.length_take, hwl] at hs
      have := ih h1 (by rw [List.length_drop]; omega) (by omega)
      simp only [edBad, not_or, Int.not_lt] at hb
      obtain ⟨b1, b2, b3, b4⟩ := hb
      have e1 : (edBack a e).cost = e.cost := by
        unfold LEd.cost edBack
        simp only [strOf_size, List.length_drop, List.length_take]
        have hc1 : (if 0 < (e.write.size : Int) ∧ (e.write.size : Int) ≤ 200 then (e.write.size : Int).toNat else 0) = e.write.size := by
          split
          · omega
          · omega
        have hc2 : (if 0 < e.strike ∧ e.strike ≤ 200 then e.strike.toNat else 0) = e.strike.toNat := by
          split
          · rfl
          · omega
        rw [hc1, hc2]
        omega
      simp only [costL, List.map_cons, List.sum_cons] at this ⊢
      rw [e1, this]
theorem cost_lim (l : List LEd) : costL l ≤ 200 * l.length + sumW l := by
  induction l with
  | nil => simp [costL, sumW]
  | cons e l ih =>
    simp only [costL, sumW, List.map_cons, List.sum_cons, List.length_cons] at ih ⊢
    have : e.cost ≤ 200 + e.write.size := by
      unfold LEd.cost
      split <;> omega
    omega
def xs (a b : ByteArray) : List LEd := if diffErr a b = 0 then (difL a b).map Df.Ed.L else []
def turnL (a : ByteArray) (l : List LEd) : List LEd := if wkErr a l = 0 then wkBack a l else []
theorem err_ab (a b : ByteArray) : (diffErr a b = 4 ∧ (200 < a.size ∨ 200 < b.size)) ∨ (diffErr a b = 0 ∧ a.size ≤ 200 ∧ b.size ≤ 200) := by
  unfold diffErr
  split
  · rename_i h; exact .inl ⟨rfl, h⟩
  · rename_i h; exact .inr ⟨rfl, by omega, by omega⟩
structure Facts (a b : ByteArray) : Prop where
  err : wkErr a (xs a b) = 0
  out : edOut a (xs a b) = b
  sum : sumW (xs a b) ≤ 400
  len : (xs a b).length ≤ 134
  cost : costL (xs a b) ≤ 1000
  least : (costL (xs a b) : Int) = (DF a b a.size b.size : Int)
theorem sumW_costL (l : List LEd) : sumW l ≤ costL l := by
  induction l with
  | nil => simp [sumW, costL]
  | cons e l ih =>
    simp only [sumW, costL, List.map_cons, List.sum_cons, LEd.cost] at ih ⊢
    omega
theorem facts {a b : ByteArray} (h : diffErr a b = 0) : Facts a b := by
  have hx : xs a b = (difL a b).map Df.Ed.L := if_pos h
  rcases err_ab a b with ⟨h1, _⟩ | ⟨_, ha, hb⟩
  · omega
  have hc : costL (xs a b) + 2 * Df.lcs a.data.toList b.data.toList = a.size + b.size := by rw [hx]; exact costL_dif a b ha
  have hl : (xs a b).length ≤ 134 := by rw [hx, List.length_map]; exact many_difL a b ha hb
  have hw : ∃ bk, wk a.data.toList (xs a b) = some (b.data.toList, bk) := by
    obtain ⟨bk, h⟩ := wk_dif ⟨0, 0, []⟩ a.data.toList b.data.toList [] [] rfl rfl
    exact ⟨bk, by rw [hx]; simpa [difL] using h⟩
  obtain ⟨bk, hwk⟩ := hw
  have hal := list_len a
  have hbl := list_len b
  have herr : wkErr a (xs a b) = 0 := by unfold wkErr; rw [if_neg (by omega), hwk]; show (if 200 < b.data.toList.length then _ else _) = _; rw [if_neg (by omega)]
  have hsc := sumW_costL (xs a b)
  have hdf := DF_all a b
  exact ⟨herr, by unfold edOut wkOut; rw [if_pos herr, hwk]; exact strOf_data b, by omega, hl, by omega, by omega⟩
structure Turns (a : ByteArray) (l : List LEd) : Prop where
  err : wkErr (edOut a l) (turnL a l) = 0
  out : edOut (edOut a l) (turnL a l) = a
  sum : sumW (turnL a l) ≤ 200
  len : (turnL a l).length ≤ 200
  cost : costL (turnL a l) = costL l
  size : (edOut a l).size ≤ 200
theorem turns {a : ByteArray} {l : List LEd} (h : wkErr a l = 0) : Turns a l := by
  have hz : ¬ (200 < a.size ∨ 200 < l.length) := fun hz => by
    unfold wkErr at h
    rw [if_pos hz] at h
    cases h
  have h' := h
  unfold wkErr at h'
  rw [if_neg hz] at h'
  cases hw : wk a.data.toList l with
  | none => rw [hw] at h'; cases h'
  | some r =>
    obtain ⟨s, bk⟩ := r
    rw [hw] at h'
    have hs : s.length ≤ 200 := by
      simp only at h'
      split at h'
      · cases h'
      · omega
    have hal := list_len a
    have ht : turnL a l = bk := by unfold turnL wkBack; rw [if_pos h, hw]
    have ho : edOut a l = strOf s := by unfold edOut wkOut; rw [if_pos h, hw]
    have hbl := wk_len hw
    obtain ⟨r, hr⟩ := wk_turn hw
    have hos : (strOf s).size = s.length := strOf_size s
    have herr : wkErr (edOut a l) (turnL a l) = 0 := by
      rw [ht, ho]
      unfold wkErr
      rw [if_neg (by omega), strOf_list, hr]
      show (if 200 < a.data.toList.length then _ else _) = _
      rw [if_neg (by omega)]
    refine ⟨herr, ?_, ?_, ?_, ?_, ?_⟩
    · unfold edOut at herr ⊢
      rw [if_pos herr]
      have ho' : (if wkErr a l = 0 then strOf (wkOut a l) else ⟨#[]⟩) = strOf s := ho
      rw [ho', ht]
      unfold wkOut
      rw [strOf_list, hr]
      exact strOf_data a
    · rw [ht]; have := sumW_back hw; omega
    · rw [ht]; omega
    · rw [ht]; exact cost_back hw (by omega) hs
    · rw [ho]; omega
section
variable (w : World) (a b : ByteArray) (ha : a.size ≤ 9223372036854775807) (hb : b.size ≤ 9223372036854775807)
include ha hb
theorem diff_uni : Calls Tryd.prog 5 #[.string a, .string b] w (fun e w' => ∃ V c, e = .returned (.tuple #[.slice V (xs a b).length c, errV (diffErr a b)]) ∧ Reads w' w'.heap.size 3 V (xs a b).length (ecells (xs a b)) ∧ Below w.heap.size w w') := by
  refine (diff_any w a b ha hb).mono ?_
  intro e w' hp
  unfold DiffPost at hp
  by_cases h : diffErr a b = 0
  · rw [if_pos h] at hp
    obtain ⟨V, c, rfl, hr, hb⟩ := hp
    have hx : xs a b = (difL a b).map Df.Ed.L := if_pos h
    rw [hx, h, List.length_map]
    exact ⟨V, c, rfl, hr, hb⟩
  · rw [if_neg h] at hp
    obtain ⟨rfl, hb⟩ := hp
    have hx : xs a b = [] := if_neg h
    have h4 : diffErr a b = 4 := by
      rcases err_ab a b with ⟨h1, _⟩ | ⟨h1, _⟩
      · exact h1
      · exact absurd h1 h
    rw [hx, h4]
    exact ⟨none, 0, rfl, (Own.nil w' w'.heap.size 59 3).reads, hb⟩
end
section
variable (w : World) (a : ByteArray) (A : Option Addr) (c : Nat) (l : List LEd) (h : Reads w w.heap.size 3 A l.length (ecells l)) (ha : a.size ≤ 9223372036854775807) (hn : l.length ≤ 9223372036854775807) (hW : sumW l ≤ 2000000)
include h ha hn hW
theorem apply_uni : Calls Tryd.prog 10 #[.string a, .slice A l.length c] w (fun e w' => e = .returned (.tuple #[.string (edOut a l), errV (wkErr a l)]) ∧ Below w.heap.size w w') := by
  refine (apply_any w a A c l h ha hn hW).mono ?_
  intro e w' hp
  unfold ApplyPost at hp
  unfold edOut
  by_cases he : wkErr a l = 0
  · rw [if_pos he] at hp ⊢
    exact hp
  · rw [if_neg he] at hp ⊢
    exact hp
theorem turn_uni : Calls Tryd.prog 11 #[.string a, .slice A l.length c] w (fun e w' => ∃ V c, e = .returned (.tuple #[.slice V (turnL a l).length c, errV (wkErr a l)]) ∧ Reads w' w'.heap.size 3 V (turnL a l).length (ecells (turnL a l)) ∧ Below w.heap.size w w') := by
  refine (turn_any w a A c l h ha hn hW).mono ?_
  intro e w' hp
  unfold TurnPost at hp
  unfold turnL
  by_cases he : wkErr a l = 0
  · rw [if_pos he] at hp ⊢
    rw [he]
    exact hp
  · rw [if_neg he] at hp ⊢
    obtain ⟨rfl, hb⟩ := hp
    exact ⟨none, 0, rfl, (Own.nil w' w'.heap.size 59 3).reads, hb⟩
end
set_option maxRecDepth 100000 in
set_option maxHeartbeats 8000000 in
theorem walk (w : World) (a b : ByteArray) (A : Option Addr) (c : Nat) (l : List LEd) (hglob : Glob w) (h : Reads w w.heap.size 3 A l.length (ecells l)) (ha : a.size ≤ 9223372036854775807) (hb : b.size ≤ 9223372036854775807) (hn : l.length ≤ 1048576) (hW : sumW l ≤ 1048576) :
    Calls Tryd.prog 3 #[.string a, .string b, .slice A l.length c] w (CheckPost w (.bool true)) := by
  have hcl := cost_lim l
  have HERR := Lib.hid (fun W (hb : Below w.heap.size w W) k => show Calls Tryd.prog 6 #[errV k, .int .i64 k] W (CheckPost W (.bool true)) by
    have := error_any W k k (hglob.below hb (Nat.le_refl _))
    rw [show (k == k) = true by simp] at this
    exact this)
  have HDI := Lib.hid (diff_uni w a b ha hb)
  have HED := Lib.hid (fun W (hb : Below w.heap.size w W) => redited_any W a A c l ((h.below hb).more hb.size) ha (by omega) (by omega))
  have HAP := Lib.hid (fun W (hb : Below w.heap.size w W) => apply_uni W a A c l ((h.below hb).more hb.size) ha (by omega) (by omega))
  have HTU := Lib.hid (fun W (hb : Below w.heap.size w W) => turn_uni W a A c l ((h.below hb).more hb.size) ha (by omega) (by omega))
  have HCO := Lib.hid (fun W (hb : Below w.heap.size w W) => cost_any W A c l ((h.below hb).more hb.size) hn (by omega))
  have HRC := Lib.hid (fun W (hb : Below w.heap.size w W) => rcost_any W A c l ((h.below hb).more hb.size) hn (by omega))
  have HFA := Lib.hid (fun he => facts (a := a) (b := b) he)
  have HTN := Lib.hid (fun he => turns (a := a) (l := l) he)
  have HAB := Lib.hid (err_ab a b)
  clear hglob h hcl
  go_enter Tryd.func3, Tryd.ntmps3
  obtain ⟨q, hq⟩ : ∃ q : Bool, q = (decide (200 < a.size) || decide (200 < b.size)) := ⟨_, rfl⟩
  have HQ := Lib.hid hq
  clear hq
  go_upto_region 2 with (fail)
  go_cut [27] (fun v wx => v = .bool q ∧ wx = w)
  case first =>
    by_cases h1 : 200 < a.size
    · have g1 : (200 : Int) < (a.size : Int) := by omega
      have hq : Hid (q = true) := by show _ = _; rw [HQ.out]; simp [h1]
      go_wp2_with fail
      go_meet
      case rel => exact ⟨by rw [hq.out], rfl⟩
    · have g1 : ¬ (200 : Int) < (a.size : Int) := by omega
      by_cases h2 : 200 < b.size
      · have g2 : (200 : Int) < (b.size : Int) := by omega
        have hq : Hid (q = true) := by show _ = _; rw [HQ.out]; simp [h2]
        go_wp2_with fail
        go_meet
        case rel => exact ⟨by rw [hq.out], rfl⟩
      · have g2 : ¬ (200 : Int) < (b.size : Int) := by omega
        have hq : Hid (q = false) := by show _ = _; rw [HQ.out]; simp [h1, h2]
        go_wp2_with fail
        go_meet
        case rel => exact ⟨by rw [hq.out], rfl⟩
  case rest =>
    obtain ⟨rfl, hwc⟩ := hcut
    rw [hwc]
    clear hwc
    go_upto_if 27 with (fail)
    go_cut [7] (fun v wx => v = .int .i64 (diffErr a b) ∧ wx = w)
    case first =>
      cases hqq : q with
      | true =>
        have HE : Hid (diffErr a b = 4) := by
          show _ = _
          rcases HAB.out with ⟨h1, _⟩ | ⟨_, h1, h2⟩
          · exact h1
          · have := HQ.out
            rw [hqq] at this
            simp at this
            omega
        go_wp2_with fail
        go_meet
        case rel => exact ⟨by rw [HE.out], rfl⟩
      | false =>
        have HE : Hid (diffErr a b = 0) := by
          show _ = _
          rcases HAB.out with ⟨_, h1⟩ | ⟨h1, _⟩
          · have := HQ.out
            rw [hqq] at this
            simp at this
            omega
          · exact h1
        go_wp2_with fail
        go_meet
        case rel => exact ⟨by rw [HE.out], rfl⟩
    case rest =>
      obtain ⟨rfl, hwc⟩ := hcut
      rw [hwc]
      clear hwc HQ
      go_wp2_with fail
      refine HDI.out.mono ?_
      rintro e w1 ⟨V, cv, rfl, hr, hb1⟩
      have HR1 := Lib.hid hr
      have HB1 := Lib.hid hb1
      have HE1 := Lib.hid (HERR.out w1 hb1 (diffErr a b))
      clear hr hb1 HDI
      go_wp2_with fail
      refine HE1.out.mono ?_
      rintro e w2 ⟨rfl, hb2⟩
      have HR2 := Lib.hid ((HR1.out.below hb2).more hb2.size)
      have HB2 := Lib.hid (HB1.out.trans (hb2.mono HB1.out.size))
      clear hb2 HE1 HR1 HB1
      go_upto_if 38 with (fail)
      go_cut [] (fun wx => Below w.heap.size w wx)
      case first =>
        by_cases he : diffErr a b = 0
        · have e1 : (diffErr a b == 0) = true := by simpa using he
          have hF := HFA.out he
          have HF := Lib.hid hF
          have hsum := hF.sum
          have hlen := hF.len
          have hco := hF.cost
          have hab : a.size ≤ 200 ∧ b.size ≤ 200 := by
            rcases HAB.out with ⟨h1, _⟩ | ⟨_, h1⟩
            · omega
            · exact h1
          have HEX := Lib.hid (redited_any w2 a V cv (xs a b) HR2.out ha (by omega) (by omega))
          unfold EditedPost at HEX
          rw [hF.err, hF.out] at HEX
          have HCX := Lib.hid (fun W (hb : Below w2.heap.size w2 W) => rcost_any W V cv (xs a b) ((HR2.out.below hb).more hb.size) (by omega) (by omega))
          have HLX := Lib.hid (fun W => rleast_any W a b hab.1 hab.2)
          have HLE := Lib.hid hF.least
          have gb : (b.toList != b.toList) = false := by simp
          clear he hF hsum hlen hco hab
          generalize xs a b = x at *
          generalize (costL x : Int) = cx at *
          generalize (DF a b a.size b.size : Int) = dx at *
          have gx : (cx != dx) = false := by rw [HLE.out]; simp
          go_wp2_with fail
          refine HEX.out.mono ?_
          rintro e w3 ⟨rfl, hb3⟩
          have HB3 := Lib.hid hb3
          have HC3 := Lib.hid (HCX.out w3 hb3)
          clear hb3
          go_wp2_with fail
          refine HC3.out.mono ?_
          rintro e w4 ⟨rfl, hb4⟩
          have HB4 := Lib.hid (HB3.out.trans (hb4.mono HB3.out.size))
          clear hb4
          go_wp2_with fail
          refine (HLX.out w4).mono ?_
          rintro e w5 ⟨rfl, hb5⟩
          have HB5 := Lib.hid (HB4.out.trans (hb5.mono HB4.out.size))
          clear hb5
          go_wp2_with fail
          go_meet
          case rel => exact HB2.out.trans (HB5.out.mono HB2.out.size)
        · have e1 : (diffErr a b == 0) = false := by simpa using he
          have hx : (xs a b).length = 0 := by unfold xs; rw [if_neg he]; rfl
          have gl : (((xs a b).length : Int) != 0) = false := by rw [hx]; rfl
          clear he hx
          go_wp2_with fail
          go_meet
          case rel => exact HB2.out
      case rest =>
        obtain ⟨w3, hw3⟩ : ∃ x : World, x = wc := ⟨_, rfl⟩
        subst hw3
        have HB3 := Lib.hid hcut
        have HE3 := Lib.hid (HED.out w3 hcut)
        unfold EditedPost at HE3
        clear hcut HR2 HB2 HFA HAB
        go_wp2_with fail
        refine HE3.out.mono ?_
        rintro e w4 ⟨rfl, hb4⟩
        have HB4 := Lib.hid (HB3.out.trans (hb4.mono HB3.out.size))
        have HA4 := Lib.hid (HAP.out w4 HB4.out)
        clear hb4 HE3 HB3
        go_wp2_with fail
        refine HA4.out.mono ?_
        rintro e w5 ⟨rfl, hb5⟩
        have HB5 := Lib.hid (HB4.out.trans (hb5.mono HB4.out.size))
        have HE5 := Lib.hid (HERR.out w5 HB5.out (wkErr a l))
        clear hb5 HA4 HB4
        go_wp2_with fail
        refine HE5.out.mono ?_
        rintro e w6 ⟨rfl, hb6⟩
        have HB6 := Lib.hid (HB5.out.trans (hb6.mono HB5.out.size))
        have HT6 := Lib.hid (HTU.out w6 HB6.out)
        clear hb6 HE5 HB5
        go_wp2_with fail
        refine HT6.out.mono ?_
        rintro e w7 ⟨V2, cv2, rfl, hr, hb7⟩
        have HB7 := Lib.hid (HB6.out.trans (hb7.mono HB6.out.size))
        have HR7 := Lib.hid hr
        have HE7 := Lib.hid (HERR.out w7 HB7.out (wkErr a l))
        clear hr hb7 HT6 HB6
        go_wp2_with fail
        refine HE7.out.mono ?_
        rintro e w8 ⟨rfl, hb8⟩
        have HB8 := Lib.hid (HB7.out.trans (hb8.mono HB7.out.size))
        have HR8 := Lib.hid ((HR7.out.below hb8).more hb8.size)
        clear hb8 HE7 HB7 HR7
        go_upto_if 88 with (fail)
        go_cut [] (fun wx => Below w.heap.size w wx)
        case first =>
          by_cases he : wkErr a l = 0
          · have e1 : (wkErr a l == 0) = true := by simpa using he
            have hF := HTN.out he
            have hsum := hF.sum
            have hlen := hF.len
            have hsz := hF.size
            have hcl : costL (turnL a l) ≤ 4000000000000000000 := by
              have := cost_lim (turnL a l)
              omega
            have HEX := Lib.hid (redited_any w8 (edOut a l) V2 cv2 (turnL a l) HR8.out (by omega) (by omega) (by omega))
            unfold EditedPost at HEX
            rw [hF.err, hF.out] at HEX
            have HCX := Lib.hid (fun W (hb : Below w8.heap.size w8 W) => rcost_any W V2 cv2 (turnL a l) ((HR8.out.below hb).more hb.size) (by omega) hcl)
            rw [hF.cost] at HCX
            have HCL := Lib.hid (fun W (hb : Below w8.heap.size w8 W) => HRC.out W (HB8.out.trans (hb.mono HB8.out.size)))
            have gb : (a.toList != a.toList) = false := by simp
            have gc : ((costL l : Int) != (costL l : Int)) = false := by simp
            clear he hF hsum hlen hsz hcl
            generalize (costL l : Int) = cx at *
            go_wp2_with fail
            refine HEX.out.mono ?_
            rintro e w9 ⟨rfl, hb9⟩
            have HB9 := Lib.hid hb9
            have HC9 := Lib.hid (HCX.out w9 hb9)
            clear hb9
            go_wp2_with fail
            refine HC9.out.mono ?_
            rintro e w10 ⟨rfl, hb10⟩
            have HB10 := Lib.hid (HB9.out.trans (hb10.mono HB9.out.size))
            have HC10 := Lib.hid (HCL.out w10 HB10.out)
            clear hb10
            go_wp2_with fail
            refine HC10.out.mono ?_
            rintro e w11 ⟨rfl, hb11⟩
            have HB11 := Lib.hid (HB10.out.trans (hb11.mono HB10.out.size))
            clear hb11
            go_wp2_with fail
            go_meet
            case rel => exact HB8.out.trans (HB11.out.mono HB8.out.size)
          · have e1 : (wkErr a l == 0) = false := by simpa using he
            have hx : (turnL a l).length = 0 := by unfold turnL; rw [if_neg he]; rfl
            have gl : (((turnL a l).length : Int) != 0) = false := by rw [hx]; rfl
            clear he hx
            go_wp2_with fail
            go_meet
            case rel => exact HB8.out
        case rest =>
          obtain ⟨w9, hw9⟩ : ∃ x : World, x = wc := ⟨_, rfl⟩
          subst hw9
          have HB9 := Lib.hid hcut
          have HC9 := Lib.hid (HCO.out w9 hcut)
          have gb : ((edOut a l).toList == (edOut a l).toList) = true := by simp
          have gc : ((costL l : Int) == (costL l : Int)) = true := by simp
          clear hcut HR8 HB8
          go_wp2_with fail
          refine HC9.out.mono ?_
          rintro e w10 ⟨rfl, hb10⟩
          have HB10 := Lib.hid (HB9.out.trans (hb10.mono HB9.out.size))
          have HC10 := Lib.hid (HRC.out w10 HB10.out)
          clear hb10
          go_wp2_with fail
          refine HC10.out.mono ?_
          rintro e w11 ⟨rfl, hb11⟩
          have HB11 := Lib.hid (HB10.out.trans (hb11.mono HB10.out.size))
          clear hb11
          go_wp2_with fail
          go_ret
          exact ⟨rfl, HB11.out⟩
end lawDiffTells
end Go.Proofs.YteiadcdaleckjaaDoor
