/- 2 texts in one: each says ahead of itself what is proved, and its conditions. -/
import Derived.Test.YthfbjfocmnikaaaGreatDoorBook
import Derived.Test.YthfbjfocmnikaaaGreatDoorBytes
/- book.TextOf, Text, Nth, At, walked. Conditions: letters that a byte holds (of a book that is right they do). -/
namespace Go.Proofs.YthfbjfocmnikaaaGreatDoor
open Go.RowKit
set_option linter.unusedVariables false

/-- What is seen of leafs. -/
def textL (l : List LLeaf) : List UInt8 := (l.filter seenB).map fun x => u8 x.letter
def textOf (l : List LLeaf) : ByteArray := strOf (textL l)
def Fit (l : List LLeaf) : Prop := ∀ x ∈ l, seenB x = true → 0 ≤ x.letter ∧ x.letter ≤ 255
theorem textL_take {l : List LLeaf} {k : Nat} (h : k < l.length) : textL (l.take (k + 1)) = textL (l.take k) ++ (if seenB l[k] then [u8 l[k].letter] else []) := by
  unfold textL
  rw [List.take_succ_eq_append_getElem h, List.filter_append, List.map_append]
  congr 1
  cases hs : seenB l[k] <;> simp [hs]
theorem textL_le (l : List LLeaf) : (textL l).length ≤ l.length := by
  unfold textL
  rw [List.length_map]
  exact List.length_filter_le _ _
theorem conv_nil (w : World) : (convert 122 9 (.slice none 0 0)).run Tryz.prog w = .ok (.string ⟨#[]⟩) w := by kernel_rfl
set_option maxRecDepth 100000 in
/-- A row of bytes, turned into a string; an empty or nil one too. -/
theorem conv_own {w : World} {B : Nat} {V : Option Addr} {n c : Nat} {l : List UInt8} (h : Own w B 5 1 V n c (bs l)) :
    (convert 122 9 (.slice V n c)).run Tryz.prog w = .ok (.string (strOf l)) w := by
  have hl : n = l.length := by have := h.len; rw [bs_len] at this; omega
  subst hl
  rcases h.2 with ⟨he, h0⟩ | ⟨g, cap, cur, he, _⟩
  · injection he with h1 h2 h3
    subst h1 h3
    have : l = [] := List.eq_nil_of_length_eq_zero h0
    subst this
    exact conv_nil w
  · injection he with h1 h2 h3
    subst h1 h3
    refine run_convert_bytes_back (P := Tryz.prog) w 122 9 5 ⟨g, 0, none⟩ c l Tryz.underlying122 Tryz.underlying5 Tryz.underlying9 (fun j hj => ?_)
    have e : (⟨g, 0, none⟩ : Addr).add j = ⟨g, j, none⟩ := by unfold Addr.add; by_cases h : j = 0 <;> simp [h]
    rw [e, h.cellAt (by omega)]
    simp [bs, hj]
theorem reads_byte (W : World) (n : Int) (h0 : 0 ≤ n) (h1 : n ≤ 255) (v : Value) (hv : v = .int .u8 n) : Reads (W.alloc (.cells #[v] 5)) (W.alloc (.cells #[v] 5)).heap.size 1 (some ⟨W.heap.size, 0, none⟩) 1 (bs [u8 n]) := by
  subst hv
  have h := Reads.row W 5 #[.int .u8 n]
  have e : bs [u8 n] = (#[.int .u8 n] : Array Value).toList := by simp [bs, u8_val h0 h1]
  rw [e]
  simpa using h

def TextLoop (w : World) (l : List LLeaf) (v i : Value) (wr : World) : Prop :=
  ∃ (k cv : Nat) (V : Option Addr), k ≤ l.length ∧ i = .int .i64 k ∧ v = .slice V (textL (l.take k)).length cv ∧ Hid (Own wr w.heap.size 5 1 V (textL (l.take k)).length cv (bs (textL (l.take k)))) ∧ Hid (Below w.heap.size w wr)
set_option maxRecDepth 100000 in
set_option maxHeartbeats 2000000 in
theorem textOf_any (w : World) (A : Option Addr) (c : Nat) (l : List LLeaf) (h : Reads w w.heap.size 3 A l.length (lcells l)) (hf : Fit l) (hn : l.length ≤ 1000000) :
    Calls Tryz.prog 66 #[.slice A l.length c] w (CheckPost w (.string (textOf l))) := by
  have HR := Lib.hid h
  have HS := Lib.hid (fun w x => seen_any w x)
  have HFt := Lib.hid hf
  clear h hf
  go_enter Tryz.func66, Tryz.ntmps66
  go_wp2_with fail
  go_loopw [3, 8] (fun v i wr => TextLoop w l v i wr) (fun _ i _ => l.length - (intOf i).toNat)
  case atStart => exact ⟨0, 0, none, by omega, rfl, rfl, Own.nil _ _ _ _, Below.refl _ _⟩
  case round =>
    obtain ⟨k, cv, V, hk, rfl, rfl, HO, HB⟩ := hrel
    by_cases hkn : k < l.length
    · obtain ⟨ad, rfl, hb, c0, c1, c2⟩ := (HR.out.below HB.out).leaf hkn
      have hlt : (k : Int) < (l.length : Int) := by omega
      have htk := textL_take hkn
      have hfit := HFt.out l[k] (List.getElem_mem hkn)
      have hle := textL_le (l.take k)
      rw [List.length_take] at hle
      have hle2 : (textL (l.take k)).length ≤ k := by omega
      clear hle
      generalize l[k] = x at c0 c1 c2 htk hfit
      generalize textL (l.take k) = T at htk hle2 HO ⊢
      have HTK := Lib.hid htk
      have HBa := Lib.hid (HB.out.alloc HB.out.size (.cells #[.string x.place, .int .i64 x.letter, .bool x.struck] 115))
      have HBox := Lib.hid (Blk.new wr 115 #[.string x.place, .int .i64 x.letter, .bool x.struck])
      have HOa := Lib.hid (HO.out.alloc (.cells #[.string x.place, .int .i64 x.letter, .bool x.struck] 115))
      clear htk
      go_wp2_with fail
      refine (HS.out _ x).mono ?_
      rintro e w1 ⟨rfl, hb1⟩
      have HB1 : Hid (Below w.heap.size w w1) := HBa.out.trans (hb1.mono HBa.out.size)
      have HO1 := Lib.hid (HOa.out.below hb1)
      have HBox1 := Lib.hid (HBox.out.below hb1 HBox.out.lt)
      clear hb1
      cases hs : seenB x with
      | true =>
        obtain ⟨n0, n1⟩ := hfit hs
        have d1 : w1.cell? ⟨wr.heap.size, 1, none⟩ = some (.int .i64 x.letter) := by rw [HBox1.out.cell]; rfl
        have HS1 := Lib.hid hs
        have hF : Fits (T.length + 1) 1 := Fits.of_small (by omega) (by decide)
        have HRB := Lib.hid (reads_byte w1 x.letter n0 n1 (.int .u8 x.letter) rfl)
        have HOb := HO1.out.alloc (.cells #[.int .u8 x.letter] 5)
        have hbase : w.heap.size ≤ (w1.alloc (.cells #[.int .u8 x.letter] 5)).heap.size := by have := HB1.out.size; simp; omega
        have HBb := Lib.hid (HB1.out.alloc HB1.out.size (.cells #[.int .u8 x.letter] 5))
        clear hs hfit
        go_wp2_with (at_builtin; go_loud (refine wpList_app _ (.tmp 14) (.tmp 18) rfl rfl elemB rfl rfl HOb HRB.out (oneCells_bs _) hF hbase ?_; intro V2 cv2 w2 HO2 HL2 HX2; have HOn := Lib.hid HO2; have HBn : Hid (Below w.heap.size w w2) := HBb.out.trans (HL2.below HBb.out.size (fun g hg => (HOb.lt g hg).1)); clear HO2 HL2 HX2 HOb))
        go_roundw
        case rel =>
          have hT : textL (l.take (k + 1)) = T ++ [u8 x.letter] := by rw [HTK.out, HS1.out]; rfl
          refine ⟨k + 1, cv2, V2, by omega, by go_num, by rw [hT, List.length_append]; rfl, Lib.hid ?_, HBn⟩
          rw [hT, List.length_append, ← bs_append]
          exact HOn.out
        case measure => simp [intOf]; omega
      | false =>
        have HS1 := Lib.hid hs
        clear hs hfit
        go_wp2_with fail
        go_roundw
        case rel =>
          have hT : textL (l.take (k + 1)) = T := by rw [HTK.out, HS1.out]; simp
          refine ⟨k + 1, cv, V, by omega, by go_num, by rw [hT], Lib.hid ?_, HB1⟩
          rw [hT]
          exact HO1.out
        case measure => simp [intOf]; omega
    · have hd : decide ((k : Int) < (l.length : Int)) = false := by simp; omega
      have hcv := conv_own HO.out
      have HT : Hid (strOf (textL (l.take k)) = textOf l) := by show _ = _; rw [List.take_of_length_le (by omega)]; rfl
      go_wp2_with fail
      go_ret
      exact ⟨by rw [← HT.out]; rfl, HB.out⟩
end Go.Proofs.YthfbjfocmnikaaaGreatDoor
/- book.Text, Nth, At, walked; what a book that is right has. Conditions: stated with each. -/
namespace Go.Proofs.YthfbjfocmnikaaaGreatDoor
open Go.RowKit
set_option linter.unusedVariables false

/-- A leaf that is right. -/
structure LLeaf.Ok (x : LLeaf) : Prop where
  place : placeErr x.place = 0
  letter : x.letter ≠ 0 → 32 ≤ x.letter ∧ x.letter ≤ 126
  struck : x.letter = 0 → x.struck = true
theorem leaf_ok {prev : Option LLeaf} {x : LLeaf} (h : leafErr prev x = 0) : x.Ok ∧ ∀ p, prev = some p → Op.bytesLess p.place.toList x.place.toList = true := by
  unfold leafErr at h
  by_cases h1 : placeErr x.place ≠ 0
  · rw [if_pos h1] at h; exact absurd h h1
  rw [if_neg h1] at h
  by_cases h2 : x.letter ≠ 0 ∧ letterB x.letter = false
  · rw [if_pos h2] at h; omega
  rw [if_neg h2] at h
  by_cases h3 : x.letter = 0 ∧ x.struck = false
  · rw [if_pos h3] at h; omega
  rw [if_neg h3] at h
  refine ⟨⟨by omega, fun hn => ?_, fun hn => ?_⟩, ?_⟩
  · have hl : letterB x.letter = true := by
      cases hl : letterB x.letter
      · exact absurd ⟨hn, hl⟩ h2
      · rfl
    simp [letterB] at hl
    exact hl
  · cases hs : x.struck
    · exact absurd ⟨hn, hs⟩ h3
    · rfl
  · rintro p rfl
    cases hl : Op.bytesLess p.place.toList x.place.toList
    · rw [if_pos hl] at h; omega
    · rfl
/-- Places rise. -/
def Rising : List LLeaf → Prop
  | [] => True
  | x :: l => (∀ y, l.head? = some y → Op.bytesLess x.place.toList y.place.toList = true) ∧ Rising l
theorem fault_ok {prev : Option LLeaf} {l : List LLeaf} (h : bookFault prev l = 0) : (∀ x ∈ l, x.Ok) ∧ Rising l ∧ ∀ p y, prev = some p → l.head? = some y → Op.bytesLess p.place.toList y.place.toList = true := by
  induction l generalizing prev with
  | nil => exact ⟨by simp, trivial, by simp⟩
  | cons x l ih =>
    rw [bookFault] at h
    by_cases h1 : leafErr prev x ≠ 0
    · rw [if_pos h1] at h; exact absurd h h1
    · rw [if_neg h1] at h
      obtain ⟨i1, i2, i3⟩ := ih h
      obtain ⟨k1, k2⟩ := leaf_ok (show leafErr prev x = 0 by omega)
      refine ⟨fun y hy => ?_, ⟨fun y hy => i3 x y rfl hy, i2⟩, fun p y hp hy => ?_⟩
      · rcases List.mem_cons.1 hy with rfl | hy
        · exact k1
        · exact i1 y hy
      · simp at hy; subst hy; exact k2 p hp
structure BookOk (l : List LLeaf) : Prop where
  few : l.length ≤ 300
  leafs : ∀ x ∈ l, x.Ok
  rising : Rising l
theorem book_ok {l : List LLeaf} (h : bookErr l = 0) : BookOk l := by
  unfold bookErr at h
  by_cases h1 : 300 < l.length
  · rw [if_pos h1] at h; omega
  · rw [if_neg h1] at h
    obtain ⟨i1, i2, _⟩ := fault_ok h
    exact ⟨by omega, i1, i2⟩
theorem Fit.sub {l m : List LLeaf} (h : Fit l) (hm : ∀ x ∈ m, x ∈ l) : Fit m := fun x hx => h x (hm x hx)

/-- The place in the list of the o-th leaf that is seen, from k on; below 0: none. -/
def nthFrom : Nat → List LLeaf → Int → Int
  | _, [], _ => -1
  | k, x :: l, o => if seenB x = true then (if o = 0 then (k : Int) else nthFrom (k + 1) l (o - 1)) else nthFrom (k + 1) l o
end Go.Proofs.YthfbjfocmnikaaaGreatDoor
