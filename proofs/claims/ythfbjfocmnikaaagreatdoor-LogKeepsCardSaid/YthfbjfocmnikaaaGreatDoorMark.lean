/- Marks in memory; marks.one, order, Check, walked. Conditions: places that an int may count. -/
import Derived.Deep.RegionHeld3
import Derived.Test.YthfbjfocmnikaaaGreatDoorDot
import Derived.Test.YthfbjfocmnikaaaGreatDoorOpen
import Derived.Test.YthfbjfocmnikaaaGreatDoorShelfCmp
namespace Go.Proofs.YthfbjfocmnikaaaGreatDoor
open Go.RowKit
set_option linter.unusedVariables false

structure LMark where
  place : ByteArray
  dot : LDot
instance : Inhabited LMark := ⟨⟨⟨#[]⟩, ⟨0, 0⟩⟩⟩
def LMark.cells (m : LMark) : List Value := [.string m.place, .int .i64 m.dot.who, .int .i64 m.dot.n]
theorem LMark.cells_len (m : LMark) : m.cells.length = 3 := rfl
def mcells (l : List LMark) : List Value := l.flatMap LMark.cells
theorem mcells_len (l : List LMark) : (mcells l).length = l.length * 3 := flat_len_of LMark.cells_len l
theorem mcells_at (l : List LMark) (k r : Nat) (hk : k < l.length) (hr : r < 3) : (mcells l)[k * 3 + r]? = l[k].cells[r]? := by
  unfold mcells
  rw [flat_at LMark.cells_len (by decide), show (k * 3 + r) / 3 = k by omega, show (k * 3 + r) % 3 = r by omega, List.getElem?_eq_getElem hk]
  rfl
/-- A mark of the row, read. -/
theorem Reads.mark {w : World} {B : Nat} {A : Option Addr} {l : List LMark} (h : Reads w B 3 A l.length (mcells l)) {k : Nat} (hk : k < l.length) :
    ∃ ad, A = some ad ∧ ad.block < B ∧ w.cell? (ad.add (k * 3)) = some (.string l[k].place) ∧ w.cell? ⟨(ad.add (k * 3)).block, (ad.add (k * 3)).off + 1, none⟩ = some (.int .i64 l[k].dot.who) ∧
      w.cell? ⟨(ad.add (k * 3)).block, (ad.add (k * 3)).off + 2, none⟩ = some (.int .i64 l[k].dot.n) := by
  obtain ⟨ad, e, hb, hc⟩ := h.2 (by omega)
  refine ⟨ad, e, hb, ?_, ?_, ?_⟩
  · exact hc _ _ (by rw [show k * 3 = k * 3 + 0 from rfl, mcells_at l k 0 hk (by omega)]; rfl)
  · rw [show (⟨(ad.add (k * 3)).block, (ad.add (k * 3)).off + 1, none⟩ : Addr) = (ad.add (k * 3)).add 1 from rfl, add_of_add]
    exact hc _ _ (by rw [mcells_at l k 1 hk (by omega)]; rfl)
  · rw [show (⟨(ad.add (k * 3)).block, (ad.add (k * 3)).off + 2, none⟩ : Addr) = (ad.add (k * 3)).add 2 from rfl, add_of_add]
    exact hc _ _ (by rw [mcells_at l k 2 hk (by omega)]; rfl)

def markErr (m : LMark) : Int := if placeErr m.place ≠ 0 then placeErr m.place else dotErr m.dot
def ordM (a b : LMark) : Int := orI (Lib.compareBytes a.place.data.toList b.place.data.toList) (ordD a.dot b.dot)
def marksFault (prev : Option LMark) : List LMark → Int
  | [] => 0
  | m :: l => if markErr m ≠ 0 then markErr m else if (match prev with | none => false | some p => decide (0 ≤ ordM p m)) = true then 7 else marksFault (some m) l
/-- What is wrong with marks. -/
def marksErr (l : List LMark) : Int := if 40 < l.length then 4 else marksFault none l

set_option maxRecDepth 100000 in
set_option maxHeartbeats 1000000 in
theorem markOne_any (w : World) (m : LMark) (hp : m.place.size ≤ 9223372036854775807) : Calls Tryz.prog 222 #[.agg #[.string m.place, .int .i64 m.dot.who, .int .i64 m.dot.n]] w (CheckPost w (errV (markErr m))) := by
  obtain ⟨p, d, n⟩ := m
  have HP := Lib.hid (fun w => check_any w p hp)
  have HD := Lib.hid (fun w => dotCheck_any w d n)
  have HBk := Lib.hid (Blk.new w 136 #[.string p, .int .i64 d, .int .i64 n])
  have HB : Hid (Below w.heap.size w (w.alloc (.cells #[.string p, .int .i64 d, .int .i64 n] 136))) := (Below.refl _ _).alloc (Nat.le_refl _) _
  clear hp
  by_cases he : placeErr p = 0
  · have HE := Lib.hid he
    have HF : Hid (markErr ⟨p, ⟨d, n⟩⟩ = dotErr ⟨d, n⟩) := if_neg (fun h => h he)
    clear he
    go_enter Tryz.func222, Tryz.ntmps222
    go_wp2_with fail
    refine (HP.out _).mono ?_
    rintro e w1 ⟨rfl, hb1⟩
    rw [HE.out, show errV 0 = .nilIface from rfl]
    have HBk1 := Lib.hid (HBk.out.below hb1 HBk.out.lt)
    have HB1 := Lib.hid (HB.out.trans (hb1.mono HB.out.size))
    clear hb1
    have d1 : w1.cell? ⟨w.heap.size, 1, none⟩ = some (.int .i64 d) := by rw [HBk1.out.cell]; rfl
    have d2 : w1.cell? ⟨w.heap.size, 2, none⟩ = some (.int .i64 n) := by rw [HBk1.out.cell]; rfl
    go_wp2_with fail
    refine (HD.out _).mono ?_
    rintro e w2 ⟨rfl, hb2⟩
    have HB2 := Lib.hid (HB1.out.trans (hb2.mono HB1.out.size))
    clear hb2
    go_wp2_with fail
    go_ret
    exact ⟨by rw [HF.out]; rfl, HB2.out⟩
  · have HV := Lib.hid (errV_ne he)
    have HF : Hid (markErr ⟨p, ⟨d, n⟩⟩ = placeErr p) := if_pos he
    clear he
    go_enter Tryz.func222, Tryz.ntmps222
    go_wp2_with fail
    refine (HP.out _).mono ?_
    rintro e w1 ⟨rfl, hb1⟩
    rw [HV.out]
    have HB1 := Lib.hid (HB.out.trans (hb1.mono HB.out.size))
    clear hb1
    go_wp2_with fail
    go_ret
    exact ⟨by rw [HF.out, HV.out]; rfl, HB1.out⟩

set_option maxRecDepth 100000 in
set_option maxHeartbeats 2000000 in
theorem markOrder_any (w : World) (a b : LMark) : Calls Tryz.prog 224 #[.agg #[.string a.place, .int .i64 a.dot.who, .int .i64 a.dot.n], .agg #[.string b.place, .int .i64 b.dot.who, .int .i64 b.dot.n]] w (CheckPost w (.int .i64 (ordM a b))) := by
  obtain ⟨p, ⟨d, n⟩⟩ := a
  obtain ⟨q, ⟨e, m⟩⟩ := b
  have HC := Lib.hid (fun w => Tryz.strings_Compare p q w)
  have HO := Lib.hid (fun w => order_any w d n e m)
  have HOr := Lib.hid (fun w g x y c0 c1 => or_any w g x y c0 c1)
  have HEq : Hid (ordM ⟨p, ⟨d, n⟩⟩ ⟨q, ⟨e, m⟩⟩ = orI (Lib.compareBytes p.data.toList q.data.toList) (ordD ⟨d, n⟩ ⟨e, m⟩)) := Lib.hid rfl
  have HB1 := Lib.hid ((Blk.new w 136 #[.string p, .int .i64 d, .int .i64 n]).alloc (.cells #[.string q, .int .i64 e, .int .i64 m] 136)).drew
  have HB2 : Hid (Blk ((w.alloc (.cells #[.string p, .int .i64 d, .int .i64 n] 136)).alloc (.cells #[.string q, .int .i64 e, .int .i64 m] 136)).drew (w.heap.size + 1) 136 #[.string q, .int .i64 e, .int .i64 m]) := by
    have := (Blk.new (w.alloc (.cells #[.string p, .int .i64 d, .int .i64 n] 136)) 136 #[.string q, .int .i64 e, .int .i64 m]).drew
    simpa using Lib.hid this
  have HBel : Hid (Below w.heap.size w ((w.alloc (.cells #[.string p, .int .i64 d, .int .i64 n] 136)).alloc (.cells #[.string q, .int .i64 e, .int .i64 m] 136)).drew) :=
    (((Below.refl _ _).alloc (Nat.le_refl _) _).alloc (by simp) _).drew
  generalize Lib.compareBytes p.data.toList q.data.toList = cv at *
  generalize ordD ⟨d, n⟩ ⟨e, m⟩ = ov at *
  go_enter Tryz.func224, Tryz.ntmps224
  go_wp2_with fail
  go_region_held3 (fun w' => w'.cell? ⟨w.heap.size, 0, none⟩ = some (.string p) ∧ w'.cell? ⟨w.heap.size, 1, none⟩ = some (.int .i64 d) ∧ w'.cell? ⟨w.heap.size, 2, none⟩ = some (.int .i64 n) ∧ w'.cell? ⟨w.heap.size + 1, 0, none⟩ = some (.string q) ∧ w'.cell? ⟨w.heap.size + 1, 1, none⟩ = some (.int .i64 e) ∧ w'.cell? ⟨w.heap.size + 1, 2, none⟩ = some (.int .i64 m))
    (first
      | go_keep
      | (refine ⟨?_, ?_, ?_, ?_, ?_, ?_⟩ <;> assumption))
    (first
      | (go_at_call 121; refine (HC.out _).mono ?_; rintro e1 w1 ⟨rfl, rfl⟩)
      | (go_at_call 101; refine (HO.out _).mono ?_; rintro e1 w2 ⟨rfl, hb2⟩; have k0 : w2.cell? ⟨w.heap.size, 0, none⟩ = some (.string p) := (by rw [(HB1.out.below hb2 HB1.out.lt).cell]; rfl); have k1 : w2.cell? ⟨w.heap.size, 1, none⟩ = some (.int .i64 d) := (by rw [(HB1.out.below hb2 HB1.out.lt).cell]; rfl); have k2 : w2.cell? ⟨w.heap.size, 2, none⟩ = some (.int .i64 n) := (by rw [(HB1.out.below hb2 HB1.out.lt).cell]; rfl); have k3 : w2.cell? ⟨w.heap.size + 1, 0, none⟩ = some (.string q) := (by rw [(HB2.out.below hb2 HB2.out.lt).cell]; rfl); have k4 : w2.cell? ⟨w.heap.size + 1, 1, none⟩ = some (.int .i64 e) := (by rw [(HB2.out.below hb2 HB2.out.lt).cell]; rfl); have k5 : w2.cell? ⟨w.heap.size + 1, 2, none⟩ = some (.int .i64 m) := (by rw [(HB2.out.below hb2 HB2.out.lt).cell]; rfl); have HB3 := Lib.hid (HBel.out.trans (hb2.mono HBel.out.size)); clear hb2)
      | (go_at_call 157; refine (HOr.out _ _ cv ov (by simp [World.cell?_alloc_new]) (by simp [World.cell?_alloc_new])).mono ?_; rintro e1 w3 ⟨rfl, rfl⟩))
  all_goals
    go_wp2_with fail
    go_ret
    refine ⟨by rw [HEq.out]; rfl, ?_⟩
    have h := HB3.out.alloc HB3.out.size (.cells #[.int .i64 cv, .int .i64 ov] 3)
    first | exact h | exact h.drew
end Go.Proofs.YthfbjfocmnikaaaGreatDoor
