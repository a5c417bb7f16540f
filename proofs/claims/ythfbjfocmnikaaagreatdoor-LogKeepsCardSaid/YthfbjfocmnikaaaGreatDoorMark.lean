/- 4 texts in one: each says ahead of itself what is proved, and its conditions. -/
import Derived.Deep.RegionHeld3
import Derived.Lib.Bytealg
import Derived.Shelf.Small.Strs
import Derived.Test.YthfbjfocmnikaaaGreatDoorProg
import Derived.Test.YthfbjfocmnikaaaGreatDoorDecode
import Derived.Test.YthfbjfocmnikaaaGreatDoorDot
import Derived.Test.YthfbjfocmnikaaaGreatDoorOpenOps
import Derived.Test.YthfbjfocmnikaaaGreatDoorPlaceCheck
/- op.Unpack, walked: the ops of a parcel, or ErrSyntax. -/
namespace Go.Proofs.YthfbjfocmnikaaaGreatDoor
open Go.RowKit
set_option linter.unusedVariables false
def unpackN : Nat → List UInt8 → Option (List LOp)
  | 0, s => if s = [] then some [] else none
  | n + 1, c :: d :: t => if t.length < c.toNat * 256 + d.toNat then none else
      match decOf (strOf (t.take (c.toNat * 256 + d.toNat))) with
      | none => none
      | some o => (unpackN n (t.drop (c.toNat * 256 + d.toNat))).map (o :: ·)
  | _ + 1, _ => none
theorem elemOu : Elem Tryz.prog 22 30 6 72 := Elem.mk_ (z := .agg #[.int .i64 0, .int .i64 0, .int .i64 0, .string ⟨#[]⟩, .int .i64 0, .slice none 0 0]) Tryz.underlying22 (by kernel_rfl) rfl (by decide)
/-- Midway: so many ops are read. -/
structure UMid (w : World) (g0 m : Nat) (t : List UInt8) (k : Nat) (V : Option Addr) (cv : Nat) (ys : List OpAt) (rest : List UInt8) (wr : World) : Prop where
  rd : RdAt wr (g0 + 1 + 1) rest
  bel : Below g0 w wr
  res : Blk wr g0 22 #[.slice V k cv]
  err : Blk wr (g0 + 1) 32 #[.nilIface]
  own : Own wr g0 30 6 V k cv (ocells ys)
  seen : ∀ y ∈ ys, Own wr g0 27 2 y.at_ y.op.seen.length y.cap (dcells y.op.seen) ∧ y.op.place.size ≤ 255
  is : unpackN m t = (unpackN (m - k) rest).map fun r => ys.map OpAt.op ++ r
end Go.Proofs.YthfbjfocmnikaaaGreatDoor
/- The order of texts: plain lemmas. Conditions: none. -/
namespace Go.Proofs.YthfbjfocmnikaaaGreatDoor
set_option linter.unusedVariables false

theorem less_asymm' : ∀ (x y : List UInt8), Op.bytesLess x y = true → Op.bytesLess y x = false := by
  intro x
  induction x with
  | nil => intro y h; cases y <;> simp [Op.bytesLess] at h ⊢
  | cons a x ih =>
    intro y h
    cases y with
    | nil => simp [Op.bytesLess] at h
    | cons b y =>
      simp only [Op.bytesLess, Bool.or_eq_true, Bool.and_eq_true, decide_eq_true_eq, beq_iff_eq, Bool.or_eq_false_iff, Bool.and_eq_false_iff, decide_eq_false_iff_not, beq_eq_false_iff_ne, UInt8.lt_iff_toNat_lt] at h ⊢
      rcases h with h | ⟨rfl, h⟩
      · refine ⟨by omega, .inl (fun h2 => ?_)⟩
        subst h2; omega
      · exact ⟨by omega, .inr (ih y h)⟩
theorem less_trans : ∀ (x y z : List UInt8), Op.bytesLess x y = true → Op.bytesLess y z = true → Op.bytesLess x z = true := by
  intro x
  induction x with
  | nil => intro y z h1 h2; cases z <;> cases y <;> simp [Op.bytesLess] at h1 h2 ⊢
  | cons a x ih =>
    intro y z h1 h2
    cases y with
    | nil => simp [Op.bytesLess] at h1
    | cons b y =>
      cases z with
      | nil => simp [Op.bytesLess] at h2
      | cons c z =>
        simp only [Op.bytesLess, Bool.or_eq_true, Bool.and_eq_true, decide_eq_true_eq, beq_iff_eq, UInt8.lt_iff_toNat_lt] at h1 h2 ⊢
        rcases h1 with h1 | ⟨rfl, h1⟩ <;> rcases h2 with h2 | ⟨rfl, h2⟩
        · exact .inl (by omega)
        · exact .inl h1
        · exact .inl h2
        · exact .inr ⟨rfl, ih y z h1 h2⟩
theorem less_irrefl' (x : List UInt8) : Op.bytesLess x x = false := by
  cases h : Op.bytesLess x x
  · rfl
  · rw [less_asymm' x x h] at h; cases h
theorem less_total' : ∀ (x y : List UInt8), Op.bytesLess x y = false → x ≠ y → Op.bytesLess y x = true := by
  intro x
  induction x with
  | nil => intro y h h2; cases y <;> simp [Op.bytesLess] at h h2
  | cons a x ih =>
    intro y h h2
    cases y with
    | nil => simp [Op.bytesLess]
    | cons b y =>
      simp only [Op.bytesLess, Bool.or_eq_true, Bool.and_eq_true, decide_eq_true_eq, beq_iff_eq, Bool.or_eq_false_iff, Bool.and_eq_false_iff, decide_eq_false_iff_not, beq_eq_false_iff_ne, UInt8.lt_iff_toNat_lt] at h ⊢
      obtain ⟨h3, h4⟩ := h
      by_cases hab : a = b
      · subst hab
        refine .inr ⟨rfl, ih y ?_ (fun h => h2 (by rw [h]))⟩
        rcases h4 with h4 | h4
        · exact absurd rfl h4
        · exact h4
      · refine .inl ?_
        have : a.toNat ≠ b.toNat := fun h => hab (UInt8.toNat_inj.1 h)
        omega
theorem cmp_less_iff : ∀ (a b : List UInt8), Lib.compareBytes a b < 0 ↔ Op.bytesLess a b = true := by
  intro a
  induction a with
  | nil => intro b; cases b <;> simp [Lib.compareBytes, Op.bytesLess]
  | cons x a ih =>
    intro b
    cases b with
    | nil => simp [Lib.compareBytes, Op.bytesLess]
    | cons y b =>
      simp only [Op.bytesLess, Bool.or_eq_true, Bool.and_eq_true, decide_eq_true_eq, beq_iff_eq]
      have e : Lib.compareBytes (x :: a) (y :: b) = if x < y then -1 else if y < x then 1 else Lib.compareBytes a b := rfl
      rw [e]
      by_cases h1 : x < y
      · rw [if_pos h1]; simp [h1]
      · rw [if_neg h1]
        by_cases h2 : y < x
        · rw [if_pos h2]
          have hne : x ≠ y := by rintro rfl; rw [UInt8.lt_iff_toNat_lt] at h2; omega
          simp [h1, hne]
        · rw [if_neg h2]
          have : x = y := by
            apply UInt8.toNat_inj.1
            rw [UInt8.lt_iff_toNat_lt] at h1 h2
            omega
          subst this
          rw [ih]
          simp [h1]
theorem cmp_less (a b : List UInt8) : decide (Lib.compareBytes a b < 0) = Op.bytesLess a b := by
  rw [Bool.eq_iff_iff, decide_eq_true_iff]
  exact cmp_less_iff a b
theorem cmp_zero : ∀ (a b : List UInt8), (Lib.compareBytes a b == 0) = (a == b) := by
  intro a
  induction a with
  | nil => intro b; cases b <;> simp [Lib.compareBytes]
  | cons x a ih =>
    intro b
    cases b with
    | nil => simp [Lib.compareBytes]
    | cons y b =>
      simp only [Lib.compareBytes]
      by_cases h1 : x < y
      · rw [if_pos h1]
        have hne : x ≠ y := by rintro rfl; rw [UInt8.lt_iff_toNat_lt] at h1; omega
        simp [hne]
      · rw [if_neg h1]
        by_cases h2 : y < x
        · rw [if_pos h2]
          have hne : x ≠ y := by rintro rfl; rw [UInt8.lt_iff_toNat_lt] at h2; omega
          simp [hne]
        · rw [if_neg h2]
          have : x = y := by
            apply UInt8.toNat_inj.1
            rw [UInt8.lt_iff_toNat_lt] at h1 h2
            omega
          subst this
          rw [ih]
          simp
theorem cmp_range : ∀ (a b : List UInt8), -1 ≤ Lib.compareBytes a b ∧ Lib.compareBytes a b ≤ 1 := by
  intro a
  induction a with
  | nil => intro b; cases b <;> simp [Lib.compareBytes]
  | cons x a ih =>
    intro b
    cases b with
    | nil => simp [Lib.compareBytes]
    | cons y b =>
      simp only [Lib.compareBytes]
      split
      · omega
      · split
        · omega
        · exact ih b
end Go.Proofs.YthfbjfocmnikaaaGreatDoor
/- strings.Compare. (Written by the kit's shelf tools in their plain mode; cut and turned to names.) Conditions: stated with each. -/
namespace Go.Proofs
open Go.Shelf Go.RowKit Go.Lib
def Tryz.lays106_ren : Go.Shelf.Ren := ⟨fun | 106 => 121 | 213 => 175 | 265 => 210 | n => n, fun | 9 => 9 | 3 => 3 | n => n, fun | n => n⟩
theorem Tryz.lays106 : Go.Proofs.Lays.n106 Tryz.prog Tryz.lays106_ren := {
  mixed := by kernel_rfl
  f106 := Tryz.func121.trans (congrArg some (by kernel_rfl))
  f213 := Tryz.func175.trans (congrArg some (by kernel_rfl))
  f265 := Tryz.func210.trans (congrArg some (by kernel_rfl))
  t3 := Tryz.underlying3
  a3 := Tryz.isAgg3
  z3 := Tryz.sizeOf3
  v3 := Tryz.zeroValue3
  t9 := Tryz.underlying9
  a9 := Tryz.isAgg9
  z9 := Tryz.sizeOf9
  v9 := Tryz.zeroValue9 }
theorem Tryz.strings_Compare (a b : ByteArray) (w : World) :
    Calls Tryz.prog 121 #[.string a, .string b] w fun e w' => e = .returned (.int .i64 (Lib.compareBytes a.data.toList b.data.toList)) ∧ w' = w := Any.strings_Compare Tryz.lays106 a b w
end Go.Proofs
/- Marks in memory; marks.one, order, Check, walked. Conditions: places that an int may count. -/
namespace Go.Proofs.YthfbjfocmnikaaaGreatDoor
open Go.RowKit
set_option linter.unusedVariables false

structure LMark where
  place : ByteArray
  dot : LDot
instance : Inhabited LMark := ⟨⟨⟨#[]⟩, ⟨0, 0⟩⟩⟩
def LMark.cells (m : LMark) : List Value := [.string m.place, .int .i64 m.dot.who, .int .i64 m.dot.n]
theorem LMark.cells_len (m : LMark) : m.cells.length = 3 := rfl
def mcells (l : List LMark) : List Value := l.flatMap LMark.cells
theorem mcells_len (l : List LMark) : (mcells l).length = l.length * 3 := flat_len_of LMark.cells_len l
theorem mcells_at (l : List LMark) (k r : Nat) (hk : k < l.length) (hr : r < 3) : (mcells l)[k * 3 + r]? = l[k].cells[r]? := by
  unfold mcells
  rw [flat_at LMark.cells_len (by decide), show (k * 3 + r) / 3 = k by omega, show (k * 3 + r) % 3 = r by omega, List.getElem?_eq_getElem hk]
  rfl
/-- A mark of the row, read. -/
theorem Reads.mark {w : World} {B : Nat} {A : Option Addr} {l : List LMark} (h : Reads w B 3 A l.length (mcells l)) {k : Nat} (hk : k < l.length) :
    ∃ ad, A = some ad ∧ ad.block < B ∧ w.cell? (ad.add (k * 3)) = some (.string l[k].place) ∧ w.cell? ⟨(ad.add (k * 3)).block, (ad.add (k * 3)).off + 1, none⟩ = some (.int .i64 l[k].dot.who) ∧
      w.cell? ⟨(ad.add (k * 3)).block, (ad.add (k * 3)).off + 2, none⟩ = some (.int .i64 l[k].dot.n) := by
  obtain ⟨ad, e, hb, hc⟩ := h.2 (by omega)
  refine ⟨ad, e, hb, ?_, ?_, ?_⟩
  · exact hc _ _ (by rw [show k * 3 = k * 3 + 0 from rfl, mcells_at l k 0 hk (by omega)]; rfl)
  · rw [show (⟨(ad.add (k * 3)).block, (ad.add (k * 3)).off + 1, none⟩ : Addr) = (ad.add (k * 3)).add 1 from rfl, add_of_add]
    exact hc _ _ (by rw [mcells_at l k 1 hk (by omega)]; rfl)
  · rw [show (⟨(ad.add (k * 3)).block, (ad.add (k * 3)).off + 2, none⟩ : Addr) = (ad.add (k * 3)).add 2 from rfl, add_of_add]
    exact hc _ _ (by rw [mcells_at l k 2 hk (by omega)]; rfl)

def markErr (m : LMark) : Int := if placeErr m.place ≠ 0 then placeErr m.place else dotErr m.dot
def ordM (a b : LMark) : Int := orI (Lib.compareBytes a.place.data.toList b.place.data.toList) (ordD a.dot b.dot)
def marksFault (prev : Option LMark) : List LMark → Int
  | [] => 0
  | m :: l => if markErr m ≠ 0 then markErr m else if (match prev with | none => false | some p => decide (0 ≤ ordM p m)) = true then 7 else marksFault (some m) l
/-- What is wrong with marks. -/
def marksErr (l : List LMark) : Int := if 40 < l.length then 4 else marksFault none l

set_option maxRecDepth 100000 in
set_option maxHeartbeats 1000000 in
theorem markOne_any (w : World) (m : LMark) (hp : m.place.size ≤ 9223372036854775807) : Calls Tryz.prog 222 #[.agg #[.string m.place, .int .i64 m.dot.who, .int .i64 m.dot.n]] w (CheckPost w (errV (markErr m))) := by
  obtain ⟨p, d, n⟩ := m
  have HP := Lib.hid (fun w => check_any w p hp)
  have HD := Lib.hid (fun w => dotCheck_any w d n)
  have HBk := Lib.hid (Blk.new w 136 #[.string p, .int .i64 d, .int .i64 n])
  have HB : Hid (Below w.heap.size w (w.alloc (.cells #[.string p, .int .i64 d, .int .i64 n] 136))) := (Below.refl _ _).alloc (Nat.le_refl _) _
  clear hp
  by_cases he : placeErr p = 0
  · have HE := Lib.hid he
    have HF : Hid (markErr ⟨p, ⟨d, n⟩⟩ = dotErr ⟨d, n⟩) := if_neg (fun h => h he)
    clear he
    go_enter Tryz.func222, Tryz.ntmps222
    go_wp2_with fail
    refine (HP.out _).mono ?_
    rintro e w1 ⟨rfl, hb1⟩
    rw [HE.out, show errV 0 = .nilIface from rfl]
    have HBk1 := Lib.hid (HBk.out.below hb1 HBk.out.lt)
    have HB1 := Lib.hid (HB.out.trans (hb1.mono HB.out.size))
    clear hb1
    have d1 : w1.cell? ⟨w.heap.size, 1, none⟩ = some (.int .i64 d) := by rw [HBk1.out.cell]; rfl
    have d2 : w1.cell? ⟨w.heap.size, 2, none⟩ = some (.int .i64 n) := by rw [HBk1.out.cell]; rfl
    go_wp2_with fail
    refine (HD.out _).mono ?_
    rintro e w2 ⟨rfl, hb2⟩
    have HB2 := Lib.hid (HB1.out.trans (hb2.mono HB1.out.size))
    clear hb2
    go_wp2_with fail
    go_ret
    exact ⟨by rw [HF.out]; rfl, HB2.out⟩
  · have HV := Lib.hid (errV_ne he)
    have HF : Hid (markErr ⟨p, ⟨d, n⟩⟩ = placeErr p) := if_pos he
    clear he
    go_enter Tryz.func222, Tryz.ntmps222
    go_wp2_with fail
    refine (HP.out _).mono ?_
    rintro e w1 ⟨rfl, hb1⟩
    rw [HV.out]
    have HB1 := Lib.hid (HB.out.trans (hb1.mono HB.out.size))
    clear hb1
    go_wp2_with fail
    go_ret
    exact ⟨by rw [HF.out, HV.out]; rfl, HB1.out⟩

set_option maxRecDepth 100000 in
set_option maxHeartbeats 2000000 in
theorem markOrder_any (w : World) (a b : LMark) : Calls Tryz.prog 224 #[.agg #[.string a.place, .int .i64 a.dot.who, .int .i64 a.dot.n], .agg #[.string b.place, .int .i64 b.dot.who, .int .i64 b.dot.n]] w (CheckPost w (.int .i64 (ordM a b))) := by
  obtain ⟨p, ⟨d, n⟩⟩ := a
  obtain ⟨q, ⟨e, m⟩⟩ := b
  have HC := Lib.hid (fun w => Tryz.strings_Compare p q w)
  have HO := Lib.hid (fun w => order_any w d n e m)
  have HOr := Lib.hid (fun w g x y c0 c1 => or_any w g x y c0 c1)
  have HEq : Hid (ordM ⟨p, ⟨d, n⟩⟩ ⟨q, ⟨e, m⟩⟩ = orI (Lib.compareBytes p.data.toList q.data.toList) (ordD ⟨d, n⟩ ⟨e, m⟩)) := Lib.hid rfl
  have HB1 := Lib.hid ((Blk.new w 136 #[.string p, .int .i64 d, .int .i64 n]).alloc (.cells #[.string q, .int .i64 e, .int .i64 m] 136)).drew
  have HB2 : Hid (Blk ((w.alloc (.cells #[.string p, .int .i64 d, .int .i64 n] 136)).alloc (.cells #[.string q, .int .i64 e, .int .i64 m] 136)).drew (w.heap.size + 1) 136 #[.string q, .int .i64 e, .int .i64 m]) := by
    have := (Blk.new (w.alloc (.cells #[.string p, .int .i64 d, .int .i64 n] 136)) 136 #[.string q, .int .i64 e, .int .i64 m]).drew
    simpa using Lib.hid this
  have HBel : Hid (Below w.heap.size w ((w.alloc (.cells #[.string p, .int .i64 d, .int .i64 n] 136)).alloc (.cells #[.string q, .int .i64 e, .int .i64 m] 136)).drew) :=
    (((Below.refl _ _).alloc (Nat.le_refl _) _).alloc (by simp) _).drew
  generalize Lib.compareBytes p.data.toList q.data.toList = cv at *
  generalize ordD ⟨d, n⟩ ⟨e, m⟩ = ov at *
  go_enter Tryz.func224, Tryz.ntmps224
  go_wp2_with fail
  go_region_held3 (fun w' => w'.cell? ⟨w.heap.size, 0, none⟩ = some (.string p) ∧ w'.cell? ⟨w.heap.size, 1, none⟩ = some (.int .i64 d) ∧ w'.cell? ⟨w.heap.size, 2, none⟩ = some (.int .i64 n) ∧ w'.cell? ⟨w.heap.size + 1, 0, none⟩ = some (.string q) ∧ w'.cell? ⟨w.heap.size + 1, 1, none⟩ = some (.int .i64 e) ∧ w'.cell? ⟨w.heap.size + 1, 2, none⟩ = some (.int .i64 m))
    (first
      | go_keep
      | (refine ⟨?_, ?_, ?_, ?_, ?_, ?_⟩ <;> assumption))
    (first
      | (go_at_call 121; refine (HC.out _).mono ?_; rintro e1 w1 ⟨rfl, rfl⟩)
      | (go_at_call 101; refine (HO.out _).mono ?_; rintro e1 w2 ⟨rfl, hb2⟩; have k0 : w2.cell? ⟨w.heap.size, 0, none⟩ = some (.string p) := (by rw [(HB1.out.below hb2 HB1.out.lt).cell]; rfl); have k1 : w2.cell? ⟨w.heap.size, 1, none⟩ = some (.int .i64 d) := (by rw [(HB1.out.below hb2 HB1.out.lt).cell]; rfl); have k2 : w2.cell? ⟨w.heap.size, 2, none⟩ = some (.int .i64 n) := (by rw [(HB1.out.below hb2 HB1.out.lt).cell]; rfl); have k3 : w2.cell? ⟨w.heap.size + 1, 0, none⟩ = some (.string q) := (by rw [(HB2.out.below hb2 HB2.out.lt).cell]; rfl); have k4 : w2.cell? ⟨w.heap.size + 1, 1, none⟩ = some (.int .i64 e) := (by rw [(HB2.out.below hb2 HB2.out.lt).cell]; rfl); have k5 : w2.cell? ⟨w.heap.size + 1, 2, none⟩ = some (.int .i64 m) := (by rw [(HB2.out.below hb2 HB2.out.lt).cell]; rfl); have HB3 := Lib.hid (HBel.out.trans (hb2.mono HBel.out.size)); clear hb2)
      | (go_at_call 157; refine (HOr.out _ _ cv ov (by simp [World.cell?_alloc_new]) (by simp [World.cell?_alloc_new])).mono ?_; rintro e1 w3 ⟨rfl, rfl⟩))
  all_goals
    go_wp2_with fail
    go_ret
    refine ⟨by rw [HEq.out]; rfl, ?_⟩
    have h := HB3.out.alloc HB3.out.size (.cells #[.int .i64 cv, .int .i64 ov] 3)
    first | exact h | exact h.drew
end Go.Proofs.YthfbjfocmnikaaaGreatDoor
