/- Leafs in memory; book.Check, Seen, walked. Conditions: places that an int may count. -/
import Derived.Deep.RegionHeld3
import Derived.Test.YthfbjfocmnikaaaGreatDoorLetter
import Derived.Test.YthfbjfocmnikaaaGreatDoorOpenOps
namespace Go.Proofs.YthfbjfocmnikaaaGreatDoor
open Go.RowKit
set_option linter.unusedVariables false

structure LLeaf where
  place : ByteArray
  letter : Int
  struck : Bool
instance : Inhabited LLeaf := ⟨⟨⟨#[]⟩, 0, false⟩⟩
def LLeaf.cells (x : LLeaf) : List Value := [.string x.place, .int .i64 x.letter, .bool x.struck]
theorem LLeaf.cells_len (x : LLeaf) : x.cells.length = 3 := rfl
def LLeaf.box (x : LLeaf) : Array Value := #[.string x.place, .int .i64 x.letter, .bool x.struck]
def lcells (l : List LLeaf) : List Value := l.flatMap LLeaf.cells
theorem lcells_at (l : List LLeaf) (k r : Nat) (hk : k < l.length) (hr : r < 3) : (lcells l)[k * 3 + r]? = l[k].cells[r]? := by
  unfold lcells
  rw [flat_at LLeaf.cells_len (by decide), show (k * 3 + r) / 3 = k by omega, show (k * 3 + r) % 3 = r by omega, List.getElem?_eq_getElem hk]
  rfl
theorem oneCells_l (l : List LLeaf) : OneCells (lcells l) := by
  intro u hu
  simp only [lcells, List.mem_flatMap] at hu
  obtain ⟨e, _, hu⟩ := hu
  simp only [LLeaf.cells, List.mem_cons, List.not_mem_nil, or_false] at hu
  rcases hu with rfl | rfl | rfl <;> rfl
/-- A leaf of the row, read. -/
theorem Reads.leaf {w : World} {B : Nat} {A : Option Addr} {l : List LLeaf} (h : Reads w B 3 A l.length (lcells l)) {k : Nat} (hk : k < l.length) :
    ∃ ad, A = some ad ∧ ad.block < B ∧ w.cell? (ad.add (k * 3)) = some (.string l[k].place) ∧ w.cell? ⟨(ad.add (k * 3)).block, (ad.add (k * 3)).off + 1, none⟩ = some (.int .i64 l[k].letter) ∧
      w.cell? ⟨(ad.add (k * 3)).block, (ad.add (k * 3)).off + 2, none⟩ = some (.bool l[k].struck) := by
  obtain ⟨ad, e, hb, hc⟩ := h.2 (by omega)
  refine ⟨ad, e, hb, ?_, ?_, ?_⟩
  · exact hc _ _ (by rw [show k * 3 = k * 3 + 0 from rfl, lcells_at l k 0 hk (by omega)]; rfl)
  · rw [show (⟨(ad.add (k * 3)).block, (ad.add (k * 3)).off + 1, none⟩ : Addr) = (ad.add (k * 3)).add 1 from rfl, add_of_add]
    exact hc _ _ (by rw [lcells_at l k 1 hk (by omega)]; rfl)
  · rw [show (⟨(ad.add (k * 3)).block, (ad.add (k * 3)).off + 2, none⟩ : Addr) = (ad.add (k * 3)).add 2 from rfl, add_of_add]
    exact hc _ _ (by rw [lcells_at l k 2 hk (by omega)]; rfl)

def leafErr (prev : Option LLeaf) (x : LLeaf) : Int :=
  if placeErr x.place ≠ 0 then placeErr x.place else if x.letter ≠ 0 ∧ letterB x.letter = false then 1 else if x.letter = 0 ∧ x.struck = false then 3
  else if (match prev with | none => true | some p => Op.bytesLess p.place.toList x.place.toList) = false then 7 else 0
def bookFault (prev : Option LLeaf) : List LLeaf → Int
  | [] => 0
  | x :: l => if leafErr prev x ≠ 0 then leafErr prev x else bookFault (some x) l
/-- What is wrong with a book. -/
def bookErr (l : List LLeaf) : Int := if 300 < l.length then 4 else bookFault none l
def prevAt (l : List LLeaf) (k : Nat) : Option LLeaf := if k = 0 then none else l[k - 1]?
def seenB (x : LLeaf) : Bool := (x.letter != 0) && !x.struck
def Sized (l : List LLeaf) : Prop := ∀ x ∈ l, x.place.size ≤ 9223372036854775807

set_option maxRecDepth 100000 in
theorem seen_any (w : World) (x : LLeaf) : Calls Tryz.prog 124 #[.agg #[.string x.place, .int .i64 x.letter, .bool x.struck]] w (CheckPost w (.bool (seenB x))) := by
  obtain ⟨p, n, s⟩ := x
  by_cases h : n = 0
  · have hb : (n != 0) = false := by simp [h]
    have HS : Hid (seenB ⟨p, n, s⟩ = false) := by show _ = _; unfold seenB; rw [hb]; rfl
    clear h
    go_enter Tryz.func124, Tryz.ntmps124
    go_wp2_with fail
    go_ret
    exact ⟨by rw [HS.out]; rfl, (Below.refl _ _).alloc (Nat.le_refl _) _⟩
  · have hb : (n != 0) = true := by simp [h]
    have HS : Hid (seenB ⟨p, n, s⟩ = !s) := by show _ = _; unfold seenB; rw [hb]; rfl
    clear h
    go_enter Tryz.func124, Tryz.ntmps124
    go_wp2_with fail
    go_ret
    exact ⟨by rw [HS.out]; rfl, (Below.refl _ _).alloc (Nat.le_refl _) _⟩

def BookLoop (w : World) (l : List LLeaf) (i : Value) (wr : World) : Prop :=
  ∃ k : Nat, k ≤ l.length ∧ i = .int .i64 k ∧ Hid (Below w.heap.size w wr) ∧ Hid (bookErr l = bookFault (prevAt l k) (l.drop k))

set_option maxRecDepth 100000 in
set_option maxHeartbeats 4000000 in
theorem bookCheck_any (w : World) (A : Option Addr) (c : Nat) (l : List LLeaf) (h : Reads w w.heap.size 3 A l.length (lcells l)) (hs : Sized l) (hn : l.length ≤ 9223372036854775807) :
    Calls Tryz.prog 173 #[.slice A l.length c] w (CheckPost w (errV (bookErr l))) := by
  have HR := Lib.hid h
  have HC := Lib.hid (fun w (x : LLeaf) (hx : x.place.size ≤ 9223372036854775807) => check_any w x.place hx)
  have HL := Lib.hid (fun w n => letter_any w n)
  have HSz := Lib.hid hs
  clear h hs
  by_cases h3 : 300 < l.length
  · have HE : Hid (bookErr l = 4) := if_pos h3
    go_enter Tryz.func173, Tryz.ntmps173
    go_wp2_with fail
    go_ret
    exact ⟨by rw [HE.out]; rfl, Below.refl _ _⟩
  · have hl3 : l.length ≤ 300 := by omega
    have HE0 : Hid (bookErr l = bookFault none l) := if_neg h3
    clear h3 hn
    go_enter Tryz.func173, Tryz.ntmps173
    go_wp2_with fail
    go_loopw [12] (fun i wr => BookLoop w l i wr) (fun i _ => l.length - (intOf i).toNat)
    case atStart => exact ⟨0, by omega, rfl, Below.refl _ _, HE0⟩
    case round =>
      obtain ⟨k, hk, rfl, HB, HE⟩ := hrel
      by_cases hkn : k < l.length
      · obtain ⟨ad, rfl, hb, c0, c1, c2⟩ := (HR.out.below HB.out).leaf hkn
        have hlt : (k : Int) < (l.length : Int) := by omega
        have hdrop := List.drop_eq_getElem_cons hkn
        have hpre : prevAt l (k + 1) = some l[k] := by unfold prevAt; rw [if_neg (by omega)]; simp [hkn]
        have hsz := HSz.out l[k] (List.getElem_mem hkn)
        have hE2 := HE.out
        rw [hdrop, bookFault] at hE2
        generalize l[k] = x at hsz hE2 hpre c0 c1 c2
        obtain ⟨p, n, s⟩ := x
        simp only at hsz c0 c1 c2
        have HP1 := Lib.hid hpre
        have HE2 := Lib.hid hE2
        have HBa := Lib.hid (HB.out.alloc HB.out.size (.cells #[.string p, .int .i64 n, .bool s] 115))
        have HBox := Lib.hid (Blk.new wr 115 #[.string p, .int .i64 n, .bool s])
        have hszb : w.heap.size ≤ wr.heap.size := HB.out.size
        clear hdrop hpre hE2
        have HPrev : Hid (∀ j, k = j + 1 → ∃ (hj : j < l.length), prevAt l k = some l[j]) := fun j hj => ⟨by omega, by unfold prevAt; rw [if_neg (by omega)]; simp [hj, show j < l.length by omega]⟩
        by_cases hp : placeErr p = 0
        · have HP := Lib.hid hp
          clear hp
          go_wp2_with fail
          refine (HC.out _ ⟨p, n, s⟩ hsz).mono ?_
          rintro e w1 ⟨rfl, hb1⟩
          rw [show placeErr (⟨p, n, s⟩ : LLeaf).place = 0 from HP.out, show errV 0 = .nilIface from rfl]
          have HB1 : Hid (Below w.heap.size w w1) := HBa.out.trans (hb1.mono HBa.out.size)
          have HBox1 := Lib.hid (HBox.out.below hb1 HBox.out.lt)
          have d0 : w1.cell? ⟨wr.heap.size, 0, none⟩ = some (.string p) := by rw [HBox1.out.cell]; rfl
          have d1 : w1.cell? ⟨wr.heap.size, 1, none⟩ = some (.int .i64 n) := by rw [HBox1.out.cell]; rfl
          have d2 : w1.cell? ⟨wr.heap.size, 2, none⟩ = some (.bool s) := by rw [HBox1.out.cell]; rfl
          clear hb1 c0 c1 c2 HBa HBox HBox1
          by_cases hn0 : n = 0
          · subst hn0
            cases s with
            | false =>
              have HF : Hid (bookErr l = 3) := by
                have h1 : leafErr (prevAt l k) ⟨p, 0, false⟩ = 3 := by unfold leafErr; rw [if_neg (fun h => h HP.out), if_neg (by simp), if_pos ⟨rfl, rfl⟩]
                show _ = _
                rw [HE2.out, h1, if_pos (by omega)]
              go_wp2_with fail
              go_ret
              exact ⟨by rw [HF.out]; rfl, HB1.out⟩
            | true =>
              have HNO : Hid (k = 0 → leafErr (prevAt l 0) ⟨p, 0, true⟩ = 0) := fun _ => by unfold leafErr; rw [if_neg (fun h => h HP.out), if_neg (by simp), if_neg (by simp), if_neg (by simp [prevAt])]
              have HNL : Hid (∀ y : LLeaf, Op.bytesLess y.place.toList p.toList = true → leafErr (some y) ⟨p, 0, true⟩ = 0) := fun y hy => by unfold leafErr; rw [if_neg (fun h => h HP.out), if_neg (by simp), if_neg (by simp), if_neg (by simp [hy])]
              have HNG : Hid (∀ y : LLeaf, Op.bytesLess y.place.toList p.toList = false → leafErr (some y) ⟨p, 0, true⟩ = 7) := fun y hy => by unfold leafErr; rw [if_neg (fun h => h HP.out), if_neg (by simp), if_neg (by simp), if_pos hy]
              rcases Nat.eq_zero_or_pos k with hk0 | hk0
              · subst hk0
                have HF : Hid (bookErr l = bookFault (some ⟨p, 0, true⟩) (l.drop 1)) := by
                  have h1 : leafErr (prevAt l 0) ⟨p, 0, true⟩ = 0 := HNO.out rfl
                  show _ = _
                  rw [HE2.out, h1, if_neg (by omega)]
                clear HE2 HNO HNL HPrev
                go_wp2_with fail
                go_quiet (fail)
                go_wp2_with fail
                go_roundw
                case rel => exact ⟨1, by omega, rfl, below_drewN HB1.out _, by rw [HP1.out]; exact HF⟩
                case measure => simp [intOf]; omega
              · obtain ⟨j, rfl⟩ : ∃ j, k = j + 1 := ⟨k - 1, by omega⟩
                obtain ⟨hj, hpv⟩ := HPrev.out j rfl
                obtain ⟨ad2, had2, hb2, e0, _, _⟩ := (HR.out.below HB1.out).leaf hj
                obtain rfl : ad = ad2 := by injection had2
                have q1 : IntKind.i64.wrap ((j : Int) + 1 - 1) = (j : Int) := by rw [IntWalk.i64_in _ (by omega)]; omega
                have j0 : (0 : Int) ≤ (j : Int) := by omega
                have j1 : (j : Int) < (l.length : Int) := by omega
                have HPV := Lib.hid hpv
                clear hpv had2
                cases hless : Op.bytesLess l[j].place.toList p.toList with
                | true =>
                  have HF : Hid (bookErr l = bookFault (some ⟨p, 0, true⟩) (l.drop (j + 1 + 1))) := by
                    have h1 : leafErr (prevAt l (j + 1)) ⟨p, 0, true⟩ = 0 := by rw [HPV.out]; exact HNL.out _ hless
                    show _ = _
                    rw [HE2.out, h1, if_neg (by omega)]
                  clear HE2 HNO HNL HPrev
                  generalize l[j].place = pj at *
                  go_wp2_with fail
                  go_quiet (fail)
                  go_wp2_with fail
                  go_roundw
                  case rel => exact ⟨j + 1 + 1, by omega, by go_num, below_drewN HB1.out _, by rw [HP1.out]; exact HF⟩
                  case measure => simp [intOf]; omega
                | false =>
                  have HF : Hid (bookErr l = 7) := by
                    have h1 : leafErr (prevAt l (j + 1)) ⟨p, 0, true⟩ = 7 := by rw [HPV.out]; exact HNG.out _ hless
                    show _ = _
                    rw [HE2.out, h1, if_pos (by omega)]
                  clear HE2 HNO HNL HPrev
                  generalize l[j].place = pj at *
                  go_wp2_with fail
                  go_quiet (fail)
                  go_wp2_with fail
                  go_ret
                  exact ⟨by rw [HF.out]; rfl, below_drewN HB1.out _⟩
          · have g0 : (n != 0) = true := by simp [hn0]
            have g1 : (n == 0) = false := by simp [hn0]
            cases hlb : letterB n with
            | false =>
              have HF : Hid (bookErr l = 1) := by
                have h1 : leafErr (prevAt l k) ⟨p, n, s⟩ = 1 := by unfold leafErr; rw [if_neg (fun h => h HP.out), if_pos ⟨hn0, hlb⟩]
                show _ = _
                rw [HE2.out, h1, if_pos (by omega)]
              have HLB := Lib.hid hlb
              clear hlb hn0
              go_wp2_with fail
              refine (HL.out _ n).mono ?_
              rintro e w2 ⟨rfl, rfl⟩
              rw [HLB.out]
              go_wp2_with fail
              go_ret
              exact ⟨by rw [HF.out]; rfl, HB1.out⟩
            | true =>
              have HNO : Hid (k = 0 → leafErr (prevAt l 0) ⟨p, n, s⟩ = 0) := fun _ => by unfold leafErr; rw [if_neg (fun h => h HP.out), if_neg (by simp [hlb]), if_neg (by simp [hn0]), if_neg (by simp [prevAt])]
              have HNL : Hid (∀ y : LLeaf, Op.bytesLess y.place.toList p.toList = true → leafErr (some y) ⟨p, n, s⟩ = 0) := fun y hy => by unfold leafErr; rw [if_neg (fun h => h HP.out), if_neg (by simp [hlb]), if_neg (by simp [hn0]), if_neg (by simp [hy])]
              have HNG : Hid (∀ y : LLeaf, Op.bytesLess y.place.toList p.toList = false → leafErr (some y) ⟨p, n, s⟩ = 7) := fun y hy => by unfold leafErr; rw [if_neg (fun h => h HP.out), if_neg (by simp [hlb]), if_neg (by simp [hn0]), if_pos hy]
              have HLB := Lib.hid hlb
              clear hlb hn0
              go_wp2_with fail
              refine (HL.out _ n).mono ?_
              rintro e w2 ⟨rfl, rfl⟩
              rw [HLB.out]
              rcases Nat.eq_zero_or_pos k with hk0 | hk0
              · subst hk0
                have HF : Hid (bookErr l = bookFault (some ⟨p, n, s⟩) (l.drop 1)) := by
                  have h1 : leafErr (prevAt l 0) ⟨p, n, s⟩ = 0 := HNO.out rfl
                  show _ = _
                  rw [HE2.out, h1, if_neg (by omega)]
                clear HE2 HNO HNL HPrev
                go_wp2_with fail
                go_quiet (fail)
                go_wp2_with fail
                go_roundw
                case rel => exact ⟨1, by omega, rfl, below_drewN HB1.out _, by rw [HP1.out]; exact HF⟩
                case measure => simp [intOf]; omega
              · obtain ⟨j, rfl⟩ : ∃ j, k = j + 1 := ⟨k - 1, by omega⟩
                obtain ⟨hj, hpv⟩ := HPrev.out j rfl
                obtain ⟨ad2, had2, hb2, e0, _, _⟩ := (HR.out.below HB1.out).leaf hj
                obtain rfl : ad = ad2 := by injection had2
                have q1 : IntKind.i64.wrap ((j : Int) + 1 - 1) = (j : Int) := by rw [IntWalk.i64_in _ (by omega)]; omega
                have j0 : (0 : Int) ≤ (j : Int) := by omega
                have j1 : (j : Int) < (l.length : Int) := by omega
                have HPV := Lib.hid hpv
                clear hpv had2
                cases hless : Op.bytesLess l[j].place.toList p.toList with
                | true =>
                  have HF : Hid (bookErr l = bookFault (some ⟨p, n, s⟩) (l.drop (j + 1 + 1))) := by
                    have h1 : leafErr (prevAt l (j + 1)) ⟨p, n, s⟩ = 0 := by rw [HPV.out]; exact HNL.out _ hless
                    show _ = _
                    rw [HE2.out, h1, if_neg (by omega)]
                  clear HE2 HNO HNL HPrev
                  generalize l[j].place = pj at *
                  go_wp2_with fail
                  go_quiet (fail)
                  go_wp2_with fail
                  go_roundw
                  case rel => exact ⟨j + 1 + 1, by omega, by go_num, below_drewN HB1.out _, by rw [HP1.out]; exact HF⟩
                  case measure => simp [intOf]; omega
                | false =>
                  have HF : Hid (bookErr l = 7) := by
                    have h1 : leafErr (prevAt l (j + 1)) ⟨p, n, s⟩ = 7 := by rw [HPV.out]; exact HNG.out _ hless
                    show _ = _
                    rw [HE2.out, h1, if_pos (by omega)]
                  clear HE2 HNO HNL HPrev
                  generalize l[j].place = pj at *
                  go_wp2_with fail
                  go_quiet (fail)
                  go_wp2_with fail
                  go_ret
                  exact ⟨by rw [HF.out]; rfl, below_drewN HB1.out _⟩
        · have HV := Lib.hid (errV_ne hp)
          have HF : Hid (bookErr l = placeErr p) := by
            have h1 : leafErr (prevAt l k) ⟨p, n, s⟩ = placeErr p := if_pos hp
            show _ = _
            rw [HE2.out, h1, if_pos hp]
          clear hp
          go_wp2_with fail
          refine (HC.out _ ⟨p, n, s⟩ hsz).mono ?_
          rintro e w1 ⟨rfl, hb1⟩
          rw [show errV (placeErr (⟨p, n, s⟩ : LLeaf).place) = _ from HV.out]
          go_wp2_with fail
          go_ret
          exact ⟨by rw [HF.out, HV.out]; rfl, HBa.out.trans (hb1.mono HBa.out.size)⟩
      · have hd : decide ((k : Int) < (l.length : Int)) = false := by simp; omega
        have HF : Hid (bookErr l = 0) := by
          have := HE.out
          rw [List.drop_of_length_le (by omega), bookFault] at this
          exact this
        go_wp2_with fail
        go_ret
        exact ⟨by rw [HF.out]; rfl, HB.out⟩
end Go.Proofs.YthfbjfocmnikaaaGreatDoor
