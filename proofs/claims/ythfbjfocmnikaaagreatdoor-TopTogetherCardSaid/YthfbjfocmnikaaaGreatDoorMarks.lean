/- marks.Check, walked. Conditions: places that an int may count. -/
import Derived.Test.YthfbjfocmnikaaaGreatDoorMark
namespace Go.Proofs.YthfbjfocmnikaaaGreatDoor
open Go.RowKit
set_option linter.unusedVariables false

theorem below_of_drew {B : Nat} {w w' : World} (h : Below B w.drew w') : Below B w w' := ⟨h.os, h.tape, h.output, h.size, h.block⟩
def MSized (l : List LMark) : Prop := ∀ x ∈ l, x.place.size ≤ 9223372036854775807
def mprevAt (l : List LMark) (k : Nat) : Option LMark := if k = 0 then none else l[k - 1]?
def mClash (prev : Option LMark) (m : LMark) : Bool := match prev with | none => false | some p => decide (0 ≤ ordM p m)
theorem marksFault_cons (prev : Option LMark) (m : LMark) (l : List LMark) : marksFault prev (m :: l) = if markErr m ≠ 0 then markErr m else if mClash prev m = true then 7 else marksFault (some m) l := rfl
def MarksLoop (w : World) (l : List LMark) (i : Value) (wr : World) : Prop :=
  ∃ k : Nat, k ≤ l.length ∧ i = .int .i64 k ∧ Hid (Below w.heap.size w wr) ∧ Hid (marksErr l = marksFault (mprevAt l k) (l.drop k))
set_option maxRecDepth 100000 in
set_option maxHeartbeats 4000000 in
theorem marksCheck_any (w : World) (A : Option Addr) (c : Nat) (l : List LMark) (h : Reads w w.heap.size 3 A l.length (mcells l)) (hs : MSized l) (hn : l.length ≤ 9223372036854775807) :
    Calls Tryz.prog 221 #[.slice A l.length c] w (CheckPost w (errV (marksErr l))) := by
  have HR := Lib.hid h
  have HM := Lib.hid (fun w (x : LMark) (hx : x.place.size ≤ 9223372036854775807) => markOne_any w x hx)
  have HO := Lib.hid (fun w (a b : LMark) => markOrder_any w a b)
  have HSz := Lib.hid hs
  clear h hs
  by_cases h3 : 40 < l.length
  · have HE : Hid (marksErr l = 4) := if_pos h3
    go_enter Tryz.func221, Tryz.ntmps221
    go_wp2_with fail
    go_ret
    exact ⟨by rw [HE.out]; rfl, Below.refl _ _⟩
  · have hl3 : l.length ≤ 40 := by omega
    have HE0 : Hid (marksErr l = marksFault none l) := if_neg h3
    clear h3 hn
    go_enter Tryz.func221, Tryz.ntmps221
    go_wp2_with fail
    go_loopw [12] (fun i wr => MarksLoop w l i wr) (fun i _ => l.length - (intOf i).toNat)
    case atStart => exact ⟨0, by omega, rfl, Below.refl _ _, HE0⟩
    case round =>
      obtain ⟨k, hk, rfl, HB, HE⟩ := hrel
      by_cases hkn : k < l.length
      · obtain ⟨ad, rfl, hb, c0, c1, c2⟩ := (HR.out.below HB.out).mark hkn
        have hlt : (k : Int) < (l.length : Int) := by omega
        have hpre : mprevAt l (k + 1) = some l[k] := by unfold mprevAt; rw [if_neg (by omega)]; simp [hkn]
        have hsz := HSz.out l[k] (List.getElem_mem hkn)
        have hE2 := HE.out
        rw [List.drop_eq_getElem_cons hkn, marksFault_cons] at hE2
        generalize l[k] = x at hsz hE2 hpre c0 c1 c2
        obtain ⟨p, ⟨d, n⟩⟩ := x
        simp only at hsz c0 c1 c2
        have HP1 := Lib.hid hpre
        have HE2 := Lib.hid hE2
        have HBa := Lib.hid (HB.out.alloc HB.out.size (.cells #[.string p, .int .i64 d, .int .i64 n] 136))
        have HBox := Lib.hid (Blk.new wr 136 #[.string p, .int .i64 d, .int .i64 n])
        have hszb : w.heap.size ≤ wr.heap.size := HB.out.size
        clear hpre hE2
        have HPrev : Hid (∀ j, k = j + 1 → ∃ (hj : j < l.length), mprevAt l k = some l[j]) := fun j hj => ⟨by omega, by unfold mprevAt; rw [if_neg (by omega)]; simp [hj, show j < l.length by omega]⟩
        by_cases hp : markErr ⟨p, ⟨d, n⟩⟩ = 0
        · have HP := Lib.hid hp
          clear hp
          go_wp2_with fail
          refine (HM.out _ ⟨p, ⟨d, n⟩⟩ hsz).mono ?_
          rintro e w1 ⟨rfl, hb1⟩
          rw [HP.out, show errV 0 = .nilIface from rfl]
          have HB1 : Hid (Below w.heap.size w w1) := HBa.out.trans (hb1.mono HBa.out.size)
          have HBox1 := Lib.hid (HBox.out.below hb1 HBox.out.lt)
          have d0 : w1.cell? ⟨wr.heap.size, 0, none⟩ = some (.string p) := by rw [HBox1.out.cell]; rfl
          have d1 : w1.cell? ⟨wr.heap.size, 1, none⟩ = some (.int .i64 d) := by rw [HBox1.out.cell]; rfl
          have d2 : w1.cell? ⟨wr.heap.size, 2, none⟩ = some (.int .i64 n) := by rw [HBox1.out.cell]; rfl
          clear hb1 c0 c1 c2 HBa HBox
          rcases Nat.eq_zero_or_pos k with hk0 | hk0
          · subst hk0
            have HF : Hid (marksErr l = marksFault (some ⟨p, ⟨d, n⟩⟩) (l.drop 1)) := by
              show _ = _
              rw [HE2.out, if_neg (fun h => h HP.out), if_neg (by simp [mClash, mprevAt])]
            clear HE2 HPrev
            go_wp2_with fail
            go_quiet (fail)
            go_wp2_with fail
            go_roundw
            case rel => exact ⟨1, by omega, rfl, below_drewN HB1.out _, by rw [HP1.out]; exact HF⟩
            case measure => simp [intOf]; omega
          · obtain ⟨j, rfl⟩ : ∃ j, k = j + 1 := ⟨k - 1, by omega⟩
            obtain ⟨hj, hpv⟩ := HPrev.out j rfl
            have HR1 := HR.out.below HB1.out
            obtain ⟨ad2, had2, hb2, e0, e1, e2⟩ := HR1.mark hj
            obtain rfl : ad = ad2 := by injection had2
            have HR1 := Lib.hid HR1
            have q1 : IntKind.i64.wrap ((j : Int) + 1 - 1) = (j : Int) := by rw [IntWalk.i64_in _ (by omega)]; omega
            have j0 : (0 : Int) ≤ (j : Int) := by omega
            have j1 : (j : Int) < (l.length : Int) := by omega
            have jk : (0 : Int) < (j : Int) + 1 := by omega
            have q2 : IntKind.i64.wrap (((j + 1 : Nat) : Int) - 1) = (j : Int) := by rw [IntWalk.i64_in _ (by omega)]; omega
            have q3 : IntKind.i64.wrap (j : Int) = (j : Int) := by rw [IntWalk.i64_in _ (by omega)]
            have j2 : (0 : Int) < ((j + 1 : Nat) : Int) := by omega
            have HPV := Lib.hid hpv
            have hwb : w.heap.size ≤ w1.heap.size := HB1.out.size
            have HBd := Lib.hid HBox1.out.lt
            clear hpv had2 HPrev
            generalize hlj : l[j] = y at *
            obtain ⟨py, ⟨dy, ny⟩⟩ := y
            simp only at e0 e1 e2
            have HF : Hid (marksErr l = if (0 : Int) ≤ ordM ⟨py, ⟨dy, ny⟩⟩ ⟨p, ⟨d, n⟩⟩ then 7 else marksFault (some ⟨p, ⟨d, n⟩⟩) (l.drop (j + 1 + 1))) := by
              show _ = _
              rw [HE2.out, if_neg (fun h => h HP.out), HPV.out]
              simp [mClash]
            have HO1 := Lib.hid (fun w => HO.out w ⟨py, ⟨dy, ny⟩⟩ ⟨p, ⟨d, n⟩⟩)
            clear HE2 hlj
            generalize ordM ⟨py, ⟨dy, ny⟩⟩ ⟨p, ⟨d, n⟩⟩ = ov at HF HO1
            have hov : True := trivial
            go_wp2_with fail
            by_cases h7 : 0 ≤ ov
            · have HFF : Hid (marksErr l = 7) := by show _ = _; rw [HF.out, if_pos h7]
              go_region_held3 (fun w' => w'.cell? (ad.add (j * 3)) = some (.string py) ∧ w'.cell? ⟨(ad.add (j * 3)).block, (ad.add (j * 3)).off + 1, none⟩ = some (.int .i64 dy) ∧ w'.cell? ⟨(ad.add (j * 3)).block, (ad.add (j * 3)).off + 2, none⟩ = some (.int .i64 ny) ∧ w'.cell? ⟨wr.heap.size, 0, none⟩ = some (.string p) ∧ w'.cell? ⟨wr.heap.size, 1, none⟩ = some (.int .i64 d) ∧ w'.cell? ⟨wr.heap.size, 2, none⟩ = some (.int .i64 n))
                (first
                  | go_keep
                  | (refine ⟨?_, ?_, ?_, ?_, ?_, ?_⟩ <;> assumption))
                (first
                  | (go_at_call 224; refine (HO1.out _).mono ?_; rintro e3 w2 ⟨rfl, hb3'⟩; have hb3 : Below w1.heap.size w1 w2 := below_of_drew hb3'; have k0 : w2.cell? (ad.add (j * 3)) = some (.string py) := ((hb3.cell (by rw [block_of_add]; omega)).trans e0); have k1 : w2.cell? ⟨(ad.add (j * 3)).block, (ad.add (j * 3)).off + 1, none⟩ = some (.int .i64 dy) := ((hb3.cell (by show (ad.add (j * 3)).block < _; rw [block_of_add]; omega)).trans e1); have k2 : w2.cell? ⟨(ad.add (j * 3)).block, (ad.add (j * 3)).off + 2, none⟩ = some (.int .i64 ny) := ((hb3.cell (by show (ad.add (j * 3)).block < _; rw [block_of_add]; omega)).trans e2); have k3 : w2.cell? ⟨wr.heap.size, 0, none⟩ = some (.string p) := ((hb3.cell HBd.out).trans d0); have k4 : w2.cell? ⟨wr.heap.size, 1, none⟩ = some (.int .i64 d) := ((hb3.cell HBd.out).trans d1); have k5 : w2.cell? ⟨wr.heap.size, 2, none⟩ = some (.int .i64 n) := ((hb3.cell HBd.out).trans d2); have HB3 := Lib.hid (HB1.out.trans (hb3.mono HB1.out.size)); clear hb3 hb3'))
              go_wp2_with fail
              go_ret
              exact ⟨by rw [HFF.out]; rfl, HB3.out⟩
            · have HFF : Hid (marksErr l = marksFault (some ⟨p, ⟨d, n⟩⟩) (l.drop (j + 1 + 1))) := by show _ = _; rw [HF.out, if_neg h7]
              go_region_held3 (fun w' => w'.cell? (ad.add (j * 3)) = some (.string py) ∧ w'.cell? ⟨(ad.add (j * 3)).block, (ad.add (j * 3)).off + 1, none⟩ = some (.int .i64 dy) ∧ w'.cell? ⟨(ad.add (j * 3)).block, (ad.add (j * 3)).off + 2, none⟩ = some (.int .i64 ny) ∧ w'.cell? ⟨wr.heap.size, 0, none⟩ = some (.string p) ∧ w'.cell? ⟨wr.heap.size, 1, none⟩ = some (.int .i64 d) ∧ w'.cell? ⟨wr.heap.size, 2, none⟩ = some (.int .i64 n))
                (first
                  | go_keep
                  | (refine ⟨?_, ?_, ?_, ?_, ?_, ?_⟩ <;> assumption))
                (first
                  | (go_at_call 224; refine (HO1.out _).mono ?_; rintro e3 w2 ⟨rfl, hb3'⟩; have hb3 : Below w1.heap.size w1 w2 := below_of_drew hb3'; have k0 : w2.cell? (ad.add (j * 3)) = some (.string py) := ((hb3.cell (by rw [block_of_add]; omega)).trans e0); have k1 : w2.cell? ⟨(ad.add (j * 3)).block, (ad.add (j * 3)).off + 1, none⟩ = some (.int .i64 dy) := ((hb3.cell (by show (ad.add (j * 3)).block < _; rw [block_of_add]; omega)).trans e1); have k2 : w2.cell? ⟨(ad.add (j * 3)).block, (ad.add (j * 3)).off + 2, none⟩ = some (.int .i64 ny) := ((hb3.cell (by show (ad.add (j * 3)).block < _; rw [block_of_add]; omega)).trans e2); have k3 : w2.cell? ⟨wr.heap.size, 0, none⟩ = some (.string p) := ((hb3.cell HBd.out).trans d0); have k4 : w2.cell? ⟨wr.heap.size, 1, none⟩ = some (.int .i64 d) := ((hb3.cell HBd.out).trans d1); have k5 : w2.cell? ⟨wr.heap.size, 2, none⟩ = some (.int .i64 n) := ((hb3.cell HBd.out).trans d2); have HB3 := Lib.hid (HB1.out.trans (hb3.mono HB1.out.size)); clear hb3 hb3'))
              go_wp2_with fail
              go_roundw
              case rel => exact ⟨j + 1 + 1, by omega, by go_num, HB3, by rw [HP1.out]; exact HFF⟩
              case measure => simp [intOf]; omega
        · have HV := Lib.hid (errV_ne hp)
          have HF : Hid (marksErr l = markErr ⟨p, ⟨d, n⟩⟩) := by
            show _ = _
            rw [HE2.out, if_pos hp]
          clear hp
          go_wp2_with fail
          refine (HM.out _ ⟨p, ⟨d, n⟩⟩ hsz).mono ?_
          rintro e w1 ⟨rfl, hb1⟩
          rw [HV.out]
          go_wp2_with fail
          go_ret
          exact ⟨by rw [HF.out, HV.out]; rfl, HBa.out.trans (hb1.mono HBa.out.size)⟩
      · have hd : decide ((k : Int) < (l.length : Int)) = false := by simp; omega
        have HF : Hid (marksErr l = 0) := by
          have := HE.out
          rw [List.drop_of_length_le (by omega), marksFault] at this
          exact this
        go_wp2_with fail
        go_ret
        exact ⟨by rw [HF.out]; rfl, HB.out⟩
end Go.Proofs.YthfbjfocmnikaaaGreatDoor
