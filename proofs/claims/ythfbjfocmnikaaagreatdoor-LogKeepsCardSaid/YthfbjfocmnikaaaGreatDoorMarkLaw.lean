/- 2 texts in one: each says ahead of itself what is proved, and its conditions. -/
import Derived.Test.YthfbjfocmnikaaaGreatDoorBookLaw
import Derived.Test.YthfbjfocmnikaaaGreatDoorLetter
import Derived.Test.YthfbjfocmnikaaaGreatDoorMark
/- marks.Check, walked. Conditions: places that an int may count. -/
namespace Go.Proofs.YthfbjfocmnikaaaGreatDoor
open Go.RowKit
set_option linter.unusedVariables false

theorem below_of_drew {B : Nat} {w w' : World} (h : Below B w.drew w') : Below B w w' := ⟨h.os, h.tape, h.output, h.size, h.block⟩
def MSized (l : List LMark) : Prop := ∀ x ∈ l, x.place.size ≤ 9223372036854775807
def mprevAt (l : List LMark) (k : Nat) : Option LMark := if k = 0 then none else l[k - 1]?
def mClash (prev : Option LMark) (m : LMark) : Bool := match prev with | none => false | some p => decide (0 ≤ ordM p m)
theorem marksFault_cons (prev : Option LMark) (m : LMark) (l : List LMark) : marksFault prev (m :: l) = if markErr m ≠ 0 then markErr m else if mClash prev m = true then 7 else marksFault (some m) l := rfl
def MarksLoop (w : World) (l : List LMark) (i : Value) (wr : World) : Prop :=
  ∃ k : Nat, k ≤ l.length ∧ i = .int .i64 k ∧ Hid (Below w.heap.size w wr) ∧ Hid (marksErr l = marksFault (mprevAt l k) (l.drop k))
set_option maxRecDepth 100000 in
set_option maxHeartbeats 4000000 in
theorem marksCheck_any (w : World) (A : Option Addr) (c : Nat) (l : List LMark) (h : Reads w w.heap.size 3 A l.length (mcells l)) (hs : MSized l) (hn : l.length ≤ 9223372036854775807) :
    Calls Tryz.prog 221 #[.slice A l.length c] w (CheckPost w (errV (marksErr l))) := by
  have HR := Lib.hid h
  have HM := Lib.hid (fun w (x : LMark) (hx : x.place.size ≤ 9223372036854775807) => markOne_any w x hx)
  have HO := Lib.hid (fun w (a b : LMark) => markOrder_any w a b)
  have HSz := Lib.hid hs
  clear h hs
  by_cases h3 : 40 < l.length
  · have HE : Hid (marksErr l = 4) := if_pos h3
    go_enter Tryz.func221, Tryz.ntmps221
    go_wp2_with fail
    go_ret
    exact ⟨by rw [HE.out]; rfl, Below.refl _ _⟩
  · have hl3 : l.length ≤ 40 := by omega
    have HE0 : Hid (marksErr l = marksFault none l) := if_neg h3
    clear h3 hn
    go_enter Tryz.func221, Tryz.ntmps221
    go_wp2_with fail
    go_loopw [12] (fun i wr => MarksLoop w l i wr) (fun i _ => l.length - (intOf i).toNat)
    case atStart => exact ⟨0, by omega, rfl, Below.refl _ _, HE0⟩
    case round =>
      obtain ⟨k, hk, rfl, HB, HE⟩ := hrel
      by_cases hkn : k < l.length
      · obtain ⟨ad, rfl, hb, c0, c1, c2⟩ := (HR.out.below HB.out).mark hkn
        have hlt : (k : Int) < (l.length : Int) := by omega
        have hpre : mprevAt l (k + 1) = some l[k] := by unfold mprevAt; rw [if_neg (by omega)]; simp [hkn]
        have hsz := HSz.out l[k] (List.getElem_mem hkn)
        have hE2 := HE.out
        rw [List.drop_eq_getElem_cons hkn, marksFault_cons] at hE2
        generalize l[k] = x at hsz hE2 hpre c0 c1 c2
        obtain ⟨p, ⟨d, n⟩⟩ := x
        simp only at hsz c0 c1 c2
        have HP1 := Lib.hid hpre
        have HE2 := Lib.hid hE2
        have HBa := Lib.hid (HB.out.alloc HB.out.size (.cells #[.string p, .int .i64 d, .int .i64 n] 136))
        have HBox := Lib.hid (Blk.new wr 136 #[.string p, .int .i64 d, .int .i64 n])
        have hszb : w.heap.size ≤ wr.heap.size := HB.out.size
        clear hpre hE2
        have HPrev : Hid (∀ j, k = j + 1 → ∃ (hj : j < l.length), mprevAt l k = some l[j]) := fun j hj => ⟨by omega, by unfold mprevAt; rw [if_neg (by omega)]; simp [hj, show j < l.length by omega]⟩
        by_cases hp : markErr ⟨p, ⟨d, n⟩⟩ = 0
        · have HP := Lib.hid hp
          clear hp
          go_wp2_with fail
          refine (HM.out _ ⟨p, ⟨d, n⟩⟩ hsz).mono ?_
          rintro e w1 ⟨rfl, hb1⟩
          rw [HP.out, show errV 0 = .nilIface from rfl]
          have HB1 : Hid (Below w.heap.size w w1) := HBa.out.trans (hb1.mono HBa.out.size)
          have HBox1 := Lib.hid (HBox.out.below hb1 HBox.out.lt)
          have d0 : w1.cell? ⟨wr.heap.size, 0, none⟩ = some (.string p) := by rw [HBox1.out.cell]; rfl
          have d1 : w1.cell? ⟨wr.heap.size, 1, none⟩ = some (.int .i64 d) := by rw [HBox1.out.cell]; rfl
          have d2 : w1.cell? ⟨wr.heap.size, 2, none⟩ = some (.int .i64 n) := by rw [HBox1.out.cell]; rfl
          clear hb1 c0 c1 c2 HBa HBox
          rcases Nat.eq_zero_or_pos k with hk0 | hk0
          · subst hk0
            have HF : Hid (marksErr l = marksFault (some ⟨p, ⟨d, n⟩⟩) (l.drop 1)) := by
              show _ = _
              rw [HE2.out, if_neg (fun h => h HP.out), if_neg (by simp [mClash, mprevAt])]
            clear HE2 HPrev
            go_wp2_with fail
            go_quiet (fail)
            go_wp2_with fail
            go_roundw
            case rel => exact ⟨1, by omega, rfl, below_drewN HB1.out _, by rw [HP1.out]; exact HF⟩
            case measure => simp [intOf]; omega
          · obtain ⟨j, rfl⟩ : ∃ j, k = j + 1 := ⟨k - 1, by omega⟩
            obtain ⟨hj, hpv⟩ := HPrev.out j rfl
            have HR1 := HR.out.below HB1.out
            obtain ⟨ad2, had2, hb2, e0, e1, e2⟩ := HR1.mark hj
            obtain rfl : ad = ad2 := by injection had2
            have HR1 := Lib.hid HR1
            have q1 : IntKind.i64.wrap ((j : Int) + 1 - 1) = (j : Int) := by rw [IntWalk.i64_in _ (by omega)]; omega
            have j0 : (0 : Int) ≤ (j : Int) := by omega
            have j1 : (j : Int) < (l.length : Int) := by omega
            have jk : (0 : Int) < (j : Int) + 1 := by omega
            have q2 : IntKind.i64.wrap (((j + 1 : Nat) : Int) - 1) = (j : Int) := by rw [IntWalk.i64_in _ (by omega)]; omega
            have q3 : IntKind.i64.wrap (j : Int) = (j : Int) := by rw [IntWalk.i64_in _ (by omega)]
            have j2 : (0 : Int) < ((j + 1 : Nat) : Int) := by omega
            have HPV := Lib.hid hpv
            have hwb : w.heap.size ≤ w1.heap.size := HB1.out.size
            have HBd := Lib.hid HBox1.out.lt
            clear hpv had2 HPrev
            generalize hlj : l[j] = y at *
            obtain ⟨py, ⟨dy, ny⟩⟩ := y
            simp only at e0 e1 e2
            have HF : Hid (marksErr l = if (0 : Int) ≤ ordM ⟨py, ⟨dy, ny⟩⟩ ⟨p, ⟨d, n⟩⟩ then 7 else marksFault (some ⟨p, ⟨d, n⟩⟩) (l.drop (j + 1 + 1))) := by
              show _ = _
              rw [HE2.out, if_neg (fun h => h HP.out), HPV.out]
              simp [mClash]
            have HO1 := Lib.hid (fun w => HO.out w ⟨py, ⟨dy, ny⟩⟩ ⟨p, ⟨d, n⟩⟩)
            clear HE2 hlj
            generalize ordM ⟨py, ⟨dy, ny⟩⟩ ⟨p, ⟨d, n⟩⟩ = ov at HF HO1
            have hov : True := trivial
            go_wp2_with fail
            by_cases h7 : 0 ≤ ov
            · have HFF : Hid (marksErr l = 7) := by show _ = _; rw [HF.out, if_pos h7]
              go_region_held3 (fun w' => w'.cell? (ad.add (j * 3)) = some (.string py) ∧ w'.cell? ⟨(ad.add (j * 3)).block, (ad.add (j * 3)).off + 1, none⟩ = some (.int .i64 dy) ∧ w'.cell? ⟨(ad.add (j * 3)).block, (ad.add (j * 3)).off + 2, none⟩ = some (.int .i64 ny) ∧ w'.cell? ⟨wr.heap.size, 0, none⟩ = some (.string p) ∧ w'.cell? ⟨wr.heap.size, 1, none⟩ = some (.int .i64 d) ∧ w'.cell? ⟨wr.heap.size, 2, none⟩ = some (.int .i64 n))
                (first
                  | go_keep
                  | (refine ⟨?_, ?_, ?_, ?_, ?_, ?_⟩ <;> assumption))
                (first
                  | (go_at_call 224; refine (HO1.out _).mono ?_; rintro e3 w2 ⟨rfl, hb3'⟩; have hb3 : Below w1.heap.size w1 w2 := below_of_drew hb3'; have k0 : w2.cell? (ad.add (j * 3)) = some (.string py) := ((hb3.cell (by rw [block_of_add]; omega)).trans e0); have k1 : w2.cell? ⟨(ad.add (j * 3)).block, (ad.add (j * 3)).off + 1, none⟩ = some (.int .i64 dy) := ((hb3.cell (by show (ad.add (j * 3)).block < _; rw [block_of_add]; omega)).trans e1); have k2 : w2.cell? ⟨(ad.add (j * 3)).block, (ad.add (j * 3)).off + 2, none⟩ = some (.int .i64 ny) := ((hb3.cell (by show (ad.add (j * 3)).block < _; rw [block_of_add]; omega)).trans e2); have k3 : w2.cell? ⟨wr.heap.size, 0, none⟩ = some (.string p) := ((hb3.cell HBd.out).trans d0); have k4 : w2.cell? ⟨wr.heap.size, 1, none⟩ = some (.int .i64 d) := ((hb3.cell HBd.out).trans d1); have k5 : w2.cell? ⟨wr.heap.size, 2, none⟩ = some (.int .i64 n) := ((hb3.cell HBd.out).trans d2); have HB3 := Lib.hid (HB1.out.trans (hb3.mono HB1.out.size)); clear hb3 hb3'))
              go_wp2_with fail
              go_ret
              exact ⟨by rw [HFF.out]; rfl, HB3.out⟩
            · have HFF : Hid (marksErr l = marksFault (some ⟨p, ⟨d, n⟩⟩) (l.drop (j + 1 + 1))) := by show _ = _; rw [HF.out, if_neg h7]
              go_region_held3 (fun w' => w'.cell? (ad.add (j * 3)) = some (.string py) ∧ w'.cell? ⟨(ad.add (j * 3)).block, (ad.add (j * 3)).off + 1, none⟩ = some (.int .i64 dy) ∧ w'.cell? ⟨(ad.add (j * 3)).block, (ad.add (j * 3)).off + 2, none⟩ = some (.int .i64 ny) ∧ w'.cell? ⟨wr.heap.size, 0, none⟩ = some (.string p) ∧ w'.cell? ⟨wr.heap.size, 1, none⟩ = some (.int .i64 d) ∧ w'.cell? ⟨wr.heap.size, 2, none⟩ = some (.int .i64 n))
                (first
                  | go_keep
                  | (refine ⟨?_, ?_, ?_, ?_, ?_, ?_⟩ <;> assumption))
                (first
                  | (go_at_call 224; refine (HO1.out _).mono ?_; rintro e3 w2 ⟨rfl, hb3'⟩; have hb3 : Below w1.heap.size w1 w2 := below_of_drew hb3'; have k0 : w2.cell? (ad.add (j * 3)) = some (.string py) := ((hb3.cell (by rw [block_of_add]; omega)).trans e0); have k1 : w2.cell? ⟨(ad.add (j * 3)).block, (ad.add (j * 3)).off + 1, none⟩ = some (.int .i64 dy) := ((hb3.cell (by show (ad.add (j * 3)).block < _; rw [block_of_add]; omega)).trans e1); have k2 : w2.cell? ⟨(ad.add (j * 3)).block, (ad.add (j * 3)).off + 2, none⟩ = some (.int .i64 ny) := ((hb3.cell (by show (ad.add (j * 3)).block < _; rw [block_of_add]; omega)).trans e2); have k3 : w2.cell? ⟨wr.heap.size, 0, none⟩ = some (.string p) := ((hb3.cell HBd.out).trans d0); have k4 : w2.cell? ⟨wr.heap.size, 1, none⟩ = some (.int .i64 d) := ((hb3.cell HBd.out).trans d1); have k5 : w2.cell? ⟨wr.heap.size, 2, none⟩ = some (.int .i64 n) := ((hb3.cell HBd.out).trans d2); have HB3 := Lib.hid (HB1.out.trans (hb3.mono HB1.out.size)); clear hb3 hb3'))
              go_wp2_with fail
              go_roundw
              case rel => exact ⟨j + 1 + 1, by omega, by go_num, HB3, by rw [HP1.out]; exact HFF⟩
              case measure => simp [intOf]; omega
        · have HV := Lib.hid (errV_ne hp)
          have HF : Hid (marksErr l = markErr ⟨p, ⟨d, n⟩⟩) := by
            show _ = _
            rw [HE2.out, if_pos hp]
          clear hp
          go_wp2_with fail
          refine (HM.out _ ⟨p, ⟨d, n⟩⟩ hsz).mono ?_
          rintro e w1 ⟨rfl, hb1⟩
          rw [HV.out]
          go_wp2_with fail
          go_ret
          exact ⟨by rw [HF.out, HV.out]; rfl, HBa.out.trans (hb1.mono HBa.out.size)⟩
      · have hd : decide ((k : Int) < (l.length : Int)) = false := by simp; omega
        have HF : Hid (marksErr l = 0) := by
          have := HE.out
          rw [List.drop_of_length_le (by omega), marksFault] at this
          exact this
        go_wp2_with fail
        go_ret
        exact ⟨by rw [HF.out]; rfl, HB.out⟩
end Go.Proofs.YthfbjfocmnikaaaGreatDoor
/- What marks are: rising; cut, joined, seen. Plain lemmas. Conditions: none. -/
namespace Go.Proofs.YthfbjfocmnikaaaGreatDoor
open Go.RowKit
set_option linter.unusedVariables false

theorem cmpI_lt {a b : Int} : cmpI a b < 0 ↔ a < b := by unfold cmpI; split <;> (try split) <;> omega
theorem cmpI_zero {a b : Int} : cmpI a b = 0 ↔ a = b := by unfold cmpI; split <;> (try split) <;> omega
def ltD (a b : LDot) : Prop := a.who < b.who ∨ (a.who = b.who ∧ a.n < b.n)
theorem ltD_trans {a b c : LDot} (h : ltD a b) (k : ltD b c) : ltD a c := by unfold ltD at *; omega
theorem ltD_irrefl (a : LDot) : ¬ ltD a a := by unfold ltD; omega
theorem ltD_tri (a b : LDot) : ltD a b ∨ a = b ∨ ltD b a := by
  obtain ⟨x, y⟩ := a; obtain ⟨z, u⟩ := b
  by_cases h : (⟨x, y⟩ : LDot) = ⟨z, u⟩
  · exact .inr (.inl h)
  · have : ¬ (x = z ∧ y = u) := fun ⟨h1, h2⟩ => h (by rw [h1, h2])
    unfold ltD; simp only; omega
theorem ordD_lt {a b : LDot} : ordD a b < 0 ↔ ltD a b := by
  unfold ordD ltD
  by_cases h : cmpI a.who b.who ≠ 0
  · rw [if_pos h, cmpI_lt]
    have : a.who ≠ b.who := fun e => h (cmpI_zero.2 e)
    omega
  · rw [if_neg h, cmpI_lt]
    have : a.who = b.who := cmpI_zero.1 (by omega)
    omega
theorem ordD_zero {a b : LDot} : ordD a b = 0 ↔ a = b := by
  unfold ordD
  obtain ⟨x, y⟩ := a; obtain ⟨z, u⟩ := b
  simp only [LDot.mk.injEq]
  by_cases h : cmpI x z ≠ 0
  · rw [if_pos h]
    have : x ≠ z := fun e => h (cmpI_zero.2 e)
    omega
  · rw [if_neg h, cmpI_zero]
    have : x = z := cmpI_zero.1 (by omega)
    omega
def ltM (a b : LMark) : Prop := lt a.place b.place = true ∨ (a.place = b.place ∧ ltD a.dot b.dot)
theorem ltM_trans {a b c : LMark} (h : ltM a b) (k : ltM b c) : ltM a c := by
  rcases h with h | ⟨h, h2⟩ <;> rcases k with k | ⟨k, k2⟩
  · exact .inl (lt_trans h k)
  · exact .inl (by rw [← k]; exact h)
  · exact .inl (by rw [h]; exact k)
  · exact .inr ⟨h.trans k, ltD_trans h2 k2⟩
theorem ltM_irrefl (a : LMark) : ¬ ltM a a := by
  rintro (h | ⟨_, h⟩)
  · rw [lt_irrefl] at h; cases h
  · exact ltD_irrefl _ h
theorem ltM_tri (a b : LMark) : ltM a b ∨ a = b ∨ ltM b a := by
  cases h : lt a.place b.place with
  | true => exact .inl (.inl h)
  | false =>
    cases h2 : lt b.place a.place with
    | true => exact .inr (.inr (.inl h2))
    | false =>
      have e := lt_total h h2
      rcases ltD_tri a.dot b.dot with h3 | h3 | h3
      · exact .inl (.inr ⟨e, h3⟩)
      · right; left
        obtain ⟨p, d⟩ := a; obtain ⟨q, f⟩ := b
        simp only at e h3
        rw [e, h3]
      · exact .inr (.inr (.inr ⟨e.symm, h3⟩))
theorem ordM_lt {a b : LMark} : ordM a b < 0 ↔ ltM a b := by
  unfold ordM ltM orI
  by_cases h : Lib.compareBytes a.place.data.toList b.place.data.toList ≠ 0
  · rw [if_pos h, cmp_less_iff, ← toList_data, ← toList_data]
    have hne : a.place ≠ b.place := fun e => h (by
      have := cmp_zero a.place.data.toList b.place.data.toList
      rw [e] at this ⊢
      simpa using this)
    constructor
    · exact .inl
    · rintro (h1 | ⟨h1, _⟩)
      · exact h1
      · exact absurd h1 hne
  · rw [if_neg h, ordD_lt]
    have h0 : Lib.compareBytes a.place.data.toList b.place.data.toList = 0 := by omega
    have he : a.place = b.place := by
      have := cmp_zero a.place.data.toList b.place.data.toList
      rw [h0] at this
      have h3 : a.place.data.toList = b.place.data.toList := by simpa using this.symm
      exact ByteArray.ext (Array.ext' h3)
    constructor
    · exact fun h1 => .inr ⟨he, h1⟩
    · rintro (h1 | ⟨_, h1⟩)
      · rw [he, lt_irrefl] at h1; cases h1
      · exact h1
theorem ordM_zero {a b : LMark} : ordM a b = 0 ↔ a = b := by
  constructor
  · intro h
    rcases ltM_tri a b with h1 | h1 | h1
    · have := ordM_lt.2 h1; omega
    · exact h1
    · exfalso
      unfold ordM orI at h
      by_cases h2 : Lib.compareBytes a.place.data.toList b.place.data.toList ≠ 0
      · rw [if_pos h2] at h; exact h2 h
      · rw [if_neg h2, ordD_zero] at h
        have h0 : Lib.compareBytes a.place.data.toList b.place.data.toList = 0 := by omega
        have he : a.place = b.place := by
          have := cmp_zero a.place.data.toList b.place.data.toList
          rw [h0] at this
          have h3 : a.place.data.toList = b.place.data.toList := by simpa using this.symm
          exact ByteArray.ext (Array.ext' h3)
        rcases h1 with h1 | ⟨_, h1⟩
        · rw [he, lt_irrefl] at h1; cases h1
        · rw [h] at h1; exact ltD_irrefl _ h1
  · rintro rfl
    unfold ordM orI
    have := cmp_zero a.place.data.toList a.place.data.toList
    have h0 : Lib.compareBytes a.place.data.toList a.place.data.toList = 0 := by simpa using this
    rw [h0, if_neg (by simp), ordD_zero]
def ltMb (a b : LMark) : Bool := decide (ordM a b < 0)
theorem ltMb_iff {a b : LMark} : ltMb a b = true ↔ ltM a b := by unfold ltMb; rw [decide_eq_true_iff, ordM_lt]
structure MarksOk (l : List LMark) : Prop where
  few : l.length ≤ 40
  marks : ∀ x ∈ l, markErr x = 0
  rising : l.Pairwise ltM
theorem mfault_ok {prev : Option LMark} {l : List LMark} (h : marksFault prev l = 0) : (∀ x ∈ l, markErr x = 0) ∧ l.Pairwise ltM ∧ ∀ p, prev = some p → ∀ y ∈ l, ltM p y := by
  induction l generalizing prev with
  | nil => exact ⟨by simp, List.Pairwise.nil, by simp⟩
  | cons x l ih =>
    rw [marksFault_cons] at h
    by_cases h1 : markErr x ≠ 0
    · rw [if_pos h1] at h; exact absurd h h1
    rw [if_neg h1] at h
    by_cases h2 : mClash prev x = true
    · rw [if_pos h2] at h; omega
    rw [if_neg h2] at h
    obtain ⟨i1, i2, i3⟩ := ih h
    refine ⟨fun y hy => ?_, List.pairwise_cons.2 ⟨i3 x rfl, i2⟩, ?_⟩
    · rcases List.mem_cons.1 hy with rfl | hy
      · omega
      · exact i1 y hy
    · rintro p rfl y hy
      have hpx : ltM p x := by
        rw [← ordM_lt]
        unfold mClash at h2
        simp only [decide_eq_true_eq] at h2
        omega
      rcases List.mem_cons.1 hy with rfl | hy
      · exact hpx
      · exact ltM_trans hpx (i3 x rfl y hy)
theorem marks_ok' {l : List LMark} (h : marksErr l = 0) : MarksOk l := by
  unfold marksErr at h
  by_cases h1 : 40 < l.length
  · rw [if_pos h1] at h; omega
  · rw [if_neg h1] at h
    obtain ⟨i1, i2, _⟩ := mfault_ok h
    exact ⟨by omega, i1, i2⟩
theorem mfault_zero {prev : Option LMark} {l : List LMark} (ho : ∀ x ∈ l, markErr x = 0) (hr : l.Pairwise ltM) (hp : ∀ p, prev = some p → ∀ y ∈ l, ltM p y) : marksFault prev l = 0 := by
  induction l generalizing prev with
  | nil => rfl
  | cons x l ih =>
    rw [List.pairwise_cons] at hr
    rw [marksFault_cons, if_neg (fun h => h (ho x (by simp))), if_neg]
    · exact ih (fun y hy => ho y (by simp [hy])) hr.2 (fun p hp2 y hy => by cases hp2; exact hr.1 y hy)
    · cases prev with
      | none => simp [mClash]
      | some p =>
        have := ordM_lt.2 (hp p rfl x (by simp))
        simp only [mClash, decide_eq_true_eq]
        omega
theorem marks_zero {l : List LMark} (h : MarksOk l) : marksErr l = 0 := by
  unfold marksErr
  rw [if_neg (by have := h.few; omega)]
  exact mfault_zero h.marks h.rising (by simp)

/-- How many marks are ahead of one; is it there? -/
def aheadM (l : List LMark) (m : LMark) : Nat := (l.filter fun x => ltMb x m).length
def hasM (l : List LMark) (m : LMark) : Bool := match l[aheadM l m]? with
  | some x => decide (ordM x m = 0)
  | none => false
theorem aheadM_le (l : List LMark) (m : LMark) : aheadM l m ≤ l.length := List.length_filter_le _ _
theorem hasM_lt {l : List LMark} {m : LMark} (h : hasM l m = true) : aheadM l m < l.length := by
  unfold hasM at h
  rcases Nat.lt_or_ge (aheadM l m) l.length with h1 | h1
  · exact h1
  · rw [List.getElem?_eq_none h1] at h; cases h
theorem aheadM_of {l : List LMark} {m : LMark} {i : Nat} (hi : i ≤ l.length) (h1 : ∀ j (hj : j < l.length), j < i → ltM l[j] m) (h2 : ∀ j (hj : j < l.length), i ≤ j → ¬ ltM l[j] m) : aheadM l m = i := by
  unfold aheadM
  have e : l = l.take i ++ l.drop i := (List.take_append_drop i l).symm
  have e1 : (l.take i).filter (fun x => ltMb x m) = l.take i := by
    rw [List.filter_eq_self]
    intro x hx
    obtain ⟨j, hj, rfl⟩ := List.getElem_of_mem hx
    rw [List.length_take] at hj
    simp only [List.getElem_take]
    exact ltMb_iff.2 (h1 j (by omega) (by omega))
  have e2 : (l.drop i).filter (fun x => ltMb x m) = [] := by
    rw [List.filter_eq_nil_iff]
    intro x hx
    obtain ⟨j, hj, rfl⟩ := List.getElem_of_mem hx
    rw [List.length_drop] at hj
    simp only [List.getElem_drop]
    exact fun h => h2 (i + j) (by omega) (by omega) (ltMb_iff.1 h)
  rw [e, List.filter_append, e1, e2, List.append_nil, List.length_take]
  omega
theorem mrising_at {l : List LMark} (hr : l.Pairwise ltM) (i j : Nat) (hi : i < l.length) (hj : j < l.length) (hij : i < j) : ltM l[i] l[j] := List.pairwise_iff_getElem.1 hr i j hi hj hij
theorem msplit_at {l : List LMark} (hr : l.Pairwise ltM) (m : LMark) : l.take (aheadM l m) = l.filter (fun x => ltMb x m) ∧ l.drop (aheadM l m) = l.filter (fun x => !ltMb x m) := by
  have hh : ∀ k : List LMark, aheadM k m = (k.filter (fun x => ltMb x m)).length := fun _ => rfl
  induction l with
  | nil => exact ⟨rfl, rfl⟩
  | cons x l ih =>
    rw [List.pairwise_cons] at hr
    obtain ⟨i1, i2⟩ := ih hr.2
    cases hx : ltMb x m with
    | true =>
      have e : aheadM (x :: l) m = aheadM l m + 1 := by rw [hh, hh, List.filter_cons, hx]; rfl
      rw [e, List.take_succ_cons, List.drop_succ_cons, List.filter_cons, List.filter_cons, hx, i1, i2]
      exact ⟨rfl, rfl⟩
    | false =>
      have none_ : ∀ y ∈ l, ltMb y m = false := fun y hy => by
        cases hy2 : ltMb y m with
        | false => rfl
        | true => have := ltMb_iff.2 (ltM_trans (hr.1 y hy) (ltMb_iff.1 hy2)); rw [hx] at this; cases this
      have e0 : l.filter (fun x => ltMb x m) = [] := by rw [List.filter_eq_nil_iff]; intro y hy; rw [none_ y hy]; decide
      have e1 : l.filter (fun x => !ltMb x m) = l := by rw [List.filter_eq_self]; intro y hy; rw [none_ y hy]; rfl
      have e : aheadM (x :: l) m = 0 := by rw [hh, List.filter_cons, hx]; simp [e0]
      rw [e, List.filter_cons, List.filter_cons, hx]
      simp [e0, e1]
theorem hasM_iff {l : List LMark} (hr : l.Pairwise ltM) (m : LMark) : hasM l m = true ↔ m ∈ l := by
  constructor
  · intro h
    have hi := hasM_lt h
    unfold hasM at h
    rw [List.getElem?_eq_getElem hi] at h
    have := ordM_zero.1 (of_decide_eq_true h)
    rw [← this]
    exact List.getElem_mem hi
  · intro hx
    obtain ⟨j, hj, rfl⟩ := List.getElem_of_mem hx
    have ha : aheadM l l[j] = j := aheadM_of (by omega) (fun k hk hkj => mrising_at hr k j hk hj hkj) (fun k hk hjk h => by
      rcases Nat.lt_or_ge j k with h1 | h1
      · exact ltM_irrefl _ (ltM_trans (mrising_at hr j k hj hk h1) h)
      · obtain rfl : k = j := by omega
        exact ltM_irrefl _ h)
    unfold hasM
    rw [ha, List.getElem?_eq_getElem hj]
    exact decide_eq_true (ordM_zero.2 rfl)
/-- Two lists of the same marks are one. -/
theorem mrising_ext {l m : List LMark} (hl : l.Pairwise ltM) (hm : m.Pairwise ltM) (h : ∀ x, x ∈ l ↔ x ∈ m) : l = m := by
  induction l generalizing m with
  | nil =>
    cases m with
    | nil => rfl
    | cons y m => exact absurd ((h y).2 (by simp)) (by simp)
  | cons x l ih =>
    cases m with
    | nil => exact absurd ((h x).1 (by simp)) (by simp)
    | cons y m =>
      rw [List.pairwise_cons] at hl hm
      have hxy : x = y := by
        have h1 := (h x).1 (by simp)
        have h2 := (h y).2 (by simp)
        rcases List.mem_cons.1 h1 with h1 | h1
        · exact h1
        · rcases List.mem_cons.1 h2 with h2 | h2
          · exact h2.symm
          · exact absurd (ltM_trans (hm.1 _ h1) (hl.1 _ h2)) (ltM_irrefl _)
      subst hxy
      rw [ih hl.2 hm.2 (fun z => ?_)]
      have hz := h z
      simp only [List.mem_cons] at hz
      constructor
      · intro hzl
        rcases hz.1 (.inr hzl) with h1 | h1
        · subst h1; exact absurd (hl.1 _ hzl) (ltM_irrefl _)
        · exact h1
      · intro hzm
        rcases hz.2 (.inr hzm) with h1 | h1
        · subst h1; exact absurd (hm.1 _ hzm) (ltM_irrefl _)
        · exact h1

def cutErr (l : List LMark) (m : LMark) : Int := if marksErr l ≠ 0 then marksErr l else if markErr m ≠ 0 then markErr m else if hasM l m = true then 0 else if 40 ≤ l.length then 4 else 0
def cutPut (l : List LMark) (i : Nat) (m : LMark) : List LMark := l.take i ++ m :: l.drop i
def cutRes (l : List LMark) (m : LMark) : List LMark := if hasM l m = true then l else cutPut l (aheadM l m) m
theorem cutPut_len (l : List LMark) (i : Nat) (x : LMark) (hi : i ≤ l.length) : (cutPut l i x).length = l.length + 1 := by simp [cutPut]; omega
theorem mem_cut {l : List LMark} (hr : l.Pairwise ltM) {m x : LMark} : x ∈ cutRes l m ↔ x ∈ l ∨ x = m := by
  unfold cutRes
  by_cases h : hasM l m = true
  · rw [if_pos h]
    have := (hasM_iff hr m).1 h
    constructor
    · exact .inl
    · rintro (h1 | rfl)
      · exact h1
      · exact this
  · rw [if_neg h]
    unfold cutPut
    have e : x ∈ l ↔ x ∈ l.take (aheadM l m) ∨ x ∈ l.drop (aheadM l m) := by
      rw [← List.mem_append, List.take_append_drop]
    rw [e, List.mem_append, List.mem_cons]
    constructor
    · rintro (h1 | h1 | h1)
      · exact .inl (.inl h1)
      · exact .inr h1
      · exact .inl (.inr h1)
    · rintro ((h1 | h1) | h1)
      · exact .inl h1
      · exact .inr (.inr h1)
      · exact .inr (.inl h1)
theorem cut_rising {l : List LMark} (hr : l.Pairwise ltM) (m : LMark) : (cutRes l m).Pairwise ltM := by
  unfold cutRes
  by_cases h : hasM l m = true
  · rw [if_pos h]; exact hr
  · rw [if_neg h, cutPut]
    obtain ⟨s1, s2⟩ := msplit_at hr m
    rw [s1, s2, List.pairwise_append, List.pairwise_cons]
    have hgt : ∀ y ∈ l.filter (fun x => !ltMb x m), ltM m y := fun y hy => by
      rw [List.mem_filter] at hy
      obtain ⟨h1, h2⟩ := hy
      rcases ltM_tri m y with h3 | h3 | h3
      · exact h3
      · exact absurd ((hasM_iff hr m).2 (h3 ▸ h1)) h
      · rw [ltMb_iff.2 h3] at h2; cases h2
    refine ⟨hr.filter _, ⟨hgt, hr.filter _⟩, fun a ha b hb => ?_⟩
    have h1 := ltMb_iff.1 (List.mem_filter.1 ha).2
    rcases List.mem_cons.1 hb with rfl | hb
    · exact h1
    · exact ltM_trans h1 (hgt b hb)
theorem cut_len {l : List LMark} (m : LMark) : (cutRes l m).length = if hasM l m = true then l.length else l.length + 1 := by
  unfold cutRes
  split
  · rfl
  · exact cutPut_len _ _ _ (aheadM_le _ _)
theorem cut_ok {l : List LMark} {m : LMark} (h : cutErr l m = 0) : MarksOk l ∧ markErr m = 0 ∧ (hasM l m = true ∨ l.length < 40) := by
  unfold cutErr at h
  by_cases h1 : marksErr l ≠ 0
  · rw [if_pos h1] at h; exact absurd h h1
  rw [if_neg h1] at h
  by_cases h2 : markErr m ≠ 0
  · rw [if_pos h2] at h; exact absurd h h2
  rw [if_neg h2] at h
  refine ⟨marks_ok' (by omega), by omega, ?_⟩
  by_cases h3 : hasM l m = true
  · exact .inl h3
  · rw [if_neg h3] at h
    right
    by_cases h4 : 40 ≤ l.length
    · rw [if_pos h4] at h; omega
    · omega
theorem cut_zero {l : List LMark} {m : LMark} (h : MarksOk l) (h2 : markErr m = 0) (h3 : hasM l m = true ∨ l.length < 40) : cutErr l m = 0 := by
  unfold cutErr
  rw [if_neg (fun x => x (marks_zero h)), if_neg (fun x => x h2)]
  by_cases h4 : hasM l m = true
  · rw [if_pos h4]
  · rw [if_neg h4, if_neg]
    rcases h3 with h3 | h3
    · exact absurd h3 h4
    · omega
theorem cut_marks {l : List LMark} {m : LMark} (h : cutErr l m = 0) : MarksOk (cutRes l m) := by
  obtain ⟨b, c, d⟩ := cut_ok h
  refine ⟨?_, fun x hx => ?_, cut_rising b.rising m⟩
  · rw [cut_len]
    have := b.few
    split
    · exact this
    · next h1 =>
      rcases d with d | d
      · exact absurd d h1
      · omega
  · rcases (mem_cut b.rising).1 hx with h1 | rfl
    · exact b.marks x h1
    · exact c
def inD (l : List LDot) (d : LDot) : Bool := l.any fun x => decide (x = d)
theorem inD_iff {l : List LDot} {d : LDot} : inD l d = true ↔ d ∈ l := by
  unfold inD
  rw [List.any_eq_true]
  constructor
  · rintro ⟨x, hx, h⟩
    rw [← of_decide_eq_true h]; exact hx
  · intro h
    exact ⟨d, h, decide_eq_true rfl⟩
def joined (p : ByteArray) (seen : List LDot) (m : LMark) : Bool := decide (m.place = p) && inD seen m.dot
def joinRes (l : List LMark) (p : ByteArray) (seen : List LDot) : List LMark := l.filter fun m => !joined p seen m
def joinErr (l : List LMark) (p : ByteArray) (seen : List LDot) : Int := if marksErr l ≠ 0 then marksErr l else if placeErr p ≠ 0 then placeErr p else if 40 < seen.length then 4 else riseErr seen
theorem join_ok {l : List LMark} (h : MarksOk l) (p : ByteArray) (seen : List LDot) : MarksOk (joinRes l p seen) :=
  ⟨Nat.le_trans (List.length_filter_le _ _) h.few, fun x hx => h.marks x (List.mem_filter.1 hx).1, h.rising.filter _⟩
end Go.Proofs.YthfbjfocmnikaaaGreatDoor
