/- diff.Diff, walked. Conditions: texts that an int may count. -/
import Derived.Test.YteiadcdaleckjaaDoorDiffEd
import Derived.Test.YteiadcdaleckjaaDoorDiffTab
namespace Go.Proofs.YteiadcdaleckjaaDoor
open Go.RowKit
set_option linter.unusedVariables false

theorem elemE : Elem Tryd.prog 22 59 3 32 := Elem.mk_ (z := .agg #[.int .i64 0, .int .i64 0, .string ⟨#[]⟩]) Tryd.underlying22 (by kernel_rfl) rfl (by decide)
def Df.Ed.box (e : Df.Ed) : Array Value := #[.int .i64 (e.keep : Int), .int .i64 (e.strike : Int), .string (strOf e.write)]
/-- Midway: the table, the edits so far, the edit under way. -/
structure DiffSt (w : World) (a b : ByteArray) (EB : Nat) (V : Option Addr) (n cv : Nat) (out : List Df.Ed) (e : Df.Ed) (wr : World) : Prop where
  own : Own wr (EB + 1) 59 3 V n cv (ecells (out.map Df.Ed.L))
  box : Blk wr EB 59 e.box
  tab : Tab wr w.heap.size a.size b.size (TL a b)
  far : w.heap.size + 1 + a.size < EB
  bel : Below w.heap.size w wr
section
variable {w wr w' : World} {a b : ByteArray} {EB n cv n' c' : Nat} {V V' : Option Addr} {out : List Df.Ed} {e e' : Df.Ed}
theorem Tab.only {B n m : Nat} {F : Nat → Nat → Nat} {S : List Nat} (h : Tab wr B n m F) (ho : Only S wr w') (hS : ∀ g ∈ S, B + 1 + n < g) : Tab w' B n m F :=
  ⟨ho.blk h.heads (fun hm => by have := hS _ hm; omega), fun i hi => ho.blk (h.rows i hi) (fun hm => by have := hS _ hm; omega)⟩
theorem DiffSt.len (h : DiffSt w a b EB V n cv out e wr) : n = out.length := by have := h.own.len; rw [ecells_len, List.length_map] at this; omega
theorem DiffSt.alloc (h : DiffSt w a b EB V n cv out e wr) (o : Obj) : DiffSt w a b EB V n cv out e (wr.alloc o) :=
  ⟨h.own.alloc _, h.box.alloc _, h.tab.only ((Only.refl [] _).alloc _) (by simp), h.far, h.bel.alloc h.bel.size _⟩
theorem DiffSt.drewN (h : DiffSt w a b EB V n cv out e wr) (k : Nat) : DiffSt w a b EB V n cv out e (wr.drewN k) := ⟨h.own.drewN k, h.box.drewN k, h.tab.drewN k, h.far, below_drewN h.bel k⟩
theorem DiffSt.drew (h : DiffSt w a b EB V n cv out e wr) : DiffSt w a b EB V n cv out e wr.drew := ⟨h.own.drew, h.box.drew, h.tab.drew, h.far, h.bel.drew⟩
theorem DiffSt.base (h : DiffSt w a b EB V n cv out e wr) : EB + 1 ≤ wr.heap.size := h.box.lt
theorem DiffSt.only (h : DiffSt w a b EB V n cv out e wr) (ho : Only [EB] wr w') (hb : Blk w' EB 59 e'.box) : DiffSt w a b EB V n cv out e' w' :=
  ⟨h.own.only ho (fun g hg => by have := (h.own.lt g hg).1; simp; omega), hb, h.tab.only ho (fun g hg => by simp at hg; have := h.far; omega), h.far,
    h.bel.trans (ho.below h.bel.size (fun i hi => by simp at hi; have := h.far; omega))⟩
theorem DiffSt.app (h : DiffSt w a b EB V n cv out e wr) (hown : Own w' (EB + 1) 59 3 V' n' c' (ecells (out.map Df.Ed.L) ++ ecells [e'.L])) (ho : Only (ob V) wr w') : DiffSt w a b EB V' n' c' (out ++ [e']) e w' := by
  have hS : ∀ i ∈ ob V, EB + 1 ≤ i := fun i hi => (h.own.lt _ hi).1
  refine ⟨by rw [ecells_append] at hown; simpa using hown, ho.blk h.box (fun hm => by have := hS _ hm; omega), h.tab.only ho (fun g hg => by have := hS _ hg; have := h.far; omega), h.far,
    h.bel.trans (ho.below h.bel.size (fun i hi => by have := hS _ hi; have := h.far; omega))⟩
theorem DiffSt.strike {ke se : Nat} {we : List UInt8} (h : DiffSt w a b EB V n cv out ⟨ke, se, we⟩ wr) : DiffSt w a b EB V n cv out ⟨ke, se + 1, we⟩ (wr.setCell ⟨EB, 1, none⟩ (.int .i64 ((se : Int) + 1))) :=
  h.only ((Only.refl _ _).setCell (.inl (by simp)) _) (h.box.set_ 1 (.int .i64 ((se : Int) + 1)))
theorem DiffSt.keep {ke se : Nat} {we : List UInt8} (h : DiffSt w a b EB V n cv out ⟨ke, se, we⟩ wr) : DiffSt w a b EB V n cv out ⟨ke + 1, se, we⟩ (wr.setCell ⟨EB, 0, none⟩ (.int .i64 ((ke : Int) + 1))) :=
  h.only ((Only.refl _ _).setCell (.inl (by simp)) _) (h.box.set_ 0 (.int .i64 ((ke : Int) + 1)))
theorem DiffSt.write {ke se : Nat} {we : List UInt8} (c : UInt8) (h : DiffSt w a b EB V n cv out ⟨ke, se, we⟩ wr) : DiffSt w a b EB V n cv out ⟨ke, se, we ++ [c]⟩ (wr.setCell ⟨EB, 2, none⟩ (.string (strOf (we ++ [c])))) :=
  h.only ((Only.refl _ _).setCell (.inl (by simp)) _) (h.box.set_ 2 (.string (strOf (we ++ [c]))))
theorem DiffSt.reset (h : DiffSt w a b EB V n cv out e wr) : DiffSt w a b EB V n cv out ⟨0, 0, []⟩ (((wr.setCell ⟨EB, 0, none⟩ (.int .i64 0)).setCell ⟨EB, 1, none⟩ (.int .i64 0)).setCell ⟨EB, 2, none⟩ (.string ⟨#[]⟩)) :=
  h.only ((((Only.refl _ _).setCell (.inl (by simp)) _).setCell (.inl (by simp)) _).setCell (.inl (by simp)) _) (((h.box.set_ 0 _).set_ 1 _).set_ 2 _)
theorem DiffSt.cells (h : DiffSt w a b EB V n cv out e wr) : wr.cell? ⟨EB, 0, none⟩ = some (.int .i64 (e.keep : Int)) ∧ wr.cell? ⟨EB, 1, none⟩ = some (.int .i64 (e.strike : Int)) ∧ wr.cell? ⟨EB, 2, none⟩ = some (.string (strOf e.write)) ∧
    wr.frozen? ⟨EB, 0, none⟩ = false ∧ wr.frozen? ⟨EB, 1, none⟩ = false ∧ wr.frozen? ⟨EB, 2, none⟩ = false :=
  ⟨by rw [h.box.cell]; rfl, by rw [h.box.cell]; rfl, by rw [h.box.cell]; rfl, h.box.frozen 0, h.box.frozen 1, h.box.frozen 2⟩
end
/-- The edits from the one text to the other. -/
def difL (a b : ByteArray) : List Df.Ed := Df.dif ⟨0, 0, []⟩ a.data.toList b.data.toList
def diffErr (a b : ByteArray) : Int := if 200 < a.size ∨ 200 < b.size then 4 else 0
def DiffPost (w : World) (a b : ByteArray) (e : Ending) (w' : World) : Prop :=
  if diffErr a b = 0 then ∃ V c, e = .returned (.tuple #[.slice V (difL a b).length c, .nilIface]) ∧ Reads w' w'.heap.size 3 V (difL a b).length (ecells ((difL a b).map Df.Ed.L)) ∧ Below w.heap.size w w'
  else e = .returned (.tuple #[.slice none 0 0, errV 4]) ∧ Below w.heap.size w w'
theorem extract_one (b : ByteArray) (k : Nat) (h : k < b.size) : b.extract k (k + 1) = strOf [b[k]] := by
  apply ByteArray.ext
  rw [ByteArray.data_extract]
  apply Array.ext'
  rw [Array.toList_extract, List.extract_eq_take_drop]
  show _ = [b[k]]
  rw [show k + 1 - k = 1 by omega, drop_at b k h]
  rfl

def DiffLoop (w : World) (a b : ByteArray) (EB : Nat) (v x y : Value) (wr : World) : Prop :=
  ∃ (i k : Nat) (out : List Df.Ed) (ke se : Nat) (we : List UInt8) (V : Option Addr) (cv : Nat), i ≤ a.size ∧ k ≤ b.size ∧ x = .int .i64 i ∧ y = .int .i64 k ∧ v = .slice V out.length cv ∧
    Hid (DiffSt w a b EB V out.length cv out ⟨ke, se, we⟩ wr) ∧ Hid (out ++ Df.dif ⟨ke, se, we⟩ (a.data.toList.drop i) (b.data.toList.drop k) = difL a b) ∧ ke + se ≤ i ∧ we.length ≤ k ∧ out.length ≤ i + k
theorem empty_str {l : List UInt8} (h : l = []) : (strOf l).toList.isEmpty = true := by rw [strOf_toList, h]; rfl
theorem full_str {l : List UInt8} (h : l ≠ []) : (strOf l).toList.isEmpty = false := by
  rw [strOf_toList]
  cases l
  · exact absurd rfl h
  · rfl
theorem reads_ed (W : World) (e : Df.Ed) : Reads (W.alloc (.cells e.box 59)) (W.alloc (.cells e.box 59)).heap.size 3 (some ⟨W.heap.size, 0, none⟩) 1 (ecells [e.L]) := by
  have h := Reads.row W 59 e.box
  show Reads (W.alloc (.cells e.box 59)) (W.alloc (.cells e.box 59)).heap.size e.box.size (some ⟨W.heap.size, 0, none⟩) 1 e.box.toList
  simpa using h

theorem cat_one (we : List UInt8) (b : ByteArray) (k : Nat) (hk : k < b.size) (hw : we.length ≤ 200) (W : World) :
    (Op.stringOp .add (strOf we) (b.extract k (k + 1))).run Tryd.prog W = .ok (.string (strOf (we ++ [b[k]]))) W := by
  rw [extract_one b k hk, run_string_add_sum _ _ _ (by rw [strOf_size, strOf_size]; simp; omega), strOf_append]

set_option maxRecDepth 100000 in
set_option maxHeartbeats 4000000 in
theorem diff_any (w : World) (a b : ByteArray) (ha : a.size ≤ 9223372036854775807) (hb : b.size ≤ 9223372036854775807) :
    Calls Tryd.prog 5 #[.string a, .string b] w (DiffPost w a b) := by
  by_cases hz : 200 < a.size ∨ 200 < b.size
  · have HE : Hid (¬ diffErr a b = 0) := by show ¬ _; unfold diffErr; rw [if_pos hz]; decide
    by_cases h1 : 200 < a.size
    · clear hz
      go_enter Tryd.func5, Tryd.ntmps5
      go_wp2_with fail
      go_ret2
      unfold DiffPost
      rw [if_neg HE.out]
      exact ⟨rfl, Below.refl _ _⟩
    · have h2 : 200 < b.size := by omega
      clear hz
      go_enter Tryd.func5, Tryd.ntmps5
      go_wp2_with fail
      go_ret2
      unfold DiffPost
      rw [if_neg HE.out]
      exact ⟨rfl, Below.refl _ _⟩
  · have HE : Hid (diffErr a b = 0) := by show _ = _; unfold diffErr; rw [if_neg hz]
    have ha2 : a.size ≤ 200 := by omega
    have hb2 : b.size ≤ 200 := by omega
    have HT := Lib.hid (table_any w a b ha2 hb2)
    clear hz ha hb
    go_enter Tryd.func5, Tryd.ntmps5
    go_wp2_with fail
    refine HT.out.mono ?_
    rintro e w1 ⟨rfl, HTab, HB1⟩
    have HT1 := Lib.hid HTab
    have HB := Lib.hid HB1
    clear HTab HB1
    go_wp2_with fail
    obtain ⟨EB, hEB⟩ : ∃ EB, EB = w1.heap.size := ⟨_, rfl⟩
    have HST : Hid (DiffSt w a b EB none 0 0 [] ⟨0, 0, []⟩ (w1.alloc (.cells #[.int .i64 0, .int .i64 0, .string ⟨#[]⟩] 59))) := by
      refine ⟨(Own.nil _ _ _ _), ?_, HT1.out.only ((Only.refl [] _).alloc _) (by simp), ?_, HB.out.alloc HB.out.size _⟩
      · rw [hEB]; exact Blk.new w1 _ _
      · rw [hEB]; exact (HT1.out.rows a.size (Nat.le_refl _)).lt
    have hEBe : (w1.heap.size : Nat) = EB := hEB.symm
    rw [hEBe]
    clear hEB hEBe HB HT1 HT
    go_loopw [7, 9, 10] (fun v x y wr => DiffLoop w a b EB v x y wr) (fun _ x y _ => (a.size + b.size) - (intOf x).toNat - (intOf y).toNat)
    case atStart => exact ⟨0, 0, [], 0, 0, [], none, 0, by omega, by omega, rfl, rfl, rfl, HST, rfl, by omega, by simp, by simp⟩
    case round =>
      obtain ⟨i, k, out, ke, se, we, V, cv, hi, hk, rfl, rfl, rfl, HS, HD, e1, e2, e3⟩ := hrel
      clear HST
      obtain ⟨c0, c1, c2, f0, f1, f2⟩ := HS.out.cells
      by_cases hia : i < a.size
      · have hi1 : (i : Int) < (a.size : Int) := by omega
        have hi0 : (0 : Int) ≤ (i : Int) := by omega
        have gi : decide ((i : Int) < (a.size : Int)) = true := by simpa using hi1
        have HDA := Lib.hid (drop_at a i hia)
        by_cases hkb : k < b.size
        · have hk1 : (k : Int) < (b.size : Int) := by omega
          have hk0 : (0 : Int) ≤ (k : Int) := by omega
          have gk : decide ((k : Int) < (b.size : Int)) = true := by simpa using hk1
          have gke : ((k : Int) == (b.size : Int)) = false := by simp; omega
          have HDB := Lib.hid (drop_at b k hkb)
          by_cases hab : a[i] = b[k]
          · have g1 : ((a[i].toNat : Int) == (b[k].toNat : Int)) = true := by rw [hab]; simp
            have HAB := Lib.hid hab
            clear hab
            have hF : Fits (out.length + 1) 32 := Fits.of_small (by omega) (by decide)
            by_cases hs : 0 < se
            · have HDn : Hid ((out ++ [⟨ke, se, we⟩]) ++ Df.dif ⟨1, 0, []⟩ (a.data.toList.drop (i + 1)) (b.data.toList.drop (k + 1)) = difL a b) := by
                have h := HD.out
                rw [HDA.out, HDB.out, Df.dif, if_pos HAB.out, if_pos (by simp [Df.Ed.dirty, hs])] at h
                show _ = _
                rw [List.append_assoc]
                exact h
              clear HD HDA HDB
              go_wp2_with fail
              go_quiet (fail)
              have HA := HS.out.drewN nq |>.alloc (.cells (Df.Ed.box ⟨ke, se, we⟩) 59)
              have HRE := reads_ed (wr.drewN nq) ⟨ke, se, we⟩
              have HOW := HA.own
              have HBA := HA.base
              have HA := Lib.hid HA
              go_upto_region 13 with (at_builtin; go_loud (refine wpList_app _ (.tmp 72) (.tmp 74) rfl rfl elemE rfl rfl HOW HRE (oneCells_e _) hF HBA ?_; intro V1 cv1 w3 HO HL HX; have HS3 := Lib.hid (HA.out.app (e' := ⟨ke, se, we⟩) HO HL); obtain ⟨c0, c1, c2, f0, f1, f2⟩ := HS3.out.cells; clear HO HL HX HOW HRE HBA))
              clear c0 c1 c2 f0 f1 f2
              obtain ⟨wz, hwz⟩ : ∃ wz : World, wz = ((w3.setCell ⟨EB, 0, none⟩ (.int .i64 0)).setCell ⟨EB, 1, none⟩ (.int .i64 0)).setCell ⟨EB, 2, none⟩ (.string ⟨#[]⟩) := ⟨_, rfl⟩
              have HS4 : Hid (DiffSt w a b EB V1 (out.length + 1) cv1 (out ++ [⟨ke, se, we⟩]) ⟨0, 0, []⟩ wz) := by rw [hwz]; exact HS3.out.reset
              obtain ⟨c0, c1, c2, f0, f1, f2⟩ := HS4.out.cells
              rw [← hwz]
              clear hwz HS3 HA HS
              go_wp2_with fail
              go_roundw
              case rel => exact ⟨i + 1, k + 1, out ++ [⟨ke, se, we⟩], 1, 0, [], V1, cv1, by omega, by omega, by go_num, by go_num, by simp, by rw [List.length_append]; exact HS4.out.keep, HDn, by omega, by simp, by simp; omega⟩
              case measure => simp [intOf]; omega
            · obtain rfl : se = 0 := by omega
              by_cases hw : we = []
              · have HDn : Hid (out ++ Df.dif ⟨ke + 1, 0, we⟩ (a.data.toList.drop (i + 1)) (b.data.toList.drop (k + 1)) = difL a b) := by
                  have h := HD.out
                  rw [HDA.out, HDB.out, Df.dif, if_pos HAB.out, if_neg (by simp [Df.Ed.dirty, hw])] at h
                  exact h
                have hz := empty_str hw
                have hz2 : (!(strOf we).toList.isEmpty) = false := by rw [hz]; rfl
                clear HD HDA HDB hw
                go_wp2_with fail
                go_quiet (fail)
                go_wp2_with fail
                go_roundw
                case rel => exact ⟨i + 1, k + 1, out, ke + 1, 0, we, V, cv, by omega, by omega, by go_num, by go_num, rfl, (HS.out.drewN _).keep, HDn, by omega, by omega, by omega⟩
                case measure => simp [intOf]; omega
              · have HDn : Hid ((out ++ [⟨ke, 0, we⟩]) ++ Df.dif ⟨1, 0, []⟩ (a.data.toList.drop (i + 1)) (b.data.toList.drop (k + 1)) = difL a b) := by
                  have h := HD.out
                  rw [HDA.out, HDB.out, Df.dif, if_pos HAB.out, if_pos (by simp [Df.Ed.dirty, hw])] at h
                  show _ = _
                  rw [List.append_assoc]
                  exact h
                have hz := full_str hw
                have hz2 : (!(strOf we).toList.isEmpty) = true := by rw [hz]; rfl
                clear HD HDA HDB hw
                go_wp2_with fail
                go_quiet (fail)
                have HA := HS.out.drewN nq |>.alloc (.cells (Df.Ed.box ⟨ke, 0, we⟩) 59)
                have HRE := reads_ed (wr.drewN nq) ⟨ke, 0, we⟩
                have HOW := HA.own
                have HBA := HA.base
                have HA := Lib.hid HA
                go_upto_region 13 with (at_builtin; go_loud (refine wpList_app _ (.tmp 72) (.tmp 74) rfl rfl elemE rfl rfl HOW HRE (oneCells_e _) hF HBA ?_; intro V1 cv1 w3 HO HL HX; have HS3 := Lib.hid (HA.out.app (e' := ⟨ke, 0, we⟩) HO HL); obtain ⟨c0, c1, c2, f0, f1, f2⟩ := HS3.out.cells; clear HO HL HX HOW HRE HBA))
                clear c0 c1 c2 f0 f1 f2
                obtain ⟨wz, hwz⟩ : ∃ wz : World, wz = ((w3.setCell ⟨EB, 0, none⟩ (.int .i64 0)).setCell ⟨EB, 1, none⟩ (.int .i64 0)).setCell ⟨EB, 2, none⟩ (.string ⟨#[]⟩) := ⟨_, rfl⟩
                have HS4 : Hid (DiffSt w a b EB V1 (out.length + 1) cv1 (out ++ [⟨ke, 0, we⟩]) ⟨0, 0, []⟩ wz) := by rw [hwz]; exact HS3.out.reset
                obtain ⟨c0, c1, c2, f0, f1, f2⟩ := HS4.out.cells
                rw [← hwz]
                clear hwz HS3 HA HS
                go_wp2_with fail
                go_roundw
                case rel => exact ⟨i + 1, k + 1, out ++ [⟨ke, 0, we⟩], 1, 0, [], V1, cv1, by omega, by omega, by go_num, by go_num, by simp, by rw [List.length_append]; exact HS4.out.keep, HDn, by omega, by simp, by simp; omega⟩
                case measure => simp [intOf]; omega
          · have g1 : ((a[i].toNat : Int) == (b[k].toNat : Int)) = false := by simp; intro h; exact hab (UInt8.toNat_inj.1 (by omega))
            have HAB := Lib.hid hab
            clear hab
            have hi2 : (i : Int) + 1 < (a.size : Int) + 1 := by omega
            have hk2 : (k : Int) + 1 < (b.size : Int) + 1 := by omega
            have hi3 : (i : Int) < (a.size : Int) + 1 := by omega
            have hk3 : (k : Int) < (b.size : Int) + 1 := by omega
            have hi4 : (0 : Int) ≤ (i : Int) + 1 := by omega
            have hk4 : (0 : Int) ≤ (k : Int) + 1 := by omega
            have hi5 : ((i : Int) + 1).toNat = i + 1 := by omega
            have hk5 : ((k : Int) + 1).toNat = k + 1 := by omega
            have q1 := IntWalk.i64_in ((i : Int) + 1) (by omega)
            have q2 := IntWalk.i64_in ((k : Int) + 1) (by omega)
            have HF : Hid (_ ∧ _ ∧ _ ∧ _) := ⟨HS.out.tab.head (i := i) (by omega), HS.out.tab.head (i := i + 1) (by omega), HS.out.tab.cell (i := i + 1) (k := k) (by omega) (by omega), HS.out.tab.cell (i := i) (k := k + 1) (by omega) (by omega)⟩
            have HT2 : Hid (TL a b (i + 1) k = Df.lcs (a.data.toList.drop (i + 1)) (b[k] :: b.data.toList.drop (k + 1))) := by show _ = _; unfold TL; rw [HDB.out]
            have HT3 : Hid (TL a b i (k + 1) = Df.lcs (a[i] :: a.data.toList.drop (i + 1)) (b.data.toList.drop (k + 1))) := by show _ = _; unfold TL; rw [HDA.out]
            obtain ⟨t0, t1, t2, t3⟩ := HF.out
            have b2 : TL a b (i + 1) k ≤ 200 := Nat.le_trans TL_le ha2
            have b3 : TL a b i (k + 1) ≤ 200 := Nat.le_trans TL_le ha2
            clear HF
            generalize TL a b (i + 1) k = v2 at b2 t2 HT2
            generalize TL a b i (k + 1) = v3 at b3 t3 HT3
            by_cases hv : v3 ≤ v2
            · have g2 : decide (v3 ≤ v2) = true := by simpa using hv
              have g3 : decide ((v3 : Int) ≤ (v2 : Int)) = true := by simp; omega
              have HDn : Hid (out ++ Df.dif ⟨ke, se + 1, we⟩ (a.data.toList.drop (i + 1)) (b.data.toList.drop k) = difL a b) := by
                have h := HD.out
                rw [HDA.out, HDB.out, Df.dif, if_neg HAB.out, if_pos (by rw [← HT2.out, ← HT3.out]; exact hv), ← HDB.out] at h
                exact h
              clear HD HDA HDB HT2 HT3
              go_wp2_with fail
              go_quiet (fail)
              go_wp2_with fail
              go_quiet (fail)
              clear t0 t1 t2 t3 q1 q2
              go_wp2_with fail
              go_roundw
              case rel => exact ⟨i + 1, k, out, ke, se + 1, we, V, cv, by omega, by omega, by go_num, rfl, rfl, (HS.out.drewN _).strike, HDn, by omega, by omega, by omega⟩
              case measure => simp [intOf]; omega
            · have g2 : decide (v3 ≤ v2) = false := by simpa using hv
              have g3 : decide ((v3 : Int) ≤ (v2 : Int)) = false := by simp; omega
              have hk6 : (k : Int) + 1 ≤ (b.size : Int) := by omega
              have HDn : Hid (out ++ Df.dif ⟨ke, se, we ++ [b[k]]⟩ (a.data.toList.drop i) (b.data.toList.drop (k + 1)) = difL a b) := by
                have h := HD.out
                rw [HDA.out, HDB.out, Df.dif, if_neg HAB.out, if_neg (by rw [← HT2.out, ← HT3.out]; exact hv), ← HDA.out] at h
                exact h
              clear HD HDA HDB HT2 HT3
              go_wp2_with fail
              go_quiet (fail)
              go_wp2_with fail
              go_quiet (fail)
              clear t0 t1 t2 t3 q1 q2
              go_wp2_with fail
              have hcat := cat_one we b k hkb (by omega)
              go_region
              clear hcat
              go_wp2_with fail
              go_roundw
              case rel => exact ⟨i, k + 1, out, ke, se, we ++ [b[k]], V, cv, by omega, by omega, rfl, by go_num, rfl, (HS.out.drewN _).write _, HDn, by omega, by simp; omega, by omega⟩
              case measure => simp [intOf]; omega
        · have gk : decide ((k : Int) < (b.size : Int)) = false := by simp; omega
          have gke : ((k : Int) == (b.size : Int)) = true := by simp; omega
          have HDn : Hid (out ++ Df.dif ⟨ke, se + 1, we⟩ (a.data.toList.drop (i + 1)) (b.data.toList.drop k) = difL a b) := by
            have h := HD.out
            have hb0 : b.data.toList.drop k = [] := List.drop_eq_nil_of_le (by rw [Array.length_toList]; show b.size ≤ k; omega)
            rw [HDA.out, hb0, Df.dif] at h
            rw [hb0]
            exact h
          clear HD HDA
          go_wp2_with fail
          go_quiet (fail)
          go_wp2_with fail
          go_quiet (fail)
          go_wp2_with fail
          go_roundw
          case rel => exact ⟨i + 1, k, out, ke, se + 1, we, V, cv, by omega, by omega, by go_num, rfl, rfl, (HS.out.drewN _).strike, HDn, by omega, by omega, by omega⟩
          case measure => simp [intOf]; omega
      · have gi : decide ((i : Int) < (a.size : Int)) = false := by simp; omega
        by_cases hkb : k < b.size
        · have hk1 : (k : Int) < (b.size : Int) := by omega
          have hk0 : (0 : Int) ≤ (k : Int) := by omega
          have hk2 : (k : Int) + 1 ≤ (b.size : Int) := by omega
          have hk3 : (0 : Int) ≤ (k : Int) + 1 := by omega
          have gk : decide ((k : Int) < (b.size : Int)) = true := by simpa using hk1
          have HDB := Lib.hid (drop_at b k hkb)
          have HDn : Hid (out ++ Df.dif ⟨ke, se, we ++ [b[k]]⟩ (a.data.toList.drop i) (b.data.toList.drop (k + 1)) = difL a b) := by
            have h := HD.out
            have ha0 : a.data.toList.drop i = [] := List.drop_eq_nil_of_le (by rw [Array.length_toList]; show a.size ≤ i; omega)
            rw [HDB.out, ha0, Df.dif] at h
            rw [ha0]
            exact h
          clear HD HDB
          go_wp2_with fail
          go_quiet (fail)
          go_wp2_with fail
          go_quiet (fail)
          go_wp2_with fail
          have hcat := cat_one we b k hkb (by omega)
          go_region
          clear hcat
          go_wp2_with fail
          go_roundw
          case rel => exact ⟨i, k + 1, out, ke, se, we ++ [b[k]], V, cv, by omega, by omega, rfl, by go_num, rfl, (HS.out.drewN _).write _, HDn, by omega, by simp; omega, by omega⟩
          case measure => simp [intOf]; omega
        · have HDe : Hid (out ++ Df.dif ⟨ke, se, we⟩ [] [] = difL a b) := by
            have := HD.out
            rw [List.drop_eq_nil_of_le (by rw [Array.length_toList]; show a.size ≤ i; omega), List.drop_eq_nil_of_le (by rw [Array.length_toList]; show b.size ≤ k; omega)] at this
            exact this
          have gk : decide ((k : Int) < (b.size : Int)) = false := by simp; omega
          have hF : Fits (out.length + 1) 32 := Fits.of_small (by omega) (by decide)
          clear HD
          by_cases hs : 0 < se
          · have HDL : Hid (out ++ [⟨ke, se, we⟩] = difL a b) := by
              have := HDe.out
              rw [Df.dif, if_pos (by simp [Df.Ed.dirty, hs])] at this
              exact this
            clear HDe
            have HA := HS.out.alloc (.cells (Df.Ed.box ⟨ke, se, we⟩) 59)
            have HRE := reads_ed wr ⟨ke, se, we⟩
            have HOW := HA.own
            have HBA := HA.base
            have HA := Lib.hid HA
            go_wp2_with (at_builtin; go_loud (refine wpList_app _ (.tmp 129) (.tmp 131) rfl rfl elemE rfl rfl HOW HRE (oneCells_e _) hF HBA ?_; intro V1 cv1 w3 HO HL HX; have HS3 := Lib.hid (HA.out.app (e' := ⟨ke, se, we⟩) HO HL); clear HO HL HX HOW HRE HBA))
            go_ret2
            unfold DiffPost
            rw [if_pos HE.out, ← HDL.out, List.length_append]
            exact ⟨V1, cv1, rfl, HS3.out.own.reads, HS3.out.bel⟩
          · obtain rfl : se = 0 := by omega
            by_cases hw : we = []
            · have hz := empty_str hw
              have hz2 : (!(strOf we).toList.isEmpty) = false := by rw [hz]; rfl
              have HDL : Hid (out = difL a b) := by
                have := HDe.out
                rw [Df.dif, if_neg (by simp [Df.Ed.dirty, hw])] at this
                rw [List.append_nil] at this
                exact this
              clear HDe hw
              go_wp2_with fail
              go_ret2
              unfold DiffPost
              rw [if_pos HE.out, ← HDL.out]
              exact ⟨V, cv, rfl, HS.out.own.reads, HS.out.bel⟩
            · have hz := full_str hw
              have hz2 : (!(strOf we).toList.isEmpty) = true := by rw [hz]; rfl
              have HDL : Hid (out ++ [⟨ke, 0, we⟩] = difL a b) := by
                have := HDe.out
                rw [Df.dif, if_pos (by simp [Df.Ed.dirty, hw])] at this
                exact this
              clear HDe hw
              have HA := HS.out.alloc (.cells (Df.Ed.box ⟨ke, 0, we⟩) 59)
              have HRE := reads_ed wr ⟨ke, 0, we⟩
              have HOW := HA.own
              have HBA := HA.base
              have HA := Lib.hid HA
              go_wp2_with (at_builtin; go_loud (refine wpList_app _ (.tmp 129) (.tmp 131) rfl rfl elemE rfl rfl HOW HRE (oneCells_e _) hF HBA ?_; intro V1 cv1 w3 HO HL HX; have HS3 := Lib.hid (HA.out.app (e' := ⟨ke, 0, we⟩) HO HL); clear HO HL HX HOW HRE HBA))
              go_ret2
              unfold DiffPost
              rw [if_pos HE.out, ← HDL.out, List.length_append]
              exact ⟨V1, cv1, rfl, HS3.out.own.reads, HS3.out.bel⟩
end Go.Proofs.YteiadcdaleckjaaDoor
