/- leafref1.Stretches, walked. Conditions: leafs and marks are right. -/
import Derived.Deep.CutBlock
import Derived.Deep.RegionHeld3
import Derived.Test.YteiadcdaleckjaaDoorDirLaw
import Derived.Test.YteiadcdaleckjaaDoorDirs
import Derived.Test.YteiadcdaleckjaaDoorRefText
namespace Go.Proofs.YteiadcdaleckjaaDoor
open Go.RowKit
set_option linter.unusedVariables false
section
variable {l : List LLeaf} {ps : List ByteArray}
/-- Stretches of which no one is closed. -/
def opL (l : List LLeaf) (ps : List ByteArray) : List LStr := ⟨⟨#[]⟩, 0, 0⟩ :: ps.map fun p => ⟨p, (frOf l p : Int), 0⟩
theorem opL_len : (opL l ps).length = ps.length + 1 := by simp [opL]
theorem opL_app (p : ByteArray) : opL l (ps ++ [p]) = opL l ps ++ [⟨p, (frOf l p : Int), 0⟩] := by simp [opL]
/-- Stretches of which the first i are closed. -/
def mixL (l : List LLeaf) (ps : List ByteArray) (i : Nat) : List LStr := (List.range (ps.length + 1)).map fun j => ⟨plAt ps j, (fr l ps j : Int), if j < i then (endOf l ps j : Int) - fr l ps j else 0⟩
theorem mixL_len {i : Nat} : (mixL l ps i).length = ps.length + 1 := by simp [mixL]
theorem mixL_at {i j : Nat} (hj : j < (mixL l ps i).length) : (mixL l ps i)[j] = ⟨plAt ps j, (fr l ps j : Int), if j < i then (endOf l ps j : Int) - fr l ps j else 0⟩ := by simp [mixL]
theorem mixL_zero : mixL l ps 0 = opL l ps := by
  refine List.ext_getElem (by rw [mixL_len, opL_len]) (fun j h1 h2 => ?_)
  rw [mixL_at h1, if_neg (by omega)]
  rw [opL_len] at h2
  rcases j with _ | j
  · rw [fr_zero]; rfl
  · have hj : j < ps.length := by omega
    simp [opL, fr, plAt, hj]
theorem mixL_all : mixL l ps (ps.length + 1) = strL l ps := by
  refine List.ext_getElem (by rw [mixL_len, strL_len]) (fun j h1 h2 => ?_)
  rw [mixL_at h1]
  rw [mixL_len] at h1
  have h := strL_at (l := l) (ps := ps) (k := j) (by omega)
  rw [List.getElem?_eq_getElem h2] at h
  injection h with h
  rw [h, if_pos h1]
theorem scells_set : ∀ (L : List LStr) (i : Nat) (v : Int) (hi : i < L.length), (scells L).set (i * 3 + 2) (.int .i64 v) = scells (L.set i ⟨L[i].place, L[i].from_, v⟩)
  | x :: L, 0, v, _ => rfl
  | x :: L, i + 1, v, h => by
    have ih := scells_set L i v (by simpa using h)
    have e : scells (x :: L) = .string x.place :: .int .i64 x.from_ :: .int .i64 x.long :: scells L := rfl
    rw [e, show (i + 1) * 3 + 2 = i * 3 + 2 + 1 + 1 + 1 by omega, List.set_cons_succ, List.set_cons_succ, List.set_cons_succ, ih]
    rfl
theorem mixL_set {i : Nat} (hi : i < ps.length + 1) : (scells (mixL l ps i)).set (i * 3 + 2) (.int .i64 ((endOf l ps i : Int) - fr l ps i)) = scells (mixL l ps (i + 1)) := by
  rw [scells_set _ _ _ (by rw [mixL_len]; exact hi)]
  congr 1
  refine List.ext_getElem (by rw [List.length_set, mixL_len, mixL_len]) (fun j h1 h2 => ?_)
  rw [List.getElem_set, mixL_at h2]
  split
  · rename_i h
    subst h
    simp [mixL]
  · rename_i h
    rw [mixL_at]
    congr 1
    by_cases hj : j < i
    · rw [if_pos hj, if_pos (by omega)]
    · rw [if_neg hj, if_neg (by omega)]
theorem pl_last {m : List LMark} {k : Nat} (hk : k < m.length) : (places (m.take (k + 1))).getLast? = some m[k].place := by
  rw [places_take hk]
  unfold plStep
  split
  · assumption
  · simp
end
def OpLoop (w : World) (l : List LLeaf) (m : List LMark) (v i : Value) (wr : World) : Prop :=
  ∃ (k cv : Nat) (V : Option Addr), k ≤ m.length ∧ i = .int .i64 k ∧ v = .slice V ((places (m.take k)).length + 1) cv ∧ Hid (Own wr w.heap.size 46 3 V ((places (m.take k)).length + 1) cv (scells (opL l (places (m.take k))))) ∧ Hid (Below w.heap.size w wr)
def ClLoop (w : World) (l : List LLeaf) (ps : List ByteArray) (g cv : Nat) (i : Value) (wr : World) : Prop :=
  ∃ k : Nat, k ≤ ps.length + 1 ∧ i = .int .i64 k ∧ Hid (Own wr w.heap.size 46 3 (some ⟨g, 0, none⟩) (ps.length + 1) cv (scells (mixL l ps k))) ∧ Hid (Below w.heap.size w wr)
section
variable {w : World} {A A2 : Option Addr} {c c2 : Nat} {l : List LLeaf} {m : List LMark}
set_option maxRecDepth 100000 in
set_option maxHeartbeats 8000000 in
theorem rstretches_any (H : DirIn w A c l A2 c2 m) (h : dirErr l m = 0) :
    Calls Tryd.prog 15 #[.slice A l.length c, .slice A2 m.length c2] w (AllPost w (strL l (places m))) := by
  have hb0 : bookErr l = 0 := by
    unfold dirErr at h
    by_cases h1 : bookErr l = 0
    · exact h1
    · rw [if_pos h1] at h; exact h
  have hm0 : marksErr m = 0 := by
    unfold dirErr at h; rw [if_neg (fun x => x hb0)] at h; exact h
  have ok := book_ok hb0
  have hfew := ok.few
  have hfewm := marks_few hm0
  have HR2 := Lib.hid H.rm
  have hcl := H.cl
  have HA := Lib.hid (fun W p (hb : Below w.heap.size w W) => rahead_any W A c l p ((H.rl.below hb).more hb.size) (by omega) ok.rising)
  have HT : Hid (∀ W (i : Nat), i ≤ l.length → Below w.heap.size w W → Calls Tryd.prog 19 #[.slice A i c] W (CheckPost W (.string (textOf (l.take i))))) := fun W i hi hb => by
    have := rtext_any W A c (l.take i) (((H.rl.below hb).more hb.size).takeL hi) (fun x hx => ok.fit x (List.mem_of_mem_take hx)) (by rw [List.length_take]; omega)
    rwa [List.length_take, Nat.min_eq_left hi] at this
  have HPL := Lib.hid (fun k (hk : k < m.length) => pl_last hk)
  have HPT := Lib.hid (fun k (hk : k < m.length) => places_take hk)
  clear H h hb0 hm0 ok
  go_enter Tryd.func15, Tryd.ntmps15
  go_upto_block 0 with (fail)
  go_cut [5] (fun v wx => ∃ (cv : Nat) (V : Option Addr), v = .slice V ((places m).length + 1) cv ∧ Hid (Own wx w.heap.size 46 3 V ((places m).length + 1) cv (scells (opL l (places m)))) ∧ Hid (Below w.heap.size w wx))
  case first =>
    go_wp2_with fail
    go_loopw [5, 6] (fun v i wr => OpLoop w l m v i wr) (fun _ i _ => m.length - (intOf i).toNat)
    case atStart =>
      refine ⟨0, 1, some ⟨w.heap.size, 0, none⟩, Nat.zero_le _, rfl, rfl, ?_, (Below.refl _ _).alloc (Nat.le_refl _) _⟩
      exact ⟨rfl, .inr ⟨w.heap.size, 1, _, rfl, Nat.le_refl _, Blk.new w 46 _, Nat.le_refl _, by unfold maxLen; decide, rfl, rfl⟩⟩
    case round =>
      obtain ⟨k, cv, V, hk, rfl, rfl, HO, HB⟩ := hrel
      have k0 : (0 : Int) ≤ (k : Int) := by omega
      have hle := places_le m k hk
      have hwr : w.heap.size ≤ wr.heap.size := HB.out.size
      by_cases hlt : k < m.length
      · have k1 : (k : Int) < (m.length : Int) := by omega
        obtain ⟨ad, hA2, hb2, _⟩ := HR2.out.mark hlt
        have HCM : Hid (∀ j (hj : j < m.length) W, Below w.heap.size w W → W.cell? (ad.add (j * 3)) = some (.string m[j].place)) := fun j hj W hW => by
          obtain ⟨ad', e, _, c0, _⟩ := (HR2.out.below hW).mark hj
          rw [hA2] at e
          injection e with e
          subst e
          exact c0
        have HTK := Lib.hid (HPT.out k hlt)
        have c0 := HCM.out k hlt wr HB.out
        have HC0 := Lib.hid (HCM.out k hlt)
        have HPJ := Lib.hid (fun j (hj : k = j + 1) => HPL.out j (by omega))
        generalize m[k] = x at c0 HTK HC0
        obtain ⟨p, dt⟩ := x
        simp only at c0 HC0
        go_upto_region 5 with fail
        go_cut [33] (fun v wx => ∃ n, v = .bool (!decide ((places (m.take k)).getLast? = some p)) ∧ wx = wr.drewN n)
        case first =>
          by_cases hk0 : k = 0
          · have g0 : ((k : Int) == 0) = true := by simp [hk0]
            have HG : Hid ((!decide ((places (m.take k)).getLast? = some p)) = true) := by
              show _ = _
              rw [hk0]; simp [places]
            clear hk0
            go_quiet (fail)
            go_wp2_with fail
            go_meet
            case rel => exact ⟨_, by rw [HG.out], rfl⟩
          · obtain ⟨j, hj⟩ : ∃ j, k = j + 1 := ⟨k - 1, by omega⟩
            have g0 : ((k : Int) == 0) = false := by simp; omega
            have hjl : j < m.length := by omega
            have b0 := HCM.out j hjl wr HB.out
            have HL := Lib.hid (HPJ.out j hj)
            have q1 : IntKind.i64.wrap ((k : Int) - 1) = (j : Int) := by rw [IntWalk.i64_in _ (by omega)]; omega
            have j0 : (0 : Int) ≤ (j : Int) := by omega
            have j1 : (j : Int) < (m.length : Int) := by omega
            have HG : Hid ((!decide ((places (m.take k)).getLast? = some p)) = (p.toList != m[j].place.toList)) := by
              show _ = _
              have e := HL.out
              rw [← hj] at e
              rw [e]
              by_cases hh : m[j].place = p
              · simp [hh]
              · have : ¬ p.toList = m[j].place.toList := fun x => hh (toList_inj x).symm
                simp [hh, this]
            clear hk0 hj HL
            generalize m[j].place = q at *
            go_quiet (fail)
            go_wp2_with fail
            go_meet
            case rel => exact ⟨_, by rw [HG.out]; rfl, rfl⟩
        case rest =>
          obtain ⟨nq, rfl, hw⟩ := hcut
          have HB1 : Hid (Below w.heap.size w wc) := by rw [hw]; exact below_drewN HB.out _
          have HO1 : Hid (Own wc w.heap.size 46 3 V ((places (m.take k)).length + 1) cv (scells (opL l (places (m.take k))))) := by rw [hw]; exact HO.out.drewN _
          obtain ⟨w1, hw1⟩ : ∃ x : World, x = wc := ⟨_, rfl⟩
          subst hw1
          clear hw c0 HO HB HPJ HCM
          cases hb : (!decide ((places (m.take k)).getLast? = some p)) with
          | false =>
            have HT2 : Hid (places (m.take (k + 1)) = places (m.take k)) := by
              show _ = _
              rw [HTK.out]
              unfold plStep
              rw [if_pos (by simpa using hb)]
            clear hb
            go_wp2_with fail
            go_roundw
            case rel => exact ⟨k + 1, cv, V, by omega, by go_num, by rw [HT2.out], by rw [HT2.out]; exact HO1, HB1⟩
            case measure => simp [intOf]; omega
          | true =>
            have HT2 : Hid (places (m.take (k + 1)) = places (m.take k) ++ [p]) := by
              show _ = _
              rw [HTK.out]
              unfold plStep
              rw [if_neg (by simpa using hb)]
            have HA1 := Lib.hid (HA.out w1 p HB1.out)
            have c1 := HC0.out w1 HB1.out
            have ha : ahead l p ≤ l.length := List.length_filter_le _ _
            have HFR : Hid ((frOf l p : Int) = ((textOf (l.take (ahead l p))).size : Int)) := by
              show _ = _
              unfold frOf textOf; rw [strOf_size]
            clear hb HTK
            generalize places (m.take k) = P at *
            generalize ahead l p = i at *
            have i0 : (0 : Int) ≤ (i : Int) := by omega
            have i1 : (i : Int) ≤ (c : Int) := by omega
            have i2 : i ≤ c := by omega
            have hw1s : w.heap.size ≤ w1.heap.size := HB1.out.size
            have HC1 := Lib.hid (HC0.out)
            have HT1 := Lib.hid (fun W (hb : Below w.heap.size w W) => HT.out W i ha hb)
            generalize textOf (l.take i) = tx at *
            have hF : Fits (P.length + 1 + 1) 32 := Fits.of_small (by omega) (by decide)
            subst hA2
            go_wp2_with fail
            refine HA1.out.mono ?_
            rintro e w2 ⟨rfl, hw⟩
            obtain rfl := hw.symm
            clear hw
            go_wp2_with fail
            go_region_held3 (fun w' => w'.cell? (ad.add (k * 3)) = some (.string p))
              (first | go_keep | assumption)
              (first
                | (go_at_call 19; refine (HT1.out _ HB1.out.drew).mono ?_; rintro e w3 ⟨rfl, hb3⟩
                   have HB3 := Lib.hid (HB1.out.drew.trans (hb3.mono HB1.out.drew.size))
                   have HO3 := Lib.hid (HO1.out.drew.below hb3)
                   have c3 := HC1.out w3 HB3.out
                   have hw3s : w.heap.size ≤ w3.heap.size := HB3.out.size
                   clear hb3)
                | (refine step_app _ (.tmp 41) (.tmp 53) rfl rfl elemSt rfl rfl (HO3.out.alloc _) (reads_str w3 _ rfl p tx.size 0) (oneCells_str [⟨p, tx.size, 0⟩]) hF (by simp; omega) ?_; intro V4 cv4 w4 HO4 HL4 HX4
                   have HO5 := Lib.hid HO4
                   have HB5 : Hid (Below w.heap.size w w4) := (HB3.out.alloc HB3.out.size _).trans (HL4.below (by simp; omega) (fun g hg => (HO3.out.lt g hg).1))
                   have c4 := HC1.out w4 HB5.out
                   clear HO4 HL4 HX4))
            all_goals
              go_wp2_with fail
              go_roundw
              case rel =>
                refine ⟨k + 1, cv4, V4, by omega, by go_num, by rw [HT2.out, List.length_append]; rfl, Lib.hid ?_, HB5⟩
                rw [HT2.out, opL_app, List.length_append, scells_append, HFR.out]
                exact HO5.out
              case measure => simp [intOf]; omega
      · have k1 : ¬ (k : Int) < (m.length : Int) := by omega
        have hkm : k = m.length := by omega
        have HT2 : Hid (m.take k = m) := List.take_of_length_le (by omega)
        rw [HT2.out] at HO ⊢
        clear hkm
        go_wp2_with fail
        go_meet
        case rel => exact ⟨cv, V, rfl, HO, HB⟩
  case rest =>
    obtain ⟨cv, V, rfl, HO0, HB0⟩ := hcut
    obtain ⟨w1, hw1⟩ : ∃ x : World, x = wc := ⟨_, rfl⟩
    subst hw1
    have hps : (places m).length ≤ 40 := by have := places_le m m.length (Nat.le_refl _); rw [List.take_length] at this; omega
    have hfr : ∀ k, fr l (places m) k ≤ 300 := fun k => by have := frOf_le l (plAt (places m) k); unfold fr; omega
    have hend : ∀ k, endOf l (places m) k ≤ 300 := fun k => by have := end_le (l := l) (ps := places m) k; have := textL_le l; omega
    have HFR := Lib.hid hfr
    have HEND := Lib.hid hend
    have HTL := Lib.hid (fun W (hb : Below w.heap.size w W) => by have := HT.out W l.length (Nat.le_refl _) hb; rw [List.take_length] at this; exact this)
    have HTS : Hid ((textOf l).size = (textL l).length) := strOf_size _
    rw [← mixL_zero] at HO0
    obtain ⟨g, rfl, hg1, hg2⟩ := HO0.out.head (by omega)
    clear hfr hend HR2 HPL HPT HA HT hg2 hfewm
    generalize places m = ps at *
    go_wp2_with fail
    go_loopw [8, 9] (fun i _ wr => ClLoop w l ps g cv i wr) (fun i _ _ => ps.length + 1 - (intOf i).toNat)
    case atStart => exact ⟨0, Nat.zero_le _, rfl, HO0, HB0⟩
    case round =>
      obtain ⟨k, hk, rfl, HO, HB⟩ := hrel
      have k0 : (0 : Int) ≤ (k : Int) := by omega
      by_cases hlt : k < ps.length + 1
      · have k1 : (k : Int) < (ps.length : Int) + 1 := by omega
        have HT1 := Lib.hid (HTL.out wr HB.out)
        have b1 := HFR.out k
        have b2 := HFR.out (k + 1)
        have b3 := HEND.out k
        have HEO : Hid ((k + 1 < ps.length + 1 → endOf l ps k = fr l ps (k + 1)) ∧ (¬ k + 1 < ps.length + 1 → endOf l ps k = (textOf l).size)) := by
          refine ⟨fun h => ?_, fun h => ?_⟩
          · unfold endOf; rw [if_pos (by omega)]
          · unfold endOf; rw [if_neg (by omega), HTS.out]
        have hts : (textOf l).size ≤ 300 := by have := textL_le l; have := HTS.out; omega
        have HSET := Lib.hid (mixL_set (l := l) (ps := ps) hlt)
        have HST : Hid (∀ W, Own W w.heap.size 46 3 (some ⟨g, 0, none⟩) (ps.length + 1) cv (scells (mixL l ps k)) → W.cell? ⟨g, k * 3 + 1, none⟩ = some (.int .i64 (fr l ps k)) ∧ (∃ v, W.cell? ⟨g, k * 3 + 2, none⟩ = some v) ∧ (k + 1 < ps.length + 1 → W.cell? ⟨g, (k + 1) * 3 + 1, none⟩ = some (.int .i64 (fr l ps (k + 1))))) := fun W hO => by
          have hO' : Own W w.heap.size 46 3 (some ⟨g, 0, none⟩) (mixL l ps k).length cv (scells (mixL l ps k)) := by rw [mixL_len]; exact hO
          obtain ⟨e0, e1, e2⟩ := hO'.str (k := k) (by rw [mixL_len]; exact hlt)
          refine ⟨by rw [e1, mixL_at], ⟨_, e2⟩, fun h => ?_⟩
          obtain ⟨_, e4, _⟩ := hO'.str (k := k + 1) (by rw [mixL_len]; exact h)
          rw [e4, mixL_at]
        clear HFR HEND HTS
        generalize endOf l ps k = en at *
        generalize fr l ps k = f0 at *
        generalize fr l ps (k + 1) = f2 at *
        generalize mixL l ps k = ML at *
        generalize textOf l = tx at *
        have q1 : IntKind.i64.wrap ((k : Int) + 1) = (k : Int) + 1 := IntWalk.i64_in _ (by omega)
        go_wp2_with fail
        refine HT1.out.mono ?_
        rintro e w2 ⟨rfl, hb2⟩
        have HO2 := Lib.hid (HO.out.below hb2)
        have HB2 := Lib.hid (HB.out.trans (hb2.mono HB.out.size))
        obtain ⟨d1, ⟨v2, d2⟩, d3⟩ := HST.out w2 HO2.out
        have fz : w2.frozen? ⟨g, k * 3 + 2, none⟩ = false := HO2.out.frozenAt _
        clear hb2
        by_cases hn : k + 1 < ps.length + 1
        · have he := HEO.out.1 hn
          have n1 : (k : Int) + 1 < (ps.length : Int) + 1 := by omega
          have d4 := d3 hn
          have q5 : ((k : Int) + 1).toNat = k + 1 := by omega
          have n0 : (0 : Int) ≤ (k : Int) + 1 := by omega
          have HE := Lib.hid he
          have hws : IntKind.i64.wrap ((f2 : Int) - (f0 : Int)) = (f2 : Int) - (f0 : Int) := by rw [IntWalk.i64_in _ (by omega)]
          have HO4 : Hid (Own (w2.setCell ⟨g, k * 3 + 2, none⟩ (.int .i64 ((f2 : Int) - (f0 : Int)))) w.heap.size 46 3 (some ⟨g, 0, none⟩) (ps.length + 1) cv (scells (mixL l ps (k + 1)))) := by
            show Own _ _ _ _ _ _ _ _
            rw [← HSET.out, HE.out]
            exact HO2.out.storeS (by omega) _
          have HB4 : Hid (Below w.heap.size w (w2.setCell ⟨g, k * 3 + 2, none⟩ (.int .i64 ((f2 : Int) - (f0 : Int))))) := HB2.out.trans ((Only.setCell (Only.refl [g] w2) (.inl (by simp)) _).below HB2.out.size (by simpa using hg1))
          clear he d3 hn
          go_wp2_with fail
          go_roundw
          case rel => exact ⟨k + 1, by omega, by go_num, HO4, HB4⟩
          case measure => simp [intOf]; omega
        · have he := HEO.out.2 hn
          have n1 : ¬ (k : Int) + 1 < (ps.length : Int) + 1 := by omega
          have HE := Lib.hid he
          have hws : IntKind.i64.wrap ((tx.size : Int) - (f0 : Int)) = (tx.size : Int) - (f0 : Int) := by rw [IntWalk.i64_in _ (by omega)]
          have HO4 : Hid (Own (w2.setCell ⟨g, k * 3 + 2, none⟩ (.int .i64 ((tx.size : Int) - (f0 : Int)))) w.heap.size 46 3 (some ⟨g, 0, none⟩) (ps.length + 1) cv (scells (mixL l ps (k + 1)))) := by
            show Own _ _ _ _ _ _ _ _
            rw [← HSET.out, HE.out]
            exact HO2.out.storeS (by omega) _
          have HB4 : Hid (Below w.heap.size w (w2.setCell ⟨g, k * 3 + 2, none⟩ (.int .i64 ((tx.size : Int) - (f0 : Int))))) := HB2.out.trans ((Only.setCell (Only.refl [g] w2) (.inl (by simp)) _).below HB2.out.size (by simpa using hg1))
          clear he d3 hn
          go_wp2_with fail
          go_roundw
          case rel => exact ⟨k + 1, by omega, by go_num, HO4, HB4⟩
          case measure => simp [intOf]; omega
      · have k1 : ¬ (k : Int) < (ps.length : Int) + 1 := by omega
        obtain rfl : k = ps.length + 1 := by omega
        have HF := Lib.hid HO.out
        rw [mixL_all] at HF
        go_wp2_with fail
        go_ret
        exact ⟨_, cv, by rw [strL_len]; rfl, by rw [strL_len]; exact HF.out, HB.out⟩
end
end Go.Proofs.YteiadcdaleckjaaDoor
