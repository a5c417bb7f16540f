/- leaflaw2.CacheHolds, proved: never more letters than the budget; what was loaded last is there; what is there is what was loaded. Conditions: none of our own. -/
import Derived.Deep.CutBlock
import Derived.Deep.RegionHeld3
import Derived.Test.YtgjhkblnohcppaaCacheScene
import Derived.Test.YtgjhkblnohcppaaLift
import Derived.Test.YtgjhkblnohcppaaOpen
import Derived.Test.YtgjhkblnohcppaaOpenStrs
import Derived.Test.YtgjhkblnohcppaaSame
namespace Go.Proofs.Ytgjhkblnohcppaa
open Go.RowKit Go.WideShapes Go.ChangeShapes Go.ChangeAt
set_option linter.unusedVariables false
namespace lawCacheHolds
def nb : ByteArray := ⟨#[110, 98]⟩
def ob' : ByteArray := ⟨#[111, 98]⟩
def ab : ByteArray := ⟨#[97, 98]⟩
def cd : ByteArray := ⟨#[99, 100]⟩
theorem e1 : loadE 3 nb ab = 0 := by decide +kernel
theorem r1 : loadR 3 nb ab [] = [(nb, ab)] := by decide +kernel
theorem e2 : loadE 3 ob' cd = 0 := by decide +kernel
theorem r2 : loadR 3 ob' cd [(nb, ab)] = [(ob', cd)] := by decide +kernel
theorem s1 : sumK [(nb, ab)] = 2 := by decide +kernel
def LoopA (w : World) (b : Nat) (bud : Int) (i : Value) (wr : World) : Prop := ∃ (k : Nat) (m : List Kept), k ≤ 60 ∧ i = .int .i64 k ∧ Hid (CScene w b bud m [] wr) ∧ Hid (sumK m ≤ bud ∧ m.length ≤ k)
def LoopB (w : World) (b : Nat) (bud : Int) (m : List Kept) (V : Option Addr) (u i : Value) (wr : World) : Prop := ∃ k : Nat, k ≤ m.length ∧ u = .int .i64 (sumK (m.take k)) ∧ i = .int .i64 k ∧ Hid (CScene w b bud (rotK k m) [(V, m.map Prod.fst)] wr)
theorem strs_at {A : Option Addr} {l : List ByteArray} {w : World} {B : Nat} (h : Reads w B 1 A l.length (strs l)) {k : Nat} (hk : k < l.length) : ∃ ad, A = some ad ∧ ad.block < B ∧ w.cell? (ad.add k) = some (.string l[k]) := by
  obtain ⟨ad, u, e, hb, hu, hc⟩ := h.at_ hk
  refine ⟨ad, e, hb, ?_⟩
  unfold strs at hu
  rw [List.getElem?_map, List.getElem?_eq_getElem hk] at hu
  rw [hc, ← hu]
  rfl
theorem load_bad {bud : Int} {p t : ByteArray} (h : loadE bud p t ≠ 0) : loadE bud p t = 2 ∨ loadE bud p t = 4 := by
  unfold loadE at *
  split
  · exact .inl rfl
  · rename_i hx
    rw [if_neg hx] at h
    split
    · exact .inr rfl
    · rename_i hy; rw [if_neg hy] at h; exact absurd rfl h
theorem texts_same (w : World) (A G : Option Addr) (ca cg : Nat) (l : List ByteArray) (h1 : Reads w w.heap.size 1 A l.length (strs l)) (h2 : Reads w w.heap.size 1 G l.length (strs l)) (hl : l.length ≤ 1000000) :
    Calls Try.prog 14 #[.slice A l.length ca, .slice G l.length cg] w (CheckPost w (.bool true)) := by
  have h := texts_any w A G ca cg l l h1 h2 hl hl
  rw [decide_eq_true rfl] at h
  exact h
theorem _root_.Go.Proofs.Ytgjhkblnohcppaa.CScene.forget {w wr : World} {b : Nat} {bud : Int} {m : List Kept} {rows : List (Option Addr × List ByteArray)} (h : CScene w b bud m rows wr) : CScene w b bud m [] wr := by
  obtain ⟨B, S, r, A, cap, kvs, h1, h2, h3, h4⟩ := h
  exact ⟨B, S, r, A, cap, kvs, h1, h2, h3, by intro x hx; cases hx⟩
set_option maxRecDepth 100000 in
set_option maxHeartbeats 16000000 in
theorem walk (w : World) (bud : Int) (A0 : Option Addr) (c0 : Nat) (ps : List ByteArray) (A1 : Option Addr) (c1 : Nat) (ts : List ByteArray) (h0 : Reads w w.heap.size 1 A0 ps.length (strs ps)) (hg0 : ∀ y ∈ ps, y.size ≤ maxLen) (h1 : Reads w w.heap.size 1 A1 ts.length (strs ts)) (hg1 : ∀ y ∈ ts, y.size ≤ maxLen) :
    Calls Try.prog 4 #[.int .i64 bud, .slice A0 ps.length c0, .slice A1 ts.length c1] w (CheckPost w (.bool true)) := by
  have HR0 := Lib.hid h0
  have HG0 := Lib.hid hg0
  have HR1 := Lib.hid h1
  have HG1 := Lib.hid hg1
  have HE0 : errV 0 = .nilIface := rfl
  have HE1 := errV_ne (show (1 : Int) ≠ 0 by decide)
  have HE2 := errV_ne (show (2 : Int) ≠ 0 by decide)
  have HE4 := errV_ne (show (4 : Int) ≠ 0 by decide)
  have HN := Lib.hid (cnew_scene w w (Below.refl _ _) 3 (by decide) (by decide))
  have HNC := Lib.hid (fun W (hb : Below w.heap.size w W) (b0 : 1 ≤ bud) (b1 : bud ≤ 10000) => cnew_scene w W hb bud b0 b1)
  have HNN := Lib.hid (fun W (hb : bud < 1 ∨ 10000 < bud) => cnew_none W bud hb)
  clear h0 hg0 h1 hg1
  go_enter Try.func4, Try.ntmps4
  go_wp2_with fail
  refine HN.out.mono ?_
  rintro e w1 ⟨b, rfl, hs⟩
  have HL1 := Lib.hid (hs.load (by decide) (by decide) (by simp [sumK]) (by simp) nb ab (by decide) (by decide))
  rw [e1, r1, HE0] at HL1
  clear hs
  go_wp2_with fail
  refine HL1.out.mono ?_
  rintro e w2 ⟨rfl, hs⟩
  have HL2 := Lib.hid (hs.load (by decide) (by decide) (by rw [s1]; decide) (by simp) ob' cd (by decide) (by decide))
  rw [e2, r2, HE0] at HL2
  clear hs HL1
  go_wp2_with fail
  refine HL2.out.mono ?_
  rintro e w3 ⟨rfl, hs⟩
  have HP := Lib.hid (hs.places (by simp))
  clear hs HL2
  go_wp2_with fail
  refine HP.out.mono ?_
  rintro e w4 ⟨V, c, rfl, hs⟩
  have HB4 := Lib.hid hs.below
  clear hs HP
  by_cases hbad : bud < 1 ∨ 10000 < bud
  · have HC := Lib.hid (HNN.out w4 hbad)
    by_cases hb1 : bud < 1
    · clear hbad
      go_wp2_with fail
      refine HC.out.mono ?_
      rintro e w5 ⟨rfl, rfl⟩
      go_wp2_with fail
      go_ret
      exact ⟨rfl, HB4.out⟩
    · have hb2 : decide (bud > 10000) = true := decide_eq_true (by omega)
      clear hbad
      go_wp2_with fail
      refine HC.out.mono ?_
      rintro e w5 ⟨rfl, rfl⟩
      go_wp2_with fail
      go_ret
      exact ⟨rfl, HB4.out⟩
  · have hb0 : 1 ≤ bud := by omega
    have hb1 : bud ≤ 10000 := by omega
    have HC := Lib.hid (HNC.out w4 HB4.out hb0 hb1)
    clear hbad HNN HNC
    go_wp2_with fail
    refine HC.out.mono ?_
    rintro e w5 ⟨b, rfl, hs⟩
    have HS5 := Lib.hid hs
    clear hs HC HB4
    go_wp2_with fail
    go_loopw [11] (fun i wr => LoopA w b bud i wr) (fun i _ => 60 - (intOf i).toNat)
    case atStart => exact ⟨0, [], by omega, rfl, HS5.out, Lib.hid ⟨by show (0 : Int) ≤ bud; omega, by simp⟩⟩
    case round =>
      obtain ⟨k, m, hk, rfl, HK, HM⟩ := hrel
      have k0 : (0 : Int) ≤ (k : Int) := by omega
      by_cases h1 : k < ps.length
      · have k1 : (k : Int) < (ps.length : Int) := by omega
        by_cases h2 : k < ts.length
        · have k2 : (k : Int) < (ts.length : Int) := by omega
          by_cases h3 : k < 60
          · have k3 : (k : Int) < 60 := by omega
            obtain ⟨hm1, hm2⟩ := HM.out
            have hbel := HK.out.below
            have hA0 : ∃ ad, A0 = some ad ∧ Hid (∀ W, Below w.heap.size w W → W.cell? (ad.add k) = some (.string ps[k])) := by
              obtain ⟨ad, e, hb, hc⟩ := strs_at HR0.out h1
              exact ⟨ad, e, fun W hW => (hW.cell (by rw [block_of_add]; exact hb)).trans hc⟩
            have hA1 : ∃ ad, A1 = some ad ∧ Hid (∀ W, Below w.heap.size w W → W.cell? (ad.add k) = some (.string ts[k])) := by
              obtain ⟨ad, e, hb, hc⟩ := strs_at HR1.out h2
              exact ⟨ad, e, fun W hW => (hW.cell (by rw [block_of_add]; exact hb)).trans hc⟩
            obtain ⟨ad0, rfl, HP0⟩ := hA0
            obtain ⟨ad1, rfl, HP1⟩ := hA1
            have hpm : ps[k].size ≤ 9223372036854775807 := by have := HG0.out _ (List.getElem_mem h1); unfold maxLen at this; omega
            have htm : ts[k].size ≤ 9223372036854775807 := by have := HG1.out _ (List.getElem_mem h2); unfold maxLen at this; omega
            have HLD := Lib.hid (fun n => (HK.out.drewN n).load hb0 hb1 (by omega) (by omega) ps[k] ts[k] hpm htm)
            have HWB := Lib.hid (fun n => below_drewN (Below.refl wr.heap.size wr) n)
            have HSM : Hid (sumK (loadR bud ps[k] ts[k] m) ≤ bud) := load_sum (by omega) hm1
            have HLN : Hid ((loadR bud ps[k] ts[k] m).length ≤ k + 1) := by have := load_len (bud := bud) (p := ps[k]) (t := ts[k]) (m := m); show _ ≤ _; omega
            have HKY : Hid (Keys (loadR bud ps[k] ts[k] m)) := load_keys HK.out.nodup
            have HLA := Lib.hid (fun (he : loadE bud ps[k] ts[k] = 0) => load_last (bud := bud) (p := ps[k]) (t := ts[k]) (m := m) he)
            have d0 := HP0.out _ hbel
            have d1 := HP1.out _ hbel
            clear hm1 hm2 hbel hpm htm HM
            generalize ps[k] = p at *
            generalize ts[k] = t at *
            go_wp2_with fail
            go_region_held3 (fun W => W.cell? (ad0.add k) = some (.string p) ∧ W.cell? (ad1.add k) = some (.string t)) (first | exact ⟨d0, d1⟩ | exact ⟨HP0.out _ HS9.out.below, HP1.out _ HS9.out.below⟩)
              ((go_at_call 17; refine (HLD.out _).mono ?_; rintro e w9 ⟨rfl, hs⟩
                have HS9 := Lib.hid hs
                clear hs))
            clear d0 d1 HLD HK
            generalize hmm : loadR bud p t m = m1 at *
            clear hmm
            have HU := Lib.hid HS9.out.used
            have g1 : ¬ bud < sumK m1 := by have := HSM.out; omega
            have g2 : decide (sumK m1 > bud) = false := decide_eq_false g1
            by_cases hz : loadE bud p t = 0
            · obtain ⟨m2, hm2⟩ := HLA.out hz
              rw [hz, HE0]
              have HM2 := Lib.hid hm2
              have hl0 : m1.length = m2.length + 1 := by rw [hm2]; simp
              have HPL := Lib.hid (HS9.out.places (by have := HLN.out; omega))
              have HK2 := HKY.out
              rw [hm2] at HK2
              have HGT : Hid (get p m1 = some t) := by rw [hm2]; exact get_last HK2
              have HON : Hid (onK p t m1 = m1) := by rw [hm2]; exact on_last HK2
              have HKI : Hid ((m1.map Prod.fst)[m2.length]? = some p) := by show _ = _; rw [hm2]; simp
              clear hz hm2 HK2 HLA HS9
              generalize hsu : sumK m1 = su at *
              go_wp2_with fail
              refine HU.out.mono ?_
              rintro e w10 ⟨rfl, rfl⟩
              go_wp2_with fail
              refine HPL.out.mono ?_
              rintro e w11 ⟨V, c, rfl, hs⟩
              have HS11 := Lib.hid hs
              have hrow := hs.row (x := (V, m1.map Prod.fst)) (by simp)
              have HV : ∃ av, V = some av ∧ Hid (∀ W, Below w11.heap.size w11 W → W.cell? (av.add m2.length) = some (.string p)) := by
                have hlt : m2.length < (m1.map Prod.fst).length := by rw [List.length_map]; omega
                obtain ⟨ad, e, hb, hc⟩ := strs_at hrow hlt
                refine ⟨ad, e, fun W hW => (hW.cell (by rw [block_of_add]; exact hb)).trans ?_⟩
                have hki := HKI.out
                rw [List.getElem?_eq_getElem hlt] at hki
                injection hki with hki
                rw [hc, hki]
              obtain ⟨av, rfl, HVC⟩ := HV
              have HFD := Lib.hid (fun n => (hs.drewN n).found (by have := HSM.out; omega) (by have := HLN.out; omega) HGT.out)
              rw [HON.out] at HFD
              have hbel := hs.below
              have d2 := HVC.out _ (Below.refl _ _)
              have d3 := HP0.out _ hbel
              have HD3 := Lib.hid (fun n => HP0.out (w11.drewN n) (below_drewN hbel n))
              have q1 : IntKind.i64.wrap ((m1.length : Int) - 1) = (m2.length : Int) := by rw [IntWalk.i64_in _ (by have := HLN.out; omega)]; omega
              have j0 : (0 : Int) ≤ (m2.length : Int) := by omega
              have j1 : (m2.length : Int) < (m1.length : Int) := by omega
              have b1 : (p.toList == p.toList) = true := by simp
              have b2 : (p.toList != p.toList) = false := by simp
              have HL0 := Lib.hid hl0
              clear hs hrow hl0 hbel HPL HU
              generalize hn1 : m1.length = n1 at *
              generalize hn2 : m2.length = n2 at *
              go_wp2_with fail
              go_quiet (fail)
              have d4 := HD3.out nq
              go_wp2_with fail
              refine (HFD.out _).mono ?_
              rintro e w12 ⟨rfl, hs⟩
              have hbel := hs.below
              have d5 := HP1.out _ hbel
              have HS12 : Hid (CScene w b bud (rotK 0 m1) [(some av, m1.map Prod.fst)] w12) := by rw [rot_zero]; exact hs
              have b3 : (t.toList == t.toList) = true := by simp
              have b4 : (t.toList != t.toList) = false := by simp
              have HN1 := Lib.hid hn1
              have HSU := Lib.hid hsu
              clear hs hbel d2 d3 d4 HFD HD3 q1 j0 j1 b1 b2 hn1 hn2 hsu g1 g2 HM2 HON HGT HKI HVC HL0
              go_wp2_with fail
              go_loopw [16, 17] (fun u i wr => LoopB w b bud m1 (some av) u i wr) (fun _ i _ => n1 - (intOf i).toNat)
              case atStart => exact ⟨0, by omega, rfl, rfl, HS12.out⟩
              case round =>
                obtain ⟨j, hj, rfl, rfl, HKJ⟩ := hrel
                have i0 : (0 : Int) ≤ (j : Int) := by omega
                by_cases hjn : j < m1.length
                · have i1 : (j : Int) < (n1 : Int) := by have := HN1.out; omega
                  have hjb : j ≤ 100 := by have := HN1.out; have := HLN.out; omega
                  have hrow := HKJ.out.row (x := (some av, m1.map Prod.fst)) (by simp)
                  have hcell : wr.cell? (av.add j) = some (.string m1[j].1) := by
                    obtain ⟨ad, e, hb, hc⟩ := strs_at hrow (k := j) (by rw [List.length_map]; exact hjn)
                    injection e with e
                    subst e
                    rw [hc]
                    simp
                  have HGJ := Lib.hid (fun n => (HKJ.out.drewN n).found (by rw [rot_sum]; have := HSM.out; have := HSU.out; omega) (by rw [rot_len]; have := HLN.out; have := HN1.out; omega) (rot_get hjn))
                  rw [rot_on HKY.out hjn] at HGJ
                  have HGJ0 := Lib.hid (HGJ.out 0)
                  have HST := Lib.hid (sum_take hjn)
                  have hbd := sum_take_le (j + 1) m1
                  have hbe := sumK_nonneg (m1.take j)
                  rw [HST.out] at hbd
                  have q2 : IntKind.i64.wrap (sumK (m1.take j) + (m1[j].2.size : Int)) = sumK (m1.take j) + (m1[j].2.size : Int) := IntWalk.i64_in _ (by have := HSM.out; have := HSU.out; omega)
                  clear hrow hbd hbe HKJ
                  generalize sumK (m1.take j) = sj at *
                  generalize m1[j].1 = pj at *
                  generalize m1[j].2 = tj at *
                  go_wp2_with fail
                  refine HGJ0.out.mono ?_
                  rintro e w13 ⟨rfl, hs⟩
                  have HS13 := Lib.hid hs
                  clear hs
                  go_wp2_with fail
                  go_roundw
                  case rel => exact ⟨j + 1, by omega, by rw [HST.out], by go_num, HS13.out⟩
                  case measure => have := HN1.out; simp [intOf]; omega
                · have i1 : ¬ (j : Int) < (n1 : Int) := by have := HN1.out; omega
                  have hje : j = m1.length := by omega
                  have HS14 : Hid (CScene w b bud m1 [(some av, m1.map Prod.fst)] wr) := by
                    have := HKJ.out
                    rw [hje, rot_all] at this
                    exact this
                  have hsum : sumK (m1.take j) = su := by rw [hje, List.take_length]; exact HSU.out
                  rw [hsum]
                  have HPL := Lib.hid (HS14.out.places (by have := HLN.out; have := HN1.out; omega))
                  rw [HN1.out] at HPL
                  clear hje hsum HKJ
                  go_wp2_with fail
                  refine HPL.out.mono ?_
                  rintro e w15 ⟨V2, c2, rfl, hs⟩
                  have hr1 := hs.row (x := (V2, m1.map Prod.fst)) (by simp)
                  have hr2 := hs.row (x := (some av, m1.map Prod.fst)) (by simp)
                  have HTX := Lib.hid (texts_same w15 V2 (some av) c2 c (m1.map Prod.fst) hr1 hr2 (by rw [List.length_map]; have := HLN.out; have := HN1.out; omega))
                  rw [List.length_map, HN1.out] at HTX
                  have HS15 := Lib.hid hs
                  clear hs hr1 hr2 HPL
                  go_wp2_with fail
                  refine HTX.out.mono ?_
                  rintro e w16 ⟨rfl, hb16⟩
                  have HS16 := Lib.hid (HS15.out.stay hb16)
                  have HU2 := Lib.hid HS16.out.used
                  rw [HSU.out] at HU2
                  have b5 : (su == su) = true := by simp
                  have b6 : (su != su) = false := by simp
                  clear hb16 HTX
                  go_wp2_with fail
                  refine HU2.out.mono ?_
                  rintro e w17 ⟨rfl, rfl⟩
                  go_wp2_with fail
                  go_roundw
                  case rel => exact ⟨k + 1, m1, by omega, by go_num, HS16.out.forget, Lib.hid ⟨by rw [HSU.out]; exact HSM.out, by rw [HN1.out]; exact HLN.out⟩⟩
                  case measure => simp [intOf]; omega
            · have hz2 : loadE bud p t = 2 ∨ loadE bud p t = 4 := load_bad hz
              clear hz HLA HKY
              generalize hsu : sumK m1 = su at *
              have HSU := Lib.hid hsu
              clear hsu
              rcases hz2 with hz2 | hz2
              · rw [hz2, HE2]
                clear hz2
                go_wp2_with fail
                refine HU.out.mono ?_
                rintro e w10 ⟨rfl, rfl⟩
                go_wp2_with fail
                go_roundw
                case rel => exact ⟨k + 1, m1, by omega, by go_num, HS9.out, Lib.hid ⟨by rw [HSU.out]; exact HSM.out, HLN.out⟩⟩
                case measure => simp [intOf]; omega
              · rw [hz2, HE4]
                clear hz2
                go_wp2_with fail
                refine HU.out.mono ?_
                rintro e w10 ⟨rfl, rfl⟩
                go_wp2_with fail
                go_roundw
                case rel => exact ⟨k + 1, m1, by omega, by go_num, HS9.out, Lib.hid ⟨by rw [HSU.out]; exact HSM.out, HLN.out⟩⟩
                case measure => simp [intOf]; omega
          · have k3 : ¬ (k : Int) < 60 := by omega
            have HBL := Lib.hid HK.out.below
            go_wp2_with fail
            go_ret
            exact ⟨rfl, HBL.out⟩
        · have k2 : ¬ (k : Int) < (ts.length : Int) := by omega
          have HBL := Lib.hid HK.out.below
          go_wp2_with fail
          go_ret
          exact ⟨rfl, HBL.out⟩
      · have k1 : ¬ (k : Int) < (ps.length : Int) := by omega
        have HBL := Lib.hid HK.out.below
        go_wp2_with fail
        go_ret
        exact ⟨rfl, HBL.out⟩
set_option maxRecDepth 100000 in
theorem lifted (os : Os) (started : os.Started) (H : Type) (enc : TypeId × Value → H) :
    ReturnsInHanded {} Try.checked os 4 .any (Rows.cacheHoldsSpec.pre6 enc Try.prog Try.f4 Rows.cacheHoldsRow.domain false) (Rows.cacheHoldsSpec.post enc Try.prog Try.f4 false true false false) := by
  refine returnsInHanded_of_change (C := Try.checked) Try.own started (by kernel_rfl) Try.func4
    (ChangeSpec.witness6 (enc := enc) (C := Try.checked) false ⟨#[], #[.int .i64 0, .slice none 0 0, .slice none 0 0], []⟩ 8 (by kernel_rfl) (by kernel_rfl) (by kernel_rfl) (by kernel_rfl)) ?_
  intro W base args ds gs before hval0 hW _ _
  have hval : ∀ (j : Nat) t v, Try.f4.params[j]? = some t → args[j]? = some v → Value.okWide Try.prog W .any base t v := hval0
  obtain ⟨p, q, hA0, _⟩ := id hW
  have hA : DataW.TrodAll enc Try.prog W 0 (fun _ => true) true Try.f4.params.toList args.toList ds p := hA0
  rw [Try.params4] at hA hval
  obtain ⟨v0, v1, v2, d0, d1, d2, p0, p1, p2, rfl, rfl, rfl, h0, h1, h2⟩ := trodAll_three hA
  obtain ⟨a0, rfl, rfl, rfl, wa0⟩ := open_int Try.underlying3 (hval 0 3 v0 rfl rfl) h0
  obtain ⟨A1, c1, l1, rfl, r1, g1, lc1, cm1⟩ := arg_strs (hval 1 22 v1 rfl rfl) h1
  obtain ⟨A2, c2, l2, rfl, r2, g2, lc2, cm2⟩ := arg_strs (hval 2 22 v2 rfl rfl) h2
  refine (walk W a0 A1 c1 l1 A2 c2 l2 r1 g1 r2 g2).mono fun e W' ⟨he, hb⟩ => ⟨_, he, ?_⟩
  exact law_post Try.laidOut (tb := 4) (by kernel_rfl) Try.underlying4 (by rw [Try.params4]; simp only [List.mem_cons, List.not_mem_nil, or_false]; rintro t (rfl | rfl | rfl) <;> exact ⟨by kernel_rfl, of_decide_eq_true (by kernel_rfl)⟩) rfl rfl hW hb

theorem holds : Rows.CacheHoldsSaid :=
  OpenClaim.holds_of_wide 4 Try.f4 rfl rfl rfl rfl rfl rfl rfl ⟨rfl, rfl, rfl, rfl, rfl⟩ rfl rfl rfl rfl rfl (by kernel_rfl) Try.func4 (by kernel_rfl)
    (of_decide_eq_true (by kernel_rfl)) (by unfold Func.isWrapper; first | (rw [if_pos (by decide +kernel)]; kernel_rfl) | (rw [if_neg (by decide +kernel)]; exact ⟨rfl, rfl⟩))
    (fun os started H enc _ => lifted os started H enc)
#print axioms holds
end lawCacheHolds
end Go.Proofs.Ytgjhkblnohcppaa
