/- (*cache.Cache).Load, Places, walked. Conditions: the numbers are small. -/
import Derived.Test.YtgjhkblnohcppaaDoorCache
import Derived.Test.YtgjhkblnohcppaaDoorLinkHear
namespace Go.Proofs.YtgjhkblnohcppaaDoor
open Go.RowKit
set_option linter.unusedVariables false
def loadE (bud : Int) (p t : ByteArray) : Int := if p.size ≠ 0 ∧ placeErr p ≠ 0 then 2 else if bud < t.size then 4 else 0
def loadR (bud : Int) (p t : ByteArray) (m : List Kept) : List Kept := if loadE bud p t = 0 then fitK bud (onK p t m) else m
theorem empty_of {s : ByteArray} (h : s.size = 0) : s.toList.isEmpty = true := by
  rw [ByteArray.toList_eq]
  rcases s with ⟨⟨l⟩⟩
  cases l with
  | nil => rfl
  | cons x l => cases h
theorem empty_not {s : ByteArray} (h : s.size ≠ 0) : s.toList.isEmpty = false := by
  rw [ByteArray.toList_eq]
  rcases s with ⟨⟨l⟩⟩
  cases l with
  | nil => exact absurd rfl h
  | cons x l => rfl
section
variable (w : World) (B : Nat) (S : List Nat) (b : Nat) (bud : Int) (m : List Kept) (r : Nat) (A : Option Addr) (cap : Nat) (kvs : List Kept) (h : CacheIs w B S b bud m r A cap kvs)
include h
set_option maxRecDepth 100000 in
theorem cplaces_any (hl : m.length ≤ 100000) : Calls Tryd.prog 13 #[.pointer (some ⟨b, 0, none⟩)] w (fun e w' => ∃ V c, e = .returned (.slice V m.length c) ∧ Own w' w.heap.size 9 1 V m.length c (strs (m.map Prod.fst)) ∧ Below w.heap.size w w') := by
  have c3 : w.cell? ⟨b, 3, none⟩ = some (.slice A m.length cap) := h.blk.cell 3
  have HC := Lib.hid (cloneS w w.heap.size A m.length cap (strs (m.map Prod.fst)) h.ord.reads (oneCells_strs _) (Fits.of_small (by omega) (by decide)) (Nat.le_refl _))
  clear h
  go_enter Tryd.func13, Tryd.ntmps13
  go_wp2_with fail
  refine HC.out.mono ?_
  rintro e w1 ⟨V, c, rfl, hO, hb⟩
  have HO := Lib.hid hO
  have HB := Lib.hid hb
  clear hO hb
  go_wp2_with fail
  go_ret
  exact ⟨V, c, rfl, HO.out, HB.out⟩
def CLoadPost (w : World) (B : Nat) (S : List Nat) (b : Nat) (bud : Int) (m : List Kept) (k : Int) (e : Ending) (w' : World) : Prop := e = .returned (errV k) ∧ CacheTo w B S b bud m w'
def FitLoop (w : World) (B : Nat) (S : List Nat) (b : Nat) (bud : Int) (m0 : List Kept) (k : Nat) (wr : World) : Prop := ∃ m : List Kept, m.length = k ∧ Hid (CacheTo w B S b bud m wr) ∧ fitK bud m0 = fitK bud m ∧ Keys m ∧ sumK m ≤ 1000000 ∧ m.length ≤ 90000
set_option maxRecDepth 100000 in
set_option maxHeartbeats 4000000 in
theorem cload_any (hb0 : 1 ≤ bud) (hb1 : bud ≤ 10000) (hs : sumK m ≤ 500000) (hl : m.length ≤ 80000) (p t : ByteArray) (hp : p.size ≤ 9223372036854775807) (ht : t.size ≤ 9223372036854775807) :
    Calls Tryd.prog 11 #[.pointer (some ⟨b, 0, none⟩), .string p, .string t] w (CLoadPost w B S b bud (loadR bud p t m) (loadE bud p t)) := by
  have HI := Lib.hid h
  have HPC := Lib.hid (fun W => check_any W p hp)
  have HE2 := errV_ne (show (2 : Int) ≠ 0 by decide)
  have HE4 := errV_ne (show (4 : Int) ≠ 0 by decide)
  have HSAME : Hid (∀ W, Below w.heap.size w W → CacheTo w B S b bud m W) := fun W hb => ⟨S, r, A, cap, kvs, h.below hb, Only.of_below hb, fun g hg => .inl hg⟩
  have HC0 : Hid (∀ W, Below w.heap.size w W → CacheIs W B S b bud m r A cap kvs) := fun W hb => HI.out.below hb
  have HB0 : Hid (Below w.heap.size w w) := Below.refl _ _
  have HE0 : errV 0 = .nilIface := rfl
  clear h
  by_cases hbad : p.size ≠ 0 ∧ placeErr p ≠ 0
  · have HF : Hid (loadE bud p t = 2 ∧ loadR bud p t m = m) := by
      have e1 : loadE bud p t = 2 := if_pos hbad
      exact ⟨e1, by unfold loadR; rw [e1, if_neg (by decide)]⟩
    rw [HF.out.1, HF.out.2]
    have g1 := empty_not hbad.1
    have HV := Lib.hid (errV_ne hbad.2)
    clear hbad
    go_enter Tryd.func11, Tryd.ntmps11
    go_wp2_with fail
    refine (HPC.out _).mono ?_
    rintro e w1 ⟨rfl, hb⟩
    rw [HV.out]
    have HT := Lib.hid (HSAME.out _ hb)
    clear hb
    go_wp2_with fail
    go_ret
    exact ⟨rfl, HT.out⟩
  · by_cases hlong : bud < t.size
    · have HF : Hid (loadE bud p t = 4 ∧ loadR bud p t m = m) := by
        have e1 : loadE bud p t = 4 := by unfold loadE; rw [if_neg hbad, if_pos hlong]
        exact ⟨e1, by unfold loadR; rw [e1, if_neg (by decide)]⟩
      rw [HF.out.1, HF.out.2]
      have g2 : decide ((t.size : Int) > bud) = true := decide_eq_true hlong
      by_cases h0 : p.size = 0
      · have g1 := empty_of h0
        have HT := Lib.hid (HSAME.out _ HB0.out)
        have c0 : w.cell? ⟨b, 0, none⟩ = some (.int .i64 bud) := HI.out.blk.cell 0
        clear hbad h0 hlong
        go_enter Tryd.func11, Tryd.ntmps11
        go_wp2_with fail
        go_ret
        exact ⟨rfl, HT.out⟩
      · have g1 := empty_not h0
        have h1 : placeErr p = 0 := Classical.byContradiction (fun x => hbad ⟨h0, x⟩)
        rw [h1, HE0] at HPC
        have HC00 : Hid (∀ W, Below w.heap.size w W → W.cell? ⟨b, 0, none⟩ = some (.int .i64 bud)) := fun W hb => (HC0.out W hb).blk.cell 0
        clear hbad h0 h1 hlong
        go_enter Tryd.func11, Tryd.ntmps11
        go_wp2_with fail
        refine (HPC.out _).mono ?_
        rintro e w1 ⟨rfl, hb⟩
        have c0 := HC00.out _ hb
        have HT := Lib.hid (HSAME.out _ hb)
        clear hb
        go_wp2_with fail
        go_ret
        exact ⟨rfl, HT.out⟩
    · have HF : Hid (loadE bud p t = 0 ∧ loadR bud p t m = fitK bud (onK p t m)) := by
        have e1 : loadE bud p t = 0 := by unfold loadE; rw [if_neg hbad, if_neg hlong]
        exact ⟨e1, by unfold loadR; rw [if_pos e1]⟩
      rw [HF.out.1, HF.out.2]
      have g1 : ¬ bud < (t.size : Int) := hlong
      have g3 : decide ((t.size : Int) > bud) = false := decide_eq_false hlong
      by_cases h0 : p.size = 0
      · have g4 := empty_of h0
        have HB1 := HB0
        have hI := HC0.out _ HB1.out
        have c0 : w.cell? ⟨b, 0, none⟩ = some (.int .i64 bud) := hI.blk.cell 0
        have HON := Lib.hid (on_any w B S b bud m r A cap kvs hI (by omega) (by omega) p t (by omega))
        have HND := Lib.hid hI.nodup
        have hvk := sumK_on (p := p) (t := t) hI.nodup
        have hlen : (onK p t m).length ≤ m.length + 1 := by have := off_len p m; unfold onK; simp; first | done | omega
        have HBW : Hid (Only S w w) := Only.of_below HB1.out
        clear hbad hlong hI h0
        go_enter Tryd.func11, Tryd.ntmps11
        go_wp2_with fail
        refine HON.out.mono ?_
        rintro e w2 ⟨rfl, ht2⟩
        have HL0 : Hid (FitLoop w B S b bud (onK p t m) (onK p t m).length w2) := ⟨onK p t m, rfl, CacheTo.back HBW.out (fun g hg => .inl hg) ht2, rfl, HND.out.on, by omega, by omega⟩
        clear ht2 HON
        go_wp2_with fail
        go_loopg [] (onK p t m).length (fun k wr => FitLoop w B S b bud (onK p t m) k wr)
        case atStart => exact HL0.out
        case round =>
          obtain ⟨m1, hml, HT, hfit, hnd, hsm, hln⟩ := hrel
          have HFIT := Lib.hid hfit
          have HND1 := Lib.hid hnd
          have HML := Lib.hid hml
          obtain ⟨S1, r1, A1, cap1, kvs1, hc, ho1, hs1⟩ := HT.out
          have d0 : wr.cell? ⟨b, 0, none⟩ = some (.int .i64 bud) := hc.blk.cell 0
          have d1 : wr.cell? ⟨b, 1, none⟩ = some (.int .i64 (sumK m1)) := hc.blk.cell 1
          clear hfit hml
          by_cases hov : bud < sumK m1
          · cases m1 with
            | nil => simp [sumK] at hov; first | done | omega
            | cons x m2 =>
              have g2 : decide (sumK (x :: m2) > bud) = true := decide_eq_true hov
              have HCN := Lib.hid (hc.only (T := []) (w' := wr.drewN 1) ((Only.refl [] wr).drewN 1) (by simp))
              have HOFF := Lib.hid (fun n => off_any (wr.drewN n) B S1 b bud (x :: m2) r1 A1 cap1 kvs1 (hc.only (T := []) ((Only.refl [] wr).drewN n) (by simp)) (by omega) (by omega) x.1)
              have HOH := Lib.hid (off_head HND1.out)
              obtain ⟨g, rfl, _, _⟩ := hc.ord.head (by simp)
              have HCO : Hid (∀ n, (wr.drewN n).cell? ⟨b, 3, none⟩ = some (.slice (some ⟨g, 0, none⟩) (x :: m2).length cap1) ∧ (wr.drewN n).cell? ⟨g, 0, none⟩ = some (.string x.1)) := fun n => ⟨hc.blk.cell 3, by
                have := hc.ord.cellAt (j := 0) (by simp)
                rw [show (wr.drewN n).cell? ⟨g, 0, none⟩ = wr.cell? ⟨g, 0, none⟩ from rfl, this]
                rfl⟩
              have HFX : Hid (fitK bud (x :: m2) = fitK bud m2) := if_pos hov
              have HS2 : Hid (sumK m2 ≤ 1000000) := by have := sumK_cons x m2; show _ ≤ _; omega
              have HL2 : Hid (m2.length ≤ 90000) := by simp at hln; show _ ≤ _; omega
              have HO1 := Lib.hid ho1
              have HS1 := Lib.hid hs1
              have hln1 : (0 : Int) < ((x :: m2).length : Int) := by simp <;> omega
              clear hc ho1 hs1 hov hsm hln HT hnd
              generalize hq : (x :: m2).length = n1 at *
              generalize hsu : sumK (x :: m2) = su at *
              go_wp2_with fail
              go_quiet (fail)
              obtain ⟨e3, e4⟩ := HCO.out nq
              go_wp2_with fail
              refine (HOFF.out _).mono ?_
              rintro e w3 ⟨rfl, ht3⟩
              rw [HOH.out] at ht3
              have HT3 := Lib.hid (CacheTo.back (HO1.out.drewN nq) HS1.out ht3)
              clear ht3 e3 e4
              go_wp2_with fail
              go_roundg m2.length
              case measure => have := HML.out; simp at hq; omega
              case rel => exact ⟨m2, rfl, HT3, by rw [HFIT.out, HFX.out], HND1.out.tail.2, HS2.out, HL2.out⟩
          · have g2 : ¬ bud < sumK m1 := hov
            have HFX : Hid (fitK bud m1 = m1) := by
              cases m1 with
              | nil => rfl
              | cons x m2 => exact if_neg hov
            have HT2 := Lib.hid (fun n => (show CacheTo w B S b bud m1 (wr.drewN n) from ⟨S1, r1, A1, cap1, kvs1, hc.only (T := []) ((Only.refl [] wr).drewN n) (by simp), ho1.drewN n, hs1⟩))
            clear hc ho1 hs1 hov HT
            generalize hsu : sumK m1 = su at *
            go_wp2_with fail
            go_quiet (fail)
            go_wp2_with fail
            go_ret
            rw [HFIT.out, HFX.out]
            exact ⟨rfl, HT2.out _⟩
      · have g4 := empty_not h0
        have h1 : placeErr p = 0 := Classical.byContradiction (fun x => hbad ⟨h0, x⟩)
        rw [h1, HE0] at HPC
        go_enter Tryd.func11, Tryd.ntmps11
        go_wp2_with fail
        refine (HPC.out _).mono ?_
        rintro e wc ⟨rfl, hb⟩
        have HB1 := Lib.hid hb
        clear hb
        have hI := HC0.out _ HB1.out
        have c0 : wc.cell? ⟨b, 0, none⟩ = some (.int .i64 bud) := hI.blk.cell 0
        have HON := Lib.hid (on_any wc B S b bud m r A cap kvs hI (by omega) (by omega) p t (by omega))
        have HND := Lib.hid hI.nodup
        have hvk := sumK_on (p := p) (t := t) hI.nodup
        have hlen : (onK p t m).length ≤ m.length + 1 := by have := off_len p m; unfold onK; simp; first | done | omega
        have HBW : Hid (Only S w wc) := Only.of_below HB1.out
        clear hbad hlong hI h0 h1
        go_wp2_with fail
        refine HON.out.mono ?_
        rintro e w2 ⟨rfl, ht2⟩
        have HL0 : Hid (FitLoop w B S b bud (onK p t m) (onK p t m).length w2) := ⟨onK p t m, rfl, CacheTo.back HBW.out (fun g hg => .inl hg) ht2, rfl, HND.out.on, by omega, by omega⟩
        clear ht2 HON
        go_wp2_with fail
        go_loopg [] (onK p t m).length (fun k wr => FitLoop w B S b bud (onK p t m) k wr)
        case atStart => exact HL0.out
        case round =>
          obtain ⟨m1, hml, HT, hfit, hnd, hsm, hln⟩ := hrel
          have HFIT := Lib.hid hfit
          have HND1 := Lib.hid hnd
          have HML := Lib.hid hml
          obtain ⟨S1, r1, A1, cap1, kvs1, hc, ho1, hs1⟩ := HT.out
          have d0 : wr.cell? ⟨b, 0, none⟩ = some (.int .i64 bud) := hc.blk.cell 0
          have d1 : wr.cell? ⟨b, 1, none⟩ = some (.int .i64 (sumK m1)) := hc.blk.cell 1
          clear hfit hml
          by_cases hov : bud < sumK m1
          · cases m1 with
            | nil => simp [sumK] at hov; first | done | omega
            | cons x m2 =>
              have g2 : decide (sumK (x :: m2) > bud) = true := decide_eq_true hov
              have HCN := Lib.hid (hc.only (T := []) (w' := wr.drewN 1) ((Only.refl [] wr).drewN 1) (by simp))
              have HOFF := Lib.hid (fun n => off_any (wr.drewN n) B S1 b bud (x :: m2) r1 A1 cap1 kvs1 (hc.only (T := []) ((Only.refl [] wr).drewN n) (by simp)) (by omega) (by omega) x.1)
              have HOH := Lib.hid (off_head HND1.out)
              obtain ⟨g, rfl, _, _⟩ := hc.ord.head (by simp)
              have HCO : Hid (∀ n, (wr.drewN n).cell? ⟨b, 3, none⟩ = some (.slice (some ⟨g, 0, none⟩) (x :: m2).length cap1) ∧ (wr.drewN n).cell? ⟨g, 0, none⟩ = some (.string x.1)) := fun n => ⟨hc.blk.cell 3, by
                have := hc.ord.cellAt (j := 0) (by simp)
                rw [show (wr.drewN n).cell? ⟨g, 0, none⟩ = wr.cell? ⟨g, 0, none⟩ from rfl, this]
                rfl⟩
              have HFX : Hid (fitK bud (x :: m2) = fitK bud m2) := if_pos hov
              have HS2 : Hid (sumK m2 ≤ 1000000) := by have := sumK_cons x m2; show _ ≤ _; omega
              have HL2 : Hid (m2.length ≤ 90000) := by simp at hln; show _ ≤ _; omega
              have HO1 := Lib.hid ho1
              have HS1 := Lib.hid hs1
              have hln1 : (0 : Int) < ((x :: m2).length : Int) := by simp <;> omega
              clear hc ho1 hs1 hov hsm hln HT hnd
              generalize hq : (x :: m2).length = n1 at *
              generalize hsu : sumK (x :: m2) = su at *
              go_wp2_with fail
              go_quiet (fail)
              obtain ⟨e3, e4⟩ := HCO.out nq
              go_wp2_with fail
              refine (HOFF.out _).mono ?_
              rintro e w3 ⟨rfl, ht3⟩
              rw [HOH.out] at ht3
              have HT3 := Lib.hid (CacheTo.back (HO1.out.drewN nq) HS1.out ht3)
              clear ht3 e3 e4
              go_wp2_with fail
              go_roundg m2.length
              case measure => have := HML.out; simp at hq; omega
              case rel => exact ⟨m2, rfl, HT3, by rw [HFIT.out, HFX.out], HND1.out.tail.2, HS2.out, HL2.out⟩
          · have g2 : ¬ bud < sumK m1 := hov
            have HFX : Hid (fitK bud m1 = m1) := by
              cases m1 with
              | nil => rfl
              | cons x m2 => exact if_neg hov
            have HT2 := Lib.hid (fun n => (show CacheTo w B S b bud m1 (wr.drewN n) from ⟨S1, r1, A1, cap1, kvs1, hc.only (T := []) ((Only.refl [] wr).drewN n) (by simp), ho1.drewN n, hs1⟩))
            clear hc ho1 hs1 hov HT
            generalize hsu : sumK m1 = su at *
            go_wp2_with fail
            go_quiet (fail)
            go_wp2_with fail
            go_ret
            rw [HFIT.out, HFX.out]
            exact ⟨rfl, HT2.out _⟩
end
end Go.Proofs.YtgjhkblnohcppaaDoor
