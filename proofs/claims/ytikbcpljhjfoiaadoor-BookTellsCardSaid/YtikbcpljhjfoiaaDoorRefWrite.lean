/- The document's Write, Strike, walked. Conditions: a book that is right. -/
import Derived.Test.YtikbcpljhjfoiaaDoorRefSet
import Derived.Test.YtikbcpljhjfoiaaDoorSame
namespace Go.Proofs.YtikbcpljhjfoiaaDoor
open Go.RowKit
set_option linter.unusedVariables false
/-- What is wrong with a letter at a place, of a book that is right. -/
def rwErr (l : List LLeaf) (p : ByteArray) (n : Int) : Int :=
  if letterB n = false then 1 else if hasAt l p = false then putErr l else if (leafAt l p).letter ≠ 0 ∧ (leafAt l p).letter ≠ n then 7 else 0
theorem writeErr_ready {l : List LLeaf} {p : ByteArray} (h : bookReady l p = 0) (n : Int) : writeErr l p n = rwErr l p n := by unfold writeErr rwErr; rw [if_neg (fun hh => hh h)]
def rsErr (l : List LLeaf) (p : ByteArray) : Int := if hasAt l p = false then putErr l else 0
theorem strikeErr_ready {l : List LLeaf} {p : ByteArray} (h : bookReady l p = 0) : strikeErr l p = rsErr l p := by unfold strikeErr rsErr; rw [if_neg (fun hh => hh h)]
theorem leafAt_has {l : List LLeaf} {p : ByteArray} (h : hasAt l p = true) : ∃ hi : ahead l p < l.length, leafAt l p = l[ahead l p] ∧ (leafAt l p).place = p := by
  have hlt := hasAt_lt h
  have hla : leafAt l p = l[ahead l p] := by unfold leafAt; simp [List.getD, hlt]
  refine ⟨hlt, hla, ?_⟩
  unfold hasAt at h
  rw [List.getElem?_eq_getElem hlt] at h
  rw [hla]
  exact same_toList.1 (by simpa using h)
set_option maxRecDepth 100000 in
set_option maxHeartbeats 2000000 in
theorem rwrite_any (w : World) (A : Option Addr) (c : Nat) (l : List LLeaf) (p : ByteArray) (n : Int) (h : Reads w w.heap.size 3 A l.length (lcells l)) (ok : BookOk l) (hc : l.length ≤ c) (hcm : c ≤ 9223372036854775807) :
    Calls Tryd.prog 70 #[.slice A l.length c, .string p, .int .i64 n] w (RLeafsPost w (giveL (rwErr l p n) (writeRes l p n)) (rwErr l p n)) := by
  have HL := Lib.hid (fun w => rletter_any w n)
  have HA := Lib.hid (fun w (h : Reads w w.heap.size 3 A l.length (lcells l)) => rahead_any w A c l p h (by have := ok.few; omega) ok.rising)
  have hfew := ok.few
  have HR := Lib.hid h
  clear ok
  by_cases hl : letterB n = true
  · have HLt := Lib.hid hl
    cases hh : hasAt l p with
    | false =>
      have hal := ahead_le l p
      have HS := Lib.hid (fun W (h : Reads W W.heap.size 3 A l.length (lcells l)) => rset_new W A c l (ahead l p) ⟨p, n, false⟩ h hfew hc hcm hal)
      have HW : Hid (rwErr l p n = putErr l ∧ giveL (rwErr l p n) (writeRes l p n) = putRes l (ahead l p) ⟨p, n, false⟩) := by
        have h1 : rwErr l p n = putErr l := by unfold rwErr; rw [if_neg (by rw [hl]; decide), if_pos hh]
        exact ⟨h1, by rw [h1, putRes_give, writeRes, if_neg (by rw [hh]; decide)]⟩
      by_cases hlt : ahead l p < l.length
      · obtain ⟨ad, hA, hb, c0, _, _⟩ := h.leaf hlt
        have hne : (l[ahead l p].place.toList == p.toList) = false := by
          unfold hasAt at hh
          rw [List.getElem?_eq_getElem hlt] at hh
          exact hh
        have i0 : (0 : Int) ≤ (ahead l p : Int) := by omega
        have i1 : (ahead l p : Int) < (l.length : Int) := by omega
        clear hl hh h
        subst hA
        generalize l[ahead l p].place = q at *
        go_enter Tryd.func70, Tryd.ntmps70
        go_wp2_with fail
        refine (HL.out _).mono ?_
        rintro e w1 ⟨rfl, rfl⟩
        rw [HLt.out]
        go_wp2_with fail
        refine (HA.out _ HR.out).mono ?_
        rintro e w1 ⟨rfl, rfl⟩
        have HRA := Lib.hid (HR.out.alloc (Nat.le_refl _) (.cells #[.string p, .int .i64 n, .bool false] 29))
        go_wp2_with fail
        refine (HS.out _ (HRA.out.more (by simp))).mono ?_
        rintro e w3 ⟨V, cV, rfl, hO3, hb3⟩
        have HO3 := Lib.hid hO3
        have HB3 := Lib.hid hb3
        clear hb3 hO3
        go_wp2_with fail
        go_ret2
        rw [HW.out.2, HW.out.1]
        exact ⟨V, cV, rfl, HO3.out.mono (by simp), ((Below.refl _ _).alloc (Nat.le_refl _) _).trans (HB3.out.mono (by simp))⟩
      · have d1 : decide ((ahead l p : Int) < (l.length : Int)) = false := decide_eq_false (by omega)
        clear hl hh h
        go_enter Tryd.func70, Tryd.ntmps70
        go_wp2_with fail
        refine (HL.out _).mono ?_
        rintro e w1 ⟨rfl, rfl⟩
        rw [HLt.out]
        go_wp2_with fail
        refine (HA.out _ HR.out).mono ?_
        rintro e w1 ⟨rfl, rfl⟩
        have HRA := Lib.hid (HR.out.alloc (Nat.le_refl _) (.cells #[.string p, .int .i64 n, .bool false] 29))
        go_wp2_with fail
        refine (HS.out _ (HRA.out.more (by simp))).mono ?_
        rintro e w3 ⟨V, cV, rfl, hO3, hb3⟩
        have HO3 := Lib.hid hO3
        have HB3 := Lib.hid hb3
        clear hb3 hO3
        go_wp2_with fail
        go_ret2
        rw [HW.out.2, HW.out.1]
        exact ⟨V, cV, rfl, HO3.out.mono (by simp), ((Below.refl _ _).alloc (Nat.le_refl _) _).trans (HB3.out.mono (by simp))⟩
    | true =>
      obtain ⟨hlt, hla, hpl⟩ := leafAt_has hh
      obtain ⟨ad, hA, hb, c0, c1, c2⟩ := h.leaf hlt
      rw [← hla] at c0 c1 c2
      rw [hpl] at c0
      have HWR : Hid (writeRes l p n = l.set (ahead l p) ⟨p, n, (leafAt l p).struck⟩) := by show _ = _; rw [writeRes, if_pos hh]; unfold LLeaf.write; rw [hpl]
      have hwe : rwErr l p n = if (leafAt l p).letter ≠ 0 ∧ (leafAt l p).letter ≠ n then 7 else 0 := by unfold rwErr; rw [if_neg (by rw [hl]; decide), if_neg (by rw [hh]; decide)]
      have HS := Lib.hid (fun W b (h : Reads W W.heap.size 3 A l.length (lcells l)) => rset_has W A c l (ahead l p) ⟨p, n, b⟩ h hfew hc hcm hlt)
      have i0 : (0 : Int) ≤ (ahead l p : Int) := by omega
      have i1 : (ahead l p : Int) < (l.length : Int) := by omega
      have b0 : (p.toList == p.toList) = true := by simp
      have hadb : (ad.add (ahead l p * 3)).block < w.heap.size := by rw [block_of_add]; exact hb
      clear hl hh h hla hpl
      subst hA
      generalize leafAt l p = x at *
      have d1 : ∀ o, (w.alloc o).cell? ⟨(ad.add (ahead l p * 3)).block, (ad.add (ahead l p * 3)).off + 1, none⟩ = some (.int .i64 x.letter) := fun o => (World.cell?_alloc_lt w o _ (by exact hadb)).trans c1
      have d2 : ∀ o, (w.alloc o).cell? ⟨(ad.add (ahead l p * 3)).block, (ad.add (ahead l p * 3)).off + 2, none⟩ = some (.bool x.struck) := fun o => (World.cell?_alloc_lt w o _ (by exact hadb)).trans c2
      by_cases hbad : x.letter ≠ 0 ∧ x.letter ≠ n
      · have HW : Hid (rwErr l p n = 7) := by show _ = _; rw [hwe, if_pos hbad]
        have g1 : (x.letter != 0) = true := by simpa using hbad.1
        have g2 : (x.letter != n) = true := by simpa using hbad.2
        clear hwe hbad
        go_enter Tryd.func70, Tryd.ntmps70
        go_wp2_with fail
        refine (HL.out _).mono ?_
        rintro e w1 ⟨rfl, rfl⟩
        rw [HLt.out]
        go_wp2_with fail
        refine (HA.out _ HR.out).mono ?_
        rintro e w1 ⟨rfl, rfl⟩
        go_wp2_with fail
        go_ret2
        rw [HW.out, giveL_bad (by decide)]
        exact rleafs_none ((Below.refl _ _).alloc (Nat.le_refl _) _)
      · have HW : Hid (rwErr l p n = 0) := by show _ = _; rw [hwe, if_neg hbad]
        have HG := Lib.hid hbad
        clear hwe hbad
        by_cases h0 : x.letter = 0
        · have g1 : (x.letter != 0) = false := by simp [h0]
          clear h0
          go_enter Tryd.func70, Tryd.ntmps70
          go_wp2_with fail
          refine (HL.out _).mono ?_
          rintro e w1 ⟨rfl, rfl⟩
          rw [HLt.out]
          go_wp2_with fail
          refine (HA.out _ HR.out).mono ?_
          rintro e w1 ⟨rfl, rfl⟩
          have HRA := Lib.hid (HR.out.alloc (Nat.le_refl _) (.cells #[.string p, .int .i64 n, .bool x.struck] 29))
          go_wp2_with fail
          refine (HS.out _ _ (HRA.out.more (by simp))).mono ?_
          rintro e w3 ⟨V, cV, rfl, hO3, hb3⟩
          have HO3 := Lib.hid hO3
          have HB3 := Lib.hid hb3
          clear hb3 hO3
          go_wp2_with fail
          go_ret2
          rw [HW.out, giveL, if_pos rfl, HWR.out]
          exact ⟨V, cV, by rw [List.length_set]; rfl, HO3.out.mono (by simp), ((Below.refl _ _).alloc (Nat.le_refl _) _).trans (HB3.out.mono (by simp))⟩
        · have g1 : (x.letter != 0) = true := by simpa using h0
          have g2 : (x.letter != n) = false := by
            cases hc : (x.letter != n)
            · rfl
            · exact absurd ⟨h0, by simpa using hc⟩ HG.out
          clear h0
          go_enter Tryd.func70, Tryd.ntmps70
          go_wp2_with fail
          refine (HL.out _).mono ?_
          rintro e w1 ⟨rfl, rfl⟩
          rw [HLt.out]
          go_wp2_with fail
          refine (HA.out _ HR.out).mono ?_
          rintro e w1 ⟨rfl, rfl⟩
          have HRA := Lib.hid (HR.out.alloc (Nat.le_refl _) (.cells #[.string p, .int .i64 n, .bool x.struck] 29))
          go_wp2_with fail
          refine (HS.out _ _ (HRA.out.more (by simp))).mono ?_
          rintro e w3 ⟨V, cV, rfl, hO3, hb3⟩
          have HO3 := Lib.hid hO3
          have HB3 := Lib.hid hb3
          clear hb3 hO3
          go_wp2_with fail
          go_ret2
          rw [HW.out, giveL, if_pos rfl, HWR.out]
          exact ⟨V, cV, by rw [List.length_set]; rfl, HO3.out.mono (by simp), ((Below.refl _ _).alloc (Nat.le_refl _) _).trans (HB3.out.mono (by simp))⟩
  · have hl2 : letterB n = false := by simpa using hl
    have HLt := Lib.hid hl2
    have HW : Hid (rwErr l p n = 1) := by show _ = _; unfold rwErr; rw [if_pos hl2]
    clear hl hl2 h
    go_enter Tryd.func70, Tryd.ntmps70
    go_wp2_with fail
    refine (HL.out _).mono ?_
    rintro e w1' ⟨rfl, rfl⟩
    rw [HLt.out]
    go_wp2_with fail
    go_ret2
    rw [HW.out, giveL_bad (by decide)]
    exact rleafs_none (Below.refl _ _)
set_option maxRecDepth 100000 in
set_option maxHeartbeats 2000000 in
theorem rstrike_any (w : World) (A : Option Addr) (c : Nat) (l : List LLeaf) (p : ByteArray) (h : Reads w w.heap.size 3 A l.length (lcells l)) (ok : BookOk l) (hc : l.length ≤ c) (hcm : c ≤ 9223372036854775807) :
    Calls Tryd.prog 72 #[.slice A l.length c, .string p] w (RLeafsPost w (giveL (rsErr l p) (strikeRes l p)) (rsErr l p)) := by
  have HA := Lib.hid (fun w (h : Reads w w.heap.size 3 A l.length (lcells l)) => rahead_any w A c l p h (by have := ok.few; omega) ok.rising)
  have hfew := ok.few
  have HR := Lib.hid h
  clear ok
  cases hh : hasAt l p with
  | false =>
    have hal := ahead_le l p
    have HS := Lib.hid (fun W (h : Reads W W.heap.size 3 A l.length (lcells l)) => rset_new W A c l (ahead l p) ⟨p, 0, true⟩ h hfew hc hcm hal)
    have HW : Hid (rsErr l p = putErr l ∧ giveL (rsErr l p) (strikeRes l p) = putRes l (ahead l p) ⟨p, 0, true⟩) := by
      have h1 : rsErr l p = putErr l := by unfold rsErr; rw [if_pos hh]
      exact ⟨h1, by rw [h1, putRes_give, strikeRes, if_neg (by rw [hh]; decide)]⟩
    by_cases hlt : ahead l p < l.length
    · obtain ⟨ad, hA, hb, c0, _, _⟩ := h.leaf hlt
      have hne : (l[ahead l p].place.toList == p.toList) = false := by
        unfold hasAt at hh
        rw [List.getElem?_eq_getElem hlt] at hh
        exact hh
      have i0 : (0 : Int) ≤ (ahead l p : Int) := by omega
      have i1 : (ahead l p : Int) < (l.length : Int) := by omega
      clear hh h
      subst hA
      generalize l[ahead l p].place = q at *
      go_enter Tryd.func72, Tryd.ntmps72
      go_wp2_with fail
      refine (HA.out _ HR.out).mono ?_
      rintro e w1 ⟨rfl, rfl⟩
      have HRA := Lib.hid (HR.out.alloc (Nat.le_refl _) (.cells #[.string p, .int .i64 0, .bool true] 29))
      go_wp2_with fail
      refine (HS.out _ (HRA.out.more (by simp))).mono ?_
      rintro e w3 ⟨V, cV, rfl, hO3, hb3⟩
      have HO3 := Lib.hid hO3
      have HB3 := Lib.hid hb3
      clear hb3 hO3
      go_wp2_with fail
      go_ret2
      rw [HW.out.2, HW.out.1]
      exact ⟨V, cV, rfl, HO3.out.mono (by simp), ((Below.refl _ _).alloc (Nat.le_refl _) _).trans (HB3.out.mono (by simp))⟩
    · have d1 : decide ((ahead l p : Int) < (l.length : Int)) = false := decide_eq_false (by omega)
      clear hh h
      go_enter Tryd.func72, Tryd.ntmps72
      go_wp2_with fail
      refine (HA.out _ HR.out).mono ?_
      rintro e w1 ⟨rfl, rfl⟩
      have HRA := Lib.hid (HR.out.alloc (Nat.le_refl _) (.cells #[.string p, .int .i64 0, .bool true] 29))
      go_wp2_with fail
      refine (HS.out _ (HRA.out.more (by simp))).mono ?_
      rintro e w3 ⟨V, cV, rfl, hO3, hb3⟩
      have HO3 := Lib.hid hO3
      have HB3 := Lib.hid hb3
      clear hb3 hO3
      go_wp2_with fail
      go_ret2
      rw [HW.out.2, HW.out.1]
      exact ⟨V, cV, rfl, HO3.out.mono (by simp), ((Below.refl _ _).alloc (Nat.le_refl _) _).trans (HB3.out.mono (by simp))⟩
  | true =>
    obtain ⟨hlt, hla, hpl⟩ := leafAt_has hh
    obtain ⟨ad, hA, hb, c0, c1, c2⟩ := h.leaf hlt
    rw [← hla] at c0 c1 c2
    rw [hpl] at c0
    have HWR : Hid (strikeRes l p = l.set (ahead l p) ⟨p, (leafAt l p).letter, true⟩) := by show _ = _; rw [strikeRes, if_pos hh]; unfold LLeaf.strike; rw [hpl]
    have HW : Hid (rsErr l p = 0) := by show _ = _; unfold rsErr; rw [if_neg (by rw [hh]; decide)]
    have HS := Lib.hid (fun W b (h : Reads W W.heap.size 3 A l.length (lcells l)) => rset_has W A c l (ahead l p) ⟨p, b, true⟩ h hfew hc hcm hlt)
    have i0 : (0 : Int) ≤ (ahead l p : Int) := by omega
    have i1 : (ahead l p : Int) < (l.length : Int) := by omega
    have b0 : (p.toList == p.toList) = true := by simp
    have hadb : (ad.add (ahead l p * 3)).block < w.heap.size := by rw [block_of_add]; exact hb
    clear hh h hla hpl
    subst hA
    generalize leafAt l p = x at *
    have d1 : ∀ o, (w.alloc o).cell? ⟨(ad.add (ahead l p * 3)).block, (ad.add (ahead l p * 3)).off + 1, none⟩ = some (.int .i64 x.letter) := fun o => (World.cell?_alloc_lt w o _ (by exact hadb)).trans c1
    go_enter Tryd.func72, Tryd.ntmps72
    go_wp2_with fail
    refine (HA.out _ HR.out).mono ?_
    rintro e w1 ⟨rfl, rfl⟩
    have HRA := Lib.hid (HR.out.alloc (Nat.le_refl _) (.cells #[.string p, .int .i64 x.letter, .bool true] 29))
    go_wp2_with fail
    refine (HS.out _ _ (HRA.out.more (by simp))).mono ?_
    rintro e w3 ⟨V, cV, rfl, hO3, hb3⟩
    have HO3 := Lib.hid hO3
    have HB3 := Lib.hid hb3
    clear hb3 hO3
    go_wp2_with fail
    go_ret2
    rw [HW.out, giveL, if_pos rfl, HWR.out]
    exact ⟨V, cV, by rw [List.length_set]; rfl, HO3.out.mono (by simp), ((Below.refl _ _).alloc (Nat.le_refl _) _).trans (HB3.out.mono (by simp))⟩
end Go.Proofs.YtikbcpljhjfoiaaDoor
