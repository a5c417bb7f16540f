/- What an op does to a document, walked. Conditions: the document is right, the op is right. -/
import Derived.Test.YtpofdjikogoobaaDocJoin
namespace Go.Proofs.Ytpofdjikogoobaa
open Go.RowKit
set_option linter.unusedVariables false
namespace LDoc
theorem turn_same {d : LDoc} {o : LOp} (h : d.turnE o ≠ 0) : d.turn o = d := by
  unfold turnE at h
  unfold turn
  by_cases h1 : o.what = 1
  · rw [if_pos h1] at h; rw [if_pos h1, if_neg h]
  rw [if_neg h1] at h
  rw [if_neg h1]
  by_cases h2 : o.what = 2
  · rw [if_pos h2] at h; rw [if_pos h2, if_neg h]
  rw [if_neg h2] at h
  rw [if_neg h2]
  by_cases h3 : o.what = 3
  · rw [if_pos h3] at h
    rw [if_pos h3]
    unfold cutE at h
    unfold cut
    by_cases hg : d.gone o = true
    · rw [if_pos hg] at h; exact absurd rfl h
    · rw [if_neg hg] at h; rw [if_neg hg, if_neg h]
  rw [if_neg h3] at h
  rw [if_neg h3]
  by_cases h4 : o.what = 4
  · rw [if_pos h4] at h
    rw [if_pos h4]
    unfold join
    rw [if_neg h]
  · rw [if_neg h4] at h; exact absurd rfl h
end LDoc
set_option maxRecDepth 100000 in
set_option maxHeartbeats 4000000 in
theorem turn_doc (w : World) (B : Nat) (S : List Nat) (b : Nat) (st : LDoc) (D : DLay) (h : DocIs w B S b st D) (ok : st.Ok) (o : LOp) (A : Option Addr) (c : Nat) (hp : opErr o = 0)
    (hr : Reads w w.heap.size 2 A o.seen.length (dcells o.seen)) (hns : 0 < o.seen.length → ∀ g ∈ ob A, g ∉ S) :
    Calls Try.prog 49 #[.pointer (some ⟨b, 0, none⟩), o.val A c] w (TurnPost w B S b (st.turnE o) (st.turn o)) := by
  obtain ⟨W0, hW0⟩ : ∃ W0, W0 = w.alloc (.cells (o.cells A c) 50) := ⟨_, rfl⟩
  have HB : Hid (Beside w B S b st D o A c W0) := by show Beside _ _ _ _ _ _ _ _ _ _; rw [hW0]; exact Beside.new h o A c
  obtain ⟨q1, hwh, hpl, hlt, q5, q6, hsl, q8⟩ := op_ok hp
  have hps := place_small hpl
  have HRS : Hid (Reads W0 W0.heap.size 2 A o.seen.length (dcells o.seen)) := (hr.below HB.out.below).more HB.out.below.size
  have hfew := ok.book.few
  have HCW := Lib.hid (fun W (hb : Below W0.heap.size W0 W) => write_any W D.a1 D.c1 st.book o.place o.letter (HB.out.doc.below hb).book.reads (bsized ok.book) (by omega) (by omega))
  have HCS := Lib.hid (fun W (hb : Below W0.heap.size W0 W) => strike_any W D.a1 D.c1 st.book o.place (HB.out.doc.below hb).book.reads (bsized ok.book) (by omega) (by omega))
  have HCC := Lib.hid (fun W (hb : Below W0.heap.size W0 W) => cut_doc W B S b st D (HB.out.doc.below hb) ok o A c (by omega))
  have HCJ := Lib.hid (fun W (hb : Below W0.heap.size W0 W) => join_doc W B S b st D (HB.out.doc.below hb) ok o A c (by omega) ((HRS.out.below hb).more hb.size) (by omega) hns)
  obtain ⟨hbs, hb0⟩ := HB.out.lt
  have HBR : Hid (Below W0.heap.size W0 W0) := Below.refl _ _
  have HCEL := Lib.hid (fun W (hb : Below W0.heap.size W0 W) => HB.out.cells hb)
  have HFR := Lib.hid (fun W (hb : Below W0.heap.size W0 W) => HB.out.frozen hb)
  have HBK := Lib.hid (fun W (hb : Below W0.heap.size W0 W) => HB.out.back hb)
  have HBW := Lib.hid HB.out.below
  have HDW := Lib.hid h
  have HDO := Lib.hid HB.out.doc
  have HE1 : Hid (o.what = 1 → st.turnE o = writeErr st.book o.place o.letter ∧ (writeErr st.book o.place o.letter = 0 → st.turn o = { st with book := writeRes st.book o.place o.letter })) := fun h1 =>
    ⟨by unfold LDoc.turnE; rw [if_pos h1], fun h2 => by unfold LDoc.turn; rw [if_pos h1, if_pos h2]⟩
  have HE2 : Hid (o.what = 2 → st.turnE o = strikeErr st.book o.place ∧ (strikeErr st.book o.place = 0 → st.turn o = { st with book := strikeRes st.book o.place })) := fun h1 =>
    ⟨by unfold LDoc.turnE; rw [if_neg (by omega), if_pos h1], fun h2 => by unfold LDoc.turn; rw [if_neg (by omega), if_pos h1, if_pos h2]⟩
  have HE3 : Hid (o.what = 3 → st.turnE o = st.cutE o ∧ st.turn o = st.cut o) := fun h1 =>
    ⟨by unfold LDoc.turnE; rw [if_neg (by omega), if_neg (by omega), if_pos h1], by unfold LDoc.turn; rw [if_neg (by omega), if_neg (by omega), if_pos h1]⟩
  have HE4 : Hid (o.what = 4 → st.turnE o = st.joinE o ∧ st.turn o = st.join o) := fun h1 =>
    ⟨by unfold LDoc.turnE; rw [if_neg (by omega), if_neg (by omega), if_neg (by omega), if_pos h1], by unfold LDoc.turn; rw [if_neg (by omega), if_neg (by omega), if_neg (by omega), if_pos h1]⟩
  have HTS : Hid (st.turnE o ≠ 0 → st.turn o = st) := LDoc.turn_same
  generalize st.turnE o = ke at *
  generalize st.turn o = kt at *
  generalize st.cutE o = ce at *
  generalize st.cut o = ct at *
  generalize st.joinE o = je at *
  generalize st.join o = jt at *
  clear h ok HB hr hns hp hpl hlt hps hsl hfew q1 q5 q6 q8
  obtain ⟨⟨who, n⟩, what, p, letter, seen⟩ := o
  unfold LOp.val at *
  unfold LOp.cells at hW0
  simp only at *
  obtain ⟨c0, c1, c2, c3, c4, d0, d1, d2, d3, d4, d5⟩ := HCEL.out _ HBR.out
  rcases (show what = 1 ∨ what = 2 ∨ what = 3 ∨ what = 4 by omega) with hw | hw | hw | hw
  · subst hw
    clear HCS HCC HCJ HE2 HE3 HE4 hwh
    obtain ⟨hk1, hk2⟩ := HE1.out rfl
    by_cases hk : writeErr st.book p letter = 0
    · rw [giveL_ok hk, hk] at HCW
      have HT := Lib.hid (hk2 hk)
      have HK := Lib.hid (hk1.trans hk)
      clear hk hk1 hk2 HE1 HTS
      go_enter Try.func49, Try.ntmps49
      go_wp2_with fail
      rw [← hW0]
      clear hW0
      go_region_held3 (fun w' => w'.cell? ⟨b, 0, none⟩ = some (.slice D.a1 st.book.length D.c1) ∧ w'.cell? ⟨w.heap.size, 3, none⟩ = some (.string p) ∧ w'.cell? ⟨w.heap.size, 4, none⟩ = some (.int .i64 letter))
        (first | go_keep | (refine ⟨?_, ?_, ?_⟩ <;> assumption))
        ((go_at_call 65; refine (HCW.out _ (by first | exact HBR.out | exact below_drewN HBR.out _ | exact HBR.out.drew)).mono ?_; rintro e w3 ⟨V, cV, rfl, hV, hb3⟩
          have HB3 : Hid (Below W0.heap.size W0 w3) := by first | exact hb3 | exact below_of_drewN (B := W0.heap.size) (n := 1) hb3
          have HV3 : Hid (Own w3 W0.heap.size 106 3 V (writeRes st.book p letter).length cV (lcells (writeRes st.book p letter))) := hV
          obtain ⟨e0, e1, e2, e3, e4, f0, f1, f2, f3, f4, f5⟩ := HCEL.out _ HB3.out
          clear hb3 hV))
      rw [show errV 0 = .nilIface from rfl]
      have fz := HFR.out _ HB3.out 0
      have HM3 := Lib.hid (DocTo.back (Only.of_below HBW.out) (fun g hg => .inl hg) (DocIs.setBook' HDO.out HB3.out HV3.out))
      go_wp2_with fail
      go_ret
      exact ⟨by rw [HK.out]; rfl, by rw [HT.out]; exact HM3.out⟩
    · rw [giveL_bad hk] at HCW
      have HKV := Lib.hid (errV_ne hk)
      have HK : Hid (errV ke = .iface 75 (.int .i64 (writeErr st.book p letter))) := by rw [hk1]; exact errV_ne hk
      have HT := Lib.hid (HTS.out (by rw [hk1]; exact hk))
      clear hk hk1 hk2 HE1 HTS
      go_enter Try.func49, Try.ntmps49
      go_wp2_with fail
      rw [← hW0]
      clear hW0
      go_region_held3 (fun w' => w'.cell? ⟨b, 0, none⟩ = some (.slice D.a1 st.book.length D.c1) ∧ w'.cell? ⟨w.heap.size, 3, none⟩ = some (.string p) ∧ w'.cell? ⟨w.heap.size, 4, none⟩ = some (.int .i64 letter))
        (first | go_keep | (refine ⟨?_, ?_, ?_⟩ <;> assumption))
        ((go_at_call 65; refine (HCW.out _ (by first | exact HBR.out | exact below_drewN HBR.out _ | exact HBR.out.drew)).mono ?_; rintro e w3 ⟨V, cV, rfl, hV, hb3⟩
          have HB3 : Hid (Below W0.heap.size W0 w3) := by first | exact hb3 | exact below_of_drewN (B := W0.heap.size) (n := 1) hb3
          obtain ⟨e0, e1, e2, e3, e4, f0, f1, f2, f3, f4, f5⟩ := HCEL.out _ HB3.out
          clear hb3 hV))
      rw [HKV.out]
      go_wp2_with fail
      go_ret
      exact ⟨by rw [HK.out]; rfl, by rw [HT.out]; exact DocTo.same HDW.out (HBK.out _ HB3.out)⟩
  · subst hw
    clear HCW HCC HCJ HE1 HE3 HE4 hwh
    obtain ⟨hk1, hk2⟩ := HE2.out rfl
    by_cases hk : strikeErr st.book p = 0
    · rw [giveL_ok hk, hk] at HCS
      have HT := Lib.hid (hk2 hk)
      have HK := Lib.hid (hk1.trans hk)
      clear hk hk1 hk2 HE2 HTS
      go_enter Try.func49, Try.ntmps49
      go_wp2_with fail
      rw [← hW0]
      clear hW0
      go_region_held3 (fun w' => w'.cell? ⟨b, 0, none⟩ = some (.slice D.a1 st.book.length D.c1) ∧ w'.cell? ⟨w.heap.size, 3, none⟩ = some (.string p))
        (first | go_keep | (refine ⟨?_, ?_⟩ <;> assumption))
        ((go_at_call 66; refine (HCS.out _ (by first | exact HBR.out | exact below_drewN HBR.out _ | exact HBR.out.drew)).mono ?_; rintro e w3 ⟨V, cV, rfl, hV, hb3⟩
          have HB3 : Hid (Below W0.heap.size W0 w3) := by first | exact hb3 | exact below_of_drewN (B := W0.heap.size) (n := 1) hb3
          have HV3 : Hid (Own w3 W0.heap.size 106 3 V (strikeRes st.book p).length cV (lcells (strikeRes st.book p))) := hV
          obtain ⟨e0, e1, e2, e3, e4, f0, f1, f2, f3, f4, f5⟩ := HCEL.out _ HB3.out
          clear hb3 hV))
      rw [show errV 0 = .nilIface from rfl]
      have fz := HFR.out _ HB3.out 0
      have HM3 := Lib.hid (DocTo.back (Only.of_below HBW.out) (fun g hg => .inl hg) (DocIs.setBook' HDO.out HB3.out HV3.out))
      go_wp2_with fail
      go_ret
      exact ⟨by rw [HK.out]; rfl, by rw [HT.out]; exact HM3.out⟩
    · rw [giveL_bad hk] at HCS
      have HKV := Lib.hid (errV_ne hk)
      have HK : Hid (errV ke = .iface 75 (.int .i64 (strikeErr st.book p))) := by rw [hk1]; exact errV_ne hk
      have HT := Lib.hid (HTS.out (by rw [hk1]; exact hk))
      clear hk hk1 hk2 HE2 HTS
      go_enter Try.func49, Try.ntmps49
      go_wp2_with fail
      rw [← hW0]
      clear hW0
      go_region_held3 (fun w' => w'.cell? ⟨b, 0, none⟩ = some (.slice D.a1 st.book.length D.c1) ∧ w'.cell? ⟨w.heap.size, 3, none⟩ = some (.string p))
        (first | go_keep | (refine ⟨?_, ?_⟩ <;> assumption))
        ((go_at_call 66; refine (HCS.out _ (by first | exact HBR.out | exact below_drewN HBR.out _ | exact HBR.out.drew)).mono ?_; rintro e w3 ⟨V, cV, rfl, hV, hb3⟩
          have HB3 : Hid (Below W0.heap.size W0 w3) := by first | exact hb3 | exact below_of_drewN (B := W0.heap.size) (n := 1) hb3
          obtain ⟨e0, e1, e2, e3, e4, f0, f1, f2, f3, f4, f5⟩ := HCEL.out _ HB3.out
          clear hb3 hV))
      rw [HKV.out]
      go_wp2_with fail
      go_ret
      exact ⟨by rw [HK.out]; rfl, by rw [HT.out]; exact DocTo.same HDW.out (HBK.out _ HB3.out)⟩
  · subst hw
    obtain ⟨hk1, hk2⟩ := HE3.out rfl
    have HK := Lib.hid hk1
    have HT := Lib.hid hk2
    clear HCW HCS HCJ HE1 HE2 HE4 HTS hwh hk1 hk2 HE3
    go_enter Try.func49, Try.ntmps49
    go_wp2_with fail
    rw [← hW0]
    clear hW0
    refine (HCC.out _ HBR.out).mono ?_
    rintro e w3 ⟨rfl, hd⟩
    have HD3 := Lib.hid (DocTo.back (Only.of_below HBW.out) (fun g hg => .inl hg) hd)
    clear hd
    go_wp2_with fail
    go_ret
    exact ⟨by rw [HK.out]; rfl, by rw [HT.out]; exact HD3.out⟩
  · subst hw
    obtain ⟨hk1, hk2⟩ := HE4.out rfl
    have HK := Lib.hid hk1
    have HT := Lib.hid hk2
    clear HCW HCS HCC HE1 HE2 HE3 HTS hwh hk1 hk2 HE4
    go_enter Try.func49, Try.ntmps49
    go_wp2_with fail
    rw [← hW0]
    clear hW0
    refine (HCJ.out _ HBR.out).mono ?_
    rintro e w3 ⟨rfl, hd⟩
    have HD3 := Lib.hid (DocTo.back (Only.of_below HBW.out) (fun g hg => .inl hg) hd)
    clear hd
    go_wp2_with fail
    go_ret
    exact ⟨by rw [HK.out]; rfl, by rw [HT.out]; exact HD3.out⟩
end Go.Proofs.Ytpofdjikogoobaa
