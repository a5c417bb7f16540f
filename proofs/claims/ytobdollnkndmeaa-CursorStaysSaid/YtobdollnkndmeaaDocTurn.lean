/- 2 texts in one: each says ahead of itself what is proved, and its conditions. -/
import Derived.Test.YtobdollnkndmeaaDocCut
/- What an op does to the marks of a document: joined, walked. Conditions: the document is right. -/
namespace Go.Proofs.Ytobdollnkndmeaa
open Go.RowKit
set_option linter.unusedVariables false
theorem insAll_succ (p : ByteArray) (j : List (JKey × Bool)) (l : List LDot) {k : Nat} (hk : k < l.length) : LDoc.insAll p j (l.take (k + 1)) = ins ⟨p, l[k]⟩ true (LDoc.insAll p j (l.take k)) := by
  unfold LDoc.insAll
  rw [List.take_succ_eq_append_getElem hk, List.foldl_append]
  rfl
theorem DocIs.setMap' {w w' : World} {B : Nat} {S : List Nat} {b : Nat} {st : LDoc} {D : DLay} (h : DocIs w B S b st D) (ho : Only [D.r] w w') {j : List (JKey × Bool)} (hj : MapAt w' D.r JKey.val boolV j) : DocTo w B S b { st with joined := j } w' :=
  ⟨S, D, h.setMap ho hj, ho.mono (fun i hi => by simp at hi; subst hi; exact .inl h.subr), fun g hg => .inl hg⟩
/-- Rounds of the walk through what a join saw. -/
def JoinLoop (W0 : World) (B : Nat) (S : List Nat) (b : Nat) (st : LDoc) (o : LOp) (i : Value) (wr : World) : Prop :=
  ∃ k : Nat, k ≤ o.seen.length ∧ i = .int .i64 k ∧ Hid (DocTo W0 B S b { st with marks := joinRes st.marks o.place o.seen, joined := LDoc.insAll o.place st.joined (o.seen.take k) } wr)
set_option maxRecDepth 100000 in
set_option maxHeartbeats 4000000 in
theorem join_doc (w : World) (B : Nat) (S : List Nat) (b : Nat) (st : LDoc) (D : DLay) (h : DocIs w B S b st D) (ok : st.Ok) (o : LOp) (A : Option Addr) (c : Nat) (hp : o.place.size ≤ 9223372036854775807)
    (hr : Reads w w.heap.size 2 A o.seen.length (dcells o.seen)) (hn : o.seen.length ≤ 9223372036854775807) (hns : 0 < o.seen.length → ∀ g ∈ ob A, g ∉ S) :
    Calls Try.prog 72 #[.pointer (some ⟨b, 0, none⟩), o.val A c] w (TurnPost w B S b (st.joinE o) (st.join o)) := by
  obtain ⟨W0, hW0⟩ : ∃ W0, W0 = w.alloc (.cells (o.cells A c) 39) := ⟨_, rfl⟩
  have HB : Hid (Beside w B S b st D o A c W0) := by show Beside _ _ _ _ _ _ _ _ _ _; rw [hW0]; exact Beside.new h o A c
  have HRS : Hid (Reads W0 W0.heap.size 2 A o.seen.length (dcells o.seen)) := (hr.below HB.out.below).more HB.out.below.size
  have hcut := fun W (hb : Below W0.heap.size W0 W) => join_any W D.a2 D.c2 st.marks o.place A c o.seen (HB.out.doc.below hb).marks.reads (msized ok.marks) (by have := ok.marks.few; omega) hp ((HRS.out.below hb).more hb.size) hn
  have HEE := Lib.hid (show st.joinE o = joinErr st.marks o.place o.seen from rfl)
  have HCC := Lib.hid (show st.join o = (if st.joinE o = 0 then { st with marks := joinRes st.marks o.place o.seen, joined := LDoc.insAll o.place st.joined o.seen } else st) from rfl)
  have HC := Lib.hid hcut
  obtain ⟨hbs, hb0⟩ := HB.out.lt
  have HBR : Hid (Below W0.heap.size W0 W0) := Below.refl _ _
  have HBOX : Hid (∀ W, Only S W0 W → Blk W w.heap.size 39 (o.cells A c)) := fun W ho => ho.blk HB.out.box (fun hm => by have := (h.own _ hm).2; omega)
  have HNS := Lib.hid hns
  generalize st.joinE o = ke at *
  generalize st.join o = kt at *
  have HCEL := Lib.hid (fun W (hb : Below W0.heap.size W0 W) => HB.out.cells hb)
  have HFR := Lib.hid (fun W (hb : Below W0.heap.size W0 W) => HB.out.frozen hb)
  have HBK := Lib.hid (fun W (hb : Below W0.heap.size W0 W) => HB.out.back hb)
  have HBW := Lib.hid HB.out.below
  have HDW := Lib.hid h
  have HDO := Lib.hid HB.out.doc
  have HOWN : Hid (∀ g ∈ S, g < w.heap.size) := fun g hg => (h.own g hg).2
  clear h ok hcut HB hr hns
  obtain ⟨⟨who, n⟩, what, p, letter, seen⟩ := o
  unfold LOp.val
  unfold LOp.cells at hW0 HBOX
  simp only at *
  obtain ⟨c0, c1, c2, c3, c4, d0, d1, d2, d3, d4, d5⟩ := HCEL.out _ HBR.out
  by_cases hk : joinErr st.marks p seen = 0
  · rw [giveM_ok hk, hk] at HC
    rw [hk] at HEE
    have HT : Hid (kt = { st with marks := joinRes st.marks p seen, joined := LDoc.insAll p st.joined seen }) := by rw [HCC.out, HEE.out]; rfl
    clear hk HCC
    go_enter Try.func72, Try.ntmps72
    go_wp2_with fail
    rw [← hW0]
    clear hW0
    go_region_held3 (fun w' => w'.cell? ⟨b, 1, none⟩ = some (.slice D.a2 st.marks.length D.c2) ∧ w'.cell? ⟨w.heap.size, 3, none⟩ = some (.string p) ∧ w'.cell? ⟨w.heap.size, 5, none⟩ = some (.slice A seen.length c))
      (first | go_keep | (refine ⟨?_, ?_, ?_⟩ <;> assumption))
      ((go_at_call 91; refine (HC.out _ (by first | exact HBR.out | exact below_drewN HBR.out _ | exact HBR.out.drew)).mono ?_; rintro e w3 ⟨V, cV, rfl, hV, hb3⟩
        have HB3 : Hid (Below W0.heap.size W0 w3) := by first | exact hb3 | exact below_of_drewN (B := W0.heap.size) (n := 1) hb3
        have HV3 : Hid (Own w3 W0.heap.size 105 3 V (joinRes st.marks p seen).length cV (mcells (joinRes st.marks p seen))) := hV
        obtain ⟨e0, e1, e2, e3, e4, f0, f1, f2, f3, f4, f5⟩ := HCEL.out _ HB3.out
        clear hb3 hV))
    rw [show errV 0 = .nilIface from rfl]
    have fz := HFR.out _ HB3.out 1
    have HM3 := Lib.hid (DocIs.setMarks' HDO.out HB3.out HV3.out)
    have hbx : (⟨w.heap.size, 5, none⟩ : Addr) ≠ ⟨b, 1, none⟩ := by intro h; injection h; omega
    go_wp2_with fail
    go_loopw [31] (fun i wr => JoinLoop W0 B S b st ⟨⟨who, n⟩, what, p, letter, seen⟩ i wr) (fun i _ => seen.length - (intOf i).toNat)
    case atStart => exact ⟨0, Nat.zero_le _, rfl, HM3.out⟩
    case round =>
      obtain ⟨k, hk, rfl, HD⟩ := hrel
      simp only at hk
      by_cases hkn : k < seen.length
      · obtain ⟨S1, D1, HD1, HO1, HS1⟩ := HD.out
        have hbx1 := HBOX.out _ HO1
        have HR1 : Reads wr wr.heap.size 2 A seen.length (dcells seen) := HRS.out.only HO1 HNS.out
        obtain ⟨ad, rfl, hb, x0, x1⟩ := HR1.dot hkn
        have hlt : (k : Int) < (seen.length : Int) := by omega
        have hk0 : (0 : Int) ≤ (k : Int) := by omega
        have hmap := insAll_succ p st.joined seen hkn
        generalize seen[k] = x at *
        obtain ⟨x0', x1'⟩ := x
        simp only at x0 x1 hmap
        obtain ⟨WX, hWX⟩ : ∃ WX, WX = wr.alloc (.cells #[.int .i64 x0', .int .i64 x1'] 36) := ⟨_, rfl⟩
        have hbX : Below wr.heap.size wr WX := by rw [hWX]; exact (Below.refl _ _).alloc (Nat.le_refl _) _
        have hDX := HD1.below hbX
        obtain ⟨wu, hwu⟩ : ∃ wu : Nat → World, ∀ m, (Instr.mapUpdate 79 (.map (some D1.r)) (.agg #[.string p, .int .i64 x0', .int .i64 x1']) (.bool true)).run Try.prog (WX.drewN m) = .ok () (wu m) ∧
            MapAt (wu m) D1.r JKey.val boolV (ins ⟨p, ⟨x0', x1'⟩⟩ true (LDoc.insAll p st.joined (seen.take k))) ∧ Only [D1.r] (WX.drewN m) (wu m) :=
          ⟨fun m => Classical.choose (update_run JKey.keyOk Try.underlying79 (hDX.drewN m).joined ⟨p, ⟨x0', x1'⟩⟩ true), fun m => Classical.choose_spec (update_run JKey.keyOk Try.underlying79 (hDX.drewN m).joined ⟨p, ⟨x0', x1'⟩⟩ true)⟩
        have hu1 : (Instr.mapUpdate 79 (.map (some D1.r)) (.agg #[.string p, .int .i64 x0', .int .i64 x1']) (.bool true)).run Try.prog WX.drew = .ok () (wu 1) := (hwu 1).1
        have HU := Lib.hid (hwu 1).2
        generalize wu 1 = wv at *
        have HDX := Lib.hid hDX
        have hw4 : WX.cell? ⟨b, 4, none⟩ = some (.map (some D1.r)) := by rw [hDX.blk.cell]; rfl
        have hw3 : WX.cell? ⟨w.heap.size, 3, none⟩ = some (.string p) := by rw [(hbx1.below hbX hbx1.lt).cell]; rfl
        have hx0 : WX.cell? ⟨wr.heap.size, 0, none⟩ = some (.int .i64 x0') := by rw [hWX, (Blk.new wr _ _).cell]; rfl
        have hx1 : WX.cell? ⟨wr.heap.size, 1, none⟩ = some (.int .i64 x1') := by rw [hWX, (Blk.new wr _ _).cell]; rfl
        have HBX := Lib.hid hbX
        have HO1' := Lib.hid HO1
        have HS1' := Lib.hid HS1
        have HM := Lib.hid hmap
        clear hwu hDX hbX hbx1 HO1 HS1 hmap HD HR1 hk
        go_wp2_with fail
        rw [← hWX]
        clear hWX
        go_region
        all_goals
          go_wp2_with fail
          go_roundw
          case rel =>
            refine ⟨k + 1, by simp only; omega, by go_num, ?_⟩
            show DocTo _ _ _ _ _ _
            rw [HM.out]
            exact DocTo.back ((HO1'.out.below_step HBX.out).drewN 1) HS1'.out ((HDX.out.drewN 1).setMap' HU.out.2 HU.out.1)
          case measure => simp [intOf]; omega
      · have hd : decide ((k : Int) < (seen.length : Int)) = false := by simp; omega
        have hke : k = seen.length := by omega
        subst hke
        have HD2 := Lib.hid (DocTo.back (Only.of_below HBW.out) (fun g hg => .inl hg) HD.out)
        rw [List.take_length] at HD2
        clear HD
        go_wp2_with fail
        go_ret
        exact ⟨by rw [HEE.out]; rfl, by rw [HT.out]; exact HD2.out⟩
  · rw [giveM_bad hk] at HC
    have HT : Hid (kt = st) := by rw [HCC.out, HEE.out, if_neg hk]; rfl
    have HK : Hid (errV ke = .iface 85 (.int .i64 (joinErr st.marks p seen))) := by rw [HEE.out]; exact errV_ne hk
    have HKV := Lib.hid (errV_ne hk)
    clear hk HCC HEE
    go_enter Try.func72, Try.ntmps72
    go_wp2_with fail
    rw [← hW0]
    clear hW0
    go_region_held3 (fun w' => w'.cell? ⟨b, 1, none⟩ = some (.slice D.a2 st.marks.length D.c2) ∧ w'.cell? ⟨w.heap.size, 3, none⟩ = some (.string p) ∧ w'.cell? ⟨w.heap.size, 5, none⟩ = some (.slice A seen.length c))
      (first | go_keep | (refine ⟨?_, ?_, ?_⟩ <;> assumption))
      ((go_at_call 91; refine (HC.out _ (by first | exact HBR.out | exact below_drewN HBR.out _ | exact HBR.out.drew)).mono ?_; rintro e w3 ⟨V, cV, rfl, hV, hb3⟩
        have HB3 : Hid (Below W0.heap.size W0 w3) := by first | exact hb3 | exact below_of_drewN (B := W0.heap.size) (n := 1) hb3
        obtain ⟨e0, e1, e2, e3, e4, f0, f1, f2, f3, f4, f5⟩ := HCEL.out _ HB3.out
        clear hb3 hV))
    rw [HKV.out]
    go_wp2_with fail
    go_ret
    exact ⟨by rw [HK.out]; rfl, by rw [HT.out]; exact DocTo.same HDW.out (HBK.out _ HB3.out)⟩
end Go.Proofs.Ytobdollnkndmeaa
/- What an op does to a document, walked. Conditions: the document is right, the op is right. -/
namespace Go.Proofs.Ytobdollnkndmeaa
open Go.RowKit
set_option linter.unusedVariables false
namespace LDoc
theorem turn_same {d : LDoc} {o : LOp} (h : d.turnE o ≠ 0) : d.turn o = d := by
  unfold turnE at h
  unfold turn
  by_cases h1 : o.what = 1
  · rw [if_pos h1] at h; rw [if_pos h1, if_neg h]
  rw [if_neg h1] at h
  rw [if_neg h1]
  by_cases h2 : o.what = 2
  · rw [if_pos h2] at h; rw [if_pos h2, if_neg h]
  rw [if_neg h2] at h
  rw [if_neg h2]
  by_cases h3 : o.what = 3
  · rw [if_pos h3] at h
    rw [if_pos h3]
    unfold cutE at h
    unfold cut
    by_cases hg : d.gone o = true
    · rw [if_pos hg] at h; exact absurd rfl h
    · rw [if_neg hg] at h; rw [if_neg hg, if_neg h]
  rw [if_neg h3] at h
  rw [if_neg h3]
  by_cases h4 : o.what = 4
  · rw [if_pos h4] at h
    rw [if_pos h4]
    unfold join
    rw [if_neg h]
  · rw [if_neg h4] at h; exact absurd rfl h
end LDoc
set_option maxRecDepth 100000 in
set_option maxHeartbeats 4000000 in
theorem turn_doc (w : World) (B : Nat) (S : List Nat) (b : Nat) (st : LDoc) (D : DLay) (h : DocIs w B S b st D) (ok : st.Ok) (o : LOp) (A : Option Addr) (c : Nat) (hp : opErr o = 0)
    (hr : Reads w w.heap.size 2 A o.seen.length (dcells o.seen)) (hns : 0 < o.seen.length → ∀ g ∈ ob A, g ∉ S) :
    Calls Try.prog 39 #[.pointer (some ⟨b, 0, none⟩), o.val A c] w (TurnPost w B S b (st.turnE o) (st.turn o)) := by
  obtain ⟨W0, hW0⟩ : ∃ W0, W0 = w.alloc (.cells (o.cells A c) 39) := ⟨_, rfl⟩
  have HB : Hid (Beside w B S b st D o A c W0) := by show Beside _ _ _ _ _ _ _ _ _ _; rw [hW0]; exact Beside.new h o A c
  obtain ⟨q1, hwh, hpl, hlt, q5, q6, hsl, q8⟩ := op_ok hp
  have hps := place_small hpl
  have HRS : Hid (Reads W0 W0.heap.size 2 A o.seen.length (dcells o.seen)) := (hr.below HB.out.below).more HB.out.below.size
  have hfew := ok.book.few
  have HCW := Lib.hid (fun W (hb : Below W0.heap.size W0 W) => write_any W D.a1 D.c1 st.book o.place o.letter (HB.out.doc.below hb).book.reads (bsized ok.book) (by omega) (by omega))
  have HCS := Lib.hid (fun W (hb : Below W0.heap.size W0 W) => strike_any W D.a1 D.c1 st.book o.place (HB.out.doc.below hb).book.reads (bsized ok.book) (by omega) (by omega))
  have HCC := Lib.hid (fun W (hb : Below W0.heap.size W0 W) => cut_doc W B S b st D (HB.out.doc.below hb) ok o A c (by omega))
  have HCJ := Lib.hid (fun W (hb : Below W0.heap.size W0 W) => join_doc W B S b st D (HB.out.doc.below hb) ok o A c (by omega) ((HRS.out.below hb).more hb.size) (by omega) hns)
  obtain ⟨hbs, hb0⟩ := HB.out.lt
  have HBR : Hid (Below W0.heap.size W0 W0) := Below.refl _ _
  have HCEL := Lib.hid (fun W (hb : Below W0.heap.size W0 W) => HB.out.cells hb)
  have HFR := Lib.hid (fun W (hb : Below W0.heap.size W0 W) => HB.out.frozen hb)
  have HBK := Lib.hid (fun W (hb : Below W0.heap.size W0 W) => HB.out.back hb)
  have HBW := Lib.hid HB.out.below
  have HDW := Lib.hid h
  have HDO := Lib.hid HB.out.doc
  have HE1 : Hid (o.what = 1 → st.turnE o = writeErr st.book o.place o.letter ∧ (writeErr st.book o.place o.letter = 0 → st.turn o = { st with book := writeRes st.book o.place o.letter })) := fun h1 =>
    ⟨by unfold LDoc.turnE; rw [if_pos h1], fun h2 => by unfold LDoc.turn; rw [if_pos h1, if_pos h2]⟩
  have HE2 : Hid (o.what = 2 → st.turnE o = strikeErr st.book o.place ∧ (strikeErr st.book o.place = 0 → st.turn o = { st with book := strikeRes st.book o.place })) := fun h1 =>
    ⟨by unfold LDoc.turnE; rw [if_neg (by omega), if_pos h1], fun h2 => by unfold LDoc.turn; rw [if_neg (by omega), if_pos h1, if_pos h2]⟩
  have HE3 : Hid (o.what = 3 → st.turnE o = st.cutE o ∧ st.turn o = st.cut o) := fun h1 =>
    ⟨by unfold LDoc.turnE; rw [if_neg (by omega), if_neg (by omega), if_pos h1], by unfold LDoc.turn; rw [if_neg (by omega), if_neg (by omega), if_pos h1]⟩
  have HE4 : Hid (o.what = 4 → st.turnE o = st.joinE o ∧ st.turn o = st.join o) := fun h1 =>
    ⟨by unfold LDoc.turnE; rw [if_neg (by omega), if_neg (by omega), if_neg (by omega), if_pos h1], by unfold LDoc.turn; rw [if_neg (by omega), if_neg (by omega), if_neg (by omega), if_pos h1]⟩
  have HTS : Hid (st.turnE o ≠ 0 → st.turn o = st) := LDoc.turn_same
  generalize st.turnE o = ke at *
  generalize st.turn o = kt at *
  generalize st.cutE o = ce at *
  generalize st.cut o = ct at *
  generalize st.joinE o = je at *
  generalize st.join o = jt at *
  clear h ok HB hr hns hp hpl hlt hps hsl hfew q1 q5 q6 q8
  obtain ⟨⟨who, n⟩, what, p, letter, seen⟩ := o
  unfold LOp.val at *
  unfold LOp.cells at hW0
  simp only at *
  obtain ⟨c0, c1, c2, c3, c4, d0, d1, d2, d3, d4, d5⟩ := HCEL.out _ HBR.out
  rcases (show what = 1 ∨ what = 2 ∨ what = 3 ∨ what = 4 by omega) with hw | hw | hw | hw
  · subst hw
    clear HCS HCC HCJ HE2 HE3 HE4 hwh
    obtain ⟨hk1, hk2⟩ := HE1.out rfl
    by_cases hk : writeErr st.book p letter = 0
    · rw [giveL_ok hk, hk] at HCW
      have HT := Lib.hid (hk2 hk)
      have HK := Lib.hid (hk1.trans hk)
      clear hk hk1 hk2 HE1 HTS
      go_enter Try.func39, Try.ntmps39
      go_wp2_with fail
      rw [← hW0]
      clear hW0
      go_region_held3 (fun w' => w'.cell? ⟨b, 0, none⟩ = some (.slice D.a1 st.book.length D.c1) ∧ w'.cell? ⟨w.heap.size, 3, none⟩ = some (.string p) ∧ w'.cell? ⟨w.heap.size, 4, none⟩ = some (.int .i64 letter))
        (first | go_keep | (refine ⟨?_, ?_, ?_⟩ <;> assumption))
        ((go_at_call 73; refine (HCW.out _ (by first | exact HBR.out | exact below_drewN HBR.out _ | exact HBR.out.drew)).mono ?_; rintro e w3 ⟨V, cV, rfl, hV, hb3⟩
          have HB3 : Hid (Below W0.heap.size W0 w3) := by first | exact hb3 | exact below_of_drewN (B := W0.heap.size) (n := 1) hb3
          have HV3 : Hid (Own w3 W0.heap.size 29 3 V (writeRes st.book p letter).length cV (lcells (writeRes st.book p letter))) := hV
          obtain ⟨e0, e1, e2, e3, e4, f0, f1, f2, f3, f4, f5⟩ := HCEL.out _ HB3.out
          clear hb3 hV))
      rw [show errV 0 = .nilIface from rfl]
      have fz := HFR.out _ HB3.out 0
      have HM3 := Lib.hid (DocTo.back (Only.of_below HBW.out) (fun g hg => .inl hg) (DocIs.setBook' HDO.out HB3.out HV3.out))
      go_wp2_with fail
      go_ret
      exact ⟨by rw [HK.out]; rfl, by rw [HT.out]; exact HM3.out⟩
    · rw [giveL_bad hk] at HCW
      have HKV := Lib.hid (errV_ne hk)
      have HK : Hid (errV ke = .iface 85 (.int .i64 (writeErr st.book p letter))) := by rw [hk1]; exact errV_ne hk
      have HT := Lib.hid (HTS.out (by rw [hk1]; exact hk))
      clear hk hk1 hk2 HE1 HTS
      go_enter Try.func39, Try.ntmps39
      go_wp2_with fail
      rw [← hW0]
      clear hW0
      go_region_held3 (fun w' => w'.cell? ⟨b, 0, none⟩ = some (.slice D.a1 st.book.length D.c1) ∧ w'.cell? ⟨w.heap.size, 3, none⟩ = some (.string p) ∧ w'.cell? ⟨w.heap.size, 4, none⟩ = some (.int .i64 letter))
        (first | go_keep | (refine ⟨?_, ?_, ?_⟩ <;> assumption))
        ((go_at_call 73; refine (HCW.out _ (by first | exact HBR.out | exact below_drewN HBR.out _ | exact HBR.out.drew)).mono ?_; rintro e w3 ⟨V, cV, rfl, hV, hb3⟩
          have HB3 : Hid (Below W0.heap.size W0 w3) := by first | exact hb3 | exact below_of_drewN (B := W0.heap.size) (n := 1) hb3
          obtain ⟨e0, e1, e2, e3, e4, f0, f1, f2, f3, f4, f5⟩ := HCEL.out _ HB3.out
          clear hb3 hV))
      rw [HKV.out]
      go_wp2_with fail
      go_ret
      exact ⟨by rw [HK.out]; rfl, by rw [HT.out]; exact DocTo.same HDW.out (HBK.out _ HB3.out)⟩
  · subst hw
    clear HCW HCC HCJ HE1 HE3 HE4 hwh
    obtain ⟨hk1, hk2⟩ := HE2.out rfl
    by_cases hk : strikeErr st.book p = 0
    · rw [giveL_ok hk, hk] at HCS
      have HT := Lib.hid (hk2 hk)
      have HK := Lib.hid (hk1.trans hk)
      clear hk hk1 hk2 HE2 HTS
      go_enter Try.func39, Try.ntmps39
      go_wp2_with fail
      rw [← hW0]
      clear hW0
      go_region_held3 (fun w' => w'.cell? ⟨b, 0, none⟩ = some (.slice D.a1 st.book.length D.c1) ∧ w'.cell? ⟨w.heap.size, 3, none⟩ = some (.string p))
        (first | go_keep | (refine ⟨?_, ?_⟩ <;> assumption))
        ((go_at_call 74; refine (HCS.out _ (by first | exact HBR.out | exact below_drewN HBR.out _ | exact HBR.out.drew)).mono ?_; rintro e w3 ⟨V, cV, rfl, hV, hb3⟩
          have HB3 : Hid (Below W0.heap.size W0 w3) := by first | exact hb3 | exact below_of_drewN (B := W0.heap.size) (n := 1) hb3
          have HV3 : Hid (Own w3 W0.heap.size 29 3 V (strikeRes st.book p).length cV (lcells (strikeRes st.book p))) := hV
          obtain ⟨e0, e1, e2, e3, e4, f0, f1, f2, f3, f4, f5⟩ := HCEL.out _ HB3.out
          clear hb3 hV))
      rw [show errV 0 = .nilIface from rfl]
      have fz := HFR.out _ HB3.out 0
      have HM3 := Lib.hid (DocTo.back (Only.of_below HBW.out) (fun g hg => .inl hg) (DocIs.setBook' HDO.out HB3.out HV3.out))
      go_wp2_with fail
      go_ret
      exact ⟨by rw [HK.out]; rfl, by rw [HT.out]; exact HM3.out⟩
    · rw [giveL_bad hk] at HCS
      have HKV := Lib.hid (errV_ne hk)
      have HK : Hid (errV ke = .iface 85 (.int .i64 (strikeErr st.book p))) := by rw [hk1]; exact errV_ne hk
      have HT := Lib.hid (HTS.out (by rw [hk1]; exact hk))
      clear hk hk1 hk2 HE2 HTS
      go_enter Try.func39, Try.ntmps39
      go_wp2_with fail
      rw [← hW0]
      clear hW0
      go_region_held3 (fun w' => w'.cell? ⟨b, 0, none⟩ = some (.slice D.a1 st.book.length D.c1) ∧ w'.cell? ⟨w.heap.size, 3, none⟩ = some (.string p))
        (first | go_keep | (refine ⟨?_, ?_⟩ <;> assumption))
        ((go_at_call 74; refine (HCS.out _ (by first | exact HBR.out | exact below_drewN HBR.out _ | exact HBR.out.drew)).mono ?_; rintro e w3 ⟨V, cV, rfl, hV, hb3⟩
          have HB3 : Hid (Below W0.heap.size W0 w3) := by first | exact hb3 | exact below_of_drewN (B := W0.heap.size) (n := 1) hb3
          obtain ⟨e0, e1, e2, e3, e4, f0, f1, f2, f3, f4, f5⟩ := HCEL.out _ HB3.out
          clear hb3 hV))
      rw [HKV.out]
      go_wp2_with fail
      go_ret
      exact ⟨by rw [HK.out]; rfl, by rw [HT.out]; exact DocTo.same HDW.out (HBK.out _ HB3.out)⟩
  · subst hw
    obtain ⟨hk1, hk2⟩ := HE3.out rfl
    have HK := Lib.hid hk1
    have HT := Lib.hid hk2
    clear HCW HCS HCJ HE1 HE2 HE4 HTS hwh hk1 hk2 HE3
    go_enter Try.func39, Try.ntmps39
    go_wp2_with fail
    rw [← hW0]
    clear hW0
    refine (HCC.out _ HBR.out).mono ?_
    rintro e w3 ⟨rfl, hd⟩
    have HD3 := Lib.hid (DocTo.back (Only.of_below HBW.out) (fun g hg => .inl hg) hd)
    clear hd
    go_wp2_with fail
    go_ret
    exact ⟨by rw [HK.out]; rfl, by rw [HT.out]; exact HD3.out⟩
  · subst hw
    obtain ⟨hk1, hk2⟩ := HE4.out rfl
    have HK := Lib.hid hk1
    have HT := Lib.hid hk2
    clear HCW HCS HCC HE1 HE2 HE3 HTS hwh hk1 hk2 HE4
    go_enter Try.func39, Try.ntmps39
    go_wp2_with fail
    rw [← hW0]
    clear hW0
    refine (HCJ.out _ HBR.out).mono ?_
    rintro e w3 ⟨rfl, hd⟩
    have HD3 := Lib.hid (DocTo.back (Only.of_below HBW.out) (fun g hg => .inl hg) hd)
    clear hd
    go_wp2_with fail
    go_ret
    exact ⟨by rw [HK.out]; rfl, by rw [HT.out]; exact HD3.out⟩
end Go.Proofs.Ytobdollnkndmeaa
