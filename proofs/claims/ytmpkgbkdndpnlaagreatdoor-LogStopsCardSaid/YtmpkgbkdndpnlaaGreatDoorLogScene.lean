/- 4 texts in one: each says ahead of itself what is proved, and its conditions. -/
import Derived.BigQuiet
import Derived.BigRegion
import Derived.Deep.RegionHeld3
import Derived.Test.YtmpkgbkdndpnlaaGreatDoorLogAt
import Derived.Test.YtmpkgbkdndpnlaaGreatDoorLogRedo
/- log.New, step, Fail, Sync, Doc, Bytes, Safe, walked. Conditions: the log is right. -/
namespace Go.Proofs.YtmpkgbkdndpnlaaGreatDoor
open Go.RowKit
set_option linter.unusedVariables false
def LNewPost (w : World) (e : Ending) (w' : World) : Prop := ∃ b S bd SD D, e = .returned (.pointer (some ⟨b, 0, none⟩)) ∧ LogIs w' w.heap.size S b LLog.new bd SD D ∧ Below w.heap.size w w'
set_option maxRecDepth 100000 in
theorem lnew_any (w : World) : Calls Tryz.prog 6 #[] w (LNewPost w) := by
  have HN := Lib.hid (new_doc w)
  go_enter Tryz.func6, Tryz.ntmps6
  go_wp2_with fail
  refine HN.out.mono ?_
  rintro e w1 ⟨bd, SD, D, rfl, hd, hb⟩
  have HD := Lib.hid hd
  have HB := Lib.hid hb
  have hsz := hb.size
  clear hd hb HN
  go_wp2_with fail
  go_ret
  have hlt : bd < w1.heap.size := (HD.out.own bd HD.out.subb).2
  refine ⟨w1.heap.size, w1.heap.size :: SD, bd, SD, D, rfl, ⟨?_, HD.out.below ((Below.refl _ _).alloc (Nat.le_refl _) _), fun g hg => by simp [hg], by simp, fun hm => by have := (HD.out.own _ hm).2; omega, fun g hg => ?_⟩, HB.out.alloc HB.out.size _⟩
  · exact Blk.new w1 77 _
  · rcases List.mem_cons.1 hg with rfl | hg
    · exact ⟨hsz, by simp⟩
    · have := HD.out.own g hg
      exact ⟨this.1, by simp; omega⟩
section
variable (w : World) (B : Nat) (S : List Nat) (b : Nat) (L : LLog) (bd : Nat) (SD : List Nat) (D : DLay) (st : LDoc) (h : LogSt w B S b L bd SD D st) (ok : L.Ok)
/-- What a step of a log leaves, its document where it was. -/
def LogOn (w : World) (B : Nat) (S : List Nat) (b : Nat) (bd : Nat) (SD : List Nat) (D : DLay) (st : LDoc) (L' : LLog) (v : Value) (e : Ending) (w' : World) : Prop := e = .returned v ∧ LogSt w' B S b L' bd SD D st ∧ Only [b] w w'
include h
theorem five_ : w.cell? ⟨b, 0, none⟩ = some (.pointer (some ⟨bd, 0, none⟩)) ∧ w.cell? ⟨b, 1, none⟩ = some (.string (strOf L.bytes)) ∧ w.cell? ⟨b, 2, none⟩ = some (.int .i64 (L.safe : Nat)) ∧ w.cell? ⟨b, 3, none⟩ = some (.int .i64 L.left) ∧ w.cell? ⟨b, 4, none⟩ = some (.bool L.stopped) :=
  ⟨by rw [h.blk.cell]; rfl, by rw [h.blk.cell]; rfl, by rw [h.blk.cell]; rfl, by rw [h.blk.cell]; rfl, by rw [h.blk.cell]; rfl⟩
set_option maxRecDepth 100000 in
theorem lfail_any (n : Int) (hn0 : -9223372036854775808 ≤ n) (hn1 : n ≤ 9223372036854775807) : Calls Tryz.prog 8 #[.pointer (some ⟨b, 0, none⟩), .int .i64 n] w (LogOn w B S b bd SD D st (L.fail n) (.tuple #[])) := by
  obtain ⟨c0, c1, c2, c3, c4⟩ := five_ w B S b L bd SD D st h
  have f3 := h.blk.frozen 3
  have hmx : ∀ W, (Builtin.max_ #[3, 3] 3 #[.int .i64 (-1), .int .i64 n]).run Tryz.prog W = .ok (.int .i64 (if n < -1 then -1 else n)) W := fun W => by rw [run_max_int2]; congr 2; split <;> split <;> omega
  have HF : Hid (LogSt (w.setCell ⟨b, 3, none⟩ (.int .i64 (if n < -1 then -1 else n))) B S b (L.fail n) bd SD D st) := by
    show LogSt _ B S b _ bd SD D st
    refine LogSt.set (L' := L.fail n) h ((Only.refl [b] w).setCell (.inl (by simp)) _) ?_
    exact h.blk.set_ 3 (.int .i64 (if n < -1 then -1 else n))
  have HO : Hid (Only [b] w (w.setCell ⟨b, 3, none⟩ (.int .i64 (if n < -1 then -1 else n)))) := (Only.refl [b] w).setCell (.inl (by simp)) _
  generalize (if n < -1 then -1 else n) = m at *
  clear h
  go_enter Tryz.func8, Tryz.ntmps8
  go_wp2_with fail
  first | go_end0 | (refine bodyPost_ret (results_none rfl _ _ _) rfl ?_)
  exact ⟨rfl, HF.out, HO.out⟩
set_option maxRecDepth 100000 in
theorem ldoc_any : Calls Tryz.prog 12 #[.pointer (some ⟨b, 0, none⟩)] w (fun e w' => e = .returned (.pointer (some ⟨bd, 0, none⟩)) ∧ w' = w) := by
  obtain ⟨c0, c1, c2, c3, c4⟩ := five_ w B S b L bd SD D st h
  clear h
  go_enter Tryz.func12, Tryz.ntmps12
  go_wp2_with fail
  go_ret
  exact ⟨rfl, rfl⟩
set_option maxRecDepth 100000 in
theorem lsafe_any : Calls Tryz.prog 15 #[.pointer (some ⟨b, 0, none⟩)] w (fun e w' => e = .returned (.int .i64 (L.safe : Nat)) ∧ w' = w) := by
  obtain ⟨c0, c1, c2, c3, c4⟩ := five_ w B S b L bd SD D st h
  clear h
  go_enter Tryz.func15, Tryz.ntmps15
  go_wp2_with fail
  go_ret
  exact ⟨rfl, rfl⟩
include ok
set_option maxRecDepth 100000 in
theorem lstep_any : Calls Tryz.prog 37 #[.pointer (some ⟨b, 0, none⟩)] w (LogOn w B S b bd SD D st L.step (.bool (decide (L.left = 0)))) := by
  obtain ⟨c0, c1, c2, c3, c4⟩ := five_ w B S b L bd SD D st h
  have f3 := h.blk.frozen 3
  have f4 := h.blk.frozen 4
  obtain ⟨n, hn⟩ : ∃ n, n = L.left := ⟨_, rfl⟩
  rw [← hn] at c3
  have l0 : -1 ≤ n := by rw [hn]; exact ok.left.1
  have l1 : n ≤ 9223372036854775807 := by rw [hn]; exact ok.left.2
  have hmx : ∀ W, (Builtin.max_ #[3, 3] 3 #[.int .i64 (-1), .int .i64 (n - 1)]).run Tryz.prog W = .ok (.int .i64 (LLog.down n)) W := fun W => by rw [run_max_int2]; congr 2; unfold LLog.down; split <;> split <;> omega
  have HF : Hid (LogSt ((w.setCell ⟨b, 4, none⟩ (.bool (n == 0))).setCell ⟨b, 3, none⟩ (.int .i64 (LLog.down n))) B S b L.step bd SD D st) := by
    show LogSt _ B S b _ bd SD D st
    refine LogSt.set (L' := L.step) h (((Only.refl [b] w).setCell (.inl (by simp)) _).setCell (.inl (by simp)) _) ?_
    have := (h.blk.set_ 4 (.bool (n == 0))).set_ 3 (.int .i64 (LLog.down n))
    have e : ((L.cells bd).setIfInBounds 4 (.bool (n == 0))).setIfInBounds 3 (.int .i64 (LLog.down n)) = L.step.cells bd := by
      unfold LLog.cells LLog.step LLog.bytes
      rw [hn]
      simp
      rw [Bool.eq_iff_iff]; simp
    rw [e] at this
    exact this
  have HNL := Lib.hid hn
  clear h ok hn
  go_enter Tryz.func37, Tryz.ntmps37
  go_wp2_with fail
  go_ret
  refine ⟨?_, HF.out, ((Only.refl [b] w).setCell (.inl (by simp)) _).setCell (.inl (by simp)) _⟩
  rw [← HNL.out]
  have : decide (n = 0) = (n == 0) := by rw [Bool.eq_iff_iff]; simp
  rw [this]
  rfl
set_option maxRecDepth 100000 in
theorem lbytes_any : Calls Tryz.prog 14 #[.pointer (some ⟨b, 0, none⟩)] w (fun e w' => e = .returned (.int .i64 (L.m : Nat)) ∧ w' = w) := by
  obtain ⟨c0, c1, c2, c3, c4⟩ := five_ w B S b L bd SD D st h
  have hm : (strOf L.bytes).size = L.m := by rw [strOf_sz, ok.bytes_len]
  obtain ⟨s, hs⟩ : ∃ s, s = strOf L.bytes := ⟨_, rfl⟩
  rw [← hs] at hm c1
  have HM := Lib.hid hm
  clear h ok hs hm
  go_enter Tryz.func14, Tryz.ntmps14
  go_wp2_with fail
  go_ret
  exact ⟨by rw [← HM.out]; rfl, rfl⟩
set_option maxRecDepth 100000 in
theorem lsync_any : Calls Tryz.prog 7 #[.pointer (some ⟨b, 0, none⟩)] w (LogOn w B S b bd SD D st L.sync (errV L.syncE)) := by
  obtain ⟨c0, c1, c2, c3, c4⟩ := five_ w B S b L bd SD D st h
  have HS := Lib.hid (lstep_any w B S b L bd SD D st h ok)
  have HI := Lib.hid h
  have hm : (strOf L.bytes).size = L.m := by rw [strOf_sz, ok.bytes_len]
  have HM := Lib.hid hm
  clear ok h hm
  cases hst : L.stopped with
  | true =>
    have e1 : L.sync = L := by unfold LLog.sync; rw [if_pos hst]
    have e2 : L.syncE = 6 := by unfold LLog.syncE; rw [if_pos hst]
    rw [hst] at c4
    rw [e1, e2]
    clear e1 e2 hst
    go_enter Tryz.func7, Tryz.ntmps7
    go_wp2_with fail
    go_ret
    exact ⟨rfl, HI.out, Only.refl _ _⟩
  | false =>
    rw [hst] at c4
    by_cases hl : L.left = 0
    · have e1 : L.sync = L.step := by unfold LLog.sync LLog.step LLog.down; rw [if_neg (by simp [hst]), if_pos hl]; simp [hl]
      have e2 : L.syncE = 6 := by unfold LLog.syncE; rw [if_neg (by simp [hst]), if_pos hl]
      rw [e1, e2]
      rw [decide_eq_true hl] at HS
      clear e1 e2 hst hl
      go_enter Tryz.func7, Tryz.ntmps7
      go_wp2_with fail
      refine HS.out.mono ?_
      rintro e w1 ⟨rfl, h1, h2⟩
      have H1 := Lib.hid h1
      have H2 := Lib.hid h2
      clear h1 h2
      go_wp2_with fail
      go_ret
      exact ⟨rfl, H1.out, H2.out⟩
    · have e2 : L.syncE = 0 := by unfold LLog.syncE; rw [if_neg (by simp [hst]), if_neg hl]
      have HSY : Hid (L.sync = { L.step with safe := L.m }) := by show _ = _; unfold LLog.sync LLog.step; rw [if_neg (by simp [hst]), if_neg hl, decide_eq_false hl, hst]
      rw [e2]
      rw [decide_eq_false hl] at HS
      clear e2 hst hl
      go_enter Tryz.func7, Tryz.ntmps7
      go_wp2_with fail
      refine HS.out.mono ?_
      rintro e w1 ⟨rfl, h1, h2⟩
      have H1 := Lib.hid h1
      have H2 := Lib.hid h2
      have HMS : Hid ((strOf L.step.bytes).size = L.m) := HM.out
      obtain ⟨d0, d1, d2, d3, d4⟩ := five_ w1 B S b _ bd SD D st h1
      have f2 := h1.blk.frozen 2
      generalize strOf L.step.bytes = s at *
      have HF : Hid (LogSt (w1.setCell ⟨b, 2, none⟩ (.int .i64 (s.size : Int))) B S b L.sync bd SD D st) := by
        rw [HSY.out]
        show LogSt _ B S b _ bd SD D st
        refine LogSt.set (L' := { L.step with safe := L.m }) H1.out ((Only.refl [b] w1).setCell (.inl (by simp)) _) ?_
        rw [HMS.out]
        exact H1.out.blk.set_ 2 (.int .i64 (L.m : Nat))
      clear h1 h2
      go_wp2_with fail
      go_ret
      exact ⟨rfl, HF.out, H2.out.setCell (.inl (by simp)) _⟩
end
end Go.Proofs.YtmpkgbkdndpnlaaGreatDoor
/- (*log.Log).Put, walked. Conditions: the log is right; the op can be read, and lies apart from it. -/
namespace Go.Proofs.YtmpkgbkdndpnlaaGreatDoor
open Go.RowKit
set_option linter.unusedVariables false
def LPutPost (w : World) (B : Nat) (S : List Nat) (b : Nat) (is : Bool) (k : Int) (L : LLog) (e : Ending) (w' : World) : Prop := e = .returned (.tuple #[.bool is, errV k]) ∧ LogTo w B S b L w'
theorem docTo_of_drewN {w w' : World} {n : Nat} {B : Nat} {S : List Nat} {b : Nat} {st : LDoc} (h : DocTo (w.drewN n) B S b st w') : DocTo w B S b st w' := by
  obtain ⟨S', D', h1, h2, h3⟩ := h
  exact ⟨S', D', h1, ⟨h2.os, h2.tape, h2.output, h2.size, h2.block⟩, h3⟩
section
variable (w : World) (B : Nat) (S : List Nat) (b : Nat) (L : LLog) (bd : Nat) (SD : List Nat) (D : DLay) (h : LogIs w B S b L bd SD D) (ok : L.Ok) (o : LOp) (A : Option Addr) (c : Nat) (hp : o.place.size ≤ 9223372036854775807)
include h ok hp
set_option maxRecDepth 100000 in
set_option maxHeartbeats 8000000 in
theorem lput_any (hr : Reads w w.heap.size 2 A o.seen.length (dcells o.seen)) (hns : 0 < o.seen.length → ∀ g ∈ ob A, g ∉ S) :
    Calls Tryz.prog 9 #[.pointer (some ⟨b, 0, none⟩), o.val A c] w (LPutPost w B S b (L.putB o) (L.putE o) (L.put o)) := by
  obtain ⟨W0, hW0⟩ : ∃ W0, W0 = w.alloc (.cells (o.cells A c) 34) := ⟨_, rfl⟩
  have HBEL : Hid (Below w.heap.size w W0) := by rw [hW0]; exact (Below.refl _ _).alloc (Nat.le_refl _) _
  have HL0 : Hid (LogSt W0 B S b L bd SD D L.doc) := by rw [hW0]; exact h.below ((Below.refl _ _).alloc (Nat.le_refl _) _)
  have HX0 : Hid (Blk W0 w.heap.size 34 (o.cells A c)) := by rw [hW0]; exact Blk.new w _ _
  have HH := Lib.hid h
  have hbb := h.base
  obtain ⟨c0, c1, c2, c3, c4⟩ := five_ W0 B S b L bd SD D L.doc HL0.out
  cases hst : L.stopped with
  | true =>
    have e1 : L.put o = L := by unfold LLog.put; rw [if_pos hst]
    have e2 : L.putE o = 6 := by unfold LLog.putE; rw [if_pos hst]
    have e3 : L.putB o = false := by unfold LLog.putB; rw [hst]; rfl
    rw [hst] at c4
    rw [e1, e2, e3]
    clear e1 e2 e3 hst h ok hp hr hns
    unfold LOp.val
    unfold LOp.cells at hW0
    go_enter Tryz.func9, Tryz.ntmps9
    go_upto_region 1 with (fail)
    rw [← hW0]
    clear hW0
    go_wp2_with fail
    go_ret2
    refine ⟨rfl, S, bd, SD, D, HL0.out, Only.of_below HBEL.out, fun g hg => .inl hg⟩
  | false =>
    rw [hst] at c4
    have HSTP := Lib.hid hst
    have HDK := ok.doc_ok
    have HR0 : Reads W0 W0.heap.size 2 A o.seen.length (dcells o.seen) := by rw [hW0]; exact (hr.below ((Below.refl _ _).alloc (Nat.le_refl _) _)).more (by simp)
    have HNS : 0 < o.seen.length → ∀ g ∈ ob A, g ∉ SD := fun hn g hg hm => hns hn g hg (h.sub g hm)
    have HAP := Lib.hid (fun n => apply_doc (W0.drewN n) B SD bd L.doc D (HL0.out.drewN n).doc HDK o A c hp (HR0.drewN n) HNS)
    obtain ⟨kb, hkb⟩ : ∃ kb, kb = L.doc.applyB o := ⟨_, rfl⟩
    obtain ⟨ke, hke⟩ : ∃ ke, ke = L.doc.applyE o := ⟨_, rfl⟩
    rw [← hkb, ← hke] at HAP
    have HKB := Lib.hid hkb
    have HKE := Lib.hid hke
    have HOKL := Lib.hid ok
    have b0 := HX0.out.cell 0
    have b1 := HX0.out.cell 1
    have b2 := HX0.out.cell 2
    have b3 := HX0.out.cell 3
    have b4 := HX0.out.cell 4
    have b5 := HX0.out.cell 5
    have HRS := Lib.hid hr
    have HNS2 := Lib.hid hns
    have HP := Lib.hid hp
    have HXL : Hid (∀ w2, Only SD W0 w2 → Blk w2 w.heap.size 34 (o.cells A c) ∧ w2.cell? ⟨b, 0, none⟩ = some (.pointer (some ⟨bd, 0, none⟩))) := fun w2 ho => by
      have h1 := ho.blk HX0.out (fun hm => by have := (h.doc.own _ hm).2; omega)
      have h2 := ho.blk HL0.out.blk HL0.out.apart
      exact ⟨h1, by rw [h2.cell]; rfl⟩
    clear hst h ok hp hr hns hkb hke HR0 HNS HDK
    unfold LOp.val at *
    unfold LOp.cells at hW0 b0 b1 b2 b3 b4 b5
    simp only [List.getElem?_toArray, List.getElem?_cons_zero, List.getElem?_cons_succ] at b0 b1 b2 b3 b4 b5
    go_enter Tryz.func9, Tryz.ntmps9
    go_upto_region 1 with (fail)
    rw [← hW0]
    clear hW0
    go_upto_region 3 with (fail)
    go_cut [6, 7] (fun v k wx => v = .bool kb ∧ k = errV ke ∧ ∃ S' SD' D', Hid (LogSt wx B S' b L bd SD' D' (L.doc.apply o)) ∧ Hid (Only S W0 wx) ∧ Hid (∀ g ∈ S', g ∈ S ∨ w.heap.size ≤ g) ∧ Hid (Blk wx w.heap.size 34 (o.cells A c)))
    case first =>
      go_region_held3 (fun w' => w'.cell? ⟨b, 0, none⟩ = some (.pointer (some ⟨bd, 0, none⟩)) ∧ w'.cell? ⟨w.heap.size, 0, none⟩ = some (.int .i64 o.dot.who) ∧ w'.cell? ⟨w.heap.size, 1, none⟩ = some (.int .i64 o.dot.n) ∧ w'.cell? ⟨w.heap.size, 2, none⟩ = some (.int .i64 o.what) ∧ w'.cell? ⟨w.heap.size, 3, none⟩ = some (.string o.place) ∧ w'.cell? ⟨w.heap.size, 4, none⟩ = some (.int .i64 o.letter) ∧ w'.cell? ⟨w.heap.size, 5, none⟩ = some (.slice A o.seen.length c))
        (first | go_keep | (refine ⟨?_, ?_, ?_, ?_, ?_, ?_, ?_⟩ <;> assumption))
        ((go_at_call 33; refine (HAP.out 1).mono ?_; rintro en w2 ⟨rfl, hdt⟩
          have hdt' := docTo_of_drewN hdt
          obtain ⟨S2, SD2, D2, h1, h2, h3, h4⟩ := HL0.out.turn hdt'
          have H1 := Lib.hid h1
          have H2 := Lib.hid h2
          have H3 := Lib.hid h3
          have H4 := Lib.hid (HXL.out w2 h4)
          have x0 := H4.out.2
          have y0 : w2.cell? ⟨w.heap.size, 0, none⟩ = some (.int .i64 o.dot.who) := by rw [H4.out.1.cell]; rfl
          have y1 : w2.cell? ⟨w.heap.size, 1, none⟩ = some (.int .i64 o.dot.n) := by rw [H4.out.1.cell]; rfl
          have y2 : w2.cell? ⟨w.heap.size, 2, none⟩ = some (.int .i64 o.what) := by rw [H4.out.1.cell]; rfl
          have y3 : w2.cell? ⟨w.heap.size, 3, none⟩ = some (.string o.place) := by rw [H4.out.1.cell]; rfl
          have y4 : w2.cell? ⟨w.heap.size, 4, none⟩ = some (.int .i64 o.letter) := by rw [H4.out.1.cell]; rfl
          have y5 : w2.cell? ⟨w.heap.size, 5, none⟩ = some (.slice A o.seen.length c) := by rw [H4.out.1.cell]; rfl
          clear hdt hdt' h1 h2 h3 h4))
      go_wp2_with fail
      go_meet
      case rel =>
        refine ⟨rfl, rfl, S2, SD2, D2, H1, H2, fun g hg => ?_, Lib.hid H4.out.1⟩
        rcases H3.out g hg with h5 | h5
        · exact .inl h5
        · exact .inr (Nat.le_trans HBEL.out.size h5)
    case rest =>
      obtain ⟨rfl, rfl, S2, SD2, D2, H1, H2, H3, H4⟩ := hcut
      clear HXL HAP c0 c1 c2 c3 c4 b0 b1 b2 b3 b4 b5 HX0 HL0
      have HO2 : Hid (Only S w wc) := (Only.of_below HBEL.out).trans H2.out
      by_cases hkz : ke = 0
      · rw [show errV ke = .nilIface by rw [hkz]; rfl]
        cases kb with
        | false =>
          have hsame : L.doc.apply o = L.doc := by unfold LDoc.apply; rw [← HKB.out]; rfl
          have e1 : L.put o = L := by unfold LLog.put; rw [if_neg (by rw [HSTP.out]; decide), if_pos HKB.out.symm]
          have e2 : L.putE o = 0 := by unfold LLog.putE; rw [if_neg (by rw [HSTP.out]; decide), if_neg (by rw [← HKE.out]; simp [hkz]), if_pos HKB.out.symm]
          have e3 : L.putB o = false := by unfold LLog.putB; rw [← HKB.out]; simp
          rw [hsame] at H1
          have HE : Hid (L.put o = L ∧ L.putE o = 0 ∧ L.putB o = false) := ⟨e1, e2, e3⟩
          clear hsame e1 e2 e3 hkz
          go_wp2_with fail
          go_ret2
          rw [HE.out.1, HE.out.2.1, HE.out.2.2]
          exact ⟨rfl, S2, bd, SD2, D2, H1.out, HO2.out, H3.out⟩
        | true =>
          have hkb := HKB.out.symm
          have HPG := Lib.hid (fun hl => LLog.put_go HOKL.out HSTP.out hkb hl)
          have HPS := Lib.hid (fun hl => LLog.put_stop HOKL.out HSTP.out hkb hl)
          have hoe : opErr o = 0 := Goes.errs (d := L.doc) (l := [o]) ⟨hkb, trivial⟩ o (by simp)
          have hobl := opBytes_len hoe
          have HEN := Lib.hid (encode_any wc A c o (Reads.only HRS.out HO2.out HNS2.out) HP.out)
          unfold EncPost at HEN
          rw [hoe, show encRes o = strOf (opBytes o) by rw [encRes, if_pos hoe], show errV 0 = .nilIface from rfl] at HEN
          obtain ⟨n, hn⟩ : ∃ n, n = (opBytes o).length := ⟨_, rfl⟩
          obtain ⟨ob, hob⟩ : ∃ ob, ob = strOf (opBytes o) := ⟨_, rfl⟩
          have hobz : ob.size = n := by rw [hob, strOf_sz, hn]
          rw [← hob] at HEN
          have HOBZ := Lib.hid hobz
          have hcat : strOf (twoB n) ++ ob = strOf (logOp o) := by
            rw [hob, hn]
            apply ByteArray.ext
            rw [ByteArray.data_append]
            apply Array.ext'
            simp [strOf, logOp]
          have HCAT := Lib.hid hcat
          have b0 := H4.out.cell 0
          have b1 := H4.out.cell 1
          have b2 := H4.out.cell 2
          have b3 := H4.out.cell 3
          have b4 := H4.out.cell 4
          have b5 := H4.out.cell 5
          unfold LOp.cells at b0 b1 b2 b3 b4 b5
          unfold LOp.val at HEN
          simp only [List.getElem?_toArray, List.getElem?_cons_zero, List.getElem?_cons_succ] at b0 b1 b2 b3 b4 b5
          have hn9 : n ≤ 139 := by omega
          have HLN : Hid ((logOp o).length = 2 + n) := by show _ = _; rw [logOp_len, ← hn]
          clear hkb hoe hobl hn hob hobz hcat hkz HRS HNS2 HP
          go_wp2_with fail
          refine HEN.out.mono ?_
          rintro en w3 ⟨rfl, hb3⟩
          have HL3 := Lib.hid (H1.out.below hb3)
          have HB3 := Lib.hid hb3
          clear hb3 b0 b1 b2 b3 b4 b5 HEN
          obtain ⟨ni, hni⟩ : ∃ ni : Int, ni = (ob.size : Int) := ⟨_, rfl⟩
          have n0 : 0 ≤ ni := by rw [hni]; omega
          have n1 : ni ≤ 139 := by rw [hni, HOBZ.out]; omega
          have hnn : ni = (n : Int) := by rw [hni, HOBZ.out]
          have a0 : (0 : Int) ≤ ni / 256 := by omega
          have a1 : ni / 256 ≤ 255 := by omega
          have a3 : ni % 256 = ni := by omega
          have hfr := Own.fresh w3 0 (Nat.zero_le _) (twoB n) (by simp [twoB]) #[.int .u8 (ni / 256), .int .u8 ni] (by
            have e1 := u8_val a0 a1
            have e2 := u8_val n0 (show ni ≤ 255 by omega)
            simp [bs, twoB, ← hnn, a3, e1, e2])
          have hcv := conv_own hfr
          have hl2 : (twoB n).length = 2 := rfl
          rw [hl2] at hcv
          obtain ⟨pre, hpre⟩ : ∃ pre, pre = strOf (twoB n) := ⟨_, rfl⟩
          rw [← hpre] at hcv
          have hpz : pre.size = 2 := by rw [hpre, strOf_sz, hl2]
          have hobz2 := HOBZ.out
          have hsum : ¬ 9223372036854775807 < pre.size + ob.size := by omega
          have hsum2 : pre.size + ob.size ≤ 9223372036854775807 := by omega
          have HCAT2 : Hid (pre ++ ob = strOf (logOp o)) := by show _ = _; rw [hpre]; exact HCAT.out
          clear hpz hpre hobz2
          obtain ⟨W4, hW4⟩ : ∃ W4, W4 = w3.alloc (.cells #[.int .u8 (ni / 256), .int .u8 ni] 5) := ⟨_, rfl⟩
          clear hfr hl2 hnn a3
          subst hni
          have HL4 : Hid (LogSt W4 B S2 b L bd SD2 D2 (L.doc.apply o)) := by rw [hW4]; exact HL3.out.below ((Below.refl _ _).alloc (Nat.le_refl _) _)
          have HO4 : Hid (Only S w W4) := by rw [hW4]; exact (HO2.out.below_step HB3.out).alloc _
          go_upto_region 10 with (fail)
          rw [← hW4, HCAT2.out]
          clear hW4 hcv n0 n1 a0 a1 hsum hsum2
          clear HL3 HB3 HO2 H1 H2 H4 HCAT HCAT2
          obtain ⟨sl, hsl⟩ : ∃ sl, sl = strOf (logOp o) := ⟨_, rfl⟩
          have hslz : sl.size = 2 + n := by rw [hsl, strOf_sz, HLN.out]
          rw [← hsl]
          have HSL := Lib.hid hsl
          clear hsl
          have HSP := Lib.hid (lstep_any W4 B S2 b L bd SD2 D2 _ HL4.out HOKL.out)
          go_wp2_with fail
          refine HSP.out.mono ?_
          rintro en w5 ⟨rfl, h1, h2⟩
          have HO5 : Hid (Only S w w5) := HO4.out.trans_new h2 (fun i hi => by simp at hi; subst hi; exact .inl HH.out.subb)
          have HL5 := Lib.hid h1
          clear h1 h2 HSP HL4 HO4
          obtain ⟨c0, c1', c2, c3, c4⟩ := five_ w5 B S2 b L.step bd SD2 D2 _ HL5.out
          have hbz : (strOf L.bytes).size ≤ 56400 := by rw [strOf_sz, HOKL.out.bytes_len]; exact HOKL.out.m_small
          have c1 : w5.cell? ⟨b, 1, none⟩ = some (.string (strOf L.bytes)) := c1'
          clear c1'
          obtain ⟨bsx, hbs⟩ : ∃ bsx, bsx = strOf L.bytes := ⟨_, rfl⟩
          rw [← hbs] at c1 hbz
          have HBS := Lib.hid hbs
          have hsum : ¬ 9223372036854775807 < bsx.size + sl.size := by omega
          have hsum2 : bsx.size + sl.size ≤ 9223372036854775807 := by omega
          have h141 : sl.size ≤ 141 := by omega
          clear hslz
          by_cases hl : L.left = 0
          · obtain ⟨q1, q2, q3, q4, q5⟩ := HPS.out hl
            rw [decide_eq_true hl]
            have HQ4 := Lib.hid q4
            have HQ5 := Lib.hid q5
            have HRE := Lib.hid (redo_any w5 L.bytes (by rw [HOKL.out.bytes_len]; have := HOKL.out.m_small; omega))
            rw [← hbs] at HRE
            have HQ2 := Lib.hid q2
            have HQ1 := Lib.hid q1
            have HLZ := Lib.hid hl
            have HQ3 := Lib.hid q3
            clear hl hbs q1 q2 q3 q4 q5 HPG HPS
            go_wp2_with fail
            refine HRE.out.mono ?_
            rintro en w6 ⟨bn, Sn, Dn, rfl, hdn, hb6⟩
            have HDN := Lib.hid hdn
            have HB6 := Lib.hid hb6
            have HBK := Lib.hid (HL5.out.blk.below hb6 HL5.out.base.2)
            have x0 : w6.cell? ⟨b, 0, none⟩ = some (.pointer (some ⟨bd, 0, none⟩)) := by rw [HBK.out.cell]; rfl
            have f0 := HBK.out.frozen 0
            have x1 : (w6.setCell ⟨b, 0, none⟩ (.pointer (some ⟨bn, 0, none⟩))).cell? ⟨b, 1, none⟩ = some (.string bsx) := by
              have := (HBK.out.set_ 0 (.pointer (some ⟨bn, 0, none⟩))).cell 1
              rw [this, HBS.out]; rfl
            have f1 := (HBK.out.set_ 0 (.pointer (some ⟨bn, 0, none⟩))).frozen 1
            obtain ⟨W7, hW7⟩ : ∃ W7, W7 = w6.setCell ⟨b, 0, none⟩ (.pointer (some ⟨bn, 0, none⟩)) := ⟨_, rfl⟩
            rw [← hW7] at x1 f1
            have HBK7 : Hid (Blk W7 b 77 ((L.step.cells bd).setIfInBounds 0 (.pointer (some ⟨bn, 0, none⟩)))) := by rw [hW7]; exact HBK.out.set_ 0 _
            have HO7 : Hid (Only [b] w6 W7) := by rw [hW7]; exact (Only.refl [b] w6).setCell (.inl (by simp)) _
            have hex : sl.extract 0 (sl.size / 2) = strOf ((logOp o).take ((logOp o).length / 2)) := by
              rw [HSL.out, strOf_ext, strOf_sz]; rfl
            have HEX := Lib.hid hex
            clear hex
            have h20 : (0 : Int) ≤ (sl.size : Int) / 2 := by omega
            have h21 : (sl.size : Int) / 2 ≤ (sl.size : Int) := by omega
            have h22 : ((sl.size : Int) / 2).toNat = sl.size / 2 := by omega
            have h23 : (sl.size : Int) ≤ 141 := by omega
            clear hdn hb6 HRE c0 c1 c2 c3 c4
            go_upto_region 12 with (fail)
            rw [← hW7]
            clear hW7 x0 f0
            go_region
            have hcc : bsx ++ sl.extract 0 (sl.size / 2) = strOf (L.put o).bytes := by
              rw [HEX.out, HQ3.out, HBS.out]
              apply ByteArray.ext
              rw [ByteArray.data_append]
              apply Array.ext'
              simp [strOf]
            have HCC := Lib.hid hcc
            clear hcc h20 h21 h22 h23 x1 f1
            go_wp2_with fail
            go_ret2
            rw [HQ4.out, HQ5.out]
            have hblk : Blk ((W7.setCell ⟨b, 1, none⟩ (.string (bsx ++ sl.extract 0 (sl.size / 2)))).drew) b 77 ((L.put o).cells bn) := by
              have h3 := HBK7.out.set_ 1 (.string (bsx ++ sl.extract 0 (sl.size / 2)))
              rw [HCC.out] at h3 ⊢
              have e : ((L.step.cells bd).setIfInBounds 0 (.pointer (some ⟨bn, 0, none⟩))).setIfInBounds 1 (.string (strOf (L.put o).bytes)) = (L.put o).cells bn := by
                unfold LLog.cells
                rw [HQ1.out]
                unfold LLog.step LLog.down
                rw [HLZ.out]
                rfl
              rw [e] at h3
              exact h3
            have hbw : B ≤ w5.heap.size := by have := HL5.out.base; omega
            obtain ⟨k1, k2, k3⟩ := LogSt.lay (L' := L.put o) HL5.out hbw HB6.out HDN.out ((HO7.out.setCell (.inl (by simp)) _).drew) hblk
            refine ⟨rfl, b :: Sn, bn, Sn, Dn, ?_, ?_, ?_⟩
            · show LogSt _ B _ b _ bn Sn Dn (L.put o).doc
              rw [HQ2.out]
              exact k1
            · exact HO5.out.trans_new k2 (fun i hi => H3.out i hi)
            · intro g hg
              rcases k3 g hg with h5 | h5
              · exact H3.out g h5
              · exact .inr (Nat.le_trans HO5.out.size h5)
          · obtain ⟨q1, q2, q3, q4, q5⟩ := HPG.out hl
            rw [decide_eq_false hl]
            have HQ4 := Lib.hid q4
            have HQ5 := Lib.hid q5
            have f1 := HL5.out.blk.frozen 1
            have hdl : decide (L.left = 0) = false := decide_eq_false hl
            clear hl hbs
            have HF : Hid (LogIs (w5.setCell ⟨b, 1, none⟩ (.string (bsx ++ sl))) B S2 b (L.put o) bd SD2 D2) := by
              show LogSt _ B S2 b _ bd SD2 D2 (L.put o).doc
              rw [q2]
              refine LogSt.set (L' := L.put o) HL5.out ((Only.refl [b] w5).setCell (.inl (by simp)) _) ?_
              have h3 := HL5.out.blk.set_ 1 (.string (bsx ++ sl))
              have h4 : bsx ++ sl = strOf (L.put o).bytes := by
                rw [q3, HBS.out, HSL.out]
                apply ByteArray.ext
                rw [ByteArray.data_append]
                apply Array.ext'
                simp [strOf]
              rw [h4] at h3 ⊢
              have e : (L.step.cells bd).setIfInBounds 1 (.string (strOf (L.put o).bytes)) = (L.put o).cells bd := by
                unfold LLog.cells
                rw [q1]
                unfold LLog.step
                rw [hdl]
                rfl
              rw [e] at h3
              exact h3
            clear q1 q2 q3 q4 q5 HPG HPS hdl
            go_wp2_with fail
            go_ret2
            rw [HQ4.out, HQ5.out]
            exact ⟨rfl, S2, bd, SD2, D2, HF.out, HO5.out.setCell (.inl HH.out.subb) _, H3.out⟩
      · have hkb : kb = false := by
          rcases LDoc.apply_three (d := L.doc) o with ⟨_, h1, _⟩ | ⟨_, h1, _⟩ | ⟨_, h1, _⟩
          · exact absurd (HKE.out.trans h1) hkz
          · exact absurd (HKE.out.trans h1) hkz
          · exact HKB.out.trans h1
        have hsame : L.doc.apply o = L.doc := by unfold LDoc.apply; rw [← HKB.out, hkb]; rfl
        have e1 : L.put o = L := by unfold LLog.put; rw [if_neg (by rw [HSTP.out]; decide), if_pos (HKB.out.symm.trans hkb)]
        have e2 : L.putE o = ke := by unfold LLog.putE; rw [if_neg (by rw [HSTP.out]; decide), if_pos (by rw [← HKE.out]; exact hkz), HKE.out]
        have e3 : L.putB o = false := by unfold LLog.putB; rw [← HKB.out, hkb]; simp
        rw [hsame] at H1
        have HE : Hid (L.put o = L ∧ L.putE o = ke ∧ L.putB o = false) := ⟨e1, e2, e3⟩
        have HEV : Hid (errV ke = .iface 79 (.int .i64 ke)) := by show _ = _; rw [errV, if_neg hkz]
        rw [HEV.out]
        clear hsame e1 e2 e3 hkz hkb
        go_wp2_with fail
        go_ret2
        rw [HE.out.1, HE.out.2.1, HE.out.2.2]
        exact ⟨by rw [HEV.out]; rfl, S2, bd, SD2, D2, H1.out, HO2.out, H3.out⟩
end
end Go.Proofs.YtmpkgbkdndpnlaaGreatDoor
/- (*log.Log).Crash, walked. Conditions: the log is right. -/
namespace Go.Proofs.YtmpkgbkdndpnlaaGreatDoor
open Go.RowKit
set_option linter.unusedVariables false
section
variable (w : World) (B : Nat) (S : List Nat) (b : Nat) (L : LLog) (bd : Nat) (SD : List Nat) (D : DLay) (h : LogIs w B S b L bd SD D) (ok : L.Ok)
include h ok
set_option maxRecDepth 100000 in
set_option maxHeartbeats 8000000 in
theorem lcrash_any (keep : Int) (hk0 : -9223372036854775808 ≤ keep) (hk1 : keep ≤ 9223372036854775807) :
    Calls Tryz.prog 11 #[.pointer (some ⟨b, 0, none⟩), .int .i64 keep] w (fun e w' => e = .returned (.tuple #[]) ∧ LogTo w B S b (L.crash keep) w') := by
  obtain ⟨c0, c1, c2, c3, c4⟩ := five_ w B S b L bd SD D L.doc h
  have hbz : (strOf L.bytes).size = L.m := by rw [strOf_sz, ok.bytes_len]
  have hms := ok.m_small
  have hsf := ok.safe
  obtain ⟨s, hs⟩ : ∃ s, s = strOf L.bytes := ⟨_, rfl⟩
  rw [← hs] at c1 hbz
  obtain ⟨sf, hsfe⟩ : ∃ sf, sf = L.safe := ⟨_, rfl⟩
  rw [← hsfe] at c2 hsf
  obtain ⟨r, hr⟩ : ∃ r : Int, r = min keep ((s.size : Int) - (sf : Int)) := ⟨_, rfl⟩
  obtain ⟨q, hq⟩ : ∃ q : Int, q = max 0 r := ⟨_, rfl⟩
  have hmn : ∀ W, (Builtin.min_ #[3, 3] 3 #[.int .i64 keep, .int .i64 ((s.size : Int) - (sf : Int))]).run Tryz.prog W = .ok (.int .i64 r) W := fun W => by rw [run_min_int2, hr]; congr 2; split <;> omega
  have hmx : ∀ W, (Builtin.max_ #[3, 3] 3 #[.int .i64 0, .int .i64 r]).run Tryz.prog W = .ok (.int .i64 q) W := fun W => by rw [run_max_int2, hq]; congr 2; split <;> omega
  have hhigh : L.high keep = ((sf : Int) + q).toNat := by
    unfold LLog.high
    rw [← hsfe, hq, hr, hbz]
    omega
  have hhl := LLog.high_le ok keep
  obtain ⟨k, hk⟩ : ∃ k, k = L.high keep := ⟨_, rfl⟩
  have q0 : 0 ≤ q := by omega
  have q1 : (sf : Int) + q ≤ (s.size : Int) := by omega
  have q2 : ((sf : Int) + q).toNat = k := by rw [hk, hhigh]
  have q3 : (0 : Int) ≤ (sf : Int) + q := by omega
  have q4 : (s.size : Int) ≤ 56400 := by omega
  have q5 : (sf : Int) ≤ (s.size : Int) := by omega
  have q6 : (0 : Int) ≤ (sf : Int) := by omega
  have hex : s.extract 0 k = strOf (L.bytes.take k) := by rw [hs, strOf_ext]; rfl
  have HEX := Lib.hid hex
  have hred := ok.redo (k := k) (by rw [hk]; exact hhl)
  have HRED := Lib.hid hred
  have HK := Lib.hid hk
  have HI := Lib.hid h
  have HOK := Lib.hid ok
  have HRE := Lib.hid (fun W => redo_any W (L.bytes.take k) (by rw [List.length_take, ok.bytes_len]; omega))
  unfold RedoPost at HRE
  rw [hred] at HRE
  clear hs hsfe hr hq hhigh hhl hk hex hred h ok hbz hms hsf
  go_enter Tryz.func11, Tryz.ntmps11
  go_wp2_with fail
  go_region
  rw [HEX.out]
  obtain ⟨t, ht⟩ : ∃ t, t = strOf (L.bytes.take k) := ⟨_, rfl⟩
  have hwm := whole_min L.all k
  obtain ⟨al, hal⟩ : ∃ al, al = L.all.take (whole L.all k) := ⟨_, rfl⟩
  obtain ⟨n, hn⟩ : ∃ n, n = (packBody al).length := ⟨_, rfl⟩
  have hkm : k ≤ L.m := by rw [HK.out]; exact LLog.high_le HOK.out keep
  have hbt : L.bytes.take k = (packBody L.all).take k := by unfold LLog.bytes; rw [List.take_take, Nat.min_eq_left hkm]
  have htn : t.extract 0 n = strOf (packBody al) := by
    rw [ht, strOf_ext, hbt, hn, hal, hwm]; rfl
  have hnt : n ≤ t.size := by
    rw [ht, strOf_sz, hbt, hn, hal, ← hwm, List.length_take]
    exact Nat.min_le_right _ _
  have hts : t.size ≤ 56400 := by rw [ht, strOf_sz, List.length_take, HOK.out.bytes_len]; have := HOK.out.m_small; omega
  have HC : Hid (L.crash keep = ⟨al, n, n, -1, false⟩) := by show _ = _; unfold LLog.crash; rw [← HK.out, ← hal, ← hn]
  have HCD : Hid ((L.crash keep).doc = LDoc.new.all al) := by
    show _ = _
    rw [HC.out]
    unfold LLog.doc LLog.kept
    simp only
    rw [whole_all _ _ (by rw [hn]; exact Nat.le_refl _), List.take_length]
  have HCB : Hid ((L.crash keep).bytes = packBody al) := by
    show _ = _
    rw [HC.out]
    unfold LLog.bytes
    simp only
    rw [hn, List.take_length]
  rw [← hal, ← hn, ← ht] at HRE
  rw [← ht]
  have HTN := Lib.hid htn
  have HI1 : Hid (LogSt w.drew B S b L bd SD D L.doc) := HI.out.drewN 1
  have HO1 : Hid (Only S w w.drew) := (Only.refl S w).drew
  clear c0 c1 c2 c3 c4 hmn hmx q0 q1 q2 q3 q4 q5 q6 hwm hn hal hbt htn hkm ht HEX HRED
  generalize w.drew = W1 at *
  go_wp2_with fail
  refine (HRE.out W1).mono ?_
  rintro en w2 ⟨bn, Sn, Dn, rfl, hdn, hb2⟩
  have HDN := Lib.hid hdn
  have HB2 := Lib.hid hb2
  have HBK := Lib.hid (HI1.out.blk.below hb2 HI1.out.base.2)
  have x0 := HBK.out.cell 0
  have x1 := HBK.out.cell 1
  have x2 := HBK.out.cell 2
  have x3 := HBK.out.cell 3
  have x4 := HBK.out.cell 4
  have f0 := HBK.out.frozen 0
  have f1 := HBK.out.frozen 1
  have f2 := HBK.out.frozen 2
  have f3 := HBK.out.frozen 3
  have f4 := HBK.out.frozen 4
  unfold LLog.cells at x0 x1 x2 x3 x4
  simp only [List.getElem?_toArray, List.getElem?_cons_zero, List.getElem?_cons_succ] at x0 x1 x2 x3 x4
  have n0 : (n : Int) ≤ (t.size : Int) := by omega
  have n1 : (0 : Int) ≤ (n : Int) := by omega
  have n2 : (n : Int) ≤ 56400 := by omega
  have n3 : (n : Int).toNat = n := by omega
  clear hdn hb2 HRE
  go_wp2_with fail
  go_region
  go_wp2_with fail
  first | go_end0 | (refine bodyPost_ret (results_none rfl _ _ _) rfl ?_)
  refine ⟨rfl, ?_⟩
  have hblk : Blk (((((w2.setCell ⟨b, 0, none⟩ (.pointer (some ⟨bn, 0, none⟩))).setCell ⟨b, 1, none⟩ (.string (t.extract 0 n))).setCell ⟨b, 2, none⟩ (.int .i64 (n : Int))).setCell ⟨b, 3, none⟩ (.int .i64 (-1))).setCell ⟨b, 4, none⟩ (.bool false)).drew b 77 ((L.crash keep).cells bn) := by
    have h3 := ((((HBK.out.set_ 0 (.pointer (some ⟨bn, 0, none⟩))).set_ 1 (.string (t.extract 0 n))).set_ 2 (.int .i64 (n : Int))).set_ 3 (.int .i64 (-1))).set_ 4 (.bool false)
    have e : (L.crash keep).cells bn = #[.pointer (some ⟨bn, 0, none⟩), .string (t.extract 0 n), .int .i64 (n : Int), .int .i64 (-1), .bool false] := by
      unfold LLog.cells
      rw [HCB.out, HTN.out, HC.out]
    rw [e]
    exact h3
  have ho : Only [b] w2 (((((w2.setCell ⟨b, 0, none⟩ (.pointer (some ⟨bn, 0, none⟩))).setCell ⟨b, 1, none⟩ (.string (t.extract 0 n))).setCell ⟨b, 2, none⟩ (.int .i64 (n : Int))).setCell ⟨b, 3, none⟩ (.int .i64 (-1))).setCell ⟨b, 4, none⟩ (.bool false)).drew :=
    ((((((Only.refl [b] w2).setCell (.inl (by simp)) _).setCell (.inl (by simp)) _).setCell (.inl (by simp)) _).setCell (.inl (by simp)) _).setCell (.inl (by simp)) _).drew
  have hbw : B ≤ W1.heap.size := by have := HI1.out.base; omega
  obtain ⟨k1, k2, k3⟩ := LogSt.lay (L' := L.crash keep) HI1.out hbw HB2.out HDN.out ho hblk
  refine ⟨b :: Sn, bn, Sn, Dn, ?_, HO1.out.trans_new k2 (fun i hi => .inl hi), ?_⟩
  · show LogSt _ B _ b _ bn Sn Dn (L.crash keep).doc
    rw [HCD.out]
    exact k1
  · intro g hg
    rcases k3 g hg with h5 | h5
    · exact .inl h5
    · exact .inr (Nat.le_trans HO1.out.size h5)
end
end Go.Proofs.YtmpkgbkdndpnlaaGreatDoor
/- A log in a law: its steps, each in one sentence. Conditions: none of our own. -/
namespace Go.Proofs.YtmpkgbkdndpnlaaGreatDoor
open Go.RowKit
set_option linter.unusedVariables false
/-- A block that is known whole. -/
structure KBlk where
  g : Nat
  t : TypeId
  cs : Array Value
/-- A log of the call's own, all of it from B on; blocks beside it. -/
def LScene (w : World) (B b : Nat) (L : LLog) (X : List KBlk) (wr : World) : Prop := L.Ok ∧ w.heap.size ≤ B ∧ Below w.heap.size w wr ∧ ∃ S bd SD D, LogIs wr B S b L bd SD D ∧ ∀ x ∈ X, Blk wr x.g x.t x.cs ∧ x.g ∉ S
namespace LScene
variable {w wr w' : World} {B b : Nat} {L L' : LLog} {X : List KBlk}
theorem ok (h : LScene w B b L X wr) : L.Ok := h.1
theorem below (h : LScene w B b L X wr) : Below w.heap.size w wr := h.2.2.1
theorem step (h : LScene w B b L X wr) (hb : Below wr.heap.size wr w') : LScene w B b L X w' := by
  obtain ⟨h1, h2, h3, S, bd, SD, D, h4, h5⟩ := h
  exact ⟨h1, h2, h3.trans (hb.mono h3.size), S, bd, SD, D, h4.below hb, fun x hx => ⟨(h5 x hx).1.below hb (h5 x hx).1.lt, (h5 x hx).2⟩⟩
/-- A block more. -/
theorem lay (h : LScene w B b L X wr) (t : TypeId) (cs : Array Value) : LScene w B b L (⟨wr.heap.size, t, cs⟩ :: X) (wr.alloc (.cells cs t)) := by
  have hb : Below wr.heap.size wr (wr.alloc (.cells cs t)) := (Below.refl _ _).alloc (Nat.le_refl _) _
  obtain ⟨h1, h2, h3, S, bd, SD, D, h4, h5⟩ := h
  refine ⟨h1, h2, h3.trans (hb.mono h3.size), S, bd, SD, D, h4.below hb, fun x hx => ?_⟩
  rcases List.mem_cons.1 hx with rfl | hx
  · exact ⟨Blk.new wr t cs, fun hm => by have := (h4.own _ hm).2; simp at this⟩
  · exact ⟨(h5 x hx).1.below hb (h5 x hx).1.lt, (h5 x hx).2⟩
theorem blk (h : LScene w B b L X wr) {x : KBlk} (hx : x ∈ X) : Blk wr x.g x.t x.cs := by
  obtain ⟨h1, h2, h3, S, bd, SD, D, h4, h5⟩ := h
  exact (h5 x hx).1
theorem make (hw : Below w.heap.size w wr) {e : Ending} (hp : LNewPost wr e w') : ∃ b, e = .returned (.pointer (some ⟨b, 0, none⟩)) ∧ LScene w wr.heap.size b LLog.new [] w' := by
  obtain ⟨b, S, bd, SD, D, rfl, h1, h2⟩ := hp
  exact ⟨b, rfl, LLog.new_ok, hw.size, hw.trans (h2.mono hw.size), S, bd, SD, D, h1, by simp⟩
theorem gone (h : LScene w B b L X wr) (ok : L'.Ok) {S : List Nat} (hS : ∀ g ∈ S, B ≤ g) (hX : ∀ x ∈ X, x.g ∉ S) (ht : LogTo wr B S b L' w') : LScene w B b L' X w' := by
  obtain ⟨h1, h2, h3, S0, bd0, SD0, D0, _, h5⟩ := h
  obtain ⟨S', bd, SD, D, k1, k2, k3⟩ := ht
  refine ⟨ok, h2, h3.trans (k2.below h3.size (fun i hi => Nat.le_trans h2 (hS i hi))), S', bd, SD, D, k1, fun x hx => ⟨k2.blk (h5 x hx).1 (hX x hx), fun hm => ?_⟩⟩
  rcases k3 _ hm with h | h
  · exact hX x hx h
  · have := (h5 x hx).1.lt; omega
theorem put (h : LScene w B b L X wr) (o : LOp) (A : Option Addr) (c : Nat) (hp : o.place.size ≤ 9223372036854775807) (hr : Reads w w.heap.size 2 A o.seen.length (dcells o.seen)) :
    Calls Tryz.prog 9 #[.pointer (some ⟨b, 0, none⟩), o.val A c] wr (fun e w' => e = .returned (.tuple #[.bool (L.putB o), errV (L.putE o)]) ∧ LScene w B b (L.put o) X w') := by
  obtain ⟨h1, h2, h3, S, bd, SD, D, h4, h5⟩ := id h
  have hS : ∀ g ∈ S, B ≤ g := fun g hg => (h4.own g hg).1
  refine (lput_any wr B S b L bd SD D h4 h1 o A c hp ((hr.below h3).more h3.size) (fun hn g hg hm => ?_)).mono ?_
  · exact hr.far (S := S) (fun g hg => Nat.le_trans h2 (hS g hg)) hn g hg hm
  · rintro e w' ⟨rfl, ht⟩
    exact ⟨rfl, h.gone (h1.put o) hS (fun x hx => (h5 x hx).2) ht⟩
theorem put0 (h : LScene w B b L X wr) (o : LOp) (hs : o.seen = []) (hp : o.place.size ≤ 9223372036854775807) :
    Calls Tryz.prog 9 #[.pointer (some ⟨b, 0, none⟩), o.val none 0] wr (fun e w' => e = .returned (.tuple #[.bool (L.putB o), errV (L.putE o)]) ∧ LScene w B b (L.put o) X w') :=
  h.put o none 0 hp (by rw [hs]; exact (Own.nil w w.heap.size 31 2).reads)
theorem on (h : LScene w B b L X wr) (ok : L'.Ok) {S SD : List Nat} {bd : Nat} {D : DLay} {v : Value} {e : Ending} (hb : b ∈ S) (hS : ∀ g ∈ S, B ≤ g) (hX : ∀ x ∈ X, x.g ∉ S) (hd : L'.doc = L.doc) (ht : LogOn wr B S b bd SD D L.doc L' v e w') : e = .returned v ∧ LScene w B b L' X w' := by
  obtain ⟨rfl, k1, k2⟩ := ht
  refine ⟨rfl, h.gone ok hS hX ⟨S, bd, SD, D, ?_, k2.mono (fun i hi => by simp at hi; subst hi; exact .inl hb), fun g hg => .inl hg⟩⟩
  show LogSt _ B S b L' bd SD D L'.doc
  rw [hd]
  exact k1
theorem sync (h : LScene w B b L X wr) : Calls Tryz.prog 7 #[.pointer (some ⟨b, 0, none⟩)] wr (fun e w' => e = .returned (errV L.syncE) ∧ LScene w B b L.sync X w') := by
  obtain ⟨h1, h2, h3, S, bd, SD, D, h4, h5⟩ := id h
  refine (lsync_any wr B S b L bd SD D L.doc h4 h1).mono ?_
  intro e w' ht
  refine h.on h1.sync h4.subb (fun g hg => (h4.own g hg).1) (fun x hx => (h5 x hx).2) ?_ ht
  unfold LLog.sync
  split
  · rfl
  split <;> rfl
theorem fail (h : LScene w B b L X wr) (n : Int) (hn0 : -9223372036854775808 ≤ n) (hn1 : n ≤ 9223372036854775807) : Calls Tryz.prog 8 #[.pointer (some ⟨b, 0, none⟩), .int .i64 n] wr (fun e w' => e = .returned (.tuple #[]) ∧ LScene w B b (L.fail n) X w') := by
  obtain ⟨h1, h2, h3, S, bd, SD, D, h4, h5⟩ := id h
  refine (lfail_any wr B S b L bd SD D L.doc h4 n hn0 hn1).mono ?_
  intro e w' ht
  exact h.on (h1.fail hn1) h4.subb (fun g hg => (h4.own g hg).1) (fun x hx => (h5 x hx).2) rfl ht
theorem crash (h : LScene w B b L X wr) (keep : Int) (hk0 : -9223372036854775808 ≤ keep) (hk1 : keep ≤ 9223372036854775807) : Calls Tryz.prog 11 #[.pointer (some ⟨b, 0, none⟩), .int .i64 keep] wr (fun e w' => e = .returned (.tuple #[]) ∧ LScene w B b (L.crash keep) X w') := by
  obtain ⟨h1, h2, h3, S, bd, SD, D, h4, h5⟩ := id h
  refine (lcrash_any wr B S b L bd SD D h4 h1 keep hk0 hk1).mono ?_
  rintro e w' ⟨rfl, ht⟩
  exact ⟨rfl, h.gone (h1.crash keep) (fun g hg => (h4.own g hg).1) (fun x hx => (h5 x hx).2) ht⟩
/-- Its document, asked for a part of it. -/
theorem doc (h : LScene w B b L X wr) : Calls Tryz.prog 12 #[.pointer (some ⟨b, 0, none⟩)] wr (fun e w' => ∃ bd SD D, e = .returned (.pointer (some ⟨bd, 0, none⟩)) ∧ w' = wr ∧ DocIs wr B SD bd L.doc D ∧ L.doc.Ok) := by
  obtain ⟨h1, h2, h3, S, bd, SD, D, h4, h5⟩ := h
  refine (ldoc_any wr B S b L bd SD D L.doc h4).mono ?_
  rintro e w' ⟨rfl, rfl⟩
  exact ⟨bd, SD, D, rfl, rfl, h4.doc, h1.doc_ok⟩
end LScene
end Go.Proofs.YtmpkgbkdndpnlaaGreatDoor
