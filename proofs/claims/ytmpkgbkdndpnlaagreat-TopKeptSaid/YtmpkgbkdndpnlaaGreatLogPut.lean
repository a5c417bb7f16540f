/- 3 texts in one: each says ahead of itself what is proved, and its conditions. -/
import Derived.BigQuiet
import Derived.BigRegion
import Derived.Deep.RegionHeld3
import Derived.Test.YtmpkgbkdndpnlaaGreatDecode
import Derived.Test.YtmpkgbkdndpnlaaGreatDocApply
import Derived.Test.YtmpkgbkdndpnlaaGreatLogAt
/- log.redo, walked: the ops that are whole are done again. Conditions: none of our own. -/
namespace Go.Proofs.YtmpkgbkdndpnlaaGreat
open Go.RowKit
set_option linter.unusedVariables false
def RedoPost (w : World) (l : List UInt8) (e : Ending) (w' : World) : Prop :=
  ∃ b S D, e = .returned (.tuple #[.pointer (some ⟨b, 0, none⟩), .int .i64 ((packBody (redoL LDoc.new l)).length : Nat)]) ∧ DocIs w' w.heap.size S b (LDoc.new.all (redoL LDoc.new l)) D ∧ Below w.heap.size w w'
/-- Midway: so many ops are done. -/
structure RdMid (w : World) (l : List UInt8) (b : Nat) (done : List LOp) (rest : List UInt8) (wr : World) : Prop where
  eq : l = packBody done ++ rest
  red : redoL LDoc.new l = done ++ redoL (LDoc.new.all done) rest
  few : ∀ o ∈ done, opErr o = 0
  doc : ∃ S D, DocIs wr w.heap.size S b (LDoc.new.all done) D
  bel : Below w.heap.size w wr
def RdLoop (w : World) (l : List UInt8) (b : Nat) (v : Value) (wr : World) : Prop := ∃ done rest, v = .int .i64 ((packBody done).length : Nat) ∧ Hid (RdMid w l b done rest wr)
theorem RdMid.out {w wr : World} {l : List UInt8} {b : Nat} {done : List LOp} {rest : List UInt8} (h : RdMid w l b done rest wr) {w' : World} (hb : Below wr.heap.size wr w') (hz : redoL (LDoc.new.all done) rest = []) : RedoPost w l (.returned (.tuple #[.pointer (some ⟨b, 0, none⟩), .int .i64 ((packBody done).length : Nat)])) w' := by
  obtain ⟨S, D, hd⟩ := h.doc
  have e : redoL LDoc.new l = done := by rw [h.red, hz, List.append_nil]
  exact ⟨b, S, D, by rw [e], by rw [e]; exact hd.below hb, h.bel.trans (hb.mono h.bel.size)⟩
theorem RdMid.below {w wr : World} {l : List UInt8} {b : Nat} {done : List LOp} {rest : List UInt8} (h : RdMid w l b done rest wr) {w' : World} (hb : Below wr.heap.size wr w') : RdMid w l b done rest w' := by
  obtain ⟨S, D, hd⟩ := h.doc
  exact ⟨h.eq, h.red, h.few, ⟨S, D, hd.below hb⟩, h.bel.trans (hb.mono h.bel.size)⟩
theorem lstr_get (l : List UInt8) (i : Nat) (h : i < (strOf l).size) : ∃ h2 : i < l.length, (strOf l)[i] = l[i] := ⟨by rw [strOf_sz] at h; exact h, rfl⟩
set_option maxRecDepth 100000 in
set_option maxHeartbeats 8000000 in
theorem redo_any (w : World) (l : List UInt8) (hl : l.length ≤ 1000000) : Calls Tryz.prog 36 #[.string (strOf l)] w (RedoPost w l) := by
  have HN := Lib.hid (new_doc w)
  have HDP := Lib.hid (fun W t => decode_any W t)
  obtain ⟨s, hs⟩ : ∃ s, s = strOf l := ⟨_, rfl⟩
  have hsz : s.size = l.length := by rw [hs]; exact strOf_sz l
  have HGE : Hid (∀ i (h : i < s.size), l[i]? = some s[i]) := by
    show ∀ i (h : i < s.size), _
    subst hs
    intro i h
    obtain ⟨h2, h3⟩ := lstr_get l i h
    rw [List.getElem?_eq_getElem h2]
    exact congrArg some h3.symm
  have HEX : Hid (∀ i j, s.extract i j = strOf ((l.take j).drop i)) := by show ∀ i j, _ = _; intro i j; rw [hs, strOf_ext]
  rw [← hs]
  have HSZ := Lib.hid hsz
  have hm : s.size ≤ 1000000 := by omega
  clear hs hsz
  go_enter Tryz.func36, Tryz.ntmps36
  go_wp2_with fail
  refine HN.out.mono ?_
  rintro e w1 ⟨b, S, D, rfl, hd, hb1⟩
  have HD1 := Lib.hid hd
  have HB1 := Lib.hid hb1
  clear hd hb1 HN
  go_wp2_with fail
  go_loopw [5] (fun v wr => RdLoop w l b v wr) (fun v _ => l.length + 1 - (intOf v).toNat)
  case atStart => exact ⟨[], l, rfl, Lib.hid ⟨by simp [packBody], rfl, by simp, ⟨S, D, HD1.out⟩, HB1.out⟩⟩
  case round =>
    obtain ⟨done, rest, rfl, HM⟩ := hrel
    clear HD1 HB1
    obtain ⟨a, ha⟩ : ∃ a, a = (packBody done).length := ⟨_, rfl⟩
    have hal : a + rest.length = s.size := by rw [HSZ.out, HM.out.eq, List.length_append, ha]
    have HA := Lib.hid ha
    rw [← ha]
    clear ha
    by_cases h2 : rest.length < 2
    · have z1 : ¬ (a : Int) + 2 ≤ (s.size : Int) := by omega
      have HR := Lib.hid (redoL_short (LDoc.new.all done) rest h2)
      have a9 : (a : Int) ≤ 1000000 := by omega
      clear h2 hal
      go_wp2_with fail
      go_ret2
      have := HM.out.out (Below.refl _ _) HR.out
      rw [← HA.out] at this
      exact this
    · obtain ⟨c, e, t, hr⟩ : ∃ c e t, rest = c :: e :: t := by
        match rest, h2 with
        | [], h => simp at h
        | [_], h => simp at h
        | c :: e :: t, _ => exact ⟨c, e, t, rfl⟩
      subst hr
      simp only [List.length_cons] at hal
      have z1 : (a : Int) + 2 ≤ (s.size : Int) := by omega
      have b0 : a < s.size := by omega
      have b1 : a + 1 < s.size := by omega
      have dr : ∀ i (h : i < (c :: e :: t).length), l[a + i]? = some ((c :: e :: t)[i]) := fun i h => by
        rw [HM.out.eq, HA.out, List.getElem?_append_right (by omega), Nat.add_sub_cancel_left, List.getElem?_eq_getElem h]
      have e0 : s[a]'b0 = c := by
        have h1 := HGE.out a b0
        have h3 := dr 0 (by simp)
        rw [Nat.add_zero, h1] at h3
        exact Option.some.inj h3
      have e1 : s[a + 1]'b1 = e := by
        have h1 := HGE.out (a + 1) b1
        have h3 := dr 1 (by simp)
        rw [h1] at h3
        exact Option.some.inj h3
      obtain ⟨n, hn⟩ : ∃ n, n = c.toNat * 256 + e.toNat := ⟨_, rfl⟩
      have hc8 := UInt8.toNat_lt c
      have he8 := UInt8.toNat_lt e
      have hn9 : n ≤ 65535 := by omega
      have a0 : (0 : Int) ≤ (a : Int) := by omega
      have a1 : (a : Int) < (s.size : Int) := by omega
      have a2 : (a : Int) + 1 < (s.size : Int) := by omega
      have a3 : ((a : Int) + 1).toNat = a + 1 := by omega
      have a4 : (a : Int).toNat = a := by omega
      have a5 : IntKind.i64.wrap ((a : Int) + 1) = (a : Int) + 1 := IntWalk.i64_in _ (by omega)
      have a6 : IntKind.i64.wrap ((a : Int) + 2) = (a : Int) + 2 := IntWalk.i64_in _ (by omega)
      have a9 : (a : Int) ≤ 1000000 := by omega
      go_upto_region 4 with (fail)
      go_quiet (fail)
      go_upto_region 5 with (fail)
      obtain ⟨q, hq⟩ : ∃ q, q = a + 2 + n := ⟨_, rfl⟩
      have hqi : (a : Int) + 2 + (c.toNat : Int) * 256 + (e.toNat : Int) = (q : Int) := by omega
      rw [hqi]
      clear hqi
      have HM2 := Lib.hid (HM.out.below (below_drewN (Below.refl _ _) nq))
      generalize wr.drewN nq = w2 at *
      have HQ := Lib.hid hq
      have HNN := Lib.hid hn
      have hst := redoL_step (LDoc.new.all done) c e t
      rw [← hn] at hst
      by_cases ht : t.length < n
      · have z5 : (q : Int) > (s.size : Int) := by omega
        have z6 : (s.size : Int) < (q : Int) := by omega
        have HR : Hid (redoL (LDoc.new.all done) (c :: e :: t) = []) := by show _ = _; rw [hst, if_pos ht]
        clear ht hst hn hq dr hal
        go_wp2_with fail
        go_ret2
        have := HM2.out.out (Below.refl _ _) HR.out
        rw [← HA.out] at this
        exact this
      · have z5 : ¬ (q : Int) > (s.size : Int) := by omega
        have z6 : ¬ (s.size : Int) < (q : Int) := by omega
        have z7 : (q : Int) ≤ (s.size : Int) := by omega
        have z8 : (a : Int) + 2 ≤ (q : Int) := by omega
        have z9 : ((a : Int) + 2).toNat = a + 2 := by omega
        have HX : Hid (s.extract (a + 2) q = strOf (t.take n)) := by
          show _ = _
          have hdd : (c :: e :: t) = l.drop a := by rw [HM.out.eq, HA.out, List.drop_left]
          rw [HEX.out, List.drop_take, hq, show a + 2 + n - (a + 2) = n by omega, ← List.drop_drop, ← hdd]
          rfl
        rw [if_neg ht] at hst
        obtain ⟨R, hR⟩ : ∃ R, R = decOf (strOf (t.take n)) := ⟨_, rfl⟩
        have HDC := Lib.hid (HDP.out · (t.take n))
        rw [← hR] at HDC hst
        have HRD := Lib.hid hR
        have HST := Lib.hid hst
        have HTN : Hid (n ≤ t.length) := by show n ≤ _; omega
        clear ht hst hn hq dr hal hR
        go_wp2_with fail
        rw [HX.out]
        refine (HDC.out w2).mono ?_
        cases hR : R with
        | none =>
          rw [hR] at HST
          rintro en w3 ⟨rfl, hb3⟩
          have HB3 := Lib.hid hb3
          clear hb3
          rw [show errV 2 = .iface 72 (.int .i64 2) by rw [errV, if_neg (by decide)]]
          unfold zeroOp
          go_wp2_with fail
          go_ret2
          have := HM2.out.out (HB3.out.alloc HB3.out.size (.cells #[.int .i64 0, .int .i64 0, .int .i64 0, .string ⟨#[]⟩, .int .i64 0, .slice none 0 0] 36)) HST.out
          rw [← HA.out] at this
          exact this
        | some o =>
          rw [hR] at HST
          rintro en w3 ⟨A, cA, rfl, hown, hb3⟩
          obtain ⟨ho1, ho2⟩ := dec_some (HRD.out.symm.trans hR)
          have hpl := placeErr_len (opOk_of ho1).place
          have HM3 := Lib.hid (HM2.out.below hb3)
          have hlt3 : Hid (∀ g ∈ ob A, w2.heap.size ≤ g) := fun g hg => (hown.lt g hg).1
          obtain ⟨S2, D2, hd2⟩ := HM2.out.doc
          have hd3 := hd2.below hb3
          obtain ⟨W4, hW4⟩ : ∃ W4, W4 = w3.alloc (.cells (o.cells A cA) 36) := ⟨_, rfl⟩
          have HM4 : Hid (RdMid w l b done (c :: e :: t) W4) := by rw [hW4]; exact HM3.out.below ((Below.refl _ _).alloc (Nat.le_refl _) _)
          have hd4 : DocIs W4 w.heap.size S2 b (LDoc.new.all done) D2 := by rw [hW4]; exact hd3.below ((Below.refl _ _).alloc (Nat.le_refl _) _)
          have hr4 : Reads W4 W4.heap.size 2 A o.seen.length (dcells o.seen) := by rw [hW4]; exact (hown.alloc _).reads
          have HBX : Hid (Blk W4 w3.heap.size 36 (o.cells A cA)) := by rw [hW4]; exact Blk.new w3 _ _
          have HAP := Lib.hid (apply_doc W4 w.heap.size S2 b _ D2 hd4 (LDoc.all_ok _ LDoc.new_ok) o A cA (by omega) hr4 (fun _ g hg hm => by
            have h1 := hlt3.out g hg
            have h2 := (hd2.own g hm).2
            omega))
          have b0 := HBX.out.cell 0
          have b1 := HBX.out.cell 1
          have b2 := HBX.out.cell 2
          have b3 := HBX.out.cell 3
          have b4 := HBX.out.cell 4
          have b5 := HBX.out.cell 5
          have HO1 := Lib.hid ho1
          have HO2 := Lib.hid ho2
          obtain ⟨g3, hg3⟩ : ∃ g3, g3 = w3.heap.size := ⟨_, rfl⟩
          rw [← hg3] at b0 b1 b2 b3 b4 b5
          have HOWN : Hid (∀ g ∈ S2, w.heap.size ≤ g) := fun g hg => (hd2.own g hg).1
          obtain ⟨ke, hke⟩ : ∃ ke, ke = (LDoc.new.all done).applyE o := ⟨_, rfl⟩
          obtain ⟨kb, hkb⟩ : ∃ kb, kb = (LDoc.new.all done).applyB o := ⟨_, rfl⟩
          have HKE := Lib.hid hke
          rw [← hke, ← hkb] at HAP
          clear hb3 hown hd2 hd3 hd4 hr4 ho1 ho2 hpl hR HM3 HBX HDC hke hkb
          unfold LOp.val at HAP ⊢
          unfold LOp.cells at b0 b1 b2 b3 b4 b5 hW4
          simp only [List.getElem?_toArray, List.getElem?_cons_zero, List.getElem?_cons_succ] at b0 b1 b2 b3 b4 b5
          go_upto_region 7 with (fail)
          rw [← hW4, ← hg3]
          clear hW4 hg3
          go_wp2_with fail
          refine HAP.out.mono ?_
          rintro en w5 ⟨rfl, S5, D5, hd5, ho5, _⟩
          have HD5 := Lib.hid hd5
          have HO5 := Lib.hid ho5
          clear hd5 ho5 b0 b1 b2 b3 b4 b5 HAP
          by_cases hz : ke = 0
          · rw [show errV ke = .nilIface by rw [hz]; rfl]
            have hz' : (LDoc.new.all done).applyE o = 0 := HKE.out.symm.trans hz
            have HZ := Lib.hid hz'
            clear hz hz'
            go_wp2_with fail
            go_roundw
            case rel =>
              have hlo : logOp o = c :: e :: t.take n := by
                have h1 : opBytes o = t.take n := HO2.out
                unfold logOp
                rw [h1, List.length_take, Nat.min_eq_left HTN.out, HNN.out, twoB_of]
                rfl
              have hpb : packBody (done ++ [o]) = packBody done ++ (c :: e :: t.take n) := by rw [packBody_app, packBody_one, hlo]
              have hll : (packBody (done ++ [o])).length = q := by
                rw [hpb, List.length_append, List.length_cons, List.length_cons, List.length_take, Nat.min_eq_left HTN.out, ← HA.out, HQ.out]
                omega
              refine ⟨done ++ [o], t.drop n, by rw [hll], Lib.hid ⟨?_, ?_, ?_, ?_, ?_⟩⟩
              · rw [hpb, HM4.out.eq, List.append_assoc]
                congr 1
                show c :: e :: t = c :: e :: (t.take n ++ t.drop n)
                rw [List.take_append_drop]
              · rw [HM4.out.red, HST.out, LDoc.all_app]
                rw [if_neg (by rw [HZ.out]; simp), List.append_assoc]
                rfl
              · intro x hx
                rcases List.mem_append.1 hx with hx | hx
                · exact HM4.out.few x hx
                · simp at hx; subst hx; exact HO1.out
              · rw [LDoc.all_app]
                exact ⟨S5, D5, HD5.out⟩
              · exact HM4.out.bel.trans (HO5.out.below HM4.out.bel.size HOWN.out)
            case measure =>
              simp only [intOf]
              have := HQ.out
              have := HSZ.out
              omega
          · have HZ : Hid (redoL (LDoc.new.all done) (c :: e :: t) = []) := by
              show _ = _
              rw [HST.out]
              rw [if_pos (fun h => hz (HKE.out.trans h))]
            have hsame : (LDoc.new.all done).apply o = LDoc.new.all done := by
              rcases LDoc.apply_three (d := LDoc.new.all done) o with ⟨_, h1, _⟩ | ⟨_, h1, _⟩ | ⟨_, _, h1⟩
              · exact absurd (HKE.out.trans h1) hz
              · exact absurd (HKE.out.trans h1) hz
              · exact h1
            rw [hsame] at HD5
            have HFIN : Hid (RdMid w l b done (c :: e :: t) w5) := ⟨HM4.out.eq, HM4.out.red, HM4.out.few, ⟨S5, D5, HD5.out⟩, HM4.out.bel.trans (HO5.out.below HM4.out.bel.size HOWN.out)⟩
            rw [show errV ke = .iface 72 (.int .i64 ke) by rw [errV, if_neg hz]]
            clear hz hsame
            go_wp2_with fail
            go_ret2
            have := HFIN.out.out (Below.refl _ _) HZ.out
            rw [← HA.out] at this
            exact this
end Go.Proofs.YtmpkgbkdndpnlaaGreat
/- log.New, step, Fail, Sync, Doc, Bytes, Safe, walked. Conditions: the log is right. -/
namespace Go.Proofs.YtmpkgbkdndpnlaaGreat
open Go.RowKit
set_option linter.unusedVariables false
def LNewPost (w : World) (e : Ending) (w' : World) : Prop := ∃ b S bd SD D, e = .returned (.pointer (some ⟨b, 0, none⟩)) ∧ LogIs w' w.heap.size S b LLog.new bd SD D ∧ Below w.heap.size w w'
set_option maxRecDepth 100000 in
theorem lnew_any (w : World) : Calls Tryz.prog 7 #[] w (LNewPost w) := by
  have HN := Lib.hid (new_doc w)
  go_enter Tryz.func7, Tryz.ntmps7
  go_wp2_with fail
  refine HN.out.mono ?_
  rintro e w1 ⟨bd, SD, D, rfl, hd, hb⟩
  have HD := Lib.hid hd
  have HB := Lib.hid hb
  have hsz := hb.size
  clear hd hb HN
  go_wp2_with fail
  go_ret
  have hlt : bd < w1.heap.size := (HD.out.own bd HD.out.subb).2
  refine ⟨w1.heap.size, w1.heap.size :: SD, bd, SD, D, rfl, ⟨?_, HD.out.below ((Below.refl _ _).alloc (Nat.le_refl _) _), fun g hg => by simp [hg], by simp, fun hm => by have := (HD.out.own _ hm).2; omega, fun g hg => ?_⟩, HB.out.alloc HB.out.size _⟩
  · exact Blk.new w1 68 _
  · rcases List.mem_cons.1 hg with rfl | hg
    · exact ⟨hsz, by simp⟩
    · have := HD.out.own g hg
      exact ⟨this.1, by simp; omega⟩
section
variable (w : World) (B : Nat) (S : List Nat) (b : Nat) (L : LLog) (bd : Nat) (SD : List Nat) (D : DLay) (st : LDoc) (h : LogSt w B S b L bd SD D st) (ok : L.Ok)
/-- What a step of a log leaves, its document where it was. -/
def LogOn (w : World) (B : Nat) (S : List Nat) (b : Nat) (bd : Nat) (SD : List Nat) (D : DLay) (st : LDoc) (L' : LLog) (v : Value) (e : Ending) (w' : World) : Prop := e = .returned v ∧ LogSt w' B S b L' bd SD D st ∧ Only [b] w w'
include h
theorem five_ : w.cell? ⟨b, 0, none⟩ = some (.pointer (some ⟨bd, 0, none⟩)) ∧ w.cell? ⟨b, 1, none⟩ = some (.string (strOf L.bytes)) ∧ w.cell? ⟨b, 2, none⟩ = some (.int .i64 (L.safe : Nat)) ∧ w.cell? ⟨b, 3, none⟩ = some (.int .i64 L.left) ∧ w.cell? ⟨b, 4, none⟩ = some (.bool L.stopped) :=
  ⟨by rw [h.blk.cell]; rfl, by rw [h.blk.cell]; rfl, by rw [h.blk.cell]; rfl, by rw [h.blk.cell]; rfl, by rw [h.blk.cell]; rfl⟩
set_option maxRecDepth 100000 in
theorem ldoc_any : Calls Tryz.prog 14 #[.pointer (some ⟨b, 0, none⟩)] w (fun e w' => e = .returned (.pointer (some ⟨bd, 0, none⟩)) ∧ w' = w) := by
  obtain ⟨c0, c1, c2, c3, c4⟩ := five_ w B S b L bd SD D st h
  clear h
  go_enter Tryz.func14, Tryz.ntmps14
  go_wp2_with fail
  go_ret
  exact ⟨rfl, rfl⟩
include ok
set_option maxRecDepth 100000 in
theorem lstep_any : Calls Tryz.prog 35 #[.pointer (some ⟨b, 0, none⟩)] w (LogOn w B S b bd SD D st L.step (.bool (decide (L.left = 0)))) := by
  obtain ⟨c0, c1, c2, c3, c4⟩ := five_ w B S b L bd SD D st h
  have f3 := h.blk.frozen 3
  have f4 := h.blk.frozen 4
  obtain ⟨n, hn⟩ : ∃ n, n = L.left := ⟨_, rfl⟩
  rw [← hn] at c3
  have l0 : -1 ≤ n := by rw [hn]; exact ok.left.1
  have l1 : n ≤ 9223372036854775807 := by rw [hn]; exact ok.left.2
  have hmx : ∀ W, (Builtin.max_ #[3, 3] 3 #[.int .i64 (-1), .int .i64 (n - 1)]).run Tryz.prog W = .ok (.int .i64 (LLog.down n)) W := fun W => by rw [run_max_int2]; congr 2; unfold LLog.down; split <;> split <;> omega
  have HF : Hid (LogSt ((w.setCell ⟨b, 4, none⟩ (.bool (n == 0))).setCell ⟨b, 3, none⟩ (.int .i64 (LLog.down n))) B S b L.step bd SD D st) := by
    show LogSt _ B S b _ bd SD D st
    refine LogSt.set (L' := L.step) h (((Only.refl [b] w).setCell (.inl (by simp)) _).setCell (.inl (by simp)) _) ?_
    have := (h.blk.set_ 4 (.bool (n == 0))).set_ 3 (.int .i64 (LLog.down n))
    have e : ((L.cells bd).setIfInBounds 4 (.bool (n == 0))).setIfInBounds 3 (.int .i64 (LLog.down n)) = L.step.cells bd := by
      unfold LLog.cells LLog.step LLog.bytes
      rw [hn]
      simp
      rw [Bool.eq_iff_iff]; simp
    rw [e] at this
    exact this
  have HNL := Lib.hid hn
  clear h ok hn
  go_enter Tryz.func35, Tryz.ntmps35
  go_wp2_with fail
  go_ret
  refine ⟨?_, HF.out, ((Only.refl [b] w).setCell (.inl (by simp)) _).setCell (.inl (by simp)) _⟩
  rw [← HNL.out]
  have : decide (n = 0) = (n == 0) := by rw [Bool.eq_iff_iff]; simp
  rw [this]
  rfl
set_option maxRecDepth 100000 in
theorem lsync_any : Calls Tryz.prog 10 #[.pointer (some ⟨b, 0, none⟩)] w (LogOn w B S b bd SD D st L.sync (errV L.syncE)) := by
  obtain ⟨c0, c1, c2, c3, c4⟩ := five_ w B S b L bd SD D st h
  have HS := Lib.hid (lstep_any w B S b L bd SD D st h ok)
  have HI := Lib.hid h
  have hm : (strOf L.bytes).size = L.m := by rw [strOf_sz, ok.bytes_len]
  have HM := Lib.hid hm
  clear ok h hm
  cases hst : L.stopped with
  | true =>
    have e1 : L.sync = L := by unfold LLog.sync; rw [if_pos hst]
    have e2 : L.syncE = 6 := by unfold LLog.syncE; rw [if_pos hst]
    rw [hst] at c4
    rw [e1, e2]
    clear e1 e2 hst
    go_enter Tryz.func10, Tryz.ntmps10
    go_wp2_with fail
    go_ret
    exact ⟨rfl, HI.out, Only.refl _ _⟩
  | false =>
    rw [hst] at c4
    by_cases hl : L.left = 0
    · have e1 : L.sync = L.step := by unfold LLog.sync LLog.step LLog.down; rw [if_neg (by simp [hst]), if_pos hl]; simp [hl]
      have e2 : L.syncE = 6 := by unfold LLog.syncE; rw [if_neg (by simp [hst]), if_pos hl]
      rw [e1, e2]
      rw [decide_eq_true hl] at HS
      clear e1 e2 hst hl
      go_enter Tryz.func10, Tryz.ntmps10
      go_wp2_with fail
      refine HS.out.mono ?_
      rintro e w1 ⟨rfl, h1, h2⟩
      have H1 := Lib.hid h1
      have H2 := Lib.hid h2
      clear h1 h2
      go_wp2_with fail
      go_ret
      exact ⟨rfl, H1.out, H2.out⟩
    · have e2 : L.syncE = 0 := by unfold LLog.syncE; rw [if_neg (by simp [hst]), if_neg hl]
      have HSY : Hid (L.sync = { L.step with safe := L.m }) := by show _ = _; unfold LLog.sync LLog.step; rw [if_neg (by simp [hst]), if_neg hl, decide_eq_false hl, hst]
      rw [e2]
      rw [decide_eq_false hl] at HS
      clear e2 hst hl
      go_enter Tryz.func10, Tryz.ntmps10
      go_wp2_with fail
      refine HS.out.mono ?_
      rintro e w1 ⟨rfl, h1, h2⟩
      have H1 := Lib.hid h1
      have H2 := Lib.hid h2
      have HMS : Hid ((strOf L.step.bytes).size = L.m) := HM.out
      obtain ⟨d0, d1, d2, d3, d4⟩ := five_ w1 B S b _ bd SD D st h1
      have f2 := h1.blk.frozen 2
      generalize strOf L.step.bytes = s at *
      have HF : Hid (LogSt (w1.setCell ⟨b, 2, none⟩ (.int .i64 (s.size : Int))) B S b L.sync bd SD D st) := by
        rw [HSY.out]
        show LogSt _ B S b _ bd SD D st
        refine LogSt.set (L' := { L.step with safe := L.m }) H1.out ((Only.refl [b] w1).setCell (.inl (by simp)) _) ?_
        rw [HMS.out]
        exact H1.out.blk.set_ 2 (.int .i64 (L.m : Nat))
      clear h1 h2
      go_wp2_with fail
      go_ret
      exact ⟨rfl, HF.out, H2.out.setCell (.inl (by simp)) _⟩
end
end Go.Proofs.YtmpkgbkdndpnlaaGreat
/- (*log.Log).Put, walked. Conditions: the log is right; the op can be read, and lies apart from it. -/
namespace Go.Proofs.YtmpkgbkdndpnlaaGreat
open Go.RowKit
set_option linter.unusedVariables false
def LPutPost (w : World) (B : Nat) (S : List Nat) (b : Nat) (is : Bool) (k : Int) (L : LLog) (e : Ending) (w' : World) : Prop := e = .returned (.tuple #[.bool is, errV k]) ∧ LogTo w B S b L w'
theorem docTo_of_drewN {w w' : World} {n : Nat} {B : Nat} {S : List Nat} {b : Nat} {st : LDoc} (h : DocTo (w.drewN n) B S b st w') : DocTo w B S b st w' := by
  obtain ⟨S', D', h1, h2, h3⟩ := h
  exact ⟨S', D', h1, ⟨h2.os, h2.tape, h2.output, h2.size, h2.block⟩, h3⟩
section
variable (w : World) (B : Nat) (S : List Nat) (b : Nat) (L : LLog) (bd : Nat) (SD : List Nat) (D : DLay) (h : LogIs w B S b L bd SD D) (ok : L.Ok) (o : LOp) (A : Option Addr) (c : Nat) (hp : o.place.size ≤ 9223372036854775807)
include h ok hp
set_option maxRecDepth 100000 in
set_option maxHeartbeats 8000000 in
theorem lput_any (hr : Reads w w.heap.size 2 A o.seen.length (dcells o.seen)) (hns : 0 < o.seen.length → ∀ g ∈ ob A, g ∉ S) :
    Calls Tryz.prog 9 #[.pointer (some ⟨b, 0, none⟩), o.val A c] w (LPutPost w B S b (L.putB o) (L.putE o) (L.put o)) := by
  obtain ⟨W0, hW0⟩ : ∃ W0, W0 = w.alloc (.cells (o.cells A c) 36) := ⟨_, rfl⟩
  have HBEL : Hid (Below w.heap.size w W0) := by rw [hW0]; exact (Below.refl _ _).alloc (Nat.le_refl _) _
  have HL0 : Hid (LogSt W0 B S b L bd SD D L.doc) := by rw [hW0]; exact h.below ((Below.refl _ _).alloc (Nat.le_refl _) _)
  have HX0 : Hid (Blk W0 w.heap.size 36 (o.cells A c)) := by rw [hW0]; exact Blk.new w _ _
  have HH := Lib.hid h
  have hbb := h.base
  obtain ⟨c0, c1, c2, c3, c4⟩ := five_ W0 B S b L bd SD D L.doc HL0.out
  cases hst : L.stopped with
  | true =>
    have e1 : L.put o = L := by unfold LLog.put; rw [if_pos hst]
    have e2 : L.putE o = 6 := by unfold LLog.putE; rw [if_pos hst]
    have e3 : L.putB o = false := by unfold LLog.putB; rw [hst]; rfl
    rw [hst] at c4
    rw [e1, e2, e3]
    clear e1 e2 e3 hst h ok hp hr hns
    unfold LOp.val
    unfold LOp.cells at hW0
    go_enter Tryz.func9, Tryz.ntmps9
    go_upto_region 1 with (fail)
    rw [← hW0]
    clear hW0
    go_wp2_with fail
    go_ret2
    refine ⟨rfl, S, bd, SD, D, HL0.out, Only.of_below HBEL.out, fun g hg => .inl hg⟩
  | false =>
    rw [hst] at c4
    have HSTP := Lib.hid hst
    have HDK := ok.doc_ok
    have HR0 : Reads W0 W0.heap.size 2 A o.seen.length (dcells o.seen) := by rw [hW0]; exact (hr.below ((Below.refl _ _).alloc (Nat.le_refl _) _)).more (by simp)
    have HNS : 0 < o.seen.length → ∀ g ∈ ob A, g ∉ SD := fun hn g hg hm => hns hn g hg (h.sub g hm)
    have HAP := Lib.hid (fun n => apply_doc (W0.drewN n) B SD bd L.doc D (HL0.out.drewN n).doc HDK o A c hp (HR0.drewN n) HNS)
    obtain ⟨kb, hkb⟩ : ∃ kb, kb = L.doc.applyB o := ⟨_, rfl⟩
    obtain ⟨ke, hke⟩ : ∃ ke, ke = L.doc.applyE o := ⟨_, rfl⟩
    rw [← hkb, ← hke] at HAP
    have HKB := Lib.hid hkb
    have HKE := Lib.hid hke
    have HOKL := Lib.hid ok
    have b0 := HX0.out.cell 0
    have b1 := HX0.out.cell 1
    have b2 := HX0.out.cell 2
    have b3 := HX0.out.cell 3
    have b4 := HX0.out.cell 4
    have b5 := HX0.out.cell 5
    have HRS := Lib.hid hr
    have HNS2 := Lib.hid hns
    have HP := Lib.hid hp
    have HXL : Hid (∀ w2, Only SD W0 w2 → Blk w2 w.heap.size 36 (o.cells A c) ∧ w2.cell? ⟨b, 0, none⟩ = some (.pointer (some ⟨bd, 0, none⟩))) := fun w2 ho => by
      have h1 := ho.blk HX0.out (fun hm => by have := (h.doc.own _ hm).2; omega)
      have h2 := ho.blk HL0.out.blk HL0.out.apart
      exact ⟨h1, by rw [h2.cell]; rfl⟩
    clear hst h ok hp hr hns hkb hke HR0 HNS HDK
    unfold LOp.val at *
    unfold LOp.cells at hW0 b0 b1 b2 b3 b4 b5
    simp only [List.getElem?_toArray, List.getElem?_cons_zero, List.getElem?_cons_succ] at b0 b1 b2 b3 b4 b5
    go_enter Tryz.func9, Tryz.ntmps9
    go_upto_region 1 with (fail)
    rw [← hW0]
    clear hW0
    go_upto_region 3 with (fail)
    go_cut [6, 7] (fun v k wx => v = .bool kb ∧ k = errV ke ∧ ∃ S' SD' D', Hid (LogSt wx B S' b L bd SD' D' (L.doc.apply o)) ∧ Hid (Only S W0 wx) ∧ Hid (∀ g ∈ S', g ∈ S ∨ w.heap.size ≤ g) ∧ Hid (Blk wx w.heap.size 36 (o.cells A c)))
    case first =>
      go_region_held3 (fun w' => w'.cell? ⟨b, 0, none⟩ = some (.pointer (some ⟨bd, 0, none⟩)) ∧ w'.cell? ⟨w.heap.size, 0, none⟩ = some (.int .i64 o.dot.who) ∧ w'.cell? ⟨w.heap.size, 1, none⟩ = some (.int .i64 o.dot.n) ∧ w'.cell? ⟨w.heap.size, 2, none⟩ = some (.int .i64 o.what) ∧ w'.cell? ⟨w.heap.size, 3, none⟩ = some (.string o.place) ∧ w'.cell? ⟨w.heap.size, 4, none⟩ = some (.int .i64 o.letter) ∧ w'.cell? ⟨w.heap.size, 5, none⟩ = some (.slice A o.seen.length c))
        (first | go_keep | (refine ⟨?_, ?_, ?_, ?_, ?_, ?_, ?_⟩ <;> assumption))
        ((go_at_call 8; refine (HAP.out 1).mono ?_; rintro en w2 ⟨rfl, hdt⟩
          have hdt' := docTo_of_drewN hdt
          obtain ⟨S2, SD2, D2, h1, h2, h3, h4⟩ := HL0.out.turn hdt'
          have H1 := Lib.hid h1
          have H2 := Lib.hid h2
          have H3 := Lib.hid h3
          have H4 := Lib.hid (HXL.out w2 h4)
          have x0 := H4.out.2
          have y0 : w2.cell? ⟨w.heap.size, 0, none⟩ = some (.int .i64 o.dot.who) := by rw [H4.out.1.cell]; rfl
          have y1 : w2.cell? ⟨w.heap.size, 1, none⟩ = some (.int .i64 o.dot.n) := by rw [H4.out.1.cell]; rfl
          have y2 : w2.cell? ⟨w.heap.size, 2, none⟩ = some (.int .i64 o.what) := by rw [H4.out.1.cell]; rfl
          have y3 : w2.cell? ⟨w.heap.size, 3, none⟩ = some (.string o.place) := by rw [H4.out.1.cell]; rfl
          have y4 : w2.cell? ⟨w.heap.size, 4, none⟩ = some (.int .i64 o.letter) := by rw [H4.out.1.cell]; rfl
          have y5 : w2.cell? ⟨w.heap.size, 5, none⟩ = some (.slice A o.seen.length c) := by rw [H4.out.1.cell]; rfl
          clear hdt hdt' h1 h2 h3 h4))
      go_wp2_with fail
      go_meet
      case rel =>
        refine ⟨rfl, rfl, S2, SD2, D2, H1, H2, fun g hg => ?_, Lib.hid H4.out.1⟩
        rcases H3.out g hg with h5 | h5
        · exact .inl h5
        · exact .inr (Nat.le_trans HBEL.out.size h5)
    case rest =>
      obtain ⟨rfl, rfl, S2, SD2, D2, H1, H2, H3, H4⟩ := hcut
      clear HXL HAP c0 c1 c2 c3 c4 b0 b1 b2 b3 b4 b5 HX0 HL0
      have HO2 : Hid (Only S w wc) := (Only.of_below HBEL.out).trans H2.out
      by_cases hkz : ke = 0
      · rw [show errV ke = .nilIface by rw [hkz]; rfl]
        cases kb with
        | false =>
          have hsame : L.doc.apply o = L.doc := by unfold LDoc.apply; rw [← HKB.out]; rfl
          have e1 : L.put o = L := by unfold LLog.put; rw [if_neg (by rw [HSTP.out]; decide), if_pos HKB.out.symm]
          have e2 : L.putE o = 0 := by unfold LLog.putE; rw [if_neg (by rw [HSTP.out]; decide), if_neg (by rw [← HKE.out]; simp [hkz]), if_pos HKB.out.symm]
          have e3 : L.putB o = false := by unfold LLog.putB; rw [← HKB.out]; simp
          rw [hsame] at H1
          have HE : Hid (L.put o = L ∧ L.putE o = 0 ∧ L.putB o = false) := ⟨e1, e2, e3⟩
          clear hsame e1 e2 e3 hkz
          go_wp2_with fail
          go_ret2
          rw [HE.out.1, HE.out.2.1, HE.out.2.2]
          exact ⟨rfl, S2, bd, SD2, D2, H1.out, HO2.out, H3.out⟩
        | true =>
          have hkb := HKB.out.symm
          have HPG := Lib.hid (fun hl => LLog.put_go HOKL.out HSTP.out hkb hl)
          have HPS := Lib.hid (fun hl => LLog.put_stop HOKL.out HSTP.out hkb hl)
          have hoe : opErr o = 0 := Goes.errs (d := L.doc) (l := [o]) ⟨hkb, trivial⟩ o (by simp)
          have hobl := opBytes_len hoe
          have HEN := Lib.hid (encode_any wc A c o (Reads.only HRS.out HO2.out HNS2.out) HP.out)
          unfold EncPost at HEN
          rw [hoe, show encRes o = strOf (opBytes o) by rw [encRes, if_pos hoe], show errV 0 = .nilIface from rfl] at HEN
          obtain ⟨n, hn⟩ : ∃ n, n = (opBytes o).length := ⟨_, rfl⟩
          obtain ⟨ob, hob⟩ : ∃ ob, ob = strOf (opBytes o) := ⟨_, rfl⟩
          have hobz : ob.size = n := by rw [hob, strOf_sz, hn]
          rw [← hob] at HEN
          have HOBZ := Lib.hid hobz
          have hcat : strOf (twoB n) ++ ob = strOf (logOp o) := by
            rw [hob, hn]
            apply ByteArray.ext
            rw [ByteArray.data_append]
            apply Array.ext'
            simp [strOf, logOp]
          have HCAT := Lib.hid hcat
          have b0 := H4.out.cell 0
          have b1 := H4.out.cell 1
          have b2 := H4.out.cell 2
          have b3 := H4.out.cell 3
          have b4 := H4.out.cell 4
          have b5 := H4.out.cell 5
          unfold LOp.cells at b0 b1 b2 b3 b4 b5
          unfold LOp.val at HEN
          simp only [List.getElem?_toArray, List.getElem?_cons_zero, List.getElem?_cons_succ] at b0 b1 b2 b3 b4 b5
          have hn9 : n ≤ 139 := by omega
          have HLN : Hid ((logOp o).length = 2 + n) := by show _ = _; rw [logOp_len, ← hn]
          clear hkb hoe hobl hn hob hobz hcat hkz HRS HNS2 HP
          go_wp2_with fail
          refine HEN.out.mono ?_
          rintro en w3 ⟨rfl, hb3⟩
          have HL3 := Lib.hid (H1.out.below hb3)
          have HB3 := Lib.hid hb3
          clear hb3 b0 b1 b2 b3 b4 b5 HEN
          obtain ⟨ni, hni⟩ : ∃ ni : Int, ni = (ob.size : Int) := ⟨_, rfl⟩
          have n0 : 0 ≤ ni := by rw [hni]; omega
          have n1 : ni ≤ 139 := by rw [hni, HOBZ.out]; omega
          have hnn : ni = (n : Int) := by rw [hni, HOBZ.out]
          have a0 : (0 : Int) ≤ ni / 256 := by omega
          have a1 : ni / 256 ≤ 255 := by omega
          have a3 : ni % 256 = ni := by omega
          have hfr := Own.fresh w3 0 (Nat.zero_le _) (twoB n) (by simp [twoB]) #[.int .u8 (ni / 256), .int .u8 ni] (by
            have e1 := u8_val a0 a1
            have e2 := u8_val n0 (show ni ≤ 255 by omega)
            simp [bs, twoB, ← hnn, a3, e1, e2])
          have hcv := conv_own hfr
          have hl2 : (twoB n).length = 2 := rfl
          rw [hl2] at hcv
          obtain ⟨pre, hpre⟩ : ∃ pre, pre = strOf (twoB n) := ⟨_, rfl⟩
          rw [← hpre] at hcv
          have hpz : pre.size = 2 := by rw [hpre, strOf_sz, hl2]
          have hobz2 := HOBZ.out
          have hsum : ¬ 9223372036854775807 < pre.size + ob.size := by omega
          have hsum2 : pre.size + ob.size ≤ 9223372036854775807 := by omega
          have HCAT2 : Hid (pre ++ ob = strOf (logOp o)) := by show _ = _; rw [hpre]; exact HCAT.out
          clear hpz hpre hobz2
          obtain ⟨W4, hW4⟩ : ∃ W4, W4 = w3.alloc (.cells #[.int .u8 (ni / 256), .int .u8 ni] 5) := ⟨_, rfl⟩
          clear hfr hl2 hnn a3
          subst hni
          have HL4 : Hid (LogSt W4 B S2 b L bd SD2 D2 (L.doc.apply o)) := by rw [hW4]; exact HL3.out.below ((Below.refl _ _).alloc (Nat.le_refl _) _)
          have HO4 : Hid (Only S w W4) := by rw [hW4]; exact (HO2.out.below_step HB3.out).alloc _
          go_upto_region 10 with (fail)
          rw [← hW4, HCAT2.out]
          clear hW4 hcv n0 n1 a0 a1 hsum hsum2
          clear HL3 HB3 HO2 H1 H2 H4 HCAT HCAT2
          obtain ⟨sl, hsl⟩ : ∃ sl, sl = strOf (logOp o) := ⟨_, rfl⟩
          have hslz : sl.size = 2 + n := by rw [hsl, strOf_sz, HLN.out]
          rw [← hsl]
          have HSL := Lib.hid hsl
          clear hsl
          have HSP := Lib.hid (lstep_any W4 B S2 b L bd SD2 D2 _ HL4.out HOKL.out)
          go_wp2_with fail
          refine HSP.out.mono ?_
          rintro en w5 ⟨rfl, h1, h2⟩
          have HO5 : Hid (Only S w w5) := HO4.out.trans_new h2 (fun i hi => by simp at hi; subst hi; exact .inl HH.out.subb)
          have HL5 := Lib.hid h1
          clear h1 h2 HSP HL4 HO4
          obtain ⟨c0, c1', c2, c3, c4⟩ := five_ w5 B S2 b L.step bd SD2 D2 _ HL5.out
          have hbz : (strOf L.bytes).size ≤ 56400 := by rw [strOf_sz, HOKL.out.bytes_len]; exact HOKL.out.m_small
          have c1 : w5.cell? ⟨b, 1, none⟩ = some (.string (strOf L.bytes)) := c1'
          clear c1'
          obtain ⟨bsx, hbs⟩ : ∃ bsx, bsx = strOf L.bytes := ⟨_, rfl⟩
          rw [← hbs] at c1 hbz
          have HBS := Lib.hid hbs
          have hsum : ¬ 9223372036854775807 < bsx.size + sl.size := by omega
          have hsum2 : bsx.size + sl.size ≤ 9223372036854775807 := by omega
          have h141 : sl.size ≤ 141 := by omega
          clear hslz
          by_cases hl : L.left = 0
          · obtain ⟨q1, q2, q3, q4, q5⟩ := HPS.out hl
            rw [decide_eq_true hl]
            have HQ4 := Lib.hid q4
            have HQ5 := Lib.hid q5
            have HRE := Lib.hid (redo_any w5 L.bytes (by rw [HOKL.out.bytes_len]; have := HOKL.out.m_small; omega))
            rw [← hbs] at HRE
            have HQ2 := Lib.hid q2
            have HQ1 := Lib.hid q1
            have HLZ := Lib.hid hl
            have HQ3 := Lib.hid q3
            clear hl hbs q1 q2 q3 q4 q5 HPG HPS
            go_wp2_with fail
            refine HRE.out.mono ?_
            rintro en w6 ⟨bn, Sn, Dn, rfl, hdn, hb6⟩
            have HDN := Lib.hid hdn
            have HB6 := Lib.hid hb6
            have HBK := Lib.hid (HL5.out.blk.below hb6 HL5.out.base.2)
            have x0 : w6.cell? ⟨b, 0, none⟩ = some (.pointer (some ⟨bd, 0, none⟩)) := by rw [HBK.out.cell]; rfl
            have f0 := HBK.out.frozen 0
            have x1 : (w6.setCell ⟨b, 0, none⟩ (.pointer (some ⟨bn, 0, none⟩))).cell? ⟨b, 1, none⟩ = some (.string bsx) := by
              have := (HBK.out.set_ 0 (.pointer (some ⟨bn, 0, none⟩))).cell 1
              rw [this, HBS.out]; rfl
            have f1 := (HBK.out.set_ 0 (.pointer (some ⟨bn, 0, none⟩))).frozen 1
            obtain ⟨W7, hW7⟩ : ∃ W7, W7 = w6.setCell ⟨b, 0, none⟩ (.pointer (some ⟨bn, 0, none⟩)) := ⟨_, rfl⟩
            rw [← hW7] at x1 f1
            have HBK7 : Hid (Blk W7 b 68 ((L.step.cells bd).setIfInBounds 0 (.pointer (some ⟨bn, 0, none⟩)))) := by rw [hW7]; exact HBK.out.set_ 0 _
            have HO7 : Hid (Only [b] w6 W7) := by rw [hW7]; exact (Only.refl [b] w6).setCell (.inl (by simp)) _
            have hex : sl.extract 0 (sl.size / 2) = strOf ((logOp o).take ((logOp o).length / 2)) := by
              rw [HSL.out, strOf_ext, strOf_sz]; rfl
            have HEX := Lib.hid hex
            clear hex
            have h20 : (0 : Int) ≤ (sl.size : Int) / 2 := by omega
            have h21 : (sl.size : Int) / 2 ≤ (sl.size : Int) := by omega
            have h22 : ((sl.size : Int) / 2).toNat = sl.size / 2 := by omega
            have h23 : (sl.size : Int) ≤ 141 := by omega
            clear hdn hb6 HRE c0 c1 c2 c3 c4
            go_upto_region 12 with (fail)
            rw [← hW7]
            clear hW7 x0 f0
            go_region
            have hcc : bsx ++ sl.extract 0 (sl.size / 2) = strOf (L.put o).bytes := by
              rw [HEX.out, HQ3.out, HBS.out]
              apply ByteArray.ext
              rw [ByteArray.data_append]
              apply Array.ext'
              simp [strOf]
            have HCC := Lib.hid hcc
            clear hcc h20 h21 h22 h23 x1 f1
            go_wp2_with fail
            go_ret2
            rw [HQ4.out, HQ5.out]
            have hblk : Blk ((W7.setCell ⟨b, 1, none⟩ (.string (bsx ++ sl.extract 0 (sl.size / 2)))).drew) b 68 ((L.put o).cells bn) := by
              have h3 := HBK7.out.set_ 1 (.string (bsx ++ sl.extract 0 (sl.size / 2)))
              rw [HCC.out] at h3 ⊢
              have e : ((L.step.cells bd).setIfInBounds 0 (.pointer (some ⟨bn, 0, none⟩))).setIfInBounds 1 (.string (strOf (L.put o).bytes)) = (L.put o).cells bn := by
                unfold LLog.cells
                rw [HQ1.out]
                unfold LLog.step LLog.down
                rw [HLZ.out]
                rfl
              rw [e] at h3
              exact h3
            have hbw : B ≤ w5.heap.size := by have := HL5.out.base; omega
            obtain ⟨k1, k2, k3⟩ := LogSt.lay (L' := L.put o) HL5.out hbw HB6.out HDN.out ((HO7.out.setCell (.inl (by simp)) _).drew) hblk
            refine ⟨rfl, b :: Sn, bn, Sn, Dn, ?_, ?_, ?_⟩
            · show LogSt _ B _ b _ bn Sn Dn (L.put o).doc
              rw [HQ2.out]
              exact k1
            · exact HO5.out.trans_new k2 (fun i hi => H3.out i hi)
            · intro g hg
              rcases k3 g hg with h5 | h5
              · exact H3.out g h5
              · exact .inr (Nat.le_trans HO5.out.size h5)
          · obtain ⟨q1, q2, q3, q4, q5⟩ := HPG.out hl
            rw [decide_eq_false hl]
            have HQ4 := Lib.hid q4
            have HQ5 := Lib.hid q5
            have f1 := HL5.out.blk.frozen 1
            have hdl : decide (L.left = 0) = false := decide_eq_false hl
            clear hl hbs
            have HF : Hid (LogIs (w5.setCell ⟨b, 1, none⟩ (.string (bsx ++ sl))) B S2 b (L.put o) bd SD2 D2) := by
              show LogSt _ B S2 b _ bd SD2 D2 (L.put o).doc
              rw [q2]
              refine LogSt.set (L' := L.put o) HL5.out ((Only.refl [b] w5).setCell (.inl (by simp)) _) ?_
              have h3 := HL5.out.blk.set_ 1 (.string (bsx ++ sl))
              have h4 : bsx ++ sl = strOf (L.put o).bytes := by
                rw [q3, HBS.out, HSL.out]
                apply ByteArray.ext
                rw [ByteArray.data_append]
                apply Array.ext'
                simp [strOf]
              rw [h4] at h3 ⊢
              have e : (L.step.cells bd).setIfInBounds 1 (.string (strOf (L.put o).bytes)) = (L.put o).cells bd := by
                unfold LLog.cells
                rw [q1]
                unfold LLog.step
                rw [hdl]
                rfl
              rw [e] at h3
              exact h3
            clear q1 q2 q3 q4 q5 HPG HPS hdl
            go_wp2_with fail
            go_ret2
            rw [HQ4.out, HQ5.out]
            exact ⟨rfl, S2, bd, SD2, D2, HF.out, HO5.out.setCell (.inl HH.out.subb) _, H3.out⟩
      · have hkb : kb = false := by
          rcases LDoc.apply_three (d := L.doc) o with ⟨_, h1, _⟩ | ⟨_, h1, _⟩ | ⟨_, h1, _⟩
          · exact absurd (HKE.out.trans h1) hkz
          · exact absurd (HKE.out.trans h1) hkz
          · exact HKB.out.trans h1
        have hsame : L.doc.apply o = L.doc := by unfold LDoc.apply; rw [← HKB.out, hkb]; rfl
        have e1 : L.put o = L := by unfold LLog.put; rw [if_neg (by rw [HSTP.out]; decide), if_pos (HKB.out.symm.trans hkb)]
        have e2 : L.putE o = ke := by unfold LLog.putE; rw [if_neg (by rw [HSTP.out]; decide), if_pos (by rw [← HKE.out]; exact hkz), HKE.out]
        have e3 : L.putB o = false := by unfold LLog.putB; rw [← HKB.out, hkb]; simp
        rw [hsame] at H1
        have HE : Hid (L.put o = L ∧ L.putE o = ke ∧ L.putB o = false) := ⟨e1, e2, e3⟩
        have HEV : Hid (errV ke = .iface 72 (.int .i64 ke)) := by show _ = _; rw [errV, if_neg hkz]
        rw [HEV.out]
        clear hsame e1 e2 e3 hkz hkb
        go_wp2_with fail
        go_ret2
        rw [HE.out.1, HE.out.2.1, HE.out.2.2]
        exact ⟨by rw [HEV.out]; rfl, S2, bd, SD2, D2, H1.out, HO2.out, H3.out⟩
end
end Go.Proofs.YtmpkgbkdndpnlaaGreat
