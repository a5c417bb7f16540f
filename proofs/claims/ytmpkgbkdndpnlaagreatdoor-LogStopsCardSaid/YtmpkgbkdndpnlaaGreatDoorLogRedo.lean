/- log.redo, walked: the ops that are whole are done again. Conditions: none of our own. -/
import Derived.BigQuiet
import Derived.Test.YtmpkgbkdndpnlaaGreatDoorDecode
import Derived.Test.YtmpkgbkdndpnlaaGreatDoorDocApply
import Derived.Test.YtmpkgbkdndpnlaaGreatDoorLogAt
namespace Go.Proofs.YtmpkgbkdndpnlaaGreatDoor
open Go.RowKit
set_option linter.unusedVariables false
def RedoPost (w : World) (l : List UInt8) (e : Ending) (w' : World) : Prop :=
  ∃ b S D, e = .returned (.tuple #[.pointer (some ⟨b, 0, none⟩), .int .i64 ((packBody (redoL LDoc.new l)).length : Nat)]) ∧ DocIs w' w.heap.size S b (LDoc.new.all (redoL LDoc.new l)) D ∧ Below w.heap.size w w'
/-- Midway: so many ops are done. -/
structure RdMid (w : World) (l : List UInt8) (b : Nat) (done : List LOp) (rest : List UInt8) (wr : World) : Prop where
  eq : l = packBody done ++ rest
  red : redoL LDoc.new l = done ++ redoL (LDoc.new.all done) rest
  few : ∀ o ∈ done, opErr o = 0
  doc : ∃ S D, DocIs wr w.heap.size S b (LDoc.new.all done) D
  bel : Below w.heap.size w wr
def RdLoop (w : World) (l : List UInt8) (b : Nat) (v : Value) (wr : World) : Prop := ∃ done rest, v = .int .i64 ((packBody done).length : Nat) ∧ Hid (RdMid w l b done rest wr)
theorem RdMid.out {w wr : World} {l : List UInt8} {b : Nat} {done : List LOp} {rest : List UInt8} (h : RdMid w l b done rest wr) {w' : World} (hb : Below wr.heap.size wr w') (hz : redoL (LDoc.new.all done) rest = []) : RedoPost w l (.returned (.tuple #[.pointer (some ⟨b, 0, none⟩), .int .i64 ((packBody done).length : Nat)])) w' := by
  obtain ⟨S, D, hd⟩ := h.doc
  have e : redoL LDoc.new l = done := by rw [h.red, hz, List.append_nil]
  exact ⟨b, S, D, by rw [e], by rw [e]; exact hd.below hb, h.bel.trans (hb.mono h.bel.size)⟩
theorem RdMid.below {w wr : World} {l : List UInt8} {b : Nat} {done : List LOp} {rest : List UInt8} (h : RdMid w l b done rest wr) {w' : World} (hb : Below wr.heap.size wr w') : RdMid w l b done rest w' := by
  obtain ⟨S, D, hd⟩ := h.doc
  exact ⟨h.eq, h.red, h.few, ⟨S, D, hd.below hb⟩, h.bel.trans (hb.mono h.bel.size)⟩
theorem lstr_get (l : List UInt8) (i : Nat) (h : i < (strOf l).size) : ∃ h2 : i < l.length, (strOf l)[i] = l[i] := ⟨by rw [strOf_sz] at h; exact h, rfl⟩
set_option maxRecDepth 100000 in
set_option maxHeartbeats 8000000 in
theorem redo_any (w : World) (l : List UInt8) (hl : l.length ≤ 1000000) : Calls Tryz.prog 39 #[.string (strOf l)] w (RedoPost w l) := by
  have HN := Lib.hid (new_doc w)
  have HDP := Lib.hid (fun W t => decode_any W t)
  obtain ⟨s, hs⟩ : ∃ s, s = strOf l := ⟨_, rfl⟩
  have hsz : s.size = l.length := by rw [hs]; exact strOf_sz l
  have HGE : Hid (∀ i (h : i < s.size), l[i]? = some s[i]) := by
    show ∀ i (h : i < s.size), _
    subst hs
    intro i h
    obtain ⟨h2, h3⟩ := lstr_get l i h
    rw [List.getElem?_eq_getElem h2]
    exact congrArg some h3.symm
  have HEX : Hid (∀ i j, s.extract i j = strOf ((l.take j).drop i)) := by show ∀ i j, _ = _; intro i j; rw [hs, strOf_ext]
  rw [← hs]
  have HSZ := Lib.hid hsz
  have hm : s.size ≤ 1000000 := by omega
  clear hs hsz
  go_enter Tryz.func39, Tryz.ntmps39
  go_wp2_with fail
  refine HN.out.mono ?_
  rintro e w1 ⟨b, S, D, rfl, hd, hb1⟩
  have HD1 := Lib.hid hd
  have HB1 := Lib.hid hb1
  clear hd hb1 HN
  go_wp2_with fail
  go_loopw [5] (fun v wr => RdLoop w l b v wr) (fun v _ => l.length + 1 - (intOf v).toNat)
  case atStart => exact ⟨[], l, rfl, Lib.hid ⟨by simp [packBody], rfl, by simp, ⟨S, D, HD1.out⟩, HB1.out⟩⟩
  case round =>
    obtain ⟨done, rest, rfl, HM⟩ := hrel
    clear HD1 HB1
    obtain ⟨a, ha⟩ : ∃ a, a = (packBody done).length := ⟨_, rfl⟩
    have hal : a + rest.length = s.size := by rw [HSZ.out, HM.out.eq, List.length_append, ha]
    have HA := Lib.hid ha
    rw [← ha]
    clear ha
    by_cases h2 : rest.length < 2
    · have z1 : ¬ (a : Int) + 2 ≤ (s.size : Int) := by omega
      have HR := Lib.hid (redoL_short (LDoc.new.all done) rest h2)
      have a9 : (a : Int) ≤ 1000000 := by omega
      clear h2 hal
      go_wp2_with fail
      go_ret2
      have := HM.out.out (Below.refl _ _) HR.out
      rw [← HA.out] at this
      exact this
    · obtain ⟨c, e, t, hr⟩ : ∃ c e t, rest = c :: e :: t := by
        match rest, h2 with
        | [], h => simp at h
        | [_], h => simp at h
        | c :: e :: t, _ => exact ⟨c, e, t, rfl⟩
      subst hr
      simp only [List.length_cons] at hal
      have z1 : (a : Int) + 2 ≤ (s.size : Int) := by omega
      have b0 : a < s.size := by omega
      have b1 : a + 1 < s.size := by omega
      have dr : ∀ i (h : i < (c :: e :: t).length), l[a + i]? = some ((c :: e :: t)[i]) := fun i h => by
        rw [HM.out.eq, HA.out, List.getElem?_append_right (by omega), Nat.add_sub_cancel_left, List.getElem?_eq_getElem h]
      have e0 : s[a]'b0 = c := by
        have h1 := HGE.out a b0
        have h3 := dr 0 (by simp)
        rw [Nat.add_zero, h1] at h3
        exact Option.some.inj h3
      have e1 : s[a + 1]'b1 = e := by
        have h1 := HGE.out (a + 1) b1
        have h3 := dr 1 (by simp)
        rw [h1] at h3
        exact Option.some.inj h3
      obtain ⟨n, hn⟩ : ∃ n, n = c.toNat * 256 + e.toNat := ⟨_, rfl⟩
      have hc8 := UInt8.toNat_lt c
      have he8 := UInt8.toNat_lt e
      have hn9 : n ≤ 65535 := by omega
      have a0 : (0 : Int) ≤ (a : Int) := by omega
      have a1 : (a : Int) < (s.size : Int) := by omega
      have a2 : (a : Int) + 1 < (s.size : Int) := by omega
      have a3 : ((a : Int) + 1).toNat = a + 1 := by omega
      have a4 : (a : Int).toNat = a := by omega
      have a5 : IntKind.i64.wrap ((a : Int) + 1) = (a : Int) + 1 := IntWalk.i64_in _ (by omega)
      have a6 : IntKind.i64.wrap ((a : Int) + 2) = (a : Int) + 2 := IntWalk.i64_in _ (by omega)
      have a9 : (a : Int) ≤ 1000000 := by omega
      go_upto_region 4 with (fail)
      go_quiet (fail)
      go_upto_region 5 with (fail)
      obtain ⟨q, hq⟩ : ∃ q, q = a + 2 + n := ⟨_, rfl⟩
      have hqi : (a : Int) + 2 + (c.toNat : Int) * 256 + (e.toNat : Int) = (q : Int) := by omega
      rw [hqi]
      clear hqi
      have HM2 := Lib.hid (HM.out.below (below_drewN (Below.refl _ _) nq))
      generalize wr.drewN nq = w2 at *
      have HQ := Lib.hid hq
      have HNN := Lib.hid hn
      have hst := redoL_step (LDoc.new.all done) c e t
      rw [← hn] at hst
      by_cases ht : t.length < n
      · have z5 : (q : Int) > (s.size : Int) := by omega
        have z6 : (s.size : Int) < (q : Int) := by omega
        have HR : Hid (redoL (LDoc.new.all done) (c :: e :: t) = []) := by show _ = _; rw [hst, if_pos ht]
        clear ht hst hn hq dr hal
        go_wp2_with fail
        go_ret2
        have := HM2.out.out (Below.refl _ _) HR.out
        rw [← HA.out] at this
        exact this
      · have z5 : ¬ (q : Int) > (s.size : Int) := by omega
        have z6 : ¬ (s.size : Int) < (q : Int) := by omega
        have z7 : (q : Int) ≤ (s.size : Int) := by omega
        have z8 : (a : Int) + 2 ≤ (q : Int) := by omega
        have z9 : ((a : Int) + 2).toNat = a + 2 := by omega
        have HX : Hid (s.extract (a + 2) q = strOf (t.take n)) := by
          show _ = _
          have hdd : (c :: e :: t) = l.drop a := by rw [HM.out.eq, HA.out, List.drop_left]
          rw [HEX.out, List.drop_take, hq, show a + 2 + n - (a + 2) = n by omega, ← List.drop_drop, ← hdd]
          rfl
        rw [if_neg ht] at hst
        obtain ⟨R, hR⟩ : ∃ R, R = decOf (strOf (t.take n)) := ⟨_, rfl⟩
        have HDC := Lib.hid (HDP.out · (t.take n))
        rw [← hR] at HDC hst
        have HRD := Lib.hid hR
        have HST := Lib.hid hst
        have HTN : Hid (n ≤ t.length) := by show n ≤ _; omega
        clear ht hst hn hq dr hal hR
        go_wp2_with fail
        rw [HX.out]
        refine (HDC.out w2).mono ?_
        cases hR : R with
        | none =>
          rw [hR] at HST
          rintro en w3 ⟨rfl, hb3⟩
          have HB3 := Lib.hid hb3
          clear hb3
          rw [show errV 2 = .iface 79 (.int .i64 2) by rw [errV, if_neg (by decide)]]
          unfold zeroOp
          go_wp2_with fail
          go_ret2
          have := HM2.out.out (HB3.out.alloc HB3.out.size (.cells #[.int .i64 0, .int .i64 0, .int .i64 0, .string ⟨#[]⟩, .int .i64 0, .slice none 0 0] 34)) HST.out
          rw [← HA.out] at this
          exact this
        | some o =>
          rw [hR] at HST
          rintro en w3 ⟨A, cA, rfl, hown, hb3⟩
          obtain ⟨ho1, ho2⟩ := dec_some (HRD.out.symm.trans hR)
          have hpl := placeErr_len (opOk_of ho1).place
          have HM3 := Lib.hid (HM2.out.below hb3)
          have hlt3 : Hid (∀ g ∈ ob A, w2.heap.size ≤ g) := fun g hg => (hown.lt g hg).1
          obtain ⟨S2, D2, hd2⟩ := HM2.out.doc
          have hd3 := hd2.below hb3
          obtain ⟨W4, hW4⟩ : ∃ W4, W4 = w3.alloc (.cells (o.cells A cA) 34) := ⟨_, rfl⟩
          have HM4 : Hid (RdMid w l b done (c :: e :: t) W4) := by rw [hW4]; exact HM3.out.below ((Below.refl _ _).alloc (Nat.le_refl _) _)
          have hd4 : DocIs W4 w.heap.size S2 b (LDoc.new.all done) D2 := by rw [hW4]; exact hd3.below ((Below.refl _ _).alloc (Nat.le_refl _) _)
          have hr4 : Reads W4 W4.heap.size 2 A o.seen.length (dcells o.seen) := by rw [hW4]; exact (hown.alloc _).reads
          have HBX : Hid (Blk W4 w3.heap.size 34 (o.cells A cA)) := by rw [hW4]; exact Blk.new w3 _ _
          have HAP := Lib.hid (apply_doc W4 w.heap.size S2 b _ D2 hd4 (LDoc.all_ok _ LDoc.new_ok) o A cA (by omega) hr4 (fun _ g hg hm => by
            have h1 := hlt3.out g hg
            have h2 := (hd2.own g hm).2
            omega))
          have b0 := HBX.out.cell 0
          have b1 := HBX.out.cell 1
          have b2 := HBX.out.cell 2
          have b3 := HBX.out.cell 3
          have b4 := HBX.out.cell 4
          have b5 := HBX.out.cell 5
          have HO1 := Lib.hid ho1
          have HO2 := Lib.hid ho2
          obtain ⟨g3, hg3⟩ : ∃ g3, g3 = w3.heap.size := ⟨_, rfl⟩
          rw [← hg3] at b0 b1 b2 b3 b4 b5
          have HOWN : Hid (∀ g ∈ S2, w.heap.size ≤ g) := fun g hg => (hd2.own g hg).1
          obtain ⟨ke, hke⟩ : ∃ ke, ke = (LDoc.new.all done).applyE o := ⟨_, rfl⟩
          obtain ⟨kb, hkb⟩ : ∃ kb, kb = (LDoc.new.all done).applyB o := ⟨_, rfl⟩
          have HKE := Lib.hid hke
          rw [← hke, ← hkb] at HAP
          clear hb3 hown hd2 hd3 hd4 hr4 ho1 ho2 hpl hR HM3 HBX HDC hke hkb
          unfold LOp.val at HAP ⊢
          unfold LOp.cells at b0 b1 b2 b3 b4 b5 hW4
          simp only [List.getElem?_toArray, List.getElem?_cons_zero, List.getElem?_cons_succ] at b0 b1 b2 b3 b4 b5
          go_upto_region 7 with (fail)
          rw [← hW4, ← hg3]
          clear hW4 hg3
          go_wp2_with fail
          refine HAP.out.mono ?_
          rintro en w5 ⟨rfl, S5, D5, hd5, ho5, _⟩
          have HD5 := Lib.hid hd5
          have HO5 := Lib.hid ho5
          clear hd5 ho5 b0 b1 b2 b3 b4 b5 HAP
          by_cases hz : ke = 0
          · rw [show errV ke = .nilIface by rw [hz]; rfl]
            have hz' : (LDoc.new.all done).applyE o = 0 := HKE.out.symm.trans hz
            have HZ := Lib.hid hz'
            clear hz hz'
            go_wp2_with fail
            go_roundw
            case rel =>
              have hlo : logOp o = c :: e :: t.take n := by
                have h1 : opBytes o = t.take n := HO2.out
                unfold logOp
                rw [h1, List.length_take, Nat.min_eq_left HTN.out, HNN.out, twoB_of]
                rfl
              have hpb : packBody (done ++ [o]) = packBody done ++ (c :: e :: t.take n) := by rw [packBody_app, packBody_one, hlo]
              have hll : (packBody (done ++ [o])).length = q := by
                rw [hpb, List.length_append, List.length_cons, List.length_cons, List.length_take, Nat.min_eq_left HTN.out, ← HA.out, HQ.out]
                omega
              refine ⟨done ++ [o], t.drop n, by rw [hll], Lib.hid ⟨?_, ?_, ?_, ?_, ?_⟩⟩
              · rw [hpb, HM4.out.eq, List.append_assoc]
                congr 1
                show c :: e :: t = c :: e :: (t.take n ++ t.drop n)
                rw [List.take_append_drop]
              · rw [HM4.out.red, HST.out, LDoc.all_app]
                rw [if_neg (by rw [HZ.out]; simp), List.append_assoc]
                rfl
              · intro x hx
                rcases List.mem_append.1 hx with hx | hx
                · exact HM4.out.few x hx
                · simp at hx; subst hx; exact HO1.out
              · rw [LDoc.all_app]
                exact ⟨S5, D5, HD5.out⟩
              · exact HM4.out.bel.trans (HO5.out.below HM4.out.bel.size HOWN.out)
            case measure =>
              simp only [intOf]
              have := HQ.out
              have := HSZ.out
              omega
          · have HZ : Hid (redoL (LDoc.new.all done) (c :: e :: t) = []) := by
              show _ = _
              rw [HST.out]
              rw [if_pos (fun h => hz (HKE.out.trans h))]
            have hsame : (LDoc.new.all done).apply o = LDoc.new.all done := by
              rcases LDoc.apply_three (d := LDoc.new.all done) o with ⟨_, h1, _⟩ | ⟨_, h1, _⟩ | ⟨_, _, h1⟩
              · exact absurd (HKE.out.trans h1) hz
              · exact absurd (HKE.out.trans h1) hz
              · exact h1
            rw [hsame] at HD5
            have HFIN : Hid (RdMid w l b done (c :: e :: t) w5) := ⟨HM4.out.eq, HM4.out.red, HM4.out.few, ⟨S5, D5, HD5.out⟩, HM4.out.bel.trans (HO5.out.below HM4.out.bel.size HOWN.out)⟩
            rw [show errV ke = .iface 79 (.int .i64 ke) by rw [errV, if_neg hz]]
            clear hz hsame
            go_wp2_with fail
            go_ret2
            have := HFIN.out.out (Below.refl _ _) HZ.out
            rw [← HA.out] at this
            exact this
end Go.Proofs.YtmpkgbkdndpnlaaGreatDoor
