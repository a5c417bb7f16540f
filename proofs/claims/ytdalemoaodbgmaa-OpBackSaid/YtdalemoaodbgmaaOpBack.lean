/- OPS ARE READ AS THEY WERE: the law OpBack answers true. Conditions: none. -/
import Derived.Test.YtdalemoaodbgmaaFive
import Derived.Test.YtdalemoaodbgmaaLift
import Derived.Test.YtdalemoaodbgmaaPackLaw
import Derived.Test.YtdalemoaodbgmaaSameOps
namespace Go.Proofs.Ytdalemoaodbgmaa
open Go.RowKit Go.WideShapes Go.ChangeShapes Go.ChangeAt
set_option linter.unusedVariables false
namespace lawOpBack
/-- Decode, told as one case. -/
def DecTo (w : World) (bad : LOp) (e : Ending) (w' : World) : Prop :=
  ∃ (o : LOp) (A : Option Addr) (c : Nat) (n : Int), e = .returned (.tuple #[o.val A c, errV n]) ∧ Reads w' w'.heap.size 2 A o.seen.length (dcells o.seen) ∧ o.seen.length ≤ 9223372036854775807 ∧ Below w.heap.size w w' ∧ (n = 0 → o ≠ bad)
theorem decode_to (w : World) (b : List UInt8) (bad : LOp) (hne : opBytes bad ≠ b) : Calls Try.prog 14 #[.string (strOf b)] w (DecTo w bad) := by
  have HD := decode_any w b
  cases hd : decOf (strOf b) with
  | none =>
    rw [hd] at HD
    refine HD.mono ?_
    rintro e w' ⟨rfl, hb⟩
    exact ⟨⟨⟨0, 0⟩, 0, ⟨#[]⟩, 0, []⟩, none, 0, 2, rfl, Reads.none_, by simp, hb, fun h => by omega⟩
  | some o =>
    rw [hd] at HD
    have h2 := (dec_some hd).2
    have hok := opOk_of (dec_some hd).1
    refine HD.mono ?_
    rintro e w' ⟨A, c, rfl, ho, hb⟩
    refine ⟨o, A, c, 0, rfl, ho.reads, by have := hok.few; omega, hb, fun _ h => ?_⟩
    subst h
    exact hne h2
def one : LOp := ⟨⟨1, 2⟩, 2, ⟨#[110, 98]⟩, 0, []⟩
theorem one_err : opErr one = 0 := by decide +kernel
theorem one_enc : encRes one = ⟨#[2, 1, 0, 2, 2, 110, 98, 215]⟩ := by decide +kernel
theorem eqG (x : Operand) (v a : Value) (W : World) (ha : ∀ l, a ≠ .agg l) : (eqGuard .eql 26 x (.const v) a .nilIface).run Try.prog W = .ok () W := by
  unfold eqGuard
  cases a <;> first | (exact absurd rfl (ha _)) | simp [Sem.run_pure]
theorem errV_guard (n : Int) (x : Operand) (v : Value) (W : World) : (eqGuard .eql 26 x (.const v) (errV n) .nilIface).run Try.prog W = .ok () W :=
  eqG x v _ W (fun l => by unfold errV; split <;> simp)
theorem errV_eq (n : Int) (W : World) : (binOp .eql 26 (errV n) .nilIface).run Try.prog W = .ok (.bool (decide (n = 0))) W := by
  unfold errV
  split
  · rename_i h; simp [h]; rfl
  · rename_i h; simp [h]; rfl
/-- A string as bytes of the call's own, which may be written. -/
theorem conv_own (w : World) (s : ByteArray) : ∃ C wk, (convert 9 50 (.string s)).run Try.prog w = .ok (.slice (some ⟨w.heap.size, 0, none⟩) s.size C) wk ∧
    (∀ j (hj : j < s.data.toList.length), wk.cell? ⟨w.heap.size, j, none⟩ = some (.int .u8 ((s.data.toList[j]).toNat : Int))) ∧ (∀ j, j < s.data.toList.length → wk.frozen? ⟨w.heap.size, j, none⟩ = false) ∧ Below w.heap.size w wk := by
  refine ⟨_, _, run_bytes_of_string (P := Try.prog) w 9 50 5 s Try.underlying9 Try.underlying50 Try.underlying5, ?_, ?_, ?_⟩
  · intro j hj
    have h := heap_alloc_new w.drew (.cells (bytesRow s (grownCap w s.size 0 5)) 5 ((bytesRow s (grownCap w s.size 0 5)).size, (bytesRow s (grownCap w s.size 0 5)).size + 1))
    rw [cell_of_row _ w.heap.size j _ _ _ h]
    rw [Array.length_toList] at hj
    rw [bytesRow_at s _ j hj]
    simp
  · intro j hj
    have h := heap_alloc_new w.drew (.cells (bytesRow s (grownCap w s.size 0 5)) 5 ((bytesRow s (grownCap w s.size 0 5)).size, (bytesRow s (grownCap w s.size 0 5)).size + 1))
    have h2 : (w.drew.alloc (.cells (bytesRow s (grownCap w s.size 0 5)) 5 ((bytesRow s (grownCap w s.size 0 5)).size, (bytesRow s (grownCap w s.size 0 5)).size + 1))).heap[w.heap.size]? = _ := h
    rw [Array.length_toList] at hj
    have h3 : s.data.size ≤ (bytesRow s (grownCap w s.size 0 5)).size := by simp [bytesRow]
    unfold World.frozen?
    rw [h2]
    simp
    omega
  · exact ((Below.refl _ w).drew).alloc (by simp) _
/-- The bytes with one written, as a string. -/
theorem conv_set (wk : World) (g C : Nat) (l : List UInt8) (k : Nat) (z : UInt8) (hk : k < l.length) (hc : ∀ j (hj : j < l.length), wk.cell? ⟨g, j, none⟩ = some (.int .u8 (l[j].toNat : Int))) :
    (convert 50 9 (.slice (some ⟨g, 0, none⟩) l.length C)).run Try.prog (wk.setCell ⟨g, k, none⟩ (.int .u8 (z.toNat : Int))) = .ok (.string (strOf (l.set k z))) (wk.setCell ⟨g, k, none⟩ (.int .u8 (z.toNat : Int))) := by
  have key := run_convert_bytes_back (P := Try.prog) (wk.setCell ⟨g, k, none⟩ (.int .u8 (z.toNat : Int))) 50 9 5 ⟨g, 0, none⟩ C (l.set k z) Try.underlying50 Try.underlying5 Try.underlying9 (fun j hj' => by
    have e : (⟨g, 0, none⟩ : Addr).add j = ⟨g, j, none⟩ := by unfold Addr.add; by_cases h : j = 0 <;> simp [h]
    have hj : j < l.length := by rw [List.length_set] at hj'; exact hj'
    rw [e]
    by_cases hjk : j = k
    · subst hjk
      rw [World.cell?_setCell_same _ _ _ (hc j hj)]
      simp
    · rw [World.cell?_setCell_other wk ⟨g, k, none⟩ ⟨g, j, none⟩ _ (fun h => by injection h with _ h _; omega), hc j hj]
      rw [List.getElem_set_ne (by omega)])
  rw [List.length_set] at key
  exact key
set_option maxRecDepth 100000 in
set_option maxHeartbeats 4000000 in
theorem walk (w : World) (A : Option Addr) (ca : Nat) (o : LOp) (B : Option Addr) (cb : Nat) (l : List OpAt) (c : ByteArray) (at_ tz : Int)
    (h : Reads w w.heap.size 2 A o.seen.length (dcells o.seen)) (hp : o.place.size ≤ 9223372036854775807) (hs : o.seen.length ≤ 9223372036854775807)
    (hl : Reads w w.heap.size 6 B l.length (ocells l)) (hg : ∀ y ∈ l, y.Good w) (hlm : l.length ≤ 9223372036854775807) (hc : c.size ≤ 9223372036854775807) (ha1 : at_ ≤ 9223372036854775807) (ht0 : 0 ≤ tz) (ht1 : tz ≤ 255) :
    Calls Try.prog 4 #[o.val A ca, .slice B l.length cb, .string c, .int .i64 at_, .int .u8 tz] w (CheckPost w (.bool true)) := by
  obtain ⟨z, hz⟩ : ∃ z : UInt8, tz = (z.toNat : Int) := ⟨u8 tz, (u8_val ht0 ht1).symm⟩
  subst hz
  obtain ⟨W0, hW0⟩ : ∃ W0, W0 = w.alloc (.cells (o.cells A ca) 43) := ⟨_, rfl⟩
  have HX0 : Hid (Blk W0 w.heap.size 43 (o.cells A ca)) := by rw [hW0]; exact Blk.new w _ _
  have HB0 : Hid (Below w.heap.size w W0) := by rw [hW0]; exact (Below.refl _ _).alloc (Nat.le_refl _) _
  obtain ⟨g, hgw⟩ : ∃ g, g = w.heap.size := ⟨_, rfl⟩
  have HG := Lib.hid hgw
  rw [← hgw] at HX0 HB0
  have H1 := Lib.hid (fun w1 => encode_any w1 none 0 one Reads.none_ (by decide))
  have HEN := Lib.hid (fun w1 (hb : Below g w w1) => encode_any w1 A ca o ((h.below (hgw ▸ hb)).more (hgw ▸ hb).size) hp)
  unfold LOp.val LOp.cells at *
  go_enter Try.func4, Try.ntmps4
  go_wp2_with fail
  rw [← hW0, ← hgw]
  clear hW0 hgw
  refine (H1.out _).mono ?_
  rintro e w1 ⟨rfl, hb1⟩
  rw [one_err, one_enc, show errV 0 = .nilIface from rfl]
  have HX1 := Lib.hid (HX0.out.below hb1 HX0.out.lt)
  have HB1 : Hid (Below g w w1) := HB0.out.trans (hb1.mono (Nat.le_of_lt HX0.out.lt))
  clear hb1 HX0 HB0 H1
  have b0 := HX1.out.cell 0
  have b1 := HX1.out.cell 1
  have b2 := HX1.out.cell 2
  have b3 := HX1.out.cell 3
  have b4 := HX1.out.cell 4
  have b5 := HX1.out.cell 5
  simp only [List.getElem?_toArray, List.getElem?_cons_zero, List.getElem?_cons_succ] at b0 b1 b2 b3 b4 b5
  go_wp2_with fail
  refine (HEN.out _ HB1.out).mono ?_
  rintro e w2 ⟨rfl, hb2⟩
  have HX2 := Lib.hid (HX1.out.below hb2 HX1.out.lt)
  have HB2 : Hid (Below g w w2) := HB1.out.trans (hb2.mono (Nat.le_of_lt HX1.out.lt))
  clear hb2 HX1 HB1 b0 b1 b2 b3 b4 b5
  have q1 := errV_guard (opErr o)
  have q2 := errV_eq (opErr o)
  obtain ⟨ev, hev⟩ : ∃ ev, ev = errV (opErr o) := ⟨_, rfl⟩
  obtain ⟨r, hr⟩ : ∃ r, r = encRes o := ⟨_, rfl⟩
  obtain ⟨q, hq⟩ : ∃ q, q = decide (opErr o = 0) := ⟨_, rfl⟩
  rw [← hev, ← hr]
  rw [← hev] at q1 q2
  rw [← hq] at q2
  have HRR := Lib.hid hr
  have HQQ := Lib.hid hq
  clear hev hr hq
  go_upto_if 44 with (fail)
  go_cut [] (fun wx => Below g w wx)
  case first =>
    cases hqq : q with
    | true =>
      have he : opErr o = 0 := by have := HQQ.out; rw [hqq] at this; simpa using this.symm
      have her : r = strOf (opBytes o) := by rw [HRR.out, encRes, if_pos he]
      have HER := Lib.hid her
      have HE := Lib.hid he
      have HRO := Lib.hid ((h.below (HG.out ▸ HB2.out)).more (HG.out ▸ HB2.out).size)
      clear he her q1 q2 hqq
      go_wp2_with fail
      have HD := decode_any w2 (opBytes o)
      rw [dec_enc HE.out, ← HER.out] at HD
      refine HD.mono ?_
      rintro e w3 ⟨xA, xc, rfl, hown, hb3⟩
      have HX3 := Lib.hid (HX2.out.below hb3 HX2.out.lt)
      have HB3 : Hid (Below g w w3) := HB2.out.trans (hb3.mono (Nat.le_of_lt HX2.out.lt))
      have HRO3 := Lib.hid ((HRO.out.below hb3).more hb3.size)
      have HRX3 := Lib.hid hown.reads
      clear hb3 hown HRO HX2 HB2 HD
      obtain ⟨W4, hW4⟩ : ∃ W4, W4 = w3.alloc (.cells (o.cells xA xc) 43) := ⟨_, rfl⟩
      obtain ⟨g4, hg4⟩ : ∃ g4, g4 = w3.heap.size := ⟨_, rfl⟩
      have HX4 : Hid (Blk W4 g 43 (o.cells A ca)) := by rw [hW4]; exact HX3.out.alloc _
      have HY4 : Hid (Blk W4 g4 43 (o.cells xA xc)) := by rw [hW4, hg4]; exact Blk.new w3 _ _
      have HB4 : Hid (Below g w W4) := by rw [hW4]; exact HB3.out.alloc (Nat.le_of_lt HX3.out.lt) _
      have HRO4 : Hid (Reads W4 W4.heap.size 2 A o.seen.length (dcells o.seen)) := by rw [hW4]; exact (HRO3.out.below ((Below.refl _ _).alloc (Nat.le_refl _) _)).more (by simp)
      have HRX4 : Hid (Reads W4 W4.heap.size 2 xA o.seen.length (dcells o.seen)) := by rw [hW4]; exact (HRX3.out.below ((Below.refl _ _).alloc (Nat.le_refl _) _)).more (by simp)
      have b0 := HX4.out.cell 0
      have b1 := HX4.out.cell 1
      have b2 := HX4.out.cell 2
      have b3 := HX4.out.cell 3
      have b4 := HX4.out.cell 4
      have b5 := HX4.out.cell 5
      have c0 := HY4.out.cell 0
      have c1 := HY4.out.cell 1
      have c2 := HY4.out.cell 2
      have c3 := HY4.out.cell 3
      have c4 := HY4.out.cell 4
      have c5 := HY4.out.cell 5
      unfold LOp.cells at b0 b1 b2 b3 b4 b5 c0 c1 c2 c3 c4 c5 hW4
      unfold LOp.val
      simp only [List.getElem?_toArray, List.getElem?_cons_zero, List.getElem?_cons_succ] at b0 b1 b2 b3 b4 b5 c0 c1 c2 c3 c4 c5
      go_upto_region 7 with fail
      rw [← hW4, ← hg4]
      clear hW4 hg4 HX3 HB3 HRO3 HRX3
      go_wp2_with fail
      refine (SameOp.any W4 o o xA A xc ca HRX4.out HRO4.out hs hs).mono ?_
      rintro e w5 ⟨rfl, hb5⟩
      rw [show decide (o = o) = true by simp]
      have HX5 := Lib.hid (HX4.out.below hb5 HX4.out.lt)
      have HB5 : Hid (Below g w w5) := HB4.out.trans (hb5.mono (Nat.le_of_lt HX4.out.lt))
      have HRO5 := Lib.hid ((HRO4.out.below hb5).more hb5.size)
      clear hb5 HX4 HY4 HB4 HRO4 HRX4 b0 b1 b2 b3 b4 b5 c0 c1 c2 c3 c4 c5
      have HSZ : Hid (r.size = (opBytes o).length) := by show _ = _; rw [HER.out]; exact strOf_size _
      have HLN := Lib.hid (opBytes_len HE.out)
      by_cases h1 : 0 ≤ at_
      · by_cases h2 : at_ < (r.size : Int)
        · obtain ⟨k, rfl⟩ : ∃ k : Nat, at_ = (k : Int) := ⟨at_.toNat, by omega⟩
          obtain ⟨C, wk, hcv, hcell, hfr, hbk⟩ := conv_own w5 r
          have hkl : k < r.data.toList.length := by rw [Array.length_toList]; show k < r.size; omega
          have hk1 := hcell k hkl
          have hk2 := hfr k hkl
          have HCS := conv_set wk w5.heap.size C r.data.toList k z hkl hcell
          rw [Array.length_toList] at HCS
          have HCS2 : (convert 50 9 (.slice (some ⟨w5.heap.size, 0, none⟩) r.size C)).run Try.prog (wk.setCell ⟨w5.heap.size, k, none⟩ (.int .u8 (z.toNat : Int))) = .ok (.string (strOf (r.data.toList.set k z))) (wk.setCell ⟨w5.heap.size, k, none⟩ (.int .u8 (z.toNat : Int))) := HCS
          have HBK := Lib.hid hbk
          clear hcell hfr hbk HCS
          go_wp2_with fail
          all_goals first | (go_meet; case rel => exact HB5.out) | skip
          rename_i hne _ _ _ _
          have hbad : opBytes o ≠ r.data.toList.set k z := by
            intro heq
            have hr : r.data.toList = opBytes o := by rw [HER.out]; rfl
            have h1 : (r.data.toList.set k z)[k]'(by rw [List.length_set]; exact hkl) = r.data.toList[k] := by
              have : r.data.toList.set k z = r.data.toList := by rw [← heq, hr]
              simp only [this]
            rw [List.getElem_set_self] at h1
            have h2 : r.data.toList[k] = r[k]'(by rw [Array.length_toList] at hkl; exact hkl) := by rw [Array.getElem_toList]; rfl
            rw [← h2, ← h1] at hne
            simp at hne
          have HDT := Lib.hid (fun W => decode_to W (r.data.toList.set k z) o hbad)
          have HX6 : Hid (Blk (wk.setCell ⟨w5.heap.size, k, none⟩ (.int .u8 z.toNat)) g 43 (o.cells A ca)) := (HX5.out.below HBK.out HX5.out.lt).far (by have := HX5.out.lt; show g ≠ w5.heap.size; omega) _
          have HBN : Hid (Below w5.heap.size w5 (wk.setCell ⟨w5.heap.size, k, none⟩ (.int .u8 z.toNat))) := HBK.out.setCell (Nat.le_refl _) _
          obtain ⟨w6, hw6⟩ : ∃ w6, w6 = wk.setCell ⟨w5.heap.size, k, none⟩ (.int .u8 z.toNat) := ⟨_, rfl⟩
          rw [← hw6] at HX6 HBN ⊢
          have HB6 : Hid (Below g w w6) := HB5.out.trans (HBN.out.mono (Nat.le_of_lt HX5.out.lt))
          have HRO6 := Lib.hid ((HRO5.out.below HBN.out).more HBN.out.size)
          clear hne hbad hw6 HCS2 hcv hk1 hk2 hkl HBK HBN HX5 HB5 HRO5
          refine (HDT.out w6).mono ?_
          rintro e w7 ⟨⟨⟨p1, p2⟩, p3, p4, p5, p6⟩, pA, pc, n, rfl, hrd, hpl, hb7, hno⟩
          have HX7 := Lib.hid (HX6.out.below hb7 HX6.out.lt)
          have HB7 : Hid (Below g w w7) := HB6.out.trans (hb7.mono (Nat.le_of_lt HX6.out.lt))
          have HRO7 := Lib.hid ((HRO6.out.below hb7).more hb7.size)
          have HRP7 := Lib.hid hrd
          have HPL := Lib.hid hpl
          have HNO := Lib.hid hno
          clear hb7 hrd hpl hno HX6 HB6 HRO6 HDT
          obtain ⟨W8, hW8⟩ : ∃ W8, W8 = w7.alloc (.cells #[.int .i64 p1, .int .i64 p2, .int .i64 p3, .string p4, .int .i64 p5, .slice pA p6.length pc] 43) := ⟨_, rfl⟩
          obtain ⟨g8, hg8⟩ : ∃ g8, g8 = w7.heap.size := ⟨_, rfl⟩
          have HX8 : Hid (Blk W8 g 43 (o.cells A ca)) := by rw [hW8]; exact HX7.out.alloc _
          have HY8 : Hid (Blk W8 g8 43 #[.int .i64 p1, .int .i64 p2, .int .i64 p3, .string p4, .int .i64 p5, .slice pA p6.length pc]) := by rw [hW8, hg8]; exact Blk.new w7 _ _
          have HB8 : Hid (Below g w W8) := by rw [hW8]; exact HB7.out.alloc (Nat.le_of_lt HX7.out.lt) _
          have HRO8 : Hid (Reads W8 W8.heap.size 2 A o.seen.length (dcells o.seen)) := by rw [hW8]; exact (HRO7.out.below ((Below.refl _ _).alloc (Nat.le_refl _) _)).more (by simp)
          have HRP8 : Hid (Reads W8 W8.heap.size 2 pA p6.length (dcells p6)) := by rw [hW8]; exact (HRP7.out.below ((Below.refl _ _).alloc (Nat.le_refl _) _)).more (by simp)
          have b0 := HX8.out.cell 0
          have b1 := HX8.out.cell 1
          have b2 := HX8.out.cell 2
          have b3 := HX8.out.cell 3
          have b4 := HX8.out.cell 4
          have b5 := HX8.out.cell 5
          have c0 := HY8.out.cell 0
          have c1 := HY8.out.cell 1
          have c2 := HY8.out.cell 2
          have c3 := HY8.out.cell 3
          have c4 := HY8.out.cell 4
          have c5 := HY8.out.cell 5
          unfold LOp.cells at b0 b1 b2 b3 b4 b5
          unfold LOp.val
          simp only [List.getElem?_toArray, List.getElem?_cons_zero, List.getElem?_cons_succ] at b0 b1 b2 b3 b4 b5 c0 c1 c2 c3 c4 c5
          have r1 := errV_guard n
          have r2 := errV_eq n
          generalize errV n = evn at *
          go_upto_region 14 with fail
          rw [← hW8, ← hg8]
          clear hW8 hg8 HX7 HB7 HRO7 HRP7
          go_wp2_with fail
          refine (SameOp.any W8 ⟨⟨p1, p2⟩, p3, p4, p5, p6⟩ o pA A pc ca HRP8.out HRO8.out HPL.out hs).mono ?_
          rintro e w9 ⟨rfl, hb9⟩
          have HB9 : Hid (Below g w w9) := HB8.out.trans (hb9.mono (Nat.le_of_lt HX8.out.lt))
          clear hb9 b0 b1 b2 b3 b4 b5 c0 c1 c2 c3 c4 c5
          by_cases hn : n = 0
          · have hq : decide (n = 0) = true := by simpa using hn
            rw [show decide ((⟨⟨p1, p2⟩, p3, p4, p5, p6⟩ : LOp) = o) = false by simpa using HNO.out hn]
            clear hn
            go_wp2_with fail
            go_meet
            case rel => exact HB9.out
          · have hq : decide (n = 0) = false := by simpa using hn
            clear hn
            go_wp2_with fail
            go_meet
            case rel => exact HB9.out
        · go_wp2_with fail
          go_meet
          case rel => exact HB5.out
      · go_wp2_with fail
        go_meet
        case rel => exact HB5.out
    | false =>
      clear hqq
      go_wp2_with fail
      go_meet
      case rel => exact HB2.out
  case rest =>
    clear HEN HRR HQQ HX2 HB2 q1 q2
    have HLB := Lib.hid (HG.out ▸ hcut : Below w.heap.size w wc)
    have HPK := Lib.hid (pack_any wc B cb l ((hl.below HLB.out).more HLB.out.size) (fun y hy => ⟨(((hg y hy).1.below HLB.out).more HLB.out.size), (hg y hy).2.1⟩) hlm)
    go_wp2_with fail
    refine HPK.out.mono ?_
    rintro e w1 ⟨rfl, hb1⟩
    have q1 := errV_guard (packErr (l.map OpAt.op))
    have q2 := errV_eq (packErr (l.map OpAt.op))
    obtain ⟨ev2, hev⟩ : ∃ ev2, ev2 = errV (packErr (l.map OpAt.op)) := ⟨_, rfl⟩
    obtain ⟨r2, hr⟩ : ∃ r2, r2 = packRes (l.map OpAt.op) := ⟨_, rfl⟩
    obtain ⟨q, hq⟩ : ∃ q, q = decide (packErr (l.map OpAt.op) = 0) := ⟨_, rfl⟩
    rw [← hev, ← hr]
    rw [← hev] at q1 q2
    rw [← hq] at q2
    have HRR := Lib.hid hr
    have HQQ := Lib.hid hq
    have HB1 : Hid (Below w.heap.size w w1) := HLB.out.trans (hb1.mono HLB.out.size)
    clear hev hr hq hb1 HPK HLB
    go_upto_if 100 with (fail)
    go_cut [] (fun wx => Below w.heap.size w wx)
    case first =>
      cases hqq : q with
      | true =>
        have he : packErr (l.map OpAt.op) = 0 := by have := HQQ.out; rw [hqq] at this; simpa using this.symm
        have her : r2 = strOf (packBytes (l.map OpAt.op)) := by rw [HRR.out, packRes, if_pos he]
        have HU := unpack_any w1 (packBytes (l.map OpAt.op))
        rw [unpack_pack he, ← her] at HU
        have HUU := Lib.hid HU
        clear he her q1 q2 hqq HU
        go_wp2_with fail
        refine HUU.out.mono ?_
        rintro e w2 ⟨V, cv, ys, rfl, hys, hown, hsn, hb2⟩
        have HB2 : Hid (Below w.heap.size w w2) := HB1.out.trans (hb2.mono HB1.out.size)
        have hlen : ys.length = l.length := by rw [← List.length_map (f := OpAt.op), hys, List.length_map]
        rw [List.length_map] at hown
        have hso := SameOps.any w2 V B cv cb ys l (by rw [hlen]; exact hown.reads) ((hl.below HB2.out).more HB2.out.size)
          (fun y hy => ⟨(hsn y hy).1.reads, by have h1 := (hsn y hy).1.cap_le; have h2 := (hsn y hy).1.cap_max; unfold maxLen at h2; omega⟩)
          (fun y hy => ⟨(((hg y hy).1.below HB2.out).more HB2.out.size), by have h1 := (hg y hy).2.2.2.2.2.2; unfold maxLen at h1; omega⟩) (by rw [hlen]; exact hlm) hlm
        rw [hys, show decide (l.map OpAt.op = l.map OpAt.op) = true by simp, hlen] at hso
        have HSO := Lib.hid hso
        clear hb2 hown hsn hys hso hlen HUU HB1
        go_wp2_with fail
        refine HSO.out.mono ?_
        rintro e w3 ⟨rfl, hb3⟩
        have HB3 : Hid (Below w.heap.size w w3) := HB2.out.trans (hb3.mono HB2.out.size)
        clear hb3
        go_wp2_with fail
        go_meet
        case rel => exact HB3.out
      | false =>
        clear hqq
        go_wp2_with fail
        go_meet
        case rel => exact HB1.out
    case rest =>
      have HLB := Lib.hid hcut
      have hcc : strOf c.data.toList = c := by apply ByteArray.ext; simp [strOf]
      have HCC := Lib.hid hcc
      have HUC := unpack_any wc c.data.toList
      rw [hcc] at HUC
      clear HRR HQQ HB1 q1 q2 hcc
      cases hu : unpackOf c.data.toList with
      | none =>
        rw [hu] at HUC
        have HUU := Lib.hid HUC
        clear HUC hu
        go_wp2_with fail
        refine HUU.out.mono ?_
        rintro e w2 ⟨rfl, hb2⟩
        rw [show errV 2 = .iface 56 (.int .i64 2) from rfl]
        have HB2 : Hid (Below w.heap.size w w2) := HLB.out.trans (hb2.mono HLB.out.size)
        clear hb2
        go_wp2_with fail
        go_ret
        exact ⟨rfl, HB2.out⟩
      | some L =>
        rw [hu] at HUC
        obtain ⟨p1, p2⟩ := pack_unpack hu
        have HUU := Lib.hid HUC
        have HP1 := Lib.hid p1
        have HP2 := Lib.hid p2
        clear HUC hu p1 p2
        go_wp2_with fail
        refine HUU.out.mono ?_
        rintro e w2 ⟨V, cv, ys, rfl, hys, hown, hsn, hb2⟩
        have HB2 : Hid (Below w.heap.size w w2) := HLB.out.trans (hb2.mono HLB.out.size)
        subst hys
        rw [List.length_map] at hown
        have hlm2 : ys.length ≤ 9223372036854775807 := by have h1 := hown.cap_le; have h2 := hown.cap_max; unfold maxLen at h2; omega
        have hpk := pack_any w2 V cv ys hown.reads (fun y hy => ⟨(hsn y hy).1.reads, by have := (hsn y hy).2; omega⟩) hlm2
        have hpk2 : Calls Try.prog 16 #[.slice V ys.length cv] w2 (fun e w' => e = .returned (.tuple #[.string c, .nilIface]) ∧ Below w2.heap.size w2 w') := by
          refine hpk.mono ?_
          rintro e w' ⟨rfl, hb⟩
          refine ⟨?_, hb⟩
          rw [packRes, HP1.out, if_pos rfl, HP2.out, HCC.out]
          rfl
        have HPK := Lib.hid hpk2
        clear hb2 hown hsn hpk hpk2 hlm2 HUU
        go_wp2_with fail
        refine HPK.out.mono ?_
        rintro e w3 ⟨rfl, hb3⟩
        have HB3 : Hid (Below w.heap.size w w3) := HB2.out.trans (hb3.mono HB2.out.size)
        clear hb3
        have hcq : (c.toList == c.toList) = true := BEq.rfl
        go_wp2_with fail
        go_ret
        exact ⟨by simp, HB3.out⟩
theorem u8_of_wf {n : Int} (h : (Lit.int .u8 n).wf = true) : 0 ≤ n ∧ n ≤ 255 := by
  simp only [Lit.wf, Bool.and_eq_true, decide_eq_true_eq] at h
  exact h
set_option maxRecDepth 100000 in
theorem lifted (os : Os) (started : os.Started) (H : Type) (enc : TypeId × Value → H) :
    ReturnsInHanded {} Try.checked os 4 .any (Rows.opBackSpec.pre6 enc Try.prog Try.f4 Rows.opBackRow.domain false) (Rows.opBackSpec.post enc Try.prog Try.f4 false true false false) := by
  refine returnsInHanded_of_change (C := Try.checked) Try.own started (by kernel_rfl) Try.func4
    (ChangeSpec.witness6 (enc := enc) (C := Try.checked) false ⟨#[], #[.agg #[.int .i64 0, .int .i64 0, .int .i64 0, .string ⟨#[]⟩, .int .i64 0, .slice none 0 0], .slice none 0 0, .string ⟨#[]⟩, .int .i64 0, .int .u8 0], []⟩ 8 (by kernel_rfl) (by kernel_rfl) (by kernel_rfl) (by kernel_rfl)) ?_
  intro W base args ds gs before hval0 hW _ _
  have hval : ∀ (j : Nat) t v, Try.f4.params[j]? = some t → args[j]? = some v → Value.okWide Try.prog W .any base t v := hval0
  obtain ⟨p, q, hA0, _⟩ := id hW
  have hA : DataW.TrodAll enc Try.prog W 0 (fun _ => true) true Try.f4.params.toList args.toList ds p := hA0
  rw [Try.params4] at hA hval
  obtain ⟨v0, v1, v2, v3, v4, d0, d1, d2, d3, d4, p0, p1, p2, p3, p4, rfl, rfl, rfl, h0, h1, h2, h3, h4⟩ := trodAll_five hA
  obtain ⟨y0, rfl, g0⟩ := arg_op (hval 0 43 v0 rfl rfl) h0
  obtain ⟨A1, c1, l1, rfl, r1, g1, lc1, cm1⟩ := arg_ops (hval 1 44 v1 rfl rfl) h1
  obtain ⟨a2, rfl, rfl, rfl, wa2⟩ := Go.ChangeMaps.open_string Try.underlying9 (hval 2 9 v2 rfl rfl) h2
  obtain ⟨a3, rfl, rfl, rfl, wa3⟩ := open_int Try.underlying3 (hval 3 3 v3 rfl rfl) h3
  obtain ⟨a4, rfl, rfl, rfl, wa4⟩ := open_int Try.underlying5 (hval 4 5 v4 rfl rfl) h4
  refine (walk W y0.at_ y0.cap y0.op A1 c1 l1 a2 a3 a4 g0.1 (by have := g0.2.1; unfold maxLen at this; exact this) (by have := g0.2.2.2.2.2.2; unfold maxLen at this; omega) r1 g1 (by unfold maxLen at cm1; omega) (by unfold maxLen at wa2; exact wa2) (by have := (i64_of_wf wa3).2; omega) (u8_of_wf wa4).1 (u8_of_wf wa4).2).mono fun e W' ⟨he, hb⟩ => ⟨_, he, ?_⟩
  exact law_post Try.laidOut (tb := 4) (by kernel_rfl) Try.underlying4 (by rw [Try.params4]; simp only [List.mem_cons, List.not_mem_nil, or_false]; rintro t (rfl | rfl | rfl | rfl | rfl) <;> exact ⟨by kernel_rfl, of_decide_eq_true (by kernel_rfl)⟩) rfl rfl hW hb

theorem holds : Rows.OpBackSaid :=
  OpenClaim.holds_of_wide 4 Try.f4 rfl rfl rfl rfl rfl rfl rfl ⟨rfl, rfl, rfl, rfl, rfl⟩ rfl rfl rfl rfl rfl (by kernel_rfl) Try.func4 (by kernel_rfl)
    (of_decide_eq_true (by kernel_rfl)) (by unfold Func.isWrapper; first | (rw [if_pos (by decide +kernel)]; kernel_rfl) | (rw [if_neg (by decide +kernel)]; exact ⟨rfl, rfl⟩))
    (fun os started H enc _ => lifted os started H enc)
#print axioms holds

end lawOpBack
end Go.Proofs.Ytdalemoaodbgmaa
