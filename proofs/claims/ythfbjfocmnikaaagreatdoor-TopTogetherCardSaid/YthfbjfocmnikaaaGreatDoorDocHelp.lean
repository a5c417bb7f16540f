/- 3 texts in one: each says ahead of itself what is proved, and its conditions. -/
import Derived.Test.YthfbjfocmnikaaaGreatDoorSameLeafs
import Derived.Test.YthfbjfocmnikaaaGreatDoorSameMarks
import Derived.Test.YthfbjfocmnikaaaGreatDoorSmall
import Derived.Test.YthfbjfocmnikaaaGreatDoorVec
/- (*doc.Doc).Ops, walked: a copy, its own down to the dots. Conditions: the document is right. -/
namespace Go.Proofs.YthfbjfocmnikaaaGreatDoor
open Go.RowKit
set_option linter.unusedVariables false
theorem ocells_set (l : List OpAt) (k : Nat) (hk : k < l.length) (V : Option Addr) (c : Nat) : (ocells l).set (k * 6 + 5) (.slice V l[k].op.seen.length c) = ocells (l.set k ⟨l[k].op, V, c⟩) := by
  apply List.ext_getElem?
  intro i
  by_cases hi : i < l.length * 6
  · have hd : i / 6 < l.length := by omega
    have hi2 : i = i / 6 * 6 + i % 6 := by omega
    rw [List.getElem?_set]
    have hl2 : (l.set k ⟨l[k].op, V, c⟩).length = l.length := by simp
    have e2 := ocells_at (l.set k ⟨l[k].op, V, c⟩) (i / 6) (i % 6) (by rw [hl2]; exact hd) (by omega)
    rw [← hi2] at e2
    have e1 := ocells_at l (i / 6) (i % 6) hd (by omega)
    rw [← hi2] at e1
    rw [e2, List.getElem_set]
    by_cases hk2 : k = i / 6
    · subst hk2
      rw [if_pos rfl]
      by_cases hm : i / 6 * 6 + 5 = i
      · rw [if_pos hm, if_pos (by rw [ocells_len]; omega), show i % 6 = 5 by omega]
        rfl
      · rw [if_neg hm, e1]
        have : i % 6 = 0 ∨ i % 6 = 1 ∨ i % 6 = 2 ∨ i % 6 = 3 ∨ i % 6 = 4 := by omega
        rcases this with h | h | h | h | h <;> rw [h] <;> rfl
    · rw [if_neg hk2, if_neg (by omega), e1]
  · rw [List.getElem?_eq_none (by rw [List.length_set, ocells_len]; omega), List.getElem?_eq_none (by rw [ocells_len]; simp; omega)]
/-- A list of ops that is the call's own, with the dots of each. -/
structure OwnOps (w : World) (B : Nat) (V : Option Addr) (c : Nat) (zs : List OpAt) : Prop where
  row : Own w B 30 6 V zs.length c (ocells zs)
  seen : ∀ z ∈ zs, Own w B 27 2 z.at_ z.op.seen.length z.cap (dcells z.op.seen)
def OpsPost (w : World) (l : List LOp) (e : Ending) (w' : World) : Prop := ∃ V c zs, e = .returned (.slice V l.length c) ∧ zs.map OpAt.op = l ∧ OwnOps w' w.heap.size V c zs ∧ Below w.heap.size w w'
/-- Midway through the copy. -/
structure OpsMid (w : World) (V : Option Addr) (c : Nat) (ys zs : List OpAt) (k : Nat) (wr : World) : Prop where
  below : Below w.heap.size w wr
  row : Own wr w.heap.size 30 6 V zs.length c (ocells zs)
  len : zs.length = ys.length
  same : zs.map OpAt.op = ys.map OpAt.op
  done : ∀ j (hj : j < zs.length), j < k → Own wr w.heap.size 27 2 zs[j].at_ zs[j].op.seen.length zs[j].cap (dcells zs[j].op.seen)
  todo : ∀ j (hj : j < zs.length) (hj2 : j < ys.length), k ≤ j → zs[j] = ys[j]
def OpsLoop (w : World) (V : Option Addr) (c : Nat) (ys : List OpAt) (i : Value) (wr : World) : Prop := ∃ k : Nat, ∃ zs, k ≤ ys.length ∧ i = .int .i64 k ∧ Hid (OpsMid w V c ys zs k wr)
theorem OpsMid.step {w wr w3 : World} {g c : Nat} {ys zs : List OpAt} {k : Nat} (h : OpsMid w (some ⟨g, 0, none⟩) c ys zs k wr) (hk : k < ys.length) (hb : Below wr.heap.size wr w3) {V2 : Option Addr} {c2 : Nat} (hk2 : k < zs.length)
    (hO : Own w3 wr.heap.size 27 2 V2 zs[k].op.seen.length c2 (dcells zs[k].op.seen)) :
    OpsMid w (some ⟨g, 0, none⟩) c ys (zs.set k ⟨zs[k].op, V2, c2⟩) (k + 1) (w3.setCell ⟨g, k * 6 + 5, none⟩ (.slice V2 zs[k].op.seen.length c2)) := by
  have hsz := h.below.size
  have hg := h.row.lt g (by simp [ob])
  have hrow3 := h.row.below hb
  have ho : Only [g] w3 (w3.setCell ⟨g, k * 6 + 5, none⟩ (.slice V2 zs[k].op.seen.length c2)) := (Only.refl _ _).setCell (.inl (by simp)) _
  have hbk : ∃ cs, Blk w3 g 30 cs := by
    rcases hrow3.2 with ⟨h2, _⟩ | ⟨g', cap, cur, he, _, hh, _⟩
    · cases h2
    · injection he with he
      injection he with he
      injection he with he
      subst he
      exact ⟨cur, hh⟩
  obtain ⟨cs, hbk⟩ := hbk
  refine ⟨?_, ?_, by simpa using h.len, ?_, ?_, ?_⟩
  · have h1 := h.below.trans (hb.mono hsz)
    exact h1.trans (ho.below h1.size (by simpa using hg.1))
  · have := hrow3.storeN (k := k * 6 + 5) (by omega) (.slice V2 zs[k].op.seen.length c2)
    rw [ocells_set zs k hk2 V2 c2] at this
    simpa using this
  · rw [← h.same, List.map_set]
    apply List.ext_getElem?
    intro i
    rw [List.getElem?_set]
    by_cases hi : k = i
    · subst hi; simp [hk2]
    · rw [if_neg hi]
  · intro j hj hjk
    have hj' : j < zs.length := by simpa using hj
    by_cases hkj : k = j
    · subst hkj
      have e : (zs.set k ⟨zs[k].op, V2, c2⟩)[k] = ⟨zs[k].op, V2, c2⟩ := by simp
      rw [e]
      exact (hO.only ho (fun x hx hm => hO.blk_ne hbk (by decide) (by simp at hm; exact hm ▸ hx))).mono hsz
    · have e : (zs.set k ⟨zs[k].op, V2, c2⟩)[j] = zs[j] := by rw [List.getElem_set, if_neg hkj]
      rw [e]
      have h1 := (h.done j hj' (by omega)).below hb
      exact h1.only ho (fun x hx hm => h1.blk_ne hbk (by decide) (by simp at hm; exact hm ▸ hx))
  · intro j hj hj2 hkj
    have e : (zs.set k ⟨zs[k].op, V2, c2⟩)[j] = zs[j]'(by simpa using hj) := by rw [List.getElem_set, if_neg (by omega)]
    rw [e]
    exact h.todo j (by simpa using hj) hj2 (by omega)
set_option maxRecDepth 100000 in
set_option maxHeartbeats 4000000 in
theorem ops_doc (w : World) (B : Nat) (S : List Nat) (b : Nat) (st : LDoc) (D : DLay) (h : DocIs w B S b st D) (ok : st.Ok) : Calls Tryz.prog 57 #[.pointer (some ⟨b, 0, none⟩)] w (OpsPost w st.ops) := by
  have hfew := ok.few
  have hyl := h.ys_len
  have HC := Lib.hid (cloneO w w.heap.size D.a4 st.ops.length D.c4 (ocells D.ys) h.ops.reads (ocells_one D.ys) (Fits.of_small (by omega) (by decide)) (Nat.le_refl _))
  have c0 : w.cell? ⟨b, 3, none⟩ = some (.slice D.a4 st.ops.length D.c4) := by rw [h.blk.cell]; rfl
  have HSL : Hid (∀ y ∈ D.ys, y.op.seen.length ≤ 40) := fun y hy => by
    have h1 : y.op ∈ st.ops := by rw [← h.same]; exact List.mem_map.2 ⟨y, hy, rfl⟩
    exact (op_ok (ok.ops _ h1).1).2.2.2.2.2.2.1
  have HSE := Lib.hid h.seen
  have HSM := Lib.hid h.same
  clear h ok
  go_enter Tryz.func57, Tryz.ntmps57
  go_wp2_with fail
  refine HC.out.mono ?_
  rintro e w1 ⟨V, c, rfl, hO, hb⟩
  have HM : Hid (OpsMid w V c D.ys D.ys 0 w1) := ⟨hb, by rw [hyl]; exact hO, rfl, rfl, fun j _ hj => by omega, fun j _ _ _ => rfl⟩
  clear hO hb
  go_wp2_with fail
  go_loopw [13] (fun i wr => OpsLoop w V c D.ys i wr) (fun i _ => st.ops.length - (intOf i).toNat)
  case atStart => exact ⟨0, D.ys, by omega, rfl, HM.out⟩
  case round =>
    obtain ⟨k, zs, hk, rfl, HK⟩ := hrel
    have hzl := HK.out.len
    by_cases hkn : k < st.ops.length
    · have hkz : k < zs.length := by omega
      obtain ⟨g, rfl, hgB, hgl⟩ := HK.out.row.head (by omega)
      have hyk : k < D.ys.length := by omega
      have hzy := HK.out.todo k hkz hyk (Nat.le_refl _)
      have hsl := HSL.out _ (List.getElem_mem hyk)
      have hrd : Reads wr wr.heap.size 2 D.ys[k].at_ D.ys[k].op.seen.length (dcells D.ys[k].op.seen) := ((HSE.out _ (List.getElem_mem hyk)).below HK.out.below).reads
      rw [← hzy] at hrd hsl
      have hcel : ∀ r, r < 6 → wr.cell? ⟨g, k * 6 + r, none⟩ = zs[k].cells[r]? := fun r hr => by
        rw [HK.out.row.cellAt (by omega), ocells_at zs k r hkz hr]
      have HSTEP := Lib.hid (fun w3 (hb : Below wr.heap.size wr w3) V2 c2 hO => HK.out.step hyk hb (V2 := V2) (c2 := c2) hkz hO)
      have HFZ := Lib.hid (fun w3 (hb : Below wr.heap.size wr w3) => (HK.out.row.below hb).frozenAt (k * 6 + 5))
      have HCL5 := Lib.hid (fun w3 (hb : Below wr.heap.size wr w3) => (HK.out.row.below hb).cellAt (j := k * 6 + 5) (by omega))
      have HC5 : Hid ((ocells zs)[k * 6 + 5]? = some (.slice zs[k].at_ zs[k].op.seen.length zs[k].cap)) := by
        show _ = _
        rw [ocells_at zs k 5 hkz (by omega)]; rfl
      generalize hz : zs[k] = z at *
      obtain ⟨⟨⟨who, n⟩, what, p, letter, seen⟩, za, zc⟩ := z
      have j0 : wr.cell? ⟨g, k * 6, none⟩ = some (.int .i64 who) := hcel 0 (by omega)
      have j1 : wr.cell? ⟨g, k * 6 + 1, none⟩ = some (.int .i64 n) := hcel 1 (by omega)
      have j2 : wr.cell? ⟨g, k * 6 + 2, none⟩ = some (.int .i64 what) := hcel 2 (by omega)
      have j3 : wr.cell? ⟨g, k * 6 + 3, none⟩ = some (.string p) := hcel 3 (by omega)
      have j4 : wr.cell? ⟨g, k * 6 + 4, none⟩ = some (.int .i64 letter) := hcel 4 (by omega)
      have j5 : wr.cell? ⟨g, k * 6 + 5, none⟩ = some (.slice za seen.length zc) := hcel 5 (by omega)
      simp only at hrd hsl HC5 HSTEP
      obtain ⟨WX, hWX⟩ : ∃ WX, WX = wr.alloc (.cells #[.int .i64 who, .int .i64 n, .int .i64 what, .string p, .int .i64 letter, .slice za seen.length zc] 30) := ⟨_, rfl⟩
      have hbX : Below wr.heap.size wr WX := by rw [hWX]; exact (Below.refl _ _).alloc (Nat.le_refl _) _
      have HCD := Lib.hid (cloneD WX WX.heap.size za seen.length zc (dcells seen) ((hrd.below hbX).more hbX.size) (oneCells_d seen) (Fits.of_small (by omega) (by decide)) (Nat.le_refl _))
      have HBX := Lib.hid hbX
      have hlt : (k : Int) < (st.ops.length : Int) := by omega
      have hk0 : (0 : Int) ≤ (k : Int) := by omega
      have b5 : WX.cell? ⟨wr.heap.size, 5, none⟩ = some (.slice za seen.length zc) := by rw [hWX, (Blk.new wr _ _).cell]; rfl
      clear hcel hrd hsl HK hzy hbX HSE HSM HSL hz
      go_wp2_with fail
      rw [← hWX]
      refine HCD.out.mono ?_
      rintro e w3 ⟨V2, c2, rfl, hO, hb3⟩
      have HB3 : Hid (Below wr.heap.size wr w3) := HBX.out.trans (hb3.mono HBX.out.size)
      have hcl := (HCL5.out w3 HB3.out).trans HC5.out
      have hfz := HFZ.out w3 HB3.out
      have HFIN := Lib.hid (HSTEP.out w3 HB3.out V2 c2 (hO.mono HBX.out.size))
      clear hO hb3 HSTEP
      go_wp2_with fail
      go_roundw
      case rel => exact ⟨k + 1, _, by omega, by go_num, HFIN.out⟩
      case measure => simp [intOf]; omega
    · have hd : decide ((k : Int) < (st.ops.length : Int)) = false := by simp; omega
      have hke : k = st.ops.length := by omega
      have hfin : OpsPost w st.ops (.returned (.slice V st.ops.length c)) wr := ⟨V, c, zs, rfl, by rw [HK.out.same, HSM.out], ⟨by exact HK.out.row, fun z hz => by
        obtain ⟨j, hj, rfl⟩ := List.getElem_of_mem hz
        exact HK.out.done j hj (by omega)⟩, HK.out.below⟩
      have HF := Lib.hid hfin
      clear hfin
      go_wp2_with fail
      go_ret
      exact HF.out
end Go.Proofs.YthfbjfocmnikaaaGreatDoor
/- leafsame.Ints, walked. Conditions: few elements. -/
namespace Go.Proofs.YthfbjfocmnikaaaGreatDoor
open Go.RowKit
set_option linter.unusedVariables false
namespace SameInts
theorem Reads.int {w : World} {B : Nat} {A : Option Addr} {l : List Int} (h : Reads w B 1 A l.length (ints l)) {k : Nat} (hk : k < l.length) : ∃ ad, A = some ad ∧ ad.block < B ∧ w.cell? (ad.add k) = some (.int .i64 l[k]) := by
  obtain ⟨ad, u, e, hb, hu, hc⟩ := h.at_ hk
  have hu' : u = .int .i64 l[k] := by simpa [ints, hk] using hu.symm
  exact ⟨ad, e, hb, by rw [hc, hu']⟩
def Loop (w : World) (l m : List Int) (i : Value) (wr : World) : Prop :=
  ∃ k : Nat, k ≤ l.length ∧ i = .int .i64 k ∧ Hid (Below w.heap.size w wr) ∧ Hid (decide (l = m) = decide (l.drop k = m.drop k))
set_option maxRecDepth 100000 in
set_option maxHeartbeats 1000000 in
theorem any (w : World) (A G : Option Addr) (ca cg : Nat) (l m : List Int) (h1 : Reads w w.heap.size 1 A l.length (ints l)) (h2 : Reads w w.heap.size 1 G m.length (ints m)) (hl : l.length ≤ 1000000) (hm : m.length ≤ 1000000) :
    Calls Tryz.prog 26 #[.slice A l.length ca, .slice G m.length cg] w (SamePost w (decide (l = m))) := by
  have HR := Lib.hid h1
  have HS := Lib.hid h2
  clear h1 h2
  by_cases hlm : l.length = m.length
  · have HLM := Lib.hid hlm
    have e0 : ((l.length : Int) != (m.length : Int)) = false := by simp [hlm]
    have e1 : ((l.length : Int) == (m.length : Int)) = true := by simp [hlm]
    clear hlm
    go_enter Tryz.func26, Tryz.ntmps26
    go_wp2_with fail
    go_loopw [5] (fun i wr => Loop w l m i wr) (fun i _ => l.length - (intOf i).toNat)
    case atStart => exact ⟨0, by omega, rfl, Below.refl _ _, Lib.hid rfl⟩
    case round =>
      obtain ⟨k, hk, rfl, HB, HE⟩ := hrel
      by_cases hkn : k < l.length
      · have hkm : k < m.length := by have := HLM.out; omega
        obtain ⟨ad, hA, _, c0⟩ := Reads.int (HR.out.below HB.out) hkn
        obtain ⟨ag, hG, _, g0⟩ := Reads.int (HS.out.below HB.out) hkm
        have k1 : (k : Int) < (l.length : Int) := by omega
        have k2 : (k : Int) < (m.length : Int) := by omega
        have k0 : (0 : Int) ≤ (k : Int) := by omega
        subst hA hG
        have hdr : (l.drop k = m.drop k) = (l[k] = m[k] ∧ l.drop (k + 1) = m.drop (k + 1)) := by
          rw [List.drop_eq_getElem_cons hkn, List.drop_eq_getElem_cons hkm, List.cons.injEq]
        have HDR := Lib.hid hdr
        clear hdr
        generalize l[k] = x at *
        generalize m[k] = y at *
        by_cases hxy : x = y
        · have HN : Hid (decide (l = m) = decide (l.drop (k + 1) = m.drop (k + 1))) := by
            show _ = _
            rw [HE.out]; congr 1; rw [HDR.out]; simp [hxy]
          have hq : (x != y) = false := by simp [hxy]
          have hq2 : (x == y) = true := by simp [hxy]
          clear HDR HE hxy
          go_wp2_with fail
          go_quiet (fail)
          go_wp2_with fail
          go_roundw
          case rel => exact ⟨k + 1, by omega, by go_num, below_drewN HB.out _, HN⟩
          case measure => simp [intOf]; omega
        · have HN : Hid (decide (l = m) = false) := by
            show _ = _
            rw [HE.out, decide_eq_false_iff_not, HDR.out]; exact fun h => hxy h.1
          have hq : (x != y) = true := by simp [hxy]
          have hq2 : (x == y) = false := by simp [hxy]
          clear HDR HE hxy
          go_wp2_with fail
          go_quiet (fail)
          go_wp2_with fail
          go_ret
          exact ⟨by rw [HN.out]; rfl, below_drewN HB.out _⟩
      · have HN : Hid (decide (l = m) = true) := by
          show _ = _
          rw [HE.out, List.drop_of_length_le (by omega), List.drop_of_length_le (by have := HLM.out; omega)]; rfl
        have hd : decide ((k : Int) < (l.length : Int)) = false := by simp; omega
        go_wp2_with fail
        go_ret
        exact ⟨by rw [HN.out]; rfl, HB.out⟩
  · have HF : Hid (decide (l = m) = false) := decide_eq_false (fun h => hlm (by rw [h]))
    have e0 : ((l.length : Int) != (m.length : Int)) = true := by simp; omega
    have e1 : ((l.length : Int) == (m.length : Int)) = false := by simp; omega
    clear hlm
    go_enter Tryz.func26, Tryz.ntmps26
    go_wp2_with fail
    go_ret
    exact ⟨by rw [HF.out]; rfl, Below.refl _ _⟩
end SameInts
end Go.Proofs.YthfbjfocmnikaaaGreatDoor
/- Rows of ops: their parts; rows that a step leaves as they are. Plain lemmas. Conditions: none. -/
namespace Go.Proofs.YthfbjfocmnikaaaGreatDoor
open Go.RowKit
set_option linter.unusedVariables false
theorem ocells_app (a b : List OpAt) : ocells (a ++ b) = ocells a ++ ocells b := by simp [ocells]
theorem ocells_take (l : List OpAt) (k : Nat) (hk : k ≤ l.length) : (ocells l).take (k * 6) = ocells (l.take k) := by
  have h := ocells_app (l.take k) (l.drop k)
  rw [List.take_append_drop] at h
  rw [h, List.take_append_of_le_length (by rw [ocells_len, List.length_take]; omega), List.take_of_length_le (by rw [ocells_len, List.length_take]; omega)]
theorem ocells_drop (l : List OpAt) (k : Nat) (hk : k ≤ l.length) : (ocells l).drop (k * 6) = ocells (l.drop k) := by
  have h := ocells_app (l.take k) (l.drop k)
  rw [List.take_append_drop] at h
  have e : (ocells (l.take k)).length = k * 6 := by rw [ocells_len, List.length_take]; omega
  rw [h, ← e, List.drop_left]
theorem Reads.front {w : World} {B : Nat} {A : Option Addr} {l : List OpAt} (h : Reads w B 6 A l.length (ocells l)) {k : Nat} (hk : k ≤ l.length) : Reads w B 6 A k (ocells (l.take k)) := by
  refine ⟨by rw [ocells_len, List.length_take]; congr 1; omega, fun hn => ?_⟩
  obtain ⟨ad, e, hb, hc⟩ := h.2 (by omega)
  refine ⟨ad, e, hb, fun j u hu => hc j u ?_⟩
  rw [← ocells_take l k hk, List.getElem?_take] at hu
  by_cases hj : j < k * 6
  · rw [if_pos hj] at hu; exact hu
  · rw [if_neg hj] at hu; cases hu
theorem Reads.back {w : World} {B : Nat} {A : Option Addr} {l : List OpAt} (h : Reads w B 6 A l.length (ocells l)) {k c : Nat} (hk : k ≤ l.length) (hc : l.length ≤ c) : Reads w B 6 (if c = k then A else A.map (·.add (k * 6))) (l.length - k) (ocells (l.drop k)) := by
  have := h.cut hk hc
  rw [ocells_drop l k hk] at this
  exact this
theorem own_far {w w' : World} {T : List Nat} {N0 : Nat} {e : TypeId} {size n c : Nat} {A : Option Addr} {xs : List Value} (h : Own w N0 e size A n c xs) (ho : Only T w w') (hT : ∀ g ∈ T, g < N0 ∨ w.heap.size ≤ g) : Own w' N0 e size A n c xs :=
  h.only ho (fun g hg hm => by have := h.lt g hg; have := hT g hm; omega)
theorem ops_far {w w' : World} {T : List Nat} {N0 : Nat} {V : Option Addr} {c : Nat} {zs : List OpAt} (h : OwnOps w N0 V c zs) (ho : Only T w w') (hT : ∀ g ∈ T, g < N0 ∨ w.heap.size ≤ g) : OwnOps w' N0 V c zs :=
  ⟨own_far h.row ho hT, fun z hz => own_far (h.seen z hz) ho hT⟩
theorem reads_op (W : World) (y : OpAt) : Reads (W.alloc (.cells (y.op.cells y.at_ y.cap) 30)) (W.heap.size + 1) 6 (some ⟨W.heap.size, 0, none⟩) 1 (ocells [y]) := by
  have h := Reads.row W 30 (y.op.cells y.at_ y.cap)
  have e : ocells [y] = (y.op.cells y.at_ y.cap).toList := by simp [ocells, OpAt.cells]
  rw [e]
  exact h
namespace LDoc
theorem apply_three {d : LDoc} (o : LOp) : (d.applyB o = true ∧ d.applyE o = 0 ∧ (d.apply o).ops = d.ops ++ [o]) ∨ (d.applyB o = false ∧ d.applyE o = 0 ∧ d.apply o = d) ∨ (d.applyE o ≠ 0 ∧ d.applyB o = false ∧ d.apply o = d) := by
  by_cases h : d.applyB o = true
  · have he : d.applyE o = 0 := by
      unfold applyB at h
      rw [Bool.and_eq_true, decide_eq_true_iff] at h
      exact h.1
    exact .inl ⟨h, he, by unfold apply; rw [if_pos h]⟩
  · have hb : d.applyB o = false := by simpa using h
    have ha : d.apply o = d := by unfold apply; rw [hb]; rfl
    by_cases he : d.applyE o = 0
    · exact .inr (.inl ⟨hb, he, ha⟩)
    · exact .inr (.inr ⟨he, hb, ha⟩)
end LDoc
end Go.Proofs.YthfbjfocmnikaaaGreatDoor
