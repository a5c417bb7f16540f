/- 4 texts in one: each says ahead of itself what is proved, and its conditions. -/
import Derived.ChangeMaps4
import Derived.MapKept
import Derived.WideKeyRuns
import Derived.Test.YthfbjfocmnikaaaGreatDoorBookWrite
import Derived.Test.YthfbjfocmnikaaaGreatDoorIns
import Derived.Test.YthfbjfocmnikaaaGreatDoorMarkJoin
import Derived.Test.YthfbjfocmnikaaaGreatDoorMem
import Derived.Test.YthfbjfocmnikaaaGreatDoorOpenOps
import Derived.Test.YthfbjfocmnikaaaGreatDoorSmall
/- clear on the end of a row of the call's own. Plain lemmas. Conditions: none. -/
namespace Go.Proofs.YthfbjfocmnikaaaGreatDoor
open Go.RowKit
set_option linter.unusedVariables false
theorem zeroCells_len (z : Array Value) (n : Nat) : (Builtin.zeroCells z n).size = n * z.size := by simp [Builtin.zeroCells]
theorem zeroCells_one {z : Array Value} (h : ∀ u ∈ z.toList, u.oneCell' = true) (n : Nat) : ∀ u ∈ (Builtin.zeroCells z n).toList, u.oneCell' = true := by
  intro u hu
  simp only [Builtin.zeroCells, Array.toList_map, List.mem_map, Array.toList_range, List.mem_range] at hu
  obtain ⟨i, hi, rfl⟩ := hu
  have hz : 0 < z.size := by
    rcases Nat.eq_zero_or_pos z.size with h0 | h0
    · rw [h0, Nat.mul_zero] at hi; omega
    · exact h0
  have hm : i % z.size < z.size := Nat.mod_lt _ hz
  rw [getElem!_pos z _ hm]
  exact h _ (by rw [Array.mem_toList_iff]; exact Array.getElem_mem hm)
theorem clear_own {P : Program} {w : World} {B g n c size : Nat} {t e : TypeId} {xs : List Value} {z : Value} (ht : P.underlying t = some (.slice e)) (hv : ∀ w, (zeroValue e).run P w = .ok z w) (hzs : z.cells.size = size)
    (hz1 : ∀ u ∈ z.cells.toList, u.oneCell' = true) (hO : Own w B e size (some ⟨g, 0, none⟩) n c xs) (i : Nat) (hi : i < n) :
    ∃ w', (∀ ty, (Builtin.clear_ #[t] ty #[.slice (some ⟨g, i * size, none⟩) (n - i) (c - i)]).run P w = .ok (.tuple #[]) w') ∧ Own w' B e size (some ⟨g, 0, none⟩) i c (xs.take (i * size)) ∧ Only [g] w w' := by
  obtain ⟨h1, h2⟩ := hO
  rcases h2 with ⟨h2, _⟩ | ⟨g', cap, cur, e1, e2, e3, e4, e5, e6, e7⟩
  · cases h2
  · injection e1 with e1 _ ec
    injection e1 with e1
    injection e1 with e1
    subst e1 ec
    have hzl : (Builtin.zeroCells z.cells (n - i)).toList.length = (n - i) * size := by rw [Array.length_toList, zeroCells_len, hzs]
    have hmul : (n - i) * size = n * size - i * size := Nat.sub_mul n i size
    have hle : i * size ≤ n * size := Nat.mul_le_mul_right size (by omega)
    have hle2 : n * size ≤ c * size := Nat.mul_le_mul_right size e4
    have hst := run_storeCells_at (P := P) g (i * size) e (Builtin.zeroCells z.cells (n - i)).toList 0 cur w e3 (by rw [hzl, e6]; omega) (zeroCells_one hz1 _)
    simp only [Nat.add_zero] at hst
    refine ⟨w.setRow g (cur.toList.take (i * size) ++ (Builtin.zeroCells z.cells (n - i)).toList ++ cur.toList.drop (i * size + (Builtin.zeroCells z.cells (n - i)).toList.length)).toArray, fun ty => ?_, ?_, only_setRow w (e := e) (cur := cur) e3 _⟩
    · obtain ⟨m, hm⟩ : ∃ m, n - i = m + 1 := ⟨n - i - 1, by omega⟩
      rw [hm] at hst ⊢
      simp [Builtin.clear_, run_underlying ht, hv, hst]
    · refine ⟨by rw [List.length_take, h1]; omega, .inr ⟨g, c, _, rfl, e2, setRow_heap w g cur _ e _ e3, by omega, e5, ?_, ?_⟩⟩
      · simp only [List.size_toArray, List.length_append, List.length_take, List.length_drop, Array.length_toList, hzl, e6]
        omega
      · simp only [List.append_assoc]
        rw [List.take_append_of_le_length (by rw [List.length_take, Array.length_toList, e6]; omega), List.take_take, ← e7, List.take_take, Nat.min_self, Nat.min_eq_left hle]
end Go.Proofs.YthfbjfocmnikaaaGreatDoor
/- clear on a row of the call's own; slices.DeleteFunc of marks; marks.Join, walked. Conditions: places that an int may count. -/
namespace Go.Proofs.YthfbjfocmnikaaaGreatDoor
open Go.RowKit
set_option linter.unusedVariables false
namespace MarkDel
open MarkJoin
def keepM (p : ByteArray) (seen : List LDot) (m : LMark) : Bool := !joined p seen m
def DelLoop (w : World) (B g c : Nat) (l : List LMark) (p : ByteArray) (seen : List LDot) (i j : Value) (wr : World) : Prop :=
  ∃ (a b : Nat) (X : List LMark), a < b ∧ b ≤ l.length ∧ i = .int .i64 a ∧ j = .int .i64 b ∧ X.length = l.length ∧ Hid (X.take a = (l.take b).filter (keepM p seen)) ∧ Hid (X.drop b = l.drop b) ∧
    Hid (Own wr B 136 3 (some ⟨g, 0, none⟩) l.length c (mcells X)) ∧ Hid (Only [g] w wr)
def DelPost (w : World) (B : Nat) (l' : List LMark) (e : Ending) (w' : World) : Prop := ∃ A c, e = .returned (.slice A l'.length c) ∧ Own w' B 136 3 A l'.length c (mcells l') ∧ Below B w w'
theorem some_at {xs : List Value} {j : Nat} (h : j < xs.length) : ∃ v, xs[j]? = some v := ⟨_, List.getElem?_eq_getElem h⟩
theorem mcells_set (X : List LMark) (a : Nat) (ha : a < X.length) (m : LMark) : (((mcells X).set (a * 3) (.string m.place)).set (a * 3 + 1) (.int .i64 m.dot.who)).set (a * 3 + 2) (.int .i64 m.dot.n) = mcells (X.set a m) := by
  induction X generalizing a with
  | nil => simp at ha
  | cons x X ih =>
    cases a with
    | zero => rfl
    | succ a =>
      show (((x.cells ++ mcells X).set ((a + 1) * 3) _).set ((a + 1) * 3 + 1) _).set ((a + 1) * 3 + 2) _ = x.cells ++ mcells (X.set a m)
      rw [← ih a (by simpa using ha), List.set_append_right _ _ (by simp [LMark.cells]; omega), List.set_append_right _ _ (by simp [LMark.cells]; omega), List.set_append_right _ _ (by simp [LMark.cells]; omega)]
      rw [show (a + 1) * 3 - x.cells.length = a * 3 by simp [LMark.cells]; omega, show (a + 1) * 3 + 1 - x.cells.length = a * 3 + 1 by simp [LMark.cells]; omega, show (a + 1) * 3 + 2 - x.cells.length = a * 3 + 2 by simp [LMark.cells]; omega]
theorem zero_mark (w : World) : (zeroValue 136).run Tryz.prog w = .ok (.agg #[.string ⟨#[]⟩, .int .i64 0, .int .i64 0]) w := by kernel_rfl
set_option maxRecDepth 100000 in
set_option maxHeartbeats 4000000 in
theorem del_any (w : World) (B : Nat) (p : ByteArray) (seen : List LDot) (b4 b5 : Nat) (A2 : Option Addr) (c2 : Nat) (h : Env w B p seen b4 b5 A2 c2) (hB : B ≤ w.heap.size)
    (A : Option Addr) (c : Nat) (l : List LMark) (hO : Own w B 136 3 A l.length c (mcells l)) (hn : l.length ≤ 1000) :
    Calls Tryz.prog 226 #[.slice A l.length c, .func (Fn.func 227) #[] #[.pointer (some ⟨b4, 0, none⟩), .pointer (some ⟨b5, 0, none⟩)]] w (DelPost w B (joinRes l p seen)) := by
  have HFi := Lib.hid (first_any w B p seen b4 b5 A2 c2 h hB A c l hO.reads hn)
  have HF := Lib.hid (fun W (hb : Below B w W) m => fn_any W B p seen b4 b5 A2 c2 m (h.below hb) (Nat.le_trans hB hb.size))
  have HO := Lib.hid hO
  have hcap := hO.cap_le
  have hcm : c ≤ 9223372036854775807 := by have := hO.cap_max; unfold maxLen at this; omega
  clear h hO
  go_enter Tryz.func226, Tryz.ntmps226
  go_wp2_with fail
  refine HFi.out.mono ?_
  rintro e w1 ⟨r, rfl, hr, hb1⟩
  have HB1 : Hid (Below B w w1) := hb1.mono hB
  have HO1 := Lib.hid (HO.out.below hb1)
  clear hb1
  rcases hr with ⟨rfl, hno⟩ | ⟨k, hk, rfl, hj, hfirst⟩
  · have HJ : Hid (joinRes l p seen = l) := List.filter_eq_self.2 (fun x hx => by rw [hno x hx]; rfl)
    clear hno
    go_wp2_with fail
    go_ret
    rw [HJ.out]
    exact ⟨A, c, rfl, HO1.out, HB1.out⟩
  · obtain ⟨g, rfl, hg1, hg2⟩ := HO1.out.head (by omega)
    have g0 : ((k : Int) == -1) = false := by rw [beq_eq_false_iff_ne]; omega
    have HST : Hid (l.take k = (l.take (k + 1)).filter (keepM p seen)) := by
      show _ = _
      rw [List.take_succ_eq_append_getElem hk, List.filter_append, List.filter_eq_self.2 (fun x hx => by
        obtain ⟨j, hj, rfl⟩ := List.getElem_of_mem hx
        rw [List.length_take] at hj
        rw [List.getElem_take]
        unfold keepM
        rw [hfirst j (by omega) (by omega)]; rfl)]
      simp [keepM, hj]
    clear hj hfirst
    go_wp2_with fail
    go_loopw [5, 6] (fun i j wr => DelLoop w1 B g c l p seen i j wr) (fun _ j _ => l.length - (intOf j).toNat)
    case atStart => exact ⟨k, k + 1, l, by omega, by omega, rfl, by go_num, rfl, HST, rfl, HO1, Only.refl _ _⟩
    case round =>
      obtain ⟨a, b, X, hab, hbl, rfl, rfl, hX, HT, HD, HOr, HL⟩ := hrel
      have HBr : Hid (Below B w wr) := HB1.out.trans (HL.out.below (Nat.le_trans hB HB1.out.size) (by simp; exact hg1))
      by_cases hbn : b < l.length
      · have hbX : b < X.length := by omega
        have haX : a < X.length := by omega
        have hlt : (b : Int) < (l.length : Int) := by omega
        have hlt' : (a : Int) < (l.length : Int) := by omega
        have b0 : (0 : Int) ≤ (b : Int) := by omega
        have a0 : (0 : Int) ≤ (a : Int) := by omega
        have hx : X[b] = l[b] := by
          have := HD.out
          rw [List.drop_eq_getElem_cons hbX, List.drop_eq_getElem_cons hbn] at this
          exact (List.cons.injEq .. ▸ this).1
        have c0 : wr.cell? ⟨g, b * 3, none⟩ = some (.string X[b].place) := by rw [HOr.out.cellAt (by omega), show b * 3 = b * 3 + 0 from rfl, mcells_at X b 0 hbX (by omega)]; rfl
        have c1 : wr.cell? ⟨g, b * 3 + 1, none⟩ = some (.int .i64 X[b].dot.who) := by rw [HOr.out.cellAt (by omega), mcells_at X b 1 hbX (by omega)]; rfl
        have c2 : wr.cell? ⟨g, b * 3 + 2, none⟩ = some (.int .i64 X[b].dot.n) := by rw [HOr.out.cellAt (by omega), mcells_at X b 2 hbX (by omega)]; rfl
        have s0 : ∃ v, wr.cell? ⟨g, a * 3, none⟩ = some v := ⟨_, by rw [HOr.out.cellAt (by omega), show a * 3 = a * 3 + 0 from rfl, mcells_at X a 0 haX (by omega)]; rfl⟩
        rw [hx] at c0 c1 c2
        have HTJ : Hid (joined p seen l[b] = true → (l.take (b + 1)).filter (keepM p seen) = (l.take b).filter (keepM p seen)) := fun h => by
          rw [List.take_succ_eq_append_getElem hbn, List.filter_append]; simp [keepM, h]
        have HTK : Hid (joined p seen l[b] = false → (l.take (b + 1)).filter (keepM p seen) = (l.take b).filter (keepM p seen) ++ [l[b]]) := fun h => by
          rw [List.take_succ_eq_append_getElem hbn, List.filter_append]; simp [keepM, h]
        have HXS : Hid ((X.set a l[b]).take (a + 1) = X.take a ++ [l[b]]) := by
          show _ = _
          rw [List.take_succ_eq_append_getElem (by rw [List.length_set]; exact haX), List.getElem_set_self, List.take_set_of_le (Nat.le_refl _)]
        have HXD : Hid ((X.set a l[b]).drop (b + 1) = l.drop (b + 1)) := by
          show _ = _
          rw [List.drop_set_of_lt (by omega)]
          have := HD.out
          rw [List.drop_eq_getElem_cons hbX, List.drop_eq_getElem_cons hbn] at this
          exact (List.cons.injEq .. ▸ this).2
        have HDD : Hid (X.drop (b + 1) = l.drop (b + 1)) := by
          show _ = _
          have := HD.out
          rw [List.drop_eq_getElem_cons hbX, List.drop_eq_getElem_cons hbn] at this
          exact (List.cons.injEq .. ▸ this).2
        clear hx
        generalize l[b] = x at *
        obtain ⟨q, ⟨d, n⟩⟩ := x
        simp only at c0 c1 c2
        have HFx := Lib.hid (fun W hb => HF.out W hb ⟨q, ⟨d, n⟩⟩)
        cases hj : joined p seen ⟨q, ⟨d, n⟩⟩ with
        | true =>
          have HT2 : Hid (X.take a = (l.take (b + 1)).filter (keepM p seen)) := by show _ = _; rw [HTJ.out hj]; exact HT.out
          have HJ := Lib.hid hj
          have HBa : Hid (Below wr.heap.size wr (wr.alloc (.cells #[.string q, .int .i64 d, .int .i64 n] 136))) := (Below.refl _ _).alloc (Nat.le_refl _) _
          have HBa2 : Hid (Below B w (wr.alloc (.cells #[.string q, .int .i64 d, .int .i64 n] 136))) := HBr.out.trans (HBa.out.mono (Nat.le_trans hB HBr.out.size))
          clear hj HTJ HTK s0
          go_wp2_with fail
          refine (HFx.out _ HBa2.out).mono ?_
          rintro e w2 ⟨rfl, hb2⟩
          rw [HJ.out]
          have HW2 := Lib.hid (HBa.out.trans (hb2.mono HBa.out.size))
          clear hb2
          go_wp2_with fail
          go_roundw
          case rel => exact ⟨a, b + 1, X, by omega, by omega, rfl, by go_num, hX, HT2, HDD, HOr.out.below HW2.out, HL.out.trans (Only.of_below HW2.out)⟩
          case measure => simp [intOf]; omega
        | false =>
          have HT2 : Hid ((X.set a ⟨q, ⟨d, n⟩⟩).take (a + 1) = (l.take (b + 1)).filter (keepM p seen)) := by show _ = _; rw [HTK.out hj, HXS.out, HT.out]
          have HJ := Lib.hid hj
          have HBa : Hid (Below wr.heap.size wr (wr.alloc (.cells #[.string q, .int .i64 d, .int .i64 n] 136))) := (Below.refl _ _).alloc (Nat.le_refl _) _
          have HBa2 : Hid (Below B w (wr.alloc (.cells #[.string q, .int .i64 d, .int .i64 n] 136))) := HBr.out.trans (HBa.out.mono (Nat.le_trans hB HBr.out.size))
          have hgl : g < wr.heap.size := (HOr.out.lt g (by simp [ob])).2
          clear hj HTJ HTK
          go_wp2_with fail
          refine (HFx.out _ HBa2.out).mono ?_
          rintro e w2 ⟨rfl, hb2⟩
          rw [HJ.out]
          have HW2 := Lib.hid (HBa.out.trans (hb2.mono HBa.out.size))
          have HOw := Lib.hid (HOr.out.below HW2.out)
          have HBX : Hid (Blk w2 wr.heap.size 136 #[.string q, .int .i64 d, .int .i64 n]) := (Blk.new wr _ _).below hb2 (by simp)
          have k0 : w2.cell? ⟨wr.heap.size, 0, none⟩ = some (.string q) := by rw [HBX.out.cell]; rfl
          have k1 : w2.cell? ⟨wr.heap.size, 1, none⟩ = some (.int .i64 d) := by rw [HBX.out.cell]; rfl
          have k2 : w2.cell? ⟨wr.heap.size, 2, none⟩ = some (.int .i64 n) := by rw [HBX.out.cell]; rfl
          clear hb2 s0
          have HO1 := Lib.hid (HOw.out.storeK (k := a * 3) (by omega) (.string q))
          have HO2 := Lib.hid (HO1.out.storeK (k := a * 3 + 1) (by omega) (.int .i64 d))
          have HO3 := Lib.hid (HO2.out.storeK (k := a * 3 + 2) (by omega) (.int .i64 n))
          have t0 : ∃ v, w2.cell? ⟨g, a * 3, none⟩ = some v := by rw [HOw.out.cellAt (by omega)]; exact some_at (by rw [mcells_len]; omega)
          have t1 : ∃ v, (w2.setCell ⟨g, a * 3, none⟩ (.string q)).cell? ⟨g, a * 3 + 1, none⟩ = some v := by rw [HO1.out.cellAt (by omega)]; exact some_at (by rw [List.length_set, mcells_len]; omega)
          have t2 : ∃ v, ((w2.setCell ⟨g, a * 3, none⟩ (.string q)).setCell ⟨g, a * 3 + 1, none⟩ (.int .i64 d)).cell? ⟨g, a * 3 + 2, none⟩ = some v := by rw [HO2.out.cellAt (by omega)]; exact some_at (by rw [List.length_set, List.length_set, mcells_len]; omega)
          have f0 := HOw.out.frozenAt (a * 3)
          have f1 := HO1.out.frozenAt (a * 3 + 1)
          have f2 := HO2.out.frozenAt (a * 3 + 2)
          obtain ⟨v0, t0⟩ := t0
          obtain ⟨v1, t1⟩ := t1
          obtain ⟨v2, t2⟩ := t2
          have HL2 : Hid (Only [g] w1 (((w2.setCell ⟨g, a * 3, none⟩ (.string q)).setCell ⟨g, a * 3 + 1, none⟩ (.int .i64 d)).setCell ⟨g, a * 3 + 2, none⟩ (.int .i64 n))) :=
            (((HL.out.trans (Only.of_below HW2.out)).setCell (.inl (by simp)) _).setCell (.inl (by simp)) _).setCell (.inl (by simp)) _
          have HXC : Hid ((((mcells X).set (a * 3) (.string q)).set (a * 3 + 1) (.int .i64 d)).set (a * 3 + 2) (.int .i64 n) = mcells (X.set a ⟨q, ⟨d, n⟩⟩)) := mcells_set X a haX ⟨q, ⟨d, n⟩⟩
          rw [HXC.out] at HO3
          go_wp2_with fail
          go_roundw
          case rel => exact ⟨a + 1, b + 1, X.set a ⟨q, ⟨d, n⟩⟩, by omega, by omega, by go_num, by go_num, by rw [List.length_set]; exact hX, HT2, HXD, HO3, HL2⟩
          case measure => simp [intOf]; omega
      · obtain rfl : b = l.length := by omega
        have hd : decide ((l.length : Int) < (l.length : Int)) = false := by simp
        have HJ : Hid (X.take a = joinRes l p seen) := by show _ = _; rw [HT.out, List.take_length]; rfl
        have HJL : Hid ((joinRes l p seen).length = a) := by show _ = _; rw [← HJ.out, List.length_take]; omega
        obtain ⟨w2, hcl, hO2, hL2⟩ := clear_own (P := Tryz.prog) (size := 3) (t := 51) (z := .agg #[.string ⟨#[]⟩, .int .i64 0, .int .i64 0]) Tryz.underlying51 zero_mark rfl (by intro u hu; simp [Value.cells] at hu; rcases hu with rfl | rfl | rfl <;> rfl) HOr.out a (by omega)
        rw [mcells_take, HJ.out] at hO2
        have HO2 := Lib.hid hO2
        have HB2 : Hid (Below B w w2) := HBr.out.trans (hL2.below (Nat.le_trans hB HBr.out.size) (by simp; exact hg1))
        have q0 : (0 : Int) ≤ (a : Int) := by omega
        have q1 : (a : Int) ≤ (l.length : Int) := by omega
        have q2 : (a : Int) ≤ (c : Int) := by omega
        have q3 : ¬ (c = a) := by omega
        clear hO2 hL2
        go_wp2_with fail
        go_ret
        refine ⟨some ⟨g, 0, none⟩, c, by rw [HJL.out]; rfl, by rw [HJL.out]; exact HO2.out, HB2.out⟩
end MarkDel
set_option maxRecDepth 100000 in
set_option maxHeartbeats 4000000 in
theorem join_any (w : World) (A : Option Addr) (c : Nat) (l : List LMark) (p : ByteArray) (A2 : Option Addr) (c2 : Nat) (seen : List LDot) (h : Reads w w.heap.size 3 A l.length (mcells l)) (hs : MSized l) (hn : l.length ≤ 9223372036854775807) (hp : p.size ≤ 9223372036854775807)
    (h2 : Reads w w.heap.size 2 A2 seen.length (dcells seen)) (hn2 : seen.length ≤ 9223372036854775807) :
    Calls Tryz.prog 190 #[.slice A l.length c, .string p, .slice A2 seen.length c2] w (MarksPost w (giveM (joinErr l p seen) (joinRes l p seen)) (joinErr l p seen)) := by
  obtain ⟨W0, hW0⟩ : ∃ W0, W0 = (w.alloc (.cells #[.string p] 9)).alloc (.cells #[.slice A2 seen.length c2] 28) := ⟨_, rfl⟩
  have HSZ : Hid (w.heap.size + 1 < W0.heap.size) := by show _ < _; rw [hW0]; simp
  have HBW : Hid (Below w.heap.size w W0) := by show Below _ _ _; rw [hW0]; exact ((Below.refl _ _).alloc (Nat.le_refl _) _).alloc (by simp) _
  have HR : Hid (∀ W, Below W0.heap.size W0 W → Reads W W.heap.size 3 A l.length (mcells l)) := fun W hb => ((((h.below HBW.out).more HBW.out.size).below hb).more hb.size)
  have HR2 : Hid (∀ W, Below W0.heap.size W0 W → Reads W W.heap.size 2 A2 seen.length (dcells seen)) := fun W hb => ((((h2.below HBW.out).more HBW.out.size).below hb).more hb.size)
  have HBK : Hid (∀ W, Below W0.heap.size W0 W → W.cell? ⟨w.heap.size, 0, none⟩ = some (.string p) ∧ W.cell? ⟨w.heap.size + 1, 0, none⟩ = some (.slice A2 seen.length c2)) := fun W hb => by
    have h0 : Blk W0 w.heap.size 9 #[.string p] := by rw [hW0]; exact (Blk.new w _ _).alloc _
    have h1 : Blk W0 (w.heap.size + 1) 28 #[.slice A2 seen.length c2] := by rw [hW0]; exact blk_new_at (by simp)
    have k0 := h0.below hb (by have := HSZ.out; omega)
    have k1 := h1.below hb HSZ.out
    exact ⟨by rw [k0.cell]; rfl, by rw [k1.cell]; rfl⟩
  have HC := Lib.hid (fun W (hb : Below W0.heap.size W0 W) => marksCheck_any W A c l (HR.out W hb) hs hn)
  have HP := Lib.hid (fun W => check_any W p hp)
  have hmf : ∀ (fn : Fn) (first cap : Array Value) (w : World), (Instr.makeFunc fn first cap).run Tryz.prog w = .ok (.func fn first cap) w := fun _ _ _ _ => rfl
  clear h hs h2 hp
  have HB0 : Hid (Below W0.heap.size W0 W0) := Below.refl _ _
  by_cases he : marksErr l = 0
  · have HE := Lib.hid he
    have ok := marks_ok' he
    have hfew := ok.few
    by_cases hq : placeErr p = 0
    · have HQ := Lib.hid hq
      by_cases h40 : 40 < seen.length
      · have HF : Hid (joinErr l p seen = 4) := by show _ = _; unfold joinErr; rw [if_neg (fun x => x he), if_neg (fun x => x hq), if_pos h40]
        have g1 : decide ((seen.length : Int) > 40) = true := decide_eq_true (by omega)
        have g1n : decide ((40 : Int) < (seen.length : Int)) = true := decide_eq_true (by omega)
        have g1m : decide (40 < seen.length) = true := decide_eq_true h40
        clear he hq ok h40
        go_enter Tryz.func190, Tryz.ntmps190
        go_wp2_with fail
        rw [← hW0]
        clear hW0
        refine (HC.out _ HB0.out).mono ?_
        rintro e w1 ⟨rfl, hb1⟩
        rw [HE.out, show errV 0 = .nilIface from rfl]
        have HB1 := Lib.hid hb1
        obtain ⟨d0, d1⟩ := HBK.out _ hb1
        clear hb1
        go_wp2_with fail
        refine (HP.out _).mono ?_
        rintro e w2 ⟨rfl, hb2⟩
        rw [HQ.out, show errV 0 = .nilIface from rfl]
        have HB2 := Lib.hid (HB1.out.trans (hb2.mono HB1.out.size))
        clear hb2 d0 d1
        obtain ⟨d0, d1⟩ := HBK.out _ HB2.out
        go_wp2_with fail
        go_ret2
        rw [HF.out, giveM_bad (by decide)]
        exact marks_none (HBW.out.trans (HB2.out.mono HBW.out.size))
      · have hs40 : seen.length ≤ 40 := by omega
        have HRI := Lib.hid (fun W (hb : Below W0.heap.size W0 W) => rise_any W A2 c2 seen (HR2.out W hb) (by omega))
        have HF : Hid (joinErr l p seen = riseErr seen) := by show _ = _; unfold joinErr; rw [if_neg (fun x => x he), if_neg (fun x => x hq), if_neg h40]
        have g1m : decide (40 < seen.length) = false := decide_eq_false h40
        clear he hq ok h40
        by_cases hr : riseErr seen = 0
        · have HRE := Lib.hid hr
          have HCL := Lib.hid (fun w3 (h3 : Below W0.heap.size W0 w3) => cloneM w3 w3.heap.size A l.length c (mcells l) (HR.out w3 h3) (oneCells_m l) (Fits.of_small (by omega) (by decide)) (Nat.le_refl _))
          have HDE := Lib.hid (fun W B h hB V cV hO => MarkDel.del_any W B p seen w.heap.size (w.heap.size + 1) A2 c2 h hB V cV l hO (by omega))
          clear hr
          go_enter Tryz.func190, Tryz.ntmps190
          go_wp2_with fail
          rw [← hW0]
          clear hW0
          refine (HC.out _ HB0.out).mono ?_
          rintro e w1 ⟨rfl, hb1⟩
          rw [HE.out, show errV 0 = .nilIface from rfl]
          have HB1 := Lib.hid hb1
          obtain ⟨d0, d1⟩ := HBK.out _ hb1
          clear hb1
          go_wp2_with fail
          refine (HP.out _).mono ?_
          rintro e w2 ⟨rfl, hb2⟩
          rw [HQ.out, show errV 0 = .nilIface from rfl]
          have HB2 := Lib.hid (HB1.out.trans (hb2.mono HB1.out.size))
          clear hb2 d0 d1
          obtain ⟨d0, d1⟩ := HBK.out _ HB2.out
          go_wp2_with fail
          refine (HRI.out _ HB2.out).mono ?_
          rintro e w3 ⟨rfl, hb3⟩
          rw [HRE.out, show errV 0 = .nilIface from rfl]
          have HB3 := Lib.hid (HB2.out.trans (hb3.mono HB2.out.size))
          clear hb3 d0 d1
          go_wp2_with fail
          refine (HCL.out _ HB3.out).mono ?_
          rintro e w4 ⟨V, cV, rfl, hO, hb4⟩
          have HO := Lib.hid hO
          have HB4 := Lib.hid hb4
          have HEN : Hid (MarkJoin.Env w4 w3.heap.size p seen w.heap.size (w.heap.size + 1) A2 c2) := by
            obtain ⟨d0, d1⟩ := HBK.out _ HB3.out
            have h1 := HSZ.out
            have h2 := HB3.out.size
            exact MarkJoin.Env.below ⟨by omega, by omega, d0, d1, HR2.out _ HB3.out, by omega⟩ HB4.out
          clear hO hb4
          go_wp2_with fail
          refine (HDE.out _ _ HEN.out HB4.out.size _ _ HO.out).mono ?_
          rintro e w5 ⟨V2, cV2, rfl, hO2, hb5⟩
          have HO2 := Lib.hid (hO2.mono (Nat.le_trans HBW.out.size HB3.out.size))
          have HB5 : Hid (Below w.heap.size w w5) := HBW.out.trans (((HB3.out.trans (HB4.out.mono HB3.out.size)).trans (hb5.mono HB3.out.size)).mono HBW.out.size)
          clear hO2 hb5
          go_wp2_with fail
          go_ret2
          rw [HF.out, HRE.out, giveM, if_pos rfl]
          exact ⟨V2, cV2, rfl, HO2.out, HB5.out⟩
        · have HV := Lib.hid (errV_ne hr)
          have HN := Lib.hid hr
          clear hr
          go_enter Tryz.func190, Tryz.ntmps190
          go_wp2_with fail
          rw [← hW0]
          clear hW0
          refine (HC.out _ HB0.out).mono ?_
          rintro e w1 ⟨rfl, hb1⟩
          rw [HE.out, show errV 0 = .nilIface from rfl]
          have HB1 := Lib.hid hb1
          obtain ⟨d0, d1⟩ := HBK.out _ hb1
          clear hb1
          go_wp2_with fail
          refine (HP.out _).mono ?_
          rintro e w2 ⟨rfl, hb2⟩
          rw [HQ.out, show errV 0 = .nilIface from rfl]
          have HB2 := Lib.hid (HB1.out.trans (hb2.mono HB1.out.size))
          clear hb2 d0 d1
          obtain ⟨d0, d1⟩ := HBK.out _ HB2.out
          go_wp2_with fail
          refine (HRI.out _ HB2.out).mono ?_
          rintro e w3 ⟨rfl, hb3⟩
          rw [HV.out]
          have HB3 := Lib.hid (HB2.out.trans (hb3.mono HB2.out.size))
          clear hb3 d0 d1
          go_wp2_with fail
          go_ret2
          rw [HF.out, giveM_bad HN.out, ← HV.out]
          exact marks_none (HBW.out.trans (HB3.out.mono HBW.out.size))
    · have HV := Lib.hid (errV_ne hq)
      have HF : Hid (joinErr l p seen = placeErr p) := by show _ = _; unfold joinErr; rw [if_neg (fun x => x he), if_pos hq]
      have HN := Lib.hid hq
      clear he hq ok
      go_enter Tryz.func190, Tryz.ntmps190
      go_wp2_with fail
      rw [← hW0]
      clear hW0
      refine (HC.out _ HB0.out).mono ?_
      rintro e w1 ⟨rfl, hb1⟩
      rw [HE.out, show errV 0 = .nilIface from rfl]
      have HB1 := Lib.hid hb1
      obtain ⟨d0, d1⟩ := HBK.out _ hb1
      clear hb1
      go_wp2_with fail
      refine (HP.out _).mono ?_
      rintro e w2 ⟨rfl, hb2⟩
      rw [HV.out]
      have HB2 := Lib.hid (HB1.out.trans (hb2.mono HB1.out.size))
      clear hb2
      go_wp2_with fail
      go_ret2
      rw [HF.out, giveM_bad HN.out, ← HV.out]
      exact marks_none (HBW.out.trans (HB2.out.mono HBW.out.size))
  · have HV := Lib.hid (errV_ne he)
    have HF : Hid (joinErr l p seen = marksErr l) := by show _ = _; unfold joinErr; rw [if_pos he]
    have HN := Lib.hid he
    clear he
    go_enter Tryz.func190, Tryz.ntmps190
    go_wp2_with fail
    rw [← hW0]
    clear hW0
    refine (HC.out _ HB0.out).mono ?_
    rintro e w1 ⟨rfl, hb1⟩
    rw [HV.out]
    have HB1 := Lib.hid hb1
    clear hb1
    go_wp2_with fail
    go_ret2
    rw [HF.out, giveM_bad HN.out, ← HV.out]
    exact marks_none (HBW.out.trans (HB1.out.mono HBW.out.size))
end Go.Proofs.YthfbjfocmnikaaaGreatDoor
/- Maps as lists of pairs: looked up, written. Plain lemmas. Conditions: none. -/
namespace Go.Proofs.YthfbjfocmnikaaaGreatDoor
open Go.RowKit
set_option linter.unusedVariables false
def setBlk (w : World) (b : Nat) (o : Obj) : World := { w with heap := w.heap.setIfInBounds b o }
theorem setBlk_same {w : World} {r : Nat} {o o' : Obj} (h : w.heap[r]? = some o) : (setBlk w r o').heap[r]? = some o' := by
  have hlt : r < w.heap.size := by
    rcases Nat.lt_or_ge r w.heap.size with h1 | h1
    · exact h1
    · rw [Array.getElem?_eq_none h1] at h; cases h
  simp [setBlk, hlt]
theorem only_setBlk {w : World} {r : Nat} (o : Obj) : Only [r] w (setBlk w r o) :=
  ⟨rfl, rfl, rfl, by simp [setBlk], fun k _ hn => by simp at hn; simp [setBlk, Ne.symm hn]⟩
section
variable {K V : Type}
def Pairs (f : K → Value) (g : V → Value) (es : List MapEntry) (kvs : List (K × V)) : Prop := es.map (fun e => (e.key, e.val)) = kvs.map (fun x => (f x.1, g x.2))
/-- The block of a map, its pairs. -/
def MapAt (w : World) (r : Nat) (f : K → Value) (g : V → Value) (kvs : List (K × V)) : Prop := ∃ es clock, w.heap[r]? = some (.map es clock) ∧ Pairs f g es.toList kvs
end
section
variable {P : Program} {K V : Type} [DecidableEq K]
def seek (g : V → Value) (a : K) : List (K × V) → Nat → Option (Nat × Value)
  | [], _ => none
  | (k, v) :: l, i => if a = k then some (i, g v) else seek g a l (i + 1)
def get (a : K) : List (K × V) → Option V
  | [] => none
  | (k, v) :: l => if a = k then some v else get a l
def ins (a : K) (v : V) : List (K × V) → List (K × V)
  | [] => [(a, v)]
  | (k, u) :: l => if a = k then (a, v) :: l else (k, u) :: ins a v l
structure KeyOk (P : Program) (t : TypeId) (f : K → Value) : Prop where
  find : ∀ (V : Type) (g : V → Value) (W : World) (a : K) (es : List MapEntry) (kvs : List (K × V)), Pairs f g es kvs → (Instr.findKey t (f a) es).run P W = .ok (seek g a kvs 0) W
  chk : ∀ (W : World) (em : Bool) (a : K), (Instr.checkKey em 10000 t (f a)).run P W = .ok () W
  bits : ∀ a, Instr.sameBits 10000 (f a) (f a) = true
theorem seek_get (g : V → Value) (a : K) : ∀ (kvs : List (K × V)) (i : Nat), (seek g a kvs i).map (·.2) = (get a kvs).map g := by
  intro kvs
  induction kvs with
  | nil => intro i; rfl
  | cons x l ih =>
    intro i
    obtain ⟨k, v⟩ := x
    unfold seek get
    by_cases h : a = k
    · simp [h]
    · rw [if_neg h, if_neg h]; exact ih (i + 1)
theorem findAsking_run {t : TypeId} {f : K → Value} (heq : ∀ W a b, (Op.equal t (f a) (f b)).run P W = .ok (decide (a = b)) W) (g : V → Value) (W : World) (a : K) : ∀ (es : List MapEntry) (kvs : List (K × V)) (i : Nat), Pairs f g es kvs → (Instr.findAsking t (f a) es i).run P W = .ok (seek g a kvs i) W := by
  intro es
  induction es with
  | nil =>
    intro kvs i h
    cases kvs with
    | nil => simp [Instr.findAsking, seek]
    | cons x l => simp [Pairs] at h
  | cons e es ih =>
    intro kvs i h
    cases kvs with
    | nil => simp [Pairs] at h
    | cons x l =>
      obtain ⟨k, v⟩ := x
      simp only [Pairs, List.map_cons, List.cons.injEq, Prod.mk.injEq] at h
      obtain ⟨⟨h1, h2⟩, h3⟩ := h
      unfold Instr.findAsking seek
      rw [h1, h2]
      simp only [Sem.run_bind, heq, Result.andThen_ok]
      by_cases hk : a = k
      · simp [hk]
      · simp only [decide_eq_false hk, Bool.false_eq_true, if_false, if_neg hk]
        exact ih l (i + 1) h3
theorem KeyOk.of_wide {t : TypeId} {f : K → Value} (hw : (match P.underlying t with | some (.array _ _) | some (.struct _) => true | _ => false) = true)
    (heq : ∀ W a b, (Op.equal t (f a) (f b)).run P W = .ok (decide (a = b)) W) (hc : ∀ (W : World) (em : Bool) (a : K), (Instr.checkKey em 10000 t (f a)).run P W = .ok () W) (hb : ∀ a, Instr.sameBits 10000 (f a) (f a) = true) : KeyOk P t f :=
  ⟨fun V g W a es kvs h => by rw [run_findKey_eq W hw]; exact findAsking_run heq g W a es kvs 0 h, hc, hb⟩
theorem lookup_run {m t e : TypeId} {f : K → Value} {g : V → Value} (ok : KeyOk P t f) (hm : P.underlying m = some (.map t e)) {z : Value} (hz : ∀ w, (zeroValue e).run P w = .ok z w) {w : World} {r : Nat} {kvs : List (K × V)} (h : MapAt w r f g kvs) (a : K) :
    (Instr.lookup m (.map (some r)) (f a) false).run P w = .ok (match get a kvs with | some v => g v | none => z) w := by
  obtain ⟨es, clock, hb, hp⟩ := h
  have h1 := ok.find V g w a es.toList kvs hp
  have h2 := seek_get g a kvs 0
  simp only [Instr.lookup, Sem.run_bind, run_underlying hm, Result.andThen_ok, MapKept.run_getObj_map hb, Sem.run_pure, ok.chk, h1]
  cases hs : seek g a kvs 0 with
  | none =>
    rw [hs] at h2
    cases hg : get a kvs with
    | none => simp [hz]
    | some v => rw [hg] at h2; cases h2
  | some x =>
    obtain ⟨i, v⟩ := x
    rw [hs] at h2
    cases hg : get a kvs with
    | none => rw [hg] at h2; cases h2
    | some u =>
      rw [hg] at h2
      simp at h2
      simp [h2]
theorem seek_ge (g : V → Value) (a : K) : ∀ (kvs : List (K × V)) (i j : Nat) (u : Value), seek g a kvs i = some (j, u) → i ≤ j ∧ j - i < kvs.length := by
  intro kvs
  induction kvs with
  | nil => intro i j u h; simp [seek] at h
  | cons x l ih =>
    intro i j u h
    obtain ⟨k, v⟩ := x
    unfold seek at h
    by_cases hk : a = k
    · rw [if_pos hk] at h; cases h; simp
    · rw [if_neg hk] at h
      have := ih (i + 1) j u h
      simp only [List.length_cons]
      omega
theorem ins_none (g : V → Value) (a : K) (v : V) : ∀ (kvs : List (K × V)) (i : Nat), seek g a kvs i = none → ins a v kvs = kvs ++ [(a, v)] := by
  intro kvs
  induction kvs with
  | nil => intro i _; rfl
  | cons x l ih =>
    intro i h
    obtain ⟨k, u⟩ := x
    unfold seek at h
    by_cases hk : a = k
    · rw [if_pos hk] at h; cases h
    · rw [if_neg hk] at h
      unfold ins
      rw [if_neg hk, ih (i + 1) h]; rfl
theorem seek_at (f : K → Value) (g : V → Value) (a : K) (v : V) : ∀ (es : List MapEntry) (kvs : List (K × V)) (i j : Nat) (u : Value), Pairs f g es kvs → seek g a kvs i = some (j, u) →
    (∃ e, es[j - i]? = some e ∧ e.key = f a) ∧ Pairs f g (es.modify (j - i) fun e => { e with key := f a, val := g v }) (ins a v kvs) := by
  intro es
  induction es with
  | nil =>
    intro kvs i j u hp h
    cases kvs with
    | nil => simp [seek] at h
    | cons x l => simp [Pairs] at hp
  | cons e es ih =>
    intro kvs i j u hp h
    cases kvs with
    | nil => simp [Pairs] at hp
    | cons x l =>
      obtain ⟨k, w⟩ := x
      simp only [Pairs, List.map_cons, List.cons.injEq, Prod.mk.injEq] at hp
      obtain ⟨⟨h1, h2⟩, h3⟩ := hp
      unfold seek at h
      unfold ins
      by_cases hk : a = k
      · rw [if_pos hk] at h
        cases h
        rw [if_pos hk, Nat.sub_self]
        refine ⟨⟨e, rfl, by rw [h1, hk]⟩, ?_⟩
        simp only [Pairs, List.modify_zero_cons, List.map_cons, List.cons.injEq, true_and]
        exact h3
      · rw [if_neg hk] at h
        rw [if_neg hk]
        have hg := seek_ge g a l (i + 1) j u h
        obtain ⟨⟨e', he, hke⟩, hp'⟩ := ih l (i + 1) j u h3 h
        have e1 : j - i = (j - (i + 1)) + 1 := by omega
        rw [e1]
        refine ⟨⟨e', by simpa using he, hke⟩, ?_⟩
        simp only [Pairs, List.modify_succ_cons, List.map_cons, List.cons.injEq, Prod.mk.injEq]
        exact ⟨⟨h1, h2⟩, hp'⟩
theorem update_run {m t e : TypeId} {f : K → Value} {g : V → Value} (ok : KeyOk P t f) (hm : P.underlying m = some (.map t e)) {w : World} {r : Nat} {kvs : List (K × V)} (h : MapAt w r f g kvs) (a : K) (v : V) :
    ∃ w', (Instr.mapUpdate m (.map (some r)) (f a) (g v)).run P w = .ok () w' ∧ MapAt w' r f g (ins a v kvs) ∧ Only [r] w w' := by
  obtain ⟨es, clock, hb, hp⟩ := h
  have h1 := ok.find V g w a es.toList kvs hp
  cases hs : seek g a kvs 0 with
  | none =>
    refine ⟨setBlk w r (.map (es.push { key := f a, val := g v, born := clock }) (clock + 1)), ?_, ⟨_, _, setBlk_same hb, ?_⟩, only_setBlk _⟩
    · simp [Instr.mapUpdate, run_underlying hm, MapKept.run_getObj_map hb, ok.chk, h1, hs, MapKept.run_setObj_map _ hb, setBlk]
    · rw [ins_none g a v kvs 0 hs]
      unfold Pairs at hp ⊢
      simp [hp]
  | some x =>
    obtain ⟨j, u⟩ := x
    obtain ⟨⟨e', he, hke⟩, hp'⟩ := seek_at f g a v es.toList kvs 0 j u hp hs
    rw [Nat.sub_zero] at he hp'
    have he2 : es[j]? = some e' := by rw [← he]; simp
    refine ⟨setBlk w r (.map (es.modify j fun e => { e with key := f a, val := g v }) clock), ?_, ⟨_, _, setBlk_same hb, ?_⟩, only_setBlk _⟩
    · simp [Instr.mapUpdate, run_underlying hm, MapKept.run_getObj_map hb, ok.chk, h1, hs, he2, hke, Instr.keyThatStays, ok.bits, MapKept.run_setObj_map _ hb, setBlk]
    · rw [Array.toList_modify]
      exact hp'
theorem get_ins (a b : K) (v : V) : ∀ kvs : List (K × V), get b (ins a v kvs) = if b = a then some v else get b kvs := by
  intro kvs
  induction kvs with
  | nil => unfold ins get; by_cases h : b = a <;> simp [h, get]
  | cons x l ih =>
    obtain ⟨k, u⟩ := x
    unfold ins
    by_cases hk : a = k
    · rw [if_pos hk]
      subst hk
      by_cases hb : b = a
      · simp [get, hb]
      · simp [get, hb]
    · rw [if_neg hk]
      unfold get
      by_cases hb : b = k
      · subst hb
        rw [if_pos rfl, if_neg (fun h => hk h.symm), if_pos rfl]
      · rw [if_neg hb, if_neg hb]; exact ih
end
section
variable {K V : Type}
theorem MapAt.only {S : List Nat} {w w' : World} {r : Nat} {f : K → Value} {g : V → Value} {kvs : List (K × V)} (h : MapAt w r f g kvs) (ho : Only S w w') (hr : r ∉ S) : MapAt w' r f g kvs := by
  obtain ⟨es, clock, hb, hp⟩ := h
  have hlt : r < w.heap.size := by
    rcases Nat.lt_or_ge r w.heap.size with h1 | h1
    · exact h1
    · rw [Array.getElem?_eq_none h1] at hb; cases hb
  exact ⟨es, clock, (ho.block r hlt hr).trans hb, hp⟩
theorem MapAt.lt {w : World} {r : Nat} {f : K → Value} {g : V → Value} {kvs : List (K × V)} (h : MapAt w r f g kvs) : r < w.heap.size := by
  obtain ⟨es, clock, hb, hp⟩ := h
  rcases Nat.lt_or_ge r w.heap.size with h1 | h1
  · exact h1
  · rw [Array.getElem?_eq_none h1] at hb; cases hb
theorem MapAt.below {w w' : World} {r : Nat} {f : K → Value} {g : V → Value} {kvs : List (K × V)} (h : MapAt w r f g kvs) (hb : Below w.heap.size w w') : MapAt w' r f g kvs := h.only (S := []) (Only.of_below hb) (by simp)
theorem MapAt.not_blk {w : World} {r g' : Nat} {f : K → Value} {g : V → Value} {kvs : List (K × V)} {t : TypeId} {cs : Array Value} (h : MapAt w r f g kvs) (hb : Blk w g' t cs) : r ≠ g' := by
  rintro rfl
  obtain ⟨es, clock, h1, _⟩ := h
  unfold Blk at hb
  rw [h1] at hb; cases hb
theorem MapAt.not_own {w : World} {r B n c size : Nat} {f : K → Value} {g : V → Value} {kvs : List (K × V)} {e : TypeId} {A : Option Addr} {xs : List Value} (h : MapAt w r f g kvs) (ho : Own w B e size A n c xs) : r ∉ ob A := by
  intro hm
  rcases ho.2 with ⟨h2, _⟩ | ⟨g', cap, cur, he, _, hh, _⟩
  · injection h2 with h2; subst h2; simp [ob] at hm
  · injection he with he
    subst he
    simp [ob] at hm
    exact h.not_blk (show Blk w g' e cur from hh) hm
end
end Go.Proofs.YthfbjfocmnikaaaGreatDoor
/- A document, as it is changed by ops: plain. Conditions: none. -/
namespace Go.Proofs.YthfbjfocmnikaaaGreatDoor
open Go.RowKit
set_option linter.unusedVariables false
/-- A key of the cuts that were seen by joins. -/
structure JKey where
  place : ByteArray
  dot : LDot
  deriving DecidableEq
def JKey.val (k : JKey) : Value := .agg #[.string k.place, .int .i64 k.dot.who, .int .i64 k.dot.n]
def boolV (b : Bool) : Value := .bool b
structure LDoc where
  book : List LLeaf
  marks : List LMark
  known : List Int
  ops : List LOp
  joined : List (JKey × Bool)
namespace LDoc
def new : LDoc := ⟨[], [], [0, 0, 0, 0, 0, 0, 0, 0], [], []⟩
def gone (d : LDoc) (o : LOp) : Bool := (get (⟨o.place, o.dot⟩ : JKey) d.joined).getD false
def cutE (d : LDoc) (o : LOp) : Int := if d.gone o = true then 0 else cutErr d.marks ⟨o.place, o.dot⟩
def cut (d : LDoc) (o : LOp) : LDoc := if d.gone o = true then d else if cutErr d.marks ⟨o.place, o.dot⟩ = 0 then { d with marks := cutRes d.marks ⟨o.place, o.dot⟩ } else d
def insAll (p : ByteArray) (j : List (JKey × Bool)) (l : List LDot) : List (JKey × Bool) := l.foldl (fun j x => ins ⟨p, x⟩ true j) j
def joinE (d : LDoc) (o : LOp) : Int := joinErr d.marks o.place o.seen
def join (d : LDoc) (o : LOp) : LDoc := if d.joinE o = 0 then { d with marks := joinRes d.marks o.place o.seen, joined := insAll o.place d.joined o.seen } else d
def turnE (d : LDoc) (o : LOp) : Int :=
  if o.what = 1 then writeErr d.book o.place o.letter else if o.what = 2 then strikeErr d.book o.place else if o.what = 3 then d.cutE o else if o.what = 4 then d.joinE o else 0
def turn (d : LDoc) (o : LOp) : LDoc :=
  if o.what = 1 then (if writeErr d.book o.place o.letter = 0 then { d with book := writeRes d.book o.place o.letter } else d)
  else if o.what = 2 then (if strikeErr d.book o.place = 0 then { d with book := strikeRes d.book o.place } else d)
  else if o.what = 3 then d.cut o else if o.what = 4 then d.join o else { d with book := [] }
def applyE (d : LDoc) (o : LOp) : Int :=
  if opErr o ≠ 0 then opErr o else if vdErr d.known o.dot ≠ 0 then vdErr d.known o.dot else if hasRes d.known o.dot = true then 0
  else if addErr d.known o.dot ≠ 0 then addErr d.known o.dot else if 400 ≤ d.ops.length then 4 else d.turnE o
def applyB (d : LDoc) (o : LOp) : Bool := decide (d.applyE o = 0) && !(decide (opErr o = 0) && hasRes d.known o.dot)
def apply (d : LDoc) (o : LOp) : LDoc := if d.applyB o = true then { d.turn o with known := addRes d.known o.dot, ops := d.ops ++ [o] } else d
end LDoc
end Go.Proofs.YthfbjfocmnikaaaGreatDoor
