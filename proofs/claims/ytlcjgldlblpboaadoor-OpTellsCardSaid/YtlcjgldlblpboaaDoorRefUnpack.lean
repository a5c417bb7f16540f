/- leafref1.Unpack, walked: it reads what op.Unpack reads. Conditions: none of our own. -/
import Derived.Test.YtlcjgldlblpboaaDoorRefDecode
import Derived.Test.YtlcjgldlblpboaaDoorUnpack
namespace Go.Proofs.YtlcjgldlblpboaaDoor
open Go.RowKit
set_option linter.unusedVariables false
def RUnpPost (w : World) (r : Option (List LOp)) (e : Ending) (w' : World) : Prop :=
  match r with
  | none => ∃ A n c, e = .returned (.tuple #[.slice A n c, .bool false]) ∧ Below w.heap.size w w'
  | some l => ∃ A c ys, e = .returned (.tuple #[.slice A l.length c, .bool true]) ∧ ys.map OpAt.op = l ∧ Own w' w.heap.size 26 6 A l.length c (ocells ys) ∧
      (∀ y ∈ ys, Own w' w.heap.size 23 2 y.at_ y.op.seen.length y.cap (dcells y.op.seen)) ∧ Below w.heap.size w w'
/-- Midway: so many ops are read. -/
structure RUMid (w : World) (m : Nat) (t L : List UInt8) (k a : Nat) (V : Option Addr) (cv : Nat) (ys : List OpAt) (wr : World) : Prop where
  bel : Below w.heap.size w wr
  own : Own wr w.heap.size 26 6 V k cv (ocells ys)
  seen : ∀ y ∈ ys, Own wr w.heap.size 23 2 y.at_ y.op.seen.length y.cap (dcells y.op.seen)
  is : unpackN m t = (unpackN (m - k) (L.drop a)).map fun r => ys.map OpAt.op ++ r
  lo : a ≤ L.length
  small : a ≤ 2 + 141 * k
def RULoop (w : World) (m : Nat) (t L : List UInt8) (v i p : Value) (wr : World) : Prop :=
  ∃ k a V cv ys, k ≤ m ∧ i = .int .i64 (k : Nat) ∧ p = .int .i64 (a : Nat) ∧ v = .slice V k cv ∧ Hid (RUMid w m t L k a V cv ys wr)
theorem str_at (s : ByteArray) (j : Nat) (hj : j < s.size) : s.data.toList[j]? = some s[j] := by
  have : j < s.data.toList.length := by rw [Array.length_toList]; exact hj
  rw [List.getElem?_eq_getElem this]
  simp
  rfl
set_option maxRecDepth 100000 in
set_option maxHeartbeats 8000000 in
theorem runpack_any (w : World) (s : ByteArray) (hm : s.size ≤ 9223372036854775807) : Calls Tryd.prog 14 #[.string s] w (RUnpPost w (unpackOf s.data.toList)) := by
  have hsl : s.data.toList.length = s.size := by rw [Array.length_toList]; rfl
  have hget := fun j hj => str_at s j hj
  have hext : ∀ i j, s.extract i j = strOf ((s.data.toList.take j).drop i) := fun i j => by
    have h1 : s = strOf s.data.toList := by apply ByteArray.ext; simp [strOf]
    conv => lhs; rw [h1]
    exact strOf_ext _ _ _
  have HDC := Lib.hid (fun W x hx => rdecode_any W x hx)
  have HNU := Lib.hid (fun W i c d h1 h2 h3 => number_any W s i c d h1 hm h2 h3)
  obtain ⟨L, hL⟩ : ∃ L, L = s.data.toList := ⟨_, rfl⟩
  rw [← hL] at hsl hget ⊢
  have HEX : Hid (∀ i j, s.extract i j = strOf ((L.take j).drop i)) := by show ∀ i j, _ = _; rw [hL]; exact hext
  have HGE := Lib.hid hget
  have HSL := Lib.hid hsl
  clear hL hext hget
  by_cases h2 : s.size < 2
  · have hr : unpackOf L = none := by
      match L, hsl with
      | [], _ => rfl
      | [_], _ => rfl
      | _ :: _ :: _, h => simp at h; omega
    rw [hr]
    have z2 : (s.size : Int) < 2 := by omega
    clear h2 hr hsl
    go_enter Tryd.func14, Tryd.ntmps14
    go_wp2_with fail
    go_ret2
    exact ⟨_, _, _, rfl, Below.refl _ _⟩
  · obtain ⟨c, d, t, hLe⟩ : ∃ c d t, L = c :: d :: t := by
      match L, hsl with
      | [], h => simp at h; omega
      | [_], h => simp at h; omega
      | c :: d :: t, _ => exact ⟨c, d, t, rfl⟩
    have z2 : ¬ (s.size : Int) < 2 := by omega
    have b0 : 0 < s.size := by omega
    have b1 : 0 + 1 < s.size := by omega
    have g0 : s[0]'b0 = c := by have := HGE.out 0 b0; rw [hLe] at this; simpa using this.symm
    have g1 : s[0 + 1]'b1 = d := by have := HGE.out (0 + 1) b1; rw [hLe] at this; simpa using this.symm
    have hN0 := fun W => HNU.out W 0 c d b1 g0 g1
    rw [show ((0 : Nat) : Int) = 0 from rfl] at hN0
    obtain ⟨m, hmm⟩ : ∃ m, m = c.toNat * 256 + d.toNat := ⟨_, rfl⟩
    rw [← hmm] at hN0
    have HN0 := Lib.hid hN0
    have hm6 : m ≤ 65535 := by have := UInt8.toNat_lt c; have := UInt8.toNat_lt d; omega
    have HLE := Lib.hid hLe
    have hro : unpackOf L = if 400 < m then none else unpackN m t := by rw [hLe, unpackOf, hmm]
    have HRO := Lib.hid hro
    obtain ⟨R, hR⟩ : ∃ R, R = unpackOf L := ⟨_, rfl⟩
    rw [← hR]
    rw [← hR] at HRO
    clear h2 hLe g0 g1 hN0 hmm hsl hro hR
    go_enter Tryd.func14, Tryd.ntmps14
    go_wp2_with fail
    refine (HN0.out w).mono ?_
    rintro e w1 ⟨rfl, hb1⟩
    have HB1 := Lib.hid hb1
    clear hb1
    by_cases h4 : 400 < m
    · have z4 : (m : Int) > 400 := by omega
      have z5 : (400 : Int) < (m : Int) := by omega
      have HRN : Hid (R = none) := by show _ = _; rw [HRO.out, if_pos h4]
      clear h4
      go_wp2_with fail
      go_ret2
      rw [HRN.out]
      exact ⟨_, _, _, rfl, HB1.out⟩
    · have z4 : ¬ (m : Int) > 400 := by omega
      have z5 : ¬ (400 : Int) < (m : Int) := by omega
      have HRN : Hid (R = unpackN m t) := by show _ = _; rw [HRO.out, if_neg h4]
      have h4' : m ≤ 400 := by omega
      clear h4
      go_wp2_with fail
      refine (HN0.out w1).mono ?_
      rintro e w2 ⟨rfl, hb2⟩
      have HB2 : Hid (Below w.heap.size w w2) := HB1.out.trans (hb2.mono HB1.out.size)
      clear hb2 HB1
      go_wp2_with fail
      go_loopw [4, 6, 7] (fun v p i wr => RULoop w m t L v i p wr) (fun v p i _ => m - (intOf i).toNat)
      case atStart =>
        refine ⟨0, 2, none, 0, [], Nat.zero_le _, rfl, rfl, rfl, Lib.hid ⟨HB2.out, Own.nil _ _ _ _, by simp, ?_, ?_, Nat.le_refl _⟩⟩
        · rw [HLE.out]
          show _ = (unpackN (m - 0) t).map _
          rw [Nat.sub_zero]
          simp
        · rw [HLE.out]; simp
      case round =>
        obtain ⟨k, a, V, cv, ys, hk, rfl, rfl, rfl, HM⟩ := hrel
        clear HB2
        have k0 : (0 : Int) ≤ (k : Int) := by omega
        have hlo := HM.out.lo
        have hla : a ≤ s.size := by have := HSL.out; omega
        have has : a ≤ 56402 := by have := HM.out.small; omega
        have hai : (a : Int) ≤ 56402 := by omega
        have a0 : (0 : Int) ≤ (a : Int) := by omega
        by_cases hkn : k < m
        · have k1 : (k : Int) < (m : Int) := by omega
          by_cases hs2 : s.size < a + 2
          · have z2 : (s.size : Int) < (a : Int) + 2 := by omega
            have HRF : Hid (R = none) := by
              show _ = _
              rw [HRN.out, HM.out.is]
              obtain ⟨j, hj⟩ : ∃ j, m - k = j + 1 := ⟨m - k - 1, by omega⟩
              have hdl : (L.drop a).length < 2 := by rw [List.length_drop, HSL.out]; omega
              rw [hj]
              match L.drop a, hdl with
              | [], _ => rfl
              | [_], _ => rfl
            clear hs2 hkn hlo
            go_wp2_with fail
            go_ret2
            rw [HRF.out]
            exact ⟨_, _, _, rfl, HM.out.bel⟩
          · have z2 : ¬ (s.size : Int) < (a : Int) + 2 := by omega
            have b0 : a < s.size := by omega
            have b1 : a + 1 < s.size := by omega
            obtain ⟨x, y, u, hxy⟩ : ∃ x y u, L.drop a = x :: y :: u := by
              have hdl : 2 ≤ (L.drop a).length := by rw [List.length_drop, HSL.out]; omega
              match L.drop a, hdl with
              | [], h => simp at h
              | [_], h => simp at h
              | x :: y :: u, _ => exact ⟨x, y, u, rfl⟩
            have e0 : s[a]'b0 = x := by
              have h1 := HGE.out a b0
              have h2 : (L.drop a)[0]? = some x := by rw [hxy]; rfl
              rw [List.getElem?_drop, Nat.add_zero, h1] at h2
              exact Option.some.inj h2
            have e1 : s[a + 1]'b1 = y := by
              have h1 := HGE.out (a + 1) b1
              have h2 : (L.drop a)[1]? = some y := by rw [hxy]; rfl
              rw [List.getElem?_drop, h1] at h2
              exact Option.some.inj h2
            have hNA := fun W => HNU.out W a x y b1 e0 e1
            have q8 : x.toNat * 256 + y.toNat ≤ 65535 := by have := UInt8.toNat_lt x; have := UInt8.toNat_lt y; omega
            obtain ⟨j, hj⟩ : ∃ j, m - k = j + 1 := ⟨m - k - 1, by omega⟩
            have hul : u.length + 2 + a = s.size := by
              have h1 : (L.drop a).length = u.length + 2 := by rw [hxy]; rfl
              rw [List.length_drop, HSL.out] at h1; omega
            have hRQ : R = (if u.length < x.toNat * 256 + y.toNat then none else match decOf (strOf (u.take (x.toNat * 256 + y.toNat))) with
                | none => none
                | some o => (unpackN j (u.drop (x.toNat * 256 + y.toNat))).map (o :: ·)).map fun r => ys.map OpAt.op ++ r := by
              rw [HRN.out, HM.out.is, hj, hxy, unpackN]
              rfl
            have hdd : ∀ q, L.drop (a + 2 + q) = u.drop q := fun q => by
              rw [show a + 2 + q = a + (2 + q) by omega, ← List.drop_drop, hxy, Nat.add_comm 2 q]
              rfl
            have hxt : ∀ q, s.extract (a + 2) (a + 2 + q) = strOf (u.take q) := fun q => by
              rw [HEX.out, List.drop_take, show a + 2 + q - (a + 2) = q by omega]
              have h0 := hdd 0
              rw [Nat.add_zero, List.drop_zero] at h0
              rw [h0]
            obtain ⟨q, hq⟩ : ∃ q, q = x.toNat * 256 + y.toNat := ⟨_, rfl⟩
            rw [← hq] at hNA hRQ q8
            have HNA := Lib.hid hNA
            have HRQ := Lib.hid hRQ
            have HXT := Lib.hid (hxt q)
            have HDD := Lib.hid (hdd q)
            have q0 : (0 : Int) ≤ (q : Int) := by omega
            have q7 : (q : Int) ≤ 65535 := by omega
            have HUL := Lib.hid hul
            have HKJ := Lib.hid hj
            clear hNA hRQ hxt hdd hq e0 e1 hxy hj
            go_wp2_with fail
            refine (HNA.out wr).mono ?_
            rintro e w3 ⟨rfl, hb3⟩
            have HB3 := Lib.hid hb3
            clear hb3
            by_cases huq : u.length < q
            · have z5 : (s.size : Int) < (a : Int) + 2 + (q : Int) := by omega
              have HRF : Hid (R = none) := by show _ = _; rw [HRQ.out, if_pos huq]; rfl
              clear huq hul hs2 hkn hlo hla has
              go_wp2_with fail
              go_ret2
              rw [HRF.out]
              exact ⟨_, _, _, rfl, HM.out.bel.trans (HB3.out.mono HM.out.bel.size)⟩
            · have z5 : ¬ (s.size : Int) < (a : Int) + 2 + (q : Int) := by omega
              have z6 : (a : Int) + 2 + (q : Int) ≤ (s.size : Int) := by omega
              have z7 : ((a : Int) + 2 + (q : Int)).toNat = a + 2 + q := by omega
              have z8 : ((a : Int) + 2).toNat = a + 2 := by omega
              have z9 : (a : Int) + 2 ≤ (a : Int) + 2 + (q : Int) := by omega
              have hRQ := HRQ.out
              rw [if_neg huq] at hRQ
              have huz : (strOf (u.take q)).size = q := by rw [strOf_sz, List.length_take]; omega
              have HDCQ := Lib.hid (fun W => HDC.out W (strOf (u.take q)) (by omega))
              obtain ⟨D, hD⟩ : ∃ D, D = decOf (strOf (u.take q)) := ⟨_, rfl⟩
              have hDs : ∀ o, D = some o → opErr o = 0 ∧ q = (opBytes o).length := fun o ho => by
                obtain ⟨h1, h2⟩ := dec_some (hD.symm.trans ho)
                refine ⟨h1, ?_⟩
                rw [h2]
                show q = (u.take q).length
                rw [List.length_take]; omega
              rw [← hD] at HDCQ hRQ
              have HDS := Lib.hid hDs
              have HRQ2 := Lib.hid hRQ
              have HKL : Hid (a + 2 + q ≤ L.length) := by show _ ≤ _; rw [HSL.out]; omega
              clear HRQ hRQ huq hul hs2 hlo hla HDC hDs hD huz
              go_wp2_with fail
              refine (HNA.out w3).mono ?_
              rintro e w4 ⟨rfl, hb4⟩
              have HB4 : Hid (Below wr.heap.size wr w4) := HB3.out.trans (hb4.mono HB3.out.size)
              clear hb4 HB3
              go_wp2_with fail
              rw [HXT.out]
              have HB5 : Hid (Below w.heap.size w w4) := HM.out.bel.trans (HB4.out.mono HM.out.bel.size)
              cases hD : D with
              | none =>
                rw [hD] at HDCQ HRQ2
                have HRF : Hid (R = none) := by show _ = _; rw [HRQ2.out]; rfl
                refine (HDCQ.out w4).mono ?_
                rintro e w5 ⟨rfl, hb5⟩
                have HB6 : Hid (Below w.heap.size w w5) := HB5.out.trans (hb5.mono HB5.out.size)
                clear hb5 hkn
                unfold zeroOp
                go_wp2_with fail
                go_ret2
                rw [HRF.out]
                exact ⟨_, _, _, rfl, HB6.out.alloc HB6.out.size _⟩
              | some o =>
                rw [hD] at HDCQ HRQ2
                obtain ⟨ho1, ho2⟩ := HDS.out o hD
                have hob := opBytes_len ho1
                have HOB := Lib.hid hob
                have HO2 := Lib.hid ho2
                refine (HDCQ.out w4).mono ?_
                rintro e w5 ⟨yA, yc, rfl, hown, hb5⟩
                have HB6 : Hid (Below w.heap.size w w5) := HB5.out.trans (hb5.mono HB5.out.size)
                have HV5 := Lib.hid ((HM.out.own.below HB4.out).below hb5)
                have HS5 : Hid (∀ y ∈ ys, Own w5 w.heap.size 23 2 y.at_ y.op.seen.length y.cap (dcells y.op.seen)) := fun y hy => ((HM.out.seen y hy).below HB4.out).below hb5
                have HN5 := Lib.hid (hown.mono (B' := w.heap.size) HB5.out.size)
                clear hb5 hown ho1 ho2 hob HDCQ HDS
                obtain ⟨W5, hW5⟩ : ∃ W5, W5 = w5.alloc (.cells (o.cells yA yc) 26) := ⟨_, rfl⟩
                obtain ⟨g5, hg5⟩ : ∃ g5, g5 = w5.heap.size := ⟨_, rfl⟩
                have HB7 : Hid (Below w.heap.size w W5) := by rw [hW5]; exact HB6.out.alloc HB6.out.size _
                have HV6 : Hid (Own W5 w.heap.size 26 6 V k cv (ocells ys)) := by rw [hW5]; exact HV5.out.alloc _
                have HS6 : Hid (∀ y ∈ ys, Own W5 w.heap.size 23 2 y.at_ y.op.seen.length y.cap (dcells y.op.seen)) := by rw [hW5]; exact fun y hy => (HS5.out y hy).alloc _
                have HN6 : Hid (Own W5 w.heap.size 23 2 yA o.seen.length yc (dcells o.seen)) := by rw [hW5]; exact HN5.out.alloc _
                have HO5 : Hid (Blk W5 g5 26 (o.cells yA yc)) := by rw [hW5, hg5]; exact Blk.new w5 _ _
                have b0 := HO5.out.cell 0
                have b1 := HO5.out.cell 1
                have b2 := HO5.out.cell 2
                have b3 := HO5.out.cell 3
                have b4 := HO5.out.cell 4
                have b5 := HO5.out.cell 5
                have HOLE : Hid (unpackN m t = (unpackN (m - (k + 1)) (L.drop (a + 2 + q))).map fun r => (ys.map OpAt.op ++ [o]) ++ r) := by
                  show _ = _
                  rw [← HRN.out, HRQ2.out, HDD.out, show m - (k + 1) = j by have := HKJ.out; omega]
                  simp only
                  rw [Option.map_map]
                  congr 1
                  funext r
                  simp
                clear HV5 HS5 HN5 HB6 HB5 HB4 hD HRQ2
                obtain ⟨⟨d1, d2⟩, o2, o3, o4, o5⟩ := o
                unfold LOp.cells at b0 b1 b2 b3 b4 b5 hW5
                unfold LOp.val
                simp only [List.getElem?_toArray, List.getElem?_cons_zero, List.getElem?_cons_succ] at b0 b1 b2 b3 b4 b5 hW5
                have HONE : Hid (OneCells [Value.int .i64 d1, .int .i64 d2, .int .i64 o2, .string o3, .int .i64 o4, .slice yA o5.length yc]) := by
                  show OneCells _
                  intro u hu
                  simp only [List.mem_cons, List.not_mem_nil, or_false] at hu
                  rcases hu with rfl | rfl | rfl | rfl | rfl | rfl <;> rfl
                have HFIT : Hid (Fits (k + 1) 72) := Fits.of_small (by omega) (by decide)
                have hgs : w.heap.size ≤ W5.heap.size := HB7.out.size
                have HV7 := Lib.hid (HV6.out.alloc (.cells #[.int .i64 d1, .int .i64 d2, .int .i64 o2, .string o3, .int .i64 o4, .slice yA o5.length yc] 26))
                have HRW := Lib.hid (Reads.row W5 26 #[.int .i64 d1, .int .i64 d2, .int .i64 o2, .string o3, .int .i64 o4, .slice yA o5.length yc])
                have HSZ : Hid (w.heap.size ≤ (W5.alloc (.cells #[.int .i64 d1, .int .i64 d2, .int .i64 o2, .string o3, .int .i64 o4, .slice yA o5.length yc] 26)).heap.size) := by show _ ≤ _; simp; omega
                go_upto_region 15 with fail
                rw [← hW5, ← hg5]
                clear hW5 hg5
                go_wp2_with (at_builtin; go_loud (refine wpList_app _ (.tmp 59) (.tmp 61) rfl rfl elemOu rfl rfl HV7.out HRW.out HONE.out HFIT.out HSZ.out ?_; intro V8 cV w8 hO hL hg; have HO8 := Lib.hid hO; have HL8 := Lib.hid hL; clear hO hL hg))
                go_roundw
                case rel =>
                  refine ⟨k + 1, a + 2 + q, V8, cV, ys ++ [⟨⟨⟨d1, d2⟩, o2, o3, o4, o5⟩, yA, yc⟩], by omega, by go_num, by go_num, rfl, Lib.hid ⟨?_, ?_, ?_, ?_, HKL.out, ?_⟩⟩
                  · exact (HB7.out.alloc hgs _).trans (HL8.out.below HSZ.out (fun i hi => (HV6.out.lt i hi).1))
                  · rw [show ocells (ys ++ [⟨⟨⟨d1, d2⟩, o2, o3, o4, o5⟩, yA, yc⟩]) = ocells ys ++ [.int .i64 d1, .int .i64 d2, .int .i64 o2, .string o3, .int .i64 o4, .slice yA o5.length yc] by simp [ocells, OpAt.cells, LOp.cells]]
                    exact HO8.out
                  · intro y hy
                    rw [List.mem_append, List.mem_singleton] at hy
                    rcases hy with hy | rfl
                    · exact ((HS6.out y hy).alloc _).only HL8.out ((HS6.out y hy).ne2 HV6.out (by decide))
                    · exact (HN6.out.alloc _).only HL8.out (HN6.out.ne2 HV6.out (by decide))
                  · rw [HOLE.out, List.map_append]
                    rfl
                  · have h1 := HM.out.small
                    have h2 := HO2.out
                    have h3 := HOB.out
                    omega
                case measure => simp [intOf]; omega
        · have k1 : ¬ (k : Int) < (m : Int) := by omega
          have HIS : Hid (R = if L.drop a = [] then some (ys.map OpAt.op) else none) := by
            show _ = _
            rw [HRN.out, HM.out.is, show m - k = 0 by omega, unpackN]
            by_cases hr : L.drop a = []
            · rw [if_pos hr, if_pos hr]; simp
            · rw [if_neg hr, if_neg hr]; rfl
          have hlen : k = ys.length := by
            have := HM.out.own.len
            rw [ocells_len] at this
            omega
          have HLEN := Lib.hid hlen
          by_cases hr : L.drop a = []
          · have HRF : Hid (R = some (ys.map OpAt.op)) := by show _ = _; rw [HIS.out, if_pos hr]
            have hq : ((a : Int) == (s.size : Int)) = true := by
              have := List.drop_eq_nil_iff.1 hr
              have := HSL.out
              simp; omega
            clear hlen hr hkn
            go_wp2_with fail
            go_ret2
            rw [HRF.out]
            refine ⟨V, cv, ys, ?_, rfl, ?_, HM.out.seen, HM.out.bel⟩
            · rw [List.length_map, ← HLEN.out]; rfl
            · rw [List.length_map, ← HLEN.out]; exact HM.out.own
          · have HRF : Hid (R = none) := by show _ = _; rw [HIS.out, if_neg hr]
            have hq : ((a : Int) == (s.size : Int)) = false := by
              have : a < L.length := by
                rcases Nat.lt_or_ge a L.length with h | h
                · exact h
                · exact absurd (List.drop_eq_nil_iff.2 h) hr
              have := HSL.out
              simp; omega
            clear hlen hr hkn
            go_wp2_with fail
            go_ret2
            rw [HRF.out]
            exact ⟨_, _, _, rfl, HM.out.bel⟩
end Go.Proofs.YtlcjgldlblpboaaDoor
