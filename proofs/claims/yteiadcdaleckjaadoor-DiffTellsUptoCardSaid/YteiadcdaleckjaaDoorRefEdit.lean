/- leafref2.Cost, leafref2.Edited, walked. Conditions: a cost that an int holds; what is written has at most 2,000,000 bytes. -/
import Derived.Test.YteiadcdaleckjaaDoorDiffEd
import Derived.Test.YteiadcdaleckjaaDoorDiffWalk
namespace Go.Proofs.YteiadcdaleckjaaDoor
open Go.RowKit
set_option linter.unusedVariables false
set_option maxRecDepth 100000 in
set_option maxHeartbeats 4000000 in
theorem rcost_any (w : World) (A : Option Addr) (c : Nat) (l : List LEd) (h : Reads w w.heap.size 3 A l.length (ecells l)) (hn : l.length ≤ 1048576) (hcost : costL l ≤ 4000000000000000000) :
    Calls Tryd.prog 8 #[.slice A l.length c] w (CheckPost w (.int .i64 (costL l : Int))) := by
  have HR := Lib.hid h
  clear h
  go_enter Tryd.func8, Tryd.ntmps8
  go_wp2_with fail
  go_loop [3, 4] (fun v i => ∃ k : Nat, k ≤ l.length ∧ i = .int .i64 k ∧ v = .int .i64 (costL (l.take k) : Int)) (fun _ i => l.length - (intOf i).toNat)
  case atStart => exact ⟨0, by omega, rfl, rfl⟩
  case round =>
    obtain ⟨k, hk, rfl, rfl⟩ := hrel
    have k0 : (0 : Int) ≤ (k : Int) := by omega
    by_cases hkn : k < l.length
    · obtain ⟨ad, rfl, hb, c0, c1, c2⟩ := HR.out.ed hkn
      have hlt : (k : Int) < (l.length : Int) := by omega
      have h1 := costL_take hkn
      have h2 := costL_le (l := l) (k + 1)
      have HC := Lib.hid h1
      have b1 : costL (l.take k) ≤ 4000000000000000000 := by omega
      have b2 : costL (l.take k) + l[k].cost ≤ 4000000000000000000 := by omega
      clear h1 h2
      generalize costL (l.take k) = S at *
      by_cases h3 : 0 ≤ l[k].strike
      · by_cases h4 : l[k].strike ≤ 200
        · have hcs : l[k].cost = l[k].strike.toNat + l[k].write.size := by
            unfold LEd.cost
            by_cases h5 : 0 < l[k].strike
            · rw [if_pos ⟨h5, h4⟩]
            · rw [if_neg (by omega)]; omega
          have b3 : l[k].write.size ≤ 4000000000000000000 := by omega
          have b4 : (S : Int) + l[k].strike + (l[k].write.size : Int) ≤ 4000000000000000000 := by omega
          have HCS := Lib.hid hcs
          clear hcs b2
          go_wp2_with fail
          go_round
          case rel => exact ⟨k + 1, by omega, by go_num, by rw [HC.out, HCS.out]; congr 1; omega⟩
          case measure => simp [intOf]; omega
        · have hcs : l[k].cost = l[k].write.size := by unfold LEd.cost; rw [if_neg (by omega)]; omega
          have b4 : (S : Int) + (l[k].write.size : Int) ≤ 4000000000000000000 := by omega
          have HCS := Lib.hid hcs
          clear hcs b2
          go_wp2_with fail
          go_round
          case rel => exact ⟨k + 1, by omega, by go_num, by rw [HC.out, HCS.out]; congr 1⟩
          case measure => simp [intOf]; omega
      · have hcs : l[k].cost = l[k].write.size := by unfold LEd.cost; rw [if_neg (by omega)]; omega
        have b4 : (S : Int) + (l[k].write.size : Int) ≤ 4000000000000000000 := by omega
        have HCS := Lib.hid hcs
        clear hcs b2
        go_wp2_with fail
        go_round
        case rel => exact ⟨k + 1, by omega, by go_num, by rw [HC.out, HCS.out]; congr 1⟩
        case measure => simp [intOf]; omega
    · have hk2 : k = l.length := by omega
      have HT : Hid (costL (l.take k) = costL l) := by rw [List.take_of_length_le (by omega)]; exact Lib.hid rfl
      have hd : ¬ ((k : Int) < (l.length : Int)) := by omega
      clear hk2
      go_wp2_with fail
      go_ret
      exact ⟨by rw [HT.out]; rfl, Below.refl _ _⟩
def wkFst (a : List UInt8) (l : List LEd) : Option (List UInt8) := (wk a l).map Prod.fst
def EdLoop (w : World) (a : ByteArray) (l : List LEd) (x s i : Value) (wr : World) : Prop :=
  ∃ (k : Nat) (rest done : ByteArray), k ≤ l.length ∧ i = .int .i64 k ∧ x = .string rest ∧ s = .string done ∧ rest.size ≤ 200 ∧
    Hid (Below w.heap.size w wr) ∧ Hid (wkFst a.data.toList l = (wkFst rest.data.toList (l.drop k)).map (done.data.toList ++ ·)) ∧ done.size + rest.size ≤ 200 + sumW (l.take k)
theorem wkFst_step {rest : ByteArray} {ke se : Nat} {ws : ByteArray} {tail : List LEd} (h : ke + se ≤ rest.size) :
    wkFst rest.data.toList (⟨ke, se, ws⟩ :: tail) = (wkFst (rest.extract (ke + se) rest.size).data.toList tail).map ((rest.extract 0 ke ++ ws).data.toList ++ ·) := by
  unfold wkFst
  rw [wk_step h]
  cases wk (rest.extract (ke + se) rest.size).data.toList tail <;> rfl
theorem wkErr_fst (a : ByteArray) (l : List LEd) (h : ¬ (200 < a.size ∨ 200 < l.length)) : wkErr a l = match wkFst a.data.toList l with | none => 1 | some s => if 200 < s.length then 4 else 0 := by
  unfold wkErr wkFst
  rw [if_neg h]
  cases wk a.data.toList l <;> rfl
theorem wkOut_fst {a : ByteArray} {l : List LEd} {s : List UInt8} (h : wkFst a.data.toList l = some s) : wkOut a l = s := by
  unfold wkFst at h
  unfold wkOut
  cases hw : wk a.data.toList l with
  | none => rw [hw] at h; cases h
  | some r => rw [hw] at h; simpa using h
def edOut (a : ByteArray) (l : List LEd) : ByteArray := if wkErr a l = 0 then strOf (wkOut a l) else ⟨#[]⟩
def EditedPost (w : World) (a : ByteArray) (l : List LEd) (e : Ending) (w' : World) : Prop := e = .returned (.tuple #[.string (edOut a l), .int .i64 (wkErr a l)]) ∧ Below w.heap.size w w'
set_option maxRecDepth 100000 in
set_option maxHeartbeats 4000000 in
theorem redited_any (w : World) (a : ByteArray) (A : Option Addr) (c : Nat) (l : List LEd) (h : Reads w w.heap.size 3 A l.length (ecells l)) (ha : a.size ≤ 9223372036854775807) (hn : l.length ≤ 9223372036854775807) (hW : sumW l ≤ 2000000) :
    Calls Tryd.prog 7 #[.string a, .slice A l.length c] w (EditedPost w a l) := by
  have HR := Lib.hid h
  clear h
  by_cases hz : 200 < a.size ∨ 200 < l.length
  · have HE : Hid (wkErr a l = 4) := by show _ = _; unfold wkErr; rw [if_pos hz]
    have HO : Hid (edOut a l = ⟨#[]⟩) := by show _ = _; unfold edOut; rw [HE.out, if_neg (by decide)]
    by_cases h1 : 200 < a.size
    · clear hz
      go_enter Tryd.func7, Tryd.ntmps7
      go_wp2_with fail
      go_ret2
      exact ⟨by rw [HE.out, HO.out]; rfl, Below.refl _ _⟩
    · have h2 : 200 < l.length := by omega
      clear hz
      go_enter Tryd.func7, Tryd.ntmps7
      go_wp2_with fail
      go_ret2
      exact ⟨by rw [HE.out, HO.out]; rfl, Below.refl _ _⟩
  · have ha2 : a.size ≤ 200 := by omega
    have hl2 : l.length ≤ 200 := by omega
    have HZ := Lib.hid hz
    clear hz ha hn
    go_enter Tryd.func7, Tryd.ntmps7
    go_wp2_with fail
    go_loopw [0, 6, 7] (fun x s i wr => EdLoop w a l x s i wr) (fun _ _ i _ => l.length - (intOf i).toNat)
    case atStart =>
      refine ⟨0, a, ⟨#[]⟩, by omega, rfl, rfl, rfl, ha2, Below.refl _ _, ?_, by show 0 + a.size ≤ _; omega⟩
      show _ = _
      simp
    case round =>
      obtain ⟨k, rest, done, hk, rfl, rfl, rfl, hr, HB, HK, hd⟩ := hrel
      have k0 : (0 : Int) ≤ (k : Int) := by omega
      by_cases hkn : k < l.length
      · obtain ⟨ad, rfl, hb, c0, c1, c2⟩ := (HR.out.below HB.out).ed hkn
        have hlt : (k : Int) < (l.length : Int) := by omega
        have hkd := List.drop_eq_getElem_cons hkn
        have hst := sumW_take hkn
        have hsl := sumW_le (l := l) (k + 1)
        generalize l[k] = ed at c0 c1 c2 hkd hst
        obtain ⟨kp, sp, ws⟩ := ed
        simp only at c0 c1 c2 hst
        have HST := Lib.hid hst
        have hws : sumW (l.take k) + ws.size ≤ 2000000 := by omega
        rw [hkd] at HK
        clear hkd hst hsl
        have HBa : Hid (Below w.heap.size w (wr.alloc (.cells #[.int .i64 kp, .int .i64 sp, .string ws] 59))) := HB.out.alloc HB.out.size _
        have HBX := Lib.hid (Blk.new wr 59 #[.int .i64 kp, .int .i64 sp, .string ws])
        have HBad : Hid (edBad rest.data.toList.length ⟨kp, sp, ws⟩ → wkErr a l = 1) := fun hbd => by
          have h := HK.out
          have e : wkFst rest.data.toList (⟨kp, sp, ws⟩ :: l.drop (k + 1)) = none := by unfold wkFst; rw [wk, if_pos hbd]; rfl
          rw [e] at h
          rw [wkErr_fst a l HZ.out, h]
          rfl
        have hrl : rest.data.toList.length = rest.size := by rw [Array.length_toList]; rfl
        rw [hrl] at HBad
        have HRL := Lib.hid hrl
        clear hrl
        have HOUT : Hid (wkErr a l = 1 → edOut a l = ⟨#[]⟩) := fun h => by unfold edOut; rw [h, if_neg (by decide)]
        by_cases b1 : kp < 0
        · have HErr := Lib.hid (HBad.out (.inl b1))
          go_wp2_with fail
          go_ret2
          exact ⟨by rw [HErr.out, HOUT.out HErr.out]; rfl, HBa.out⟩
        · by_cases b2 : sp < 0
          · have HErr := Lib.hid (HBad.out (.inr (.inl b2)))
            go_wp2_with fail
            go_ret2
            exact ⟨by rw [HErr.out, HOUT.out HErr.out]; rfl, HBa.out⟩
          · by_cases b3 : (rest.size : Int) < kp
            · have HErr := Lib.hid (HBad.out (.inr (.inr (.inl b3))))
              go_wp2_with fail
              go_ret2
              exact ⟨by rw [HErr.out, HOUT.out HErr.out]; rfl, HBa.out⟩
            · by_cases b4 : (rest.size : Int) - kp < sp
              · have HErr := Lib.hid (HBad.out (.inr (.inr (.inr b4))))
                go_wp2_with fail
                go_ret2
                exact ⟨by rw [HErr.out, HOUT.out HErr.out]; rfl, HBa.out⟩
              · obtain ⟨ke, rfl⟩ := Int.eq_ofNat_of_zero_le (show 0 ≤ kp by omega)
                obtain ⟨se, rfl⟩ := Int.eq_ofNat_of_zero_le (show 0 ≤ sp by omega)
                clear HBad
                have hsum : ke + se ≤ rest.size := by omega
                have HSTEP := Lib.hid (wkFst_step (ws := ws) (tail := l.drop (k + 1)) hsum)
                have hk0 : (0 : Int) ≤ (ke : Int) := by omega
                have hk1 : (ke : Int) ≤ (rest.size : Int) := by omega
                have hx0 : (0 : Int) ≤ (ke : Int) + (se : Int) := by omega
                have hx1 : (ke : Int) + (se : Int) ≤ (rest.size : Int) := by omega
                have q1 : IntKind.i64.wrap ((ke : Int) + (se : Int)) = (ke : Int) + (se : Int) := IntWalk.i64_in _ (by omega)
                have hex : (rest.extract 0 ke).size ≤ 200 := by rw [ByteArray.size_extract]; omega
                have hds : (done ++ rest.extract 0 ke).size = done.size + (rest.extract 0 ke).size := by simp [ByteArray.size_append]
                have hcat : ∀ W, (Op.stringOp .add done (rest.extract 0 ke)).run Tryd.prog W = .ok (.string (done ++ rest.extract 0 ke)) W := fun W => run_string_add_sum _ _ _ (by omega)
                have hcat2 : ∀ W, (Op.stringOp .add (done ++ rest.extract 0 ke) ws).run Tryd.prog W = .ok (.string (done ++ rest.extract 0 ke ++ ws)) W := fun W => run_string_add_sum _ _ _ (by omega)
                have hlen3 : Hid ((done ++ rest.extract 0 ke ++ ws).size + (rest.extract (ke + se) rest.size).size ≤ 200 + sumW (l.take (k + 1)) ∧ (rest.extract (ke + se) rest.size).size ≤ 200) := by
                  have hx := HST.out
                  show _ ∧ _
                  rw [ByteArray.size_append, ByteArray.size_append, ByteArray.size_extract, ByteArray.size_extract]
                  omega
                have HK4 : Hid (wkFst a.data.toList l = (wkFst (rest.extract (ke + se) rest.size).data.toList (l.drop (k + 1))).map ((done ++ rest.extract 0 ke ++ ws).data.toList ++ ·)) := by
                  have h := HK.out
                  rw [HSTEP.out, Option.map_map] at h
                  show _ = _
                  rw [h]
                  congr 1
                  funext r
                  simp
                have t5 : ((ke : Int) + (se : Int)).toNat = ke + se := by omega
                clear HK HST HSTEP hds hex hcat hcat2
                go_upto_region 10 with (fail)
                obtain ⟨wx, hwx⟩ : ∃ wx, wx = wr.alloc (.cells #[.int .i64 (ke : Int), .int .i64 (se : Int), .string ws] 59) := ⟨_, rfl⟩
                obtain ⟨db, hdb⟩ : ∃ db, db = wr.heap.size := ⟨_, rfl⟩
                rw [← hwx] at HBX HBa ⊢
                rw [← hdb] at HBX ⊢
                clear hwx hdb c0 c1 c2
                have e0 : wx.cell? ⟨db, 0, none⟩ = some (.int .i64 (ke : Int)) := by rw [HBX.out.cell]; rfl
                have e2 : wx.cell? ⟨db, 2, none⟩ = some (.string ws) := by rw [HBX.out.cell]; rfl
                have hcat : ∀ W, (Op.stringOp .add done (rest.extract 0 ke)).run Tryd.prog W = .ok (.string (done ++ rest.extract 0 ke)) W := fun W => run_string_add_sum _ _ _ (by rw [ByteArray.size_extract]; omega)
                have hcat2 : ∀ W, (Op.stringOp .add (done ++ rest.extract 0 ke) ws).run Tryd.prog W = .ok (.string (done ++ rest.extract 0 ke ++ ws)) W := fun W => run_string_add_sum _ _ _ (by rw [ByteArray.size_append, ByteArray.size_extract]; omega)
                go_quiet (fail)
                have HBX2 := Lib.hid (HBX.out.drewN nq)
                have HB2 := Lib.hid (below_drewN HBa.out nq)
                clear e0 e2
                generalize wx.drewN nq = w2 at *
                have e0 : w2.cell? ⟨db, 0, none⟩ = some (.int .i64 (ke : Int)) := by rw [HBX2.out.cell]; rfl
                have e1 : w2.cell? ⟨db, 1, none⟩ = some (.int .i64 (se : Int)) := by rw [HBX2.out.cell]; rfl
                go_wp2_with fail
                go_roundw
                case rel => exact ⟨k + 1, rest.extract (ke + se) rest.size, done ++ rest.extract 0 ke ++ ws, by omega, by go_num, rfl, rfl, hlen3.out.2, HB2, HK4, hlen3.out.1⟩
                case measure => simp [intOf]; omega
      · have hk2 : k = l.length := by omega
        have hd2 : ¬ ((k : Int) < (l.length : Int)) := by omega
        have HK2 : Hid (wkFst a.data.toList l = some (done ++ rest).data.toList) := by
          have := HK.out
          rw [List.drop_of_length_le (by omega)] at this
          show _ = _
          rw [this]
          simp [wkFst, wk]
        have hsw := sumW_le (l := l) k
        have hfs : (done ++ rest).size = done.size + rest.size := by simp [ByteArray.size_append]
        have hcat : ∀ W, (Op.stringOp .add done rest).run Tryd.prog W = .ok (.string (done ++ rest)) W := fun W => run_string_add_sum _ _ _ (by omega)
        have hlim : (done ++ rest).size ≤ 2000400 := by omega
        have HOF := Lib.hid (wkOut_fst HK2.out)
        have HEF : Hid (wkErr a l = if 200 < (done ++ rest).size then 4 else 0) := by
          show _ = _
          rw [wkErr_fst a l HZ.out, HK2.out]
          show (if 200 < (done ++ rest).data.toList.length then _ else _) = _
          rw [show (done ++ rest).data.toList.length = (done ++ rest).size by rw [Array.length_toList]; rfl]
        clear HK hk2 hfs hsw HK2
        generalize hfin : done ++ rest = fin at *
        have HFIN := Lib.hid hfin
        clear hfin
        by_cases hbig : 200 < fin.size
        · have hdb : (200 : Int) < (fin.size : Int) := by omega
          have HE : Hid (wkErr a l = 4) := by show _ = _; rw [HEF.out, if_pos hbig]
          have HO : Hid (edOut a l = ⟨#[]⟩) := by show _ = _; unfold edOut; rw [HE.out, if_neg (by decide)]
          clear hbig HEF
          go_wp2_with fail
          go_ret2
          exact ⟨by rw [HE.out, HO.out]; rfl, HB.out⟩
        · have hdb : ¬ (200 : Int) < (fin.size : Int) := by omega
          have HE : Hid (wkErr a l = 0) := by show _ = _; rw [HEF.out, if_neg hbig]
          have HO : Hid (edOut a l = fin) := by
            show _ = _
            unfold edOut
            rw [if_pos HE.out, HOF.out]
            apply ByteArray.ext
            simp [strOf]
          clear hbig HEF
          go_wp2_with fail
          go_ret2
          exact ⟨by rw [HE.out, HO.out]; rfl, HB.out⟩
end Go.Proofs.YteiadcdaleckjaaDoor
