/- sync.take, walked. Conditions: the document is right; the ops can be read, and lie apart from it. -/
import Derived.Test.YtnmmnejoldbeiaaGreatDoorSyncLacks
namespace Go.Proofs.YtnmmnejoldbeiaaGreatDoor
open Go.RowKit
set_option linter.unusedVariables false
namespace LDoc
def tookN (d : LDoc) (l : List LOp) : Int := if d.doE l = 0 then d.takeN l else 0
end LDoc
structure TkMid (w : World) (B : Nat) (S : List Nat) (b : Nat) (A : Option Addr) (ys : List OpAt) (st : LDoc) (k : Nat) (n : Int) (wr : World) (S' : List Nat) (D' : DLay) (sk : LDoc) : Prop where
  mid : DoMid w B S b A ys st k wr S' D' sk
  num : st.takeN (ys.map OpAt.op) = n + sk.takeN ((ys.drop k).map OpAt.op)
  le : 0 ≤ n ∧ n ≤ k
def TkLoop (w : World) (B : Nat) (S : List Nat) (b : Nat) (A : Option Addr) (ys : List OpAt) (st : LDoc) (v i : Value) (wr : World) : Prop := ∃ k : Nat, ∃ (n : Int), ∃ S' D' sk, k ≤ ys.length ∧ i = .int .i64 k ∧ v = .int .i64 n ∧ Hid (TkMid w B S b A ys st k n wr S' D' sk)
theorem TkMid.next {w wr w' : World} {B b : Nat} {S S' : List Nat} {A : Option Addr} {ys : List OpAt} {st sk : LDoc} {k : Nat} {n : Int} {D' : DLay} (h : TkMid w B S b A ys st k n wr S' D' sk) (hk : k < ys.length) (o : Obj) (he : sk.applyE ys[k].op = 0) (ht : DocTo (wr.alloc o) B S' b (sk.apply ys[k].op) w') :
    ∃ S2 D2, TkMid w B S b A ys st (k + 1) (n + if sk.applyB ys[k].op = true then 1 else 0) w' S2 D2 (sk.apply ys[k].op) := by
  obtain ⟨S2, D2, h1⟩ := h.mid.next hk o he ht
  refine ⟨S2, D2, h1, ?_, ?_⟩
  · rw [h.num, List.drop_eq_getElem_cons hk, List.map_cons, LDoc.takeN, if_neg (by omega)]
    omega
  · have := h.le
    split <;> omega
def TakePost (w : World) (B : Nat) (S : List Nat) (b : Nat) (n k : Int) (st : LDoc) (e : Ending) (w' : World) : Prop := e = .returned (.tuple #[.int .i64 n, errV k]) ∧ DocTo w B S b st w'
set_option maxRecDepth 100000 in
set_option maxHeartbeats 8000000 in
theorem take_any (w : World) (B : Nat) (S : List Nat) (b : Nat) (st : LDoc) (D : DLay) (h : DocIs w B S b st D) (ok : st.Ok) (A : Option Addr) (c : Nat) (ys : List OpAt) (hr : Reads w w.heap.size 6 A ys.length (ocells ys)) (ha : 0 < ys.length → ∀ g ∈ ob A, g ∉ S)
    (hf : ∀ y ∈ ys, OpFar w S y) (hl : ys.length ≤ 1000000) :
    Calls Tryz.prog 82 #[.pointer (some ⟨b, 0, none⟩), .slice A ys.length c] w (TakePost w B S b (st.tookN (ys.map OpAt.op)) (st.doE (ys.map OpAt.op)) (st.doR (ys.map OpAt.op))) := by
  have HR := Lib.hid hr
  have HA := Lib.hid ha
  have HF := Lib.hid hf
  have HM0 : Hid (TkMid w B S b A ys st 0 0 w S D st) := ⟨⟨h, Only.refl _ _, fun g hg => .inl hg, ok, rfl, rfl⟩, by simp, by omega⟩
  clear hr ha hf h ok
  go_enter Tryz.func82, Tryz.ntmps82
  go_wp2_with fail
  go_loopw [6, 13] (fun v i wr => TkLoop w B S b A ys st v i wr) (fun _ i _ => ys.length - (intOf i).toNat)
  case atStart => exact ⟨0, 0, _, _, _, Nat.zero_le _, rfl, rfl, HM0.out⟩
  case round =>
    obtain ⟨k, nn, S', D', sk, hk, rfl, rfl, HM⟩ := hrel
    have k0 : (0 : Int) ≤ (k : Int) := by omega
    have hle := HM.out.le
    by_cases hlt : k < ys.length
    · have k1 : (k : Int) < (ys.length : Int) := by omega
      have hro := Reads.only HR.out HM.out.mid.only HA.out
      obtain ⟨ad, rfl, hab, d0, d1, d2, d3, d4, d5⟩ := hro.op hlt
      obtain ⟨f1, f2, f3⟩ := HF.out _ (List.getElem_mem hlt)
      have f1' := Reads.only f1 HM.out.mid.only f3
      have hfar : 0 < ys[k].op.seen.length → ∀ g ∈ ob ys[k].at_, g ∉ S' := fun hn g hg hm => by
        rcases HM.out.mid.sub g hm with h4 | h4
        · exact f3 hn g hg h4
        · obtain ⟨ad', e, hb, _⟩ := f1.2 hn
          rw [e] at hg; simp [ob] at hg; omega
      have HAP : Hid (∀ o : Obj, Calls Tryz.prog 58 #[.pointer (some ⟨b, 0, none⟩), ys[k].op.val ys[k].at_ ys[k].cap] (wr.alloc o) (ApplyPost (wr.alloc o) B S' b (sk.applyB ys[k].op) (sk.applyE ys[k].op) (sk.apply ys[k].op))) := fun o =>
        apply_doc (wr.alloc o) B S' b sk D' (HM.out.mid.boxed o) HM.out.mid.ok ys[k].op ys[k].at_ ys[k].cap f2 ((f1'.alloc (Nat.le_refl _) o).more (by simp)) hfar
      have HNX : Hid (∀ (he : sk.applyE ys[k].op = 0) (o : Obj) (w' : World), DocTo (wr.alloc o) B S' b (sk.apply ys[k].op) w' → ∃ S2 D2, TkMid w B S b (some ad) ys st (k + 1) (nn + if sk.applyB ys[k].op = true then 1 else 0) w' S2 D2 (sk.apply ys[k].op)) := fun he o w' ht => HM.out.next hlt o he ht
      have HST : Hid (∀ (he : sk.applyE ys[k].op ≠ 0) (o : Obj) (w' : World), DocTo (wr.alloc o) B S' b sk w' → st.doE (ys.map OpAt.op) = sk.applyE ys[k].op ∧ DocTo w B S b (st.doR (ys.map OpAt.op)) w') := fun he o w' ht => HM.out.mid.stop hlt o he ht
      have HBAD := Lib.hid (fun he : sk.applyE ys[k].op ≠ 0 => LDoc.applyE_bad (d := sk) (o := ys[k].op) rfl he)
      clear f1 f1' f2 f3 hfar hro hab
      generalize ys[k] = y at *
      have HE0 : errV 0 = .nilIface := rfl
      have q1 : IntKind.i64.wrap (nn + 1) = nn + 1 := IntWalk.i64_in _ (by omega)
      by_cases he : sk.applyE y.op = 0
      · have HNY := Lib.hid (HNX.out he)
        rw [he] at HAP
        clear HST HBAD he HNX
        generalize sk.apply y.op = sk2 at *
        cases hbb : sk.applyB y.op with
        | true =>
          rw [hbb] at HAP HNY
          simp only [if_true] at HNY
          clear hbb
          obtain ⟨⟨⟨who, n⟩, what, p, letter, seen⟩, ya, yc⟩ := y
          unfold LOp.val at HAP
          simp only at d0 d1 d2 d3 d4 d5 HAP
          go_wp2_with fail
          refine (HAP.out _).mono ?_
          rintro e w2 ⟨rfl, ht⟩
          have HN2 := Lib.hid (HNY.out _ _ ht)
          rw [HE0]
          clear ht HNY HAP
          go_wp2_with fail
          go_roundw
          case rel =>
            obtain ⟨S2, D2, hfin⟩ := HN2.out
            exact ⟨k + 1, nn + 1, S2, D2, sk2, by omega, by go_num, by first | rfl | rw [q1], hfin⟩
          case measure => simp [intOf]; omega
        | false =>
          rw [hbb] at HAP HNY
          simp only [Bool.false_eq_true, if_false] at HNY
          clear hbb
          obtain ⟨⟨⟨who, n⟩, what, p, letter, seen⟩, ya, yc⟩ := y
          unfold LOp.val at HAP
          simp only at d0 d1 d2 d3 d4 d5 HAP
          go_wp2_with fail
          refine (HAP.out _).mono ?_
          rintro e w2 ⟨rfl, ht⟩
          have HN2 := Lib.hid (HNY.out _ _ ht)
          rw [HE0]
          clear ht HNY HAP
          go_wp2_with fail
          go_roundw
          case rel =>
            obtain ⟨S2, D2, hfin⟩ := HN2.out
            exact ⟨k + 1, nn, S2, D2, sk2, by omega, by go_num, rfl, by rw [Int.add_zero] at hfin; exact hfin⟩
          case measure => simp [intOf]; omega
      · obtain ⟨_, hb, hs⟩ := HBAD.out he
        have HSU := Lib.hid (HST.out he)
        have HV := Lib.hid (errV_ne he)
        have HE := Lib.hid he
        rw [hb, hs] at HAP
        clear HNX HBAD he hb hs HST
        generalize sk.applyE y.op = ke at *
        obtain ⟨⟨⟨who, n⟩, what, p, letter, seen⟩, ya, yc⟩ := y
        unfold LOp.val at HAP
        simp only at d0 d1 d2 d3 d4 d5 HAP
        go_wp2_with fail
        refine (HAP.out _).mono ?_
        rintro e w2 ⟨rfl, ht⟩
        have HN2 := Lib.hid (HSU.out _ _ ht)
        rw [HV.out]
        clear ht HSU HAP
        go_wp2_with fail
        go_ret2
        obtain ⟨n1, n2⟩ := HN2.out
        have n3 : st.tookN (ys.map OpAt.op) = 0 := by unfold LDoc.tookN; rw [if_neg]; rw [n1]; exact HE.out
        exact ⟨by rw [n3, n1, HV.out]; rfl, n2⟩
    · have k1 : ¬ (k : Int) < (ys.length : Int) := by omega
      obtain ⟨f1, f2⟩ := HM.out.mid.fin (by omega)
      have F1 := Lib.hid f1
      have F2 := Lib.hid f2
      have F3 : Hid (st.tookN (ys.map OpAt.op) = nn) := by
        show _ = _
        unfold LDoc.tookN
        rw [if_pos f1, HM.out.num, List.drop_eq_nil_of_le (by omega)]
        simp [LDoc.takeN]
      clear f1 f2
      go_wp2_with fail
      go_ret2
      exact ⟨by rw [F1.out, F3.out]; rfl, F2.out⟩
end Go.Proofs.YtnmmnejoldbeiaaGreatDoor
