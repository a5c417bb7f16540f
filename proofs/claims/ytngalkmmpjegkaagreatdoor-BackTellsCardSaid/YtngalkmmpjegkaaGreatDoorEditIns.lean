/- 2 texts in one: each says ahead of itself what is proved, and its conditions. -/
import Derived.Deep.CutBlock
import Derived.Deep.RegionHeld3
import Derived.Test.YtngalkmmpjegkaaGreatDoorBookAt
import Derived.Test.YtngalkmmpjegkaaGreatDoorEditAdd
import Derived.Test.YtngalkmmpjegkaaGreatDoorEditLaw
import Derived.Test.YtngalkmmpjegkaaGreatDoorLetter
import Derived.Test.YtngalkmmpjegkaaGreatDoorNthSeen
/- Is a byte of a text no letter? slices.ContainsFunc over bytes, walked. Conditions: stated with each. -/
namespace Go.Proofs.YtngalkmmpjegkaaGreatDoor
open Go.RowKit
set_option linter.unusedVariables false
theorem bs_at {l : List UInt8} {k : Nat} (h : k < l.length) : (bs l)[k]? = some (.int .u8 l[k].toNat) := by simp [bs, h]
theorem Reads.byte {w : World} {B : Nat} {A : Option Addr} {l : List UInt8} (h : Reads w B 1 A l.length (bs l)) {k : Nat} (hk : k < l.length) : ∃ ad, A = some ad ∧ ad.block < B ∧ w.cell? (ad.add k) = some (.int .u8 l[k].toNat) := by
  obtain ⟨ad, e, hb, hc⟩ := h.2 (by omega)
  exact ⟨ad, e, hb, hc _ _ (bs_at hk)⟩
theorem badC_any (w : World) (c : UInt8) : Calls Tryz.prog 122 #[.int .u8 c.toNat] w fun e w' => e = .returned (.bool (badC c)) ∧ w' = w := by
  have HL := Lib.hid (letter_any w (c.toNat : Int))
  have HB : Hid (badC c = !letterB (c.toNat : Int)) := rfl
  have hc := UInt8.toNat_lt c
  generalize hn : c.toNat = n at *
  generalize letterB (n : Int) = q at *
  go_enter Tryz.func122, Tryz.ntmps122
  go_wp2_with fail
  refine HL.out.mono ?_
  rintro e w1 ⟨rfl, rfl⟩
  go_wp2_with fail
  go_ret
  exact ⟨by rw [HB.out]; rfl, rfl⟩
def FoundCPost (w : World) (l : List UInt8) (e : Ending) (w' : World) : Prop := ∃ k : Int, e = .returned (.int .i64 k) ∧ (decide (0 ≤ k) = l.any badC) ∧ -1 ≤ k ∧ k ≤ l.length ∧ w' = w
set_option maxRecDepth 100000 in
set_option maxHeartbeats 1000000 in
theorem indexC_any (w : World) (A : Option Addr) (c : Nat) (l : List UInt8) (h : Reads w w.heap.size 1 A l.length (bs l)) (hn : l.length ≤ 1048576) :
    Calls Tryz.prog 144 #[.slice A l.length c, .func (Fn.func 122) #[] #[]] w (FoundCPost w l) := by
  have HR := Lib.hid h
  have HO := Lib.hid (fun n => badC_any w n)
  clear h
  go_enter Tryz.func144, Tryz.ntmps144
  go_wp2_with fail
  go_loop [8] (fun i => ∃ k : Nat, k ≤ l.length ∧ i = .int .i64 k ∧ Hid (∀ j (hj : j < l.length), j < k → badC l[j] = false)) (fun i => l.length - (intOf i).toNat)
  case atStart => exact ⟨0, by omega, rfl, fun j _ h => by omega⟩
  case round =>
    obtain ⟨k, hk, rfl, HA⟩ := hrel
    by_cases hkn : k < l.length
    · obtain ⟨ad, rfl, hb, c0⟩ := HR.out.byte hkn
      have hlt : (k : Int) < (l.length : Int) := by omega
      have HO1 := Lib.hid (HO.out l[k])
      cases hbad : badC l[k] with
      | true =>
        have HBd := Lib.hid hbad
        rw [hbad] at HO1
        clear hbad
        go_wp2_with fail
        refine HO1.out.mono ?_
        rintro e w' ⟨rfl, rfl⟩
        go_wp2_with fail
        go_ret
        refine ⟨k, rfl, ?_, by omega, by omega, rfl⟩
        rw [List.any_eq_true.2 ⟨l[k], List.getElem_mem hkn, HBd.out⟩]
        simp
      | false =>
        have HBd := Lib.hid hbad
        rw [hbad] at HO1
        clear hbad
        go_wp2_with fail
        refine HO1.out.mono ?_
        rintro e w' ⟨rfl, rfl⟩
        go_wp2_with fail
        go_round
        case rel => exact ⟨k + 1, by omega, by go_num, fun j hj h => by
          rcases Nat.lt_or_ge j k with h1 | h1
          · exact HA.out j hj h1
          · have : j = k := by omega
            subst this
            exact HBd.out⟩
        case measure => simp [intOf]; omega
    · have hd : decide ((k : Int) < (l.length : Int)) = false := by simp; omega
      have hnone : l.any badC = false := by
        cases hh : l.any badC
        · rfl
        · obtain ⟨n, hn, hb⟩ := List.any_eq_true.1 hh
          obtain ⟨j, hj, rfl⟩ := List.getElem_of_mem hn
          rw [HA.out j hj (by omega)] at hb
          cases hb
      have HN := Lib.hid hnone
      clear hnone
      go_wp2_with fail
      go_ret
      exact ⟨-1, rfl, by rw [HN.out]; simp, by omega, by omega, rfl⟩
set_option maxRecDepth 100000 in
theorem someC_any (w : World) (A : Option Addr) (c : Nat) (l : List UInt8) (h : Reads w w.heap.size 1 A l.length (bs l)) (hn : l.length ≤ 1048576) :
    Calls Tryz.prog 121 #[.slice A l.length c, .func (Fn.func 122) #[] #[]] w fun e w' => e = .returned (.bool (l.any badC)) ∧ w' = w := by
  have HI := Lib.hid (indexC_any w A c l h hn)
  clear h
  go_enter Tryz.func121, Tryz.ntmps121
  go_wp2_with fail
  refine HI.out.mono ?_
  rintro e w' ⟨k, rfl, hk, h1, h2, rfl⟩
  have HK := Lib.hid hk
  clear hk
  go_wp2_with fail
  go_ret
  exact ⟨by rw [← HK.out]; rfl, rfl⟩
/-- A text turned into bytes reads as it is. -/
theorem conv_reads (w : World) (s : ByteArray) : ∃ C cs fr, (convert 9 93 (.string s)).run Tryz.prog w = .ok (.slice (some ⟨w.heap.size, 0, none⟩) s.size C) (w.drew.alloc (.cells cs 5 fr)) ∧
    Reads (w.drew.alloc (.cells cs 5 fr)) (w.drew.alloc (.cells cs 5 fr)).heap.size 1 (some ⟨w.heap.size, 0, none⟩) s.size (bs s.toList) := by
  obtain ⟨C, cs, fr, h1, h2⟩ := conv_bytes w s
  refine ⟨C, cs, fr, h1, by rw [bs_len, toList_len]; omega, fun hn => ⟨_, rfl, by simp, fun j u hu => ?_⟩⟩
  by_cases hj : j < s.size
  · have h3 := h2 j hj
    have e1 : (⟨w.heap.size, 0, none⟩ : Addr).add j = ⟨w.heap.size, j, none⟩ := by
      unfold Addr.add
      by_cases hj : j = 0 <;> simp [hj]
    have hu2 := bs_at (l := s.toList) (k := j) (by rw [toList_len]; exact hj)
    rw [hu2] at hu
    obtain rfl := Option.some.inj hu
    rw [e1]
    refine (show (w.drew.alloc (.cells cs 5 fr)).cell? ⟨w.heap.size, j, none⟩ = (w.alloc (.cells cs 5 fr)).cell? ⟨w.heap.size, j, none⟩ from World.cell?_of_block ((heap_alloc_new w.drew _).trans (heap_alloc_new w _).symm)).trans (h3.trans ?_)
    rw [byteAt_in hj]
    have e2 : s.toList[j]'(by rw [toList_len]; exact hj) = s[j] := by simp [ByteArray.toList_eq]; rfl
    rw [e2]
  · rw [List.getElem?_eq_none (by rw [bs_len, toList_len]; omega)] at hu
    cases hu
end Go.Proofs.YtngalkmmpjegkaaGreatDoor
/- (*edit.Maker).Insert, walked. Conditions: the book is right; the maker's number is small. -/
namespace Go.Proofs.YtngalkmmpjegkaaGreatDoor
open Go.RowKit
set_option linter.unusedVariables false
/-- Midway: k letters are typed. -/
structure InsMid (w : World) (B b : Nat) (V : Option Addr) (m : LMk) (right left : ByteArray) (t : List UInt8) (k : Nat) (wr : World) (lk : ByteArray) (mk : LMk) (V' : Option Addr) (c' : Nat) (ys' : List OpAt) : Prop where
  mkis : MkIs wr B b mk V' c' ys'
  only : Only (b :: ob V) w wr
  new : ∀ g ∈ ob V', g ∈ ob V ∨ w.heap.size ≤ g
  rest : LMk.typed right t left m = LMk.typed right (t.drop k) lk mk
  who : mk.who = m.who
  n : mk.n = m.n + k
  len : ys'.length = m.ops.length + k
  small : lk.size ≤ 9223372036854775807
def InsLoop (w : World) (B b : Nat) (V : Option Addr) (m : LMk) (right left : ByteArray) (t : List UInt8) (l i : Value) (wr : World) : Prop :=
  ∃ k : Nat, ∃ lk mk V' c' ys', k ≤ t.length ∧ l = .string lk ∧ i = .int .i64 k ∧ Hid (InsMid w B b V m right left t k wr lk mk V' c' ys')
namespace InsMid
variable {w wr w' : World} {B b : Nat} {V V' : Option Addr} {m mk : LMk} {right left lk : ByteArray} {t : List UInt8} {k c' : Nat} {ys' : List OpAt}
theorem stop (h : InsMid w B b V m right left t k wr lk mk V' c' ys') (hk : k < t.length) (he : betweenErr lk right mk.who ≠ 0) (hb : Below wr.heap.size wr w') :
    (LMk.typed right t left m).2 = betweenErr lk right mk.who ∧ MkTo w B b V (LMk.typed right t left m).1 w' := by
  rw [h.rest, List.drop_eq_getElem_cons hk, LMk.typed, if_pos he]
  exact ⟨rfl, V', c', ys', h.mkis.below hb, h.only.below_step hb, h.new⟩
theorem fin (h : InsMid w B b V m right left t k wr lk mk V' c' ys') (hk : t.length ≤ k) : (LMk.typed right t left m).2 = 0 ∧ MkTo w B b V (LMk.typed right t left m).1 wr := by
  rw [h.rest, List.drop_eq_nil_of_le hk, LMk.typed]
  exact ⟨rfl, V', c', ys', h.mkis, h.only, h.new⟩
theorem next (h : InsMid w B b V m right left t k wr lk mk V' c' ys') (hk : k < t.length) (he : ¬ betweenErr lk right mk.who ≠ 0) {w1 : World} (hb : Below wr.heap.size wr w1) (ht : MkTo w1 B b V' (mk.wr (strOf (betweenRes lk right mk.who)) t[k].toNat) w') :
    ∃ V2 c2 ys2, InsMid w B b V m right left t (k + 1) w' (strOf (betweenRes lk right mk.who)) (mk.wr (strOf (betweenRes lk right mk.who)) t[k].toNat) V2 c2 ys2 := by
  have hsz := h.only.size
  have hsz1 := hb.size
  obtain ⟨V2, c2, ys2, i2, o2, n2⟩ := MkTo.trans (h.mkis.below hb) (h.only.below_step hb) h.new ht
  refine ⟨V2, c2, ys2, i2, o2, n2, ?_, ?_, ?_, ?_, ?_⟩
  · rw [h.rest, List.drop_eq_getElem_cons hk, LMk.typed, if_neg he]; rfl
  · exact h.who
  · show mk.n + 1 = _
    rw [h.n]; omega
  · have e1 := i2.len
    have e2 := h.mkis.len
    rw [h.len] at e2
    rw [e1]
    simp [LMk.wr, LMk.add]
    omega
  · rw [strOf_size]
    unfold betweenRes
    split
    · have := quarter_le lk right
      simp; omega
    · simp
end InsMid
def MkPost (w : World) (B b : Nat) (V : Option Addr) (r : LMk × Int) (e : Ending) (w' : World) : Prop := e = .returned (errV r.2) ∧ MkTo w B b V r.1 w'
theorem nth_leaf {l : List LLeaf} {off : Int} (h0 : 0 < off) (h1 : off ≤ ((textOf l).size : Int)) : ∃ n, ∃ hn : n < l.length, nthFrom 0 l (off - 1) = (n : Int) ∧ idxOf l off = n + 1 ∧ leftOf l off = l[n].place := by
  have hsz : (textOf l).size = (textL l).length := strOf_size _
  obtain ⟨o, rfl⟩ : ∃ o : Nat, off = (o : Int) + 1 := ⟨(off - 1).toNat, by omega⟩
  obtain ⟨n, hn, e1, e2, e3⟩ := nth_seen l 0 o (by omega)
  have e0 : (o : Int) + 1 - 1 = (o : Int) := by omega
  have en : (nthFrom 0 l ((o : Int) + 1 - 1)).toNat = n := by rw [e0, e1]; omega
  refine ⟨n, hn, by rw [e0, e1]; omega, ?_, ?_⟩
  · unfold idxOf; rw [if_pos h0, en]
  · unfold leftOf; rw [if_pos h0, en]; simp [List.getD, hn]
set_option maxRecDepth 100000 in
set_option maxHeartbeats 8000000 in
theorem mkIns_any (w : World) (B b : Nat) (m : LMk) (V : Option Addr) (c : Nat) (ys : List OpAt) (h : MkIs w B b m V c ys) (hB : B ≤ w.heap.size) (A : Option Addr) (cl : Nat) (l : List LLeaf) (hr : Reads w w.heap.size 3 A l.length (lcells l)) (hb : BookOk l)
    (off : Int) (ho : off ≤ 9223372036854775807) (text : ByteArray) (ht : text.size ≤ 9223372036854775807) (hn0 : 0 ≤ m.n) (hn : m.n ≤ 900000) (hl : m.ops.length ≤ 90000) :
    Calls Tryz.prog 88 #[.pointer (some ⟨b, 0, none⟩), .slice A l.length cl, .int .i64 off, .string text] w (MkPost w B b V (m.ins l off text)) := by
  have HH := Lib.hid h
  have HR := Lib.hid hr
  have HBO := Lib.hid hb
  have hll := hb.few
  have HP := Lib.hid (h.to_self)
  have HE4 := errV_ne (show (4 : Int) ≠ 0 by decide)
  have HE1 := errV_ne (show (1 : Int) ≠ 0 by decide)
  by_cases h4 : 200 < text.size
  · have HF : Hid (m.ins l off text = (m, 4)) := by
      show _ = _
      have e : insErr l off text = 4 := if_pos h4
      unfold LMk.ins; rw [if_pos (by rw [e]; decide), e]
    have g4 : (200 : Int) < (text.size : Int) := by omega
    clear h hr hb h4
    go_enter Tryz.func88, Tryz.ntmps88
    go_wp2_with fail
    go_ret
    exact ⟨by rw [HF.out, HE4]; rfl, by rw [HF.out]; exact HP.out⟩
  have g4 : ¬ (200 : Int) < (text.size : Int) := by omega
  obtain ⟨C, cs, fr, hcv, hrd⟩ := conv_reads w text
  have HB1 : Hid (Below w.heap.size w (w.drew.alloc (.cells cs 5 fr))) := (Below.refl _ _).drew.alloc (Nat.le_refl _) _
  have HS : Hid (Calls _ _ _ _ _) := someC_any _ _ C text.toList (by rw [toList_len]; exact hrd) (by rw [toList_len]; omega)
  rw [toList_len] at HS
  cases hbad : text.toList.any badC with
  | true =>
    have HF : Hid (m.ins l off text = (m, 1)) := by
      show _ = _
      have e : insErr l off text = 1 := by unfold insErr; rw [if_neg h4, if_pos hbad]
      unfold LMk.ins; rw [if_pos (by rw [e]; decide), e]
    rw [hbad] at HS
    clear h hr hb h4 hbad hrd
    go_enter Tryz.func88, Tryz.ntmps88
    go_wp2_with fail
    refine HS.out.mono ?_
    rintro e w1 ⟨rfl, rfl⟩
    go_wp2_with fail
    go_ret
    exact ⟨by rw [HF.out, HE1]; rfl, by rw [HF.out]; exact ⟨_, _, _, HH.out.below HB1.out, Only.of_below HB1.out, fun g hg => .inl hg⟩⟩
  | false =>
    rw [hbad] at HS
    have HFIT := Lib.hid (fit_ok hb)
    generalize w.drew.alloc (.cells cs 5 fr) = W1 at *
    have HTX : Hid (Calls _ _ _ _ _) := textOf_any W1 A cl l ((hr.below HB1.out).more HB1.out.size) HFIT.out (by omega)
    by_cases hoff : off < 0 ∨ ((textOf l).size : Int) < off
    · have HF : Hid (m.ins l off text = (m, 1)) := by
        show _ = _
        have e : insErr l off text = 1 := by unfold insErr; rw [if_neg h4, if_neg (by rw [hbad]; decide), if_pos hoff]
        unfold LMk.ins; rw [if_pos (by rw [e]; decide), e]
      have HOK : Hid (∀ W, Below w.heap.size w W → MkTo w B b V m W) := fun W hW => ⟨_, _, _, HH.out.below hW, Only.of_below hW, fun g hg => .inl hg⟩
      clear h hr hb h4 hbad hrd
      by_cases ho0 : off < 0
      · clear hoff
        go_enter Tryz.func88, Tryz.ntmps88
        go_wp2_with fail
        refine HS.out.mono ?_
        rintro e w1 ⟨rfl, rfl⟩
        go_wp2_with fail
        go_ret
        exact ⟨by rw [HF.out, HE1]; rfl, by rw [HF.out]; exact HOK.out _ HB1.out⟩
      · have ho1 : ((textOf l).size : Int) < off := by omega
        clear hoff
        generalize textOf l = tx at *
        go_enter Tryz.func88, Tryz.ntmps88
        go_wp2_with fail
        refine HS.out.mono ?_
        rintro e w1 ⟨rfl, rfl⟩
        go_wp2_with fail
        refine HTX.out.mono ?_
        rintro e w2 ⟨rfl, hb2⟩
        have HB2 := Lib.hid (HB1.out.trans (hb2.mono HB1.out.size))
        clear hb2
        go_wp2_with fail
        go_ret
        exact ⟨by rw [HF.out, HE1]; rfl, by rw [HF.out]; exact HOK.out _ HB2.out⟩
    · have ho0 : ¬ off < 0 := by omega
      have ho1 : ¬ ((textOf l).size : Int) < off := by omega
      have HINS : Hid (m.ins l off text = LMk.typed (rightOf l (idxOf l off)) text.toList (leftOf l off) m) := by
        show _ = _
        have e : insErr l off text = 0 := by unfold insErr; rw [if_neg h4, if_neg (by rw [hbad]; decide), if_neg hoff]
        unfold LMk.ins; rw [if_neg (by rw [e]; decide)]
      have HLF := Lib.hid (fun h0 : 0 < off => nth_leaf (l := l) h0 (by omega))
      have HIX := Lib.hid (ins_gap HBO.out (by omega) (by omega : off ≤ ((textOf l).size : Int))).1
      have HNTH := Lib.hid (fun W (hW : Below w.heap.size w W) (h0 : 0 < off) => nth_any W A cl l (off - 1) ((HR.out.below hW).more hW.size) (by omega) (by omega) (by omega))
      have HCEL := Lib.hid (fun W (hW : Below w.heap.size w W) n (hn : n < l.length) => ((HR.out.below hW).leaf hn))
      clear h hr hb h4 hbad hrd hoff
      generalize textOf l = tx at *
      go_enter Tryz.func88, Tryz.ntmps88
      go_wp2_with fail
      refine HS.out.mono ?_
      rintro e w1 ⟨rfl, rfl⟩
      go_wp2_with fail
      refine HTX.out.mono ?_
      rintro e w2 ⟨rfl, hb2⟩
      have HB2 := Lib.hid (HB1.out.trans (hb2.mono HB1.out.size))
      clear hb2
      go_upto_if 38 with (fail)
      go_cut [9, 11] (fun a i wx => a = .string (leftOf l off) ∧ i = .int .i64 (idxOf l off : Int) ∧ Below w.heap.size w wx)
      case first =>
        by_cases hp : 0 < off
        · obtain ⟨n, hn, e1, e2, e3⟩ := HLF.out hp
          have HN := Lib.hid (HNTH.out w2 HB2.out hp)
          rw [e1] at HN
          have q1 : IntKind.i64.wrap (off - 1) = off - 1 := IntWalk.i64_in _ (by omega)
          have q2 : IntKind.i64.wrap ((n : Int) + 1) = (n : Int) + 1 := IntWalk.i64_in _ (by omega)
          have q3 : IntKind.i64.wrap ((n : Int) + 1 - 1) = (n : Int) := by rw [IntWalk.i64_in _ (by omega)]; omega
          have n0 : (0 : Int) ≤ (n : Int) := by omega
          have n1 : (n : Int) < (l.length : Int) := by omega
          have HE2 := Lib.hid e2
          have HE3 := Lib.hid e3
          clear e1 e2 e3
          go_wp2_with fail
          refine HN.out.mono ?_
          rintro e w3 ⟨rfl, hb3⟩
          have HB3 := Lib.hid (HB2.out.trans (hb3.mono HB2.out.size))
          obtain ⟨ad, rfl, _, c0, _, _⟩ := HCEL.out w3 HB3.out n hn
          clear hb3
          go_wp2_with fail
          go_meet
          case rel => exact ⟨by rw [HE3.out], by rw [HE2.out]; congr 1, HB3.out⟩
        · have HL0 : Hid (leftOf l off = ⟨#[]⟩) := if_neg hp
          have HI0 : Hid (idxOf l off = 0) := if_neg hp
          go_wp2_with fail
          go_meet
          case rel => exact ⟨by rw [HL0.out], by rw [HI0.out]; rfl, HB2.out⟩
      case rest =>
        obtain ⟨rfl, rfl, hbc⟩ := hcut
        obtain ⟨w3, hw3⟩ : ∃ x : World, x = wc := ⟨_, rfl⟩
        subst hw3
        have HB3 := Lib.hid hbc
        clear hbc HB2 HTX HS HNTH HLF
        have HLS : Hid ((leftOf l off).size ≤ 9223372036854775807) := by
          show _ ≤ _
          unfold leftOf
          split
          · rw [List.getD]
            rcases Nat.lt_or_ge ((nthFrom 0 l (off - 1)).toNat) l.length with h | h
            · rw [List.getElem?_eq_getElem h]
              have := place_small ((HBO.out.leafs _ (List.getElem_mem h)).place)
              simp; omega
            · rw [List.getElem?_eq_none h]; exact Nat.zero_le _
          · exact Nat.zero_le _
        have HRS : Hid ((rightOf l (idxOf l off)).size ≤ 9223372036854775807) := by
          show _ ≤ _
          unfold rightOf
          split
          · rename_i h
            rw [List.getD, List.getElem?_eq_getElem h]
            have := place_small ((HBO.out.leafs _ (List.getElem_mem h)).place)
            simp; omega
          · exact Nat.zero_le _
        have HRO : Hid (∀ (h : idxOf l off < l.length), rightOf l (idxOf l off) = l[idxOf l off].place) := fun h => by unfold rightOf; rw [if_pos h]; simp [List.getD, h]
        have HRN : Hid (¬ idxOf l off < l.length → rightOf l (idxOf l off) = ⟨#[]⟩) := fun h => by unfold rightOf; rw [if_neg h]
        generalize hright : rightOf l (idxOf l off) = right at *
        generalize leftOf l off = left at *
        generalize idxOf l off = i at *
        clear hright
        go_upto_if 53 with (fail)
        go_cut [10] (fun a wx => a = .string right ∧ wx = w3)
        case first =>
          by_cases hi : i < l.length
          · have i0 : (0 : Int) ≤ (i : Int) := by omega
            have i1 : (i : Int) < (l.length : Int) := by omega
            have HRO' := Lib.hid (HRO.out hi)
            obtain ⟨ad, rfl, _, c0, _, _⟩ := HCEL.out w3 HB3.out i hi
            go_wp2_with fail
            go_meet
            case rel => exact ⟨by rw [HRO'.out], rfl⟩
          · have i1 : ¬ (i : Int) < (l.length : Int) := by omega
            have HRN' := Lib.hid (HRN.out hi)
            go_wp2_with fail
            go_meet
            case rel => exact ⟨by rw [HRN'.out], rfl⟩
        case rest =>
          obtain ⟨rfl, hwc⟩ := hcut
          rw [hwc]
          clear hwc HRO HRN HCEL
          obtain ⟨C2, cs2, fr2, hcv2, hrd2⟩ := conv_reads w3 text
          have HB4 : Hid (Below w3.heap.size w3 (w3.drew.alloc (.cells cs2 5 fr2))) := (Below.refl _ _).drew.alloc (Nat.le_refl _) _
          generalize w3.drew.alloc (.cells cs2 5 fr2) = w4 at *
          have HRD := Lib.hid hrd2
          have hw34 : w.heap.size ≤ w3.heap.size := HB3.out.size
          have HM4 := Lib.hid ((HH.out.below HB3.out).below HB4.out)
          have hbl := HH.out.blk.lt
          have HG : Hid (∀ g ∈ b :: ob V, g < w.heap.size) := fun g hg => by
            rcases List.mem_cons.1 hg with rfl | hg
            · exact hbl
            · exact (HH.out.ops.row.lt g hg).2
          have HFIN : Hid (∀ m' w', MkTo w4 B b V m' w' → MkTo w B b V m' w') := fun m' w' hh => by
            obtain ⟨V', c', ys', i1, i2, i3⟩ := hh
            have hb4 := HB3.out.trans (HB4.out.mono HB3.out.size)
            exact ⟨V', c', ys', i1, (Only.of_below hb4).trans i2, fun g hg => by
              have := hb4.size
              rcases i3 g hg with h | h
              · exact .inl h
              · exact .inr (by omega)⟩
          have h44 : B ≤ w4.heap.size := by have := HB4.out.size; omega
          clear hrd2 HB4 HR
          go_wp2_with fail
          go_loopw [9, 62] (fun a i wr => InsLoop w4 B b V m right left text.toList a i wr) (fun _ i _ => text.size - (intOf i).toNat)
          case atStart => exact ⟨0, left, m, V, c, ys, Nat.zero_le _, rfl, rfl, HM4.out, Only.refl _ _, fun g hg => .inl hg, rfl, rfl, by simp, HM4.out.len, HLS.out⟩
          case round =>
            obtain ⟨k, lk, mk, V', c', ys', hk, rfl, rfl, HM⟩ := hrel
            rw [toList_len] at hk
            have k0 : (0 : Int) ≤ (k : Int) := by omega
            by_cases hlt : k < text.size
            · have k1 : (k : Int) < (text.size : Int) := by omega
              have hkl : k < text.toList.length := by rw [toList_len]; exact hlt
              have hrr : Reads wr wr.heap.size 1 (some ⟨w3.heap.size, 0, none⟩) text.toList.length (bs text.toList) := by
                rw [toList_len]
                exact Reads.only HRD.out HM.out.only (fun _ g hg hm => by simp [ob] at hg; subst hg; have := HG.out _ hm; omega)
              obtain ⟨ad, hA, _, c0⟩ := hrr.byte hkl
              have c1 : wr.cell? ⟨w3.heap.size, k, none⟩ = some (.int .u8 text.toList[k].toNat) := by
                obtain rfl := Option.some.inj hA
                have e1 : (⟨w3.heap.size, 0, none⟩ : Addr).add k = ⟨w3.heap.size, k, none⟩ := by
                  unfold Addr.add
                  by_cases hj : k = 0 <;> simp [hj]
                rw [e1] at c0; exact c0
              have a0 : wr.cell? ⟨b, 0, none⟩ = some (.int .i64 mk.who) := by rw [HM.out.mkis.blk.cell]; rfl
              have HBT : Hid (Calls Tryz.prog 124 #[.string lk, .string right, .int .i64 mk.who] wr fun e w' => e = .returned (.tuple #[.string (strOf (betweenRes lk right mk.who)), errV (betweenErr lk right mk.who)]) ∧ Below wr.heap.size wr w') := between_any wr lk right mk.who HM.out.small HRS.out
              have HNX := Lib.hid (fun he w1 hb1 w' ht => HM.out.next (w1 := w1) (w' := w') hkl he hb1 ht)
              have HST := Lib.hid (fun he w' hb1 => HM.out.stop (w' := w') hkl he hb1)
              have hch := UInt8.toNat_lt text.toList[k]
              have HAD := Lib.hid (fun W (hW : Below wr.heap.size wr W) o hs => mkAdd_any W B b mk V' c' ys' (HM.out.mkis.below hW) (by have := HM.out.only.size; have := hW.size; omega) o none 0 hs
                (by have := HM.out.n; omega) (by have := HM.out.n; omega) (by have := HM.out.len; omega))
              clear hrr hA c0
              generalize text.toList[k] = ch at *
              generalize hmw : mk.who = who at *
              by_cases he : betweenErr lk right who ≠ 0
              · have HST := Lib.hid (HST.out he)
                have HV := Lib.hid (errV_ne he)
                clear he HNX HAD
                generalize betweenErr lk right who = ke at *
                go_wp2_with fail
                refine HBT.out.mono ?_
                rintro e w5 ⟨rfl, hb5⟩
                rw [HV.out]
                obtain ⟨s1, s2⟩ := HST.out _ hb5
                have HS1 := Lib.hid s1
                have HS2 := Lib.hid s2
                clear s1 s2 hb5
                go_wp2_with fail
                go_ret
                exact ⟨by rw [HINS.out, HS1.out, HV.out]; rfl, by rw [HINS.out]; exact HFIN.out _ _ HS2.out⟩
              · have he0 : betweenErr lk right who = 0 := by omega
                have HNX := Lib.hid (HNX.out he)
                have HE0 : errV 0 = .nilIface := rfl
                rw [he0] at HBT
                clear he he0 HST
                generalize strOf (betweenRes lk right who) = p at *
                go_wp2_with fail
                refine HBT.out.mono ?_
                rintro e w5 ⟨rfl, hb5⟩
                rw [HE0]
                have HAW := Lib.hid (HAD.out w5 hb5 ⟨⟨0, 0⟩, 1, p, ch.toNat, []⟩ (Own.nil _ _ _ _))
                have HNY := Lib.hid (HNX.out w5 hb5)
                clear hb5 HNX HAD HBT
                unfold LOp.val at HAW
                go_wp2_with fail
                refine HAW.out.mono ?_
                rintro e w6 ⟨rfl, ht⟩
                have HF := Lib.hid (HNY.out _ ht)
                clear ht
                go_wp2_with fail
                go_roundw
                case rel =>
                  obtain ⟨V2, c2, ys2, hfin⟩ := HF.out
                  exact ⟨k + 1, p, _, V2, c2, ys2, by rw [toList_len]; omega, rfl, by go_num, hfin⟩
                case measure => simp [intOf]; omega
            · have k1 : ¬ (k : Int) < (text.size : Int) := by omega
              obtain ⟨s1, s2⟩ := HM.out.fin (by rw [toList_len]; omega)
              have HS1 := Lib.hid s1
              have HS2 := Lib.hid s2
              clear s1 s2
              go_wp2_with fail
              go_ret
              exact ⟨by rw [HINS.out, HS1.out]; rfl, by rw [HINS.out]; exact HFIN.out _ _ HS2.out⟩
end Go.Proofs.YtngalkmmpjegkaaGreatDoor
