/- 2 texts in one: each says ahead of itself what is proved, and its conditions. -/
import Derived.Test.YtkaccnegdmpofaaGreatDoorBook
import Derived.Test.YtkaccnegdmpofaaGreatDoorMarkLaw
/- The document's Place, Letter, Seen, walked. Conditions: a text that an int may count. -/
namespace Go.Proofs.YtkaccnegdmpofaaGreatDoor
open Go.RowKit
set_option linter.unusedVariables false
set_option maxRecDepth 100000 in
set_option maxHeartbeats 2000000 in
theorem rplace_any (w : World) (s : ByteArray) (hm : s.size ≤ 9223372036854775807) :
    Calls Tryz.prog 97 #[.string s] w fun e w' => e = .returned (.int .i64 (placeErr s)) ∧ w' = w := by
  by_cases hs : 12 < s.size
  · have HE : Hid (placeErr s = 4) := by show _ = _; unfold placeErr; rw [if_pos hs]
    go_enter Tryz.func97, Tryz.ntmps97
    go_wp2_with fail
    go_ret
    exact ⟨by rw [HE.out]; rfl, rfl⟩
  · have hs2 : s.size ≤ 12 := by omega
    go_enter Tryz.func97, Tryz.ntmps97
    go_wp2_with fail
    go_loop [4] (fun i => ∃ k : Nat, k ≤ s.size ∧ i = .int .i64 k ∧ Hid (∀ j, j < k → 97 ≤ byteAt s j ∧ byteAt s j ≤ 122)) (fun i => s.size - (intOf i).toNat)
    case atStart => exact ⟨0, Nat.zero_le _, rfl, fun j hj => absurd hj (by omega)⟩
    case round =>
      obtain ⟨k, hk, rfl, hall⟩ := hrel
      by_cases hlt : k < s.size
      · have hbk : byteAt s k = s[k].toNat := byteAt_in hlt
        have HBK := Lib.hid hbk
        have hk0 : (0 : Int) ≤ (k : Int) := by omega
        clear hbk
        by_cases h1 : 97 ≤ s[k].toNat
        · by_cases h2 : s[k].toNat ≤ 122
          · go_wp2
            go_round
            case rel => exact ⟨k + 1, by omega, by go_num, fun j hj => by
              rcases Nat.lt_or_ge j k with h | h
              · exact hall.out j h
              · obtain rfl : j = k := by omega
                rw [HBK.out]; exact ⟨h1, h2⟩⟩
            case measure => simp [intOf]; omega
          · go_wp2
            go_ret
            exact ⟨by rw [show placeErr s = 2 from by unfold placeErr; rw [if_neg (by omega), if_neg (fun h => h2 (by have := (h.1 k hlt).2; rw [HBK.out] at this; exact this))]]; rfl, rfl⟩
        · go_wp2
          go_ret
          exact ⟨by rw [show placeErr s = 2 from by unfold placeErr; rw [if_neg (by omega), if_neg (fun h => h1 (by have := (h.1 k hlt).1; rw [HBK.out] at this; exact this))]]; rfl, rfl⟩
      · obtain rfl : k = s.size := by omega
        have HL : Hid (Letters s) := fun i hi => hall.out i hi
        clear hall
        have bad : ¬ EndOk s → placeErr s = 2 := fun h => by unfold placeErr; rw [if_neg (by omega), if_neg (fun h' => h h'.2)]
        have good : EndOk s → placeErr s = 0 := fun h => by unfold placeErr; rw [if_neg (by omega), if_pos ⟨HL.out, h⟩]
        have BAD := Lib.hid bad
        have GOOD := Lib.hid good
        clear bad good
        by_cases a0 : s.size < 2
        · go_wp2
          go_ret
          exact ⟨by rw [BAD.out (fun h => by have := h.1; omega)]; rfl, rfl⟩
        · have e1 : byteAt s (s.size - 1) = (s[s.size - 1]'(by omega)).toNat := byteAt_in (by omega)
          have e2 : byteAt s (s.size - 2) = (s[s.size - 2]'(by omega)).toNat := byteAt_in (by omega)
          have E1 := Lib.hid e1
          have E2 := Lib.hid e2
          clear e1 e2
          by_cases a1 : (s[s.size - 1]'(by omega)).toNat < 98
          · go_wp2
            go_ret
            exact ⟨by rw [BAD.out (fun h => by have := h.2.1; rw [E1.out] at this; omega)]; rfl, rfl⟩
          · by_cases a2 : 105 < (s[s.size - 1]'(by omega)).toNat
            · go_wp2
              go_ret
              exact ⟨by rw [BAD.out (fun h => by have := h.2.2.1; rw [E1.out] at this; omega)]; rfl, rfl⟩
            · by_cases a3 : (s[s.size - 2]'(by omega)).toNat = 97
              · have a3' : (((s[s.size - 2]'(by omega)).toNat : Int) == 97) = true := by simp [a3]
                have A3 := Lib.hid a3
                clear a3
                go_wp2
                go_ret
                exact ⟨by rw [BAD.out (fun h => by have := h.2.2.2; rw [E2.out] at this; exact this A3.out)]; rfl, rfl⟩
              · have a3' : (((s[s.size - 2]'(by omega)).toNat : Int) == 97) = false := by simp; omega
                go_wp2
                go_ret
                exact ⟨by rw [GOOD.out ⟨by omega, by rw [E1.out]; omega, by rw [E1.out]; omega, by rw [E2.out]; exact a3⟩]; rfl, rfl⟩
theorem rletter_any (w : World) (n : Int) :
    Calls Tryz.prog 98 #[.int .i64 n] w fun e w' => e = .returned (.bool (letterB n)) ∧ w' = w := by
  by_cases h : 32 ≤ n
  · go_enter Tryz.func98, Tryz.ntmps98
    go_wp2
    go_ret
    exact ⟨by simp [h, letterB], rfl⟩
  · go_enter Tryz.func98, Tryz.ntmps98
    go_wp2
    go_ret
    have hd : letterB n = false := by simp [letterB]; omega
    exact ⟨by rw [hd]; rfl, rfl⟩
set_option maxRecDepth 100000 in
theorem rseen_any (w : World) (x : LLeaf) : Calls Tryz.prog 42 #[.agg #[.string x.place, .int .i64 x.letter, .bool x.struck]] w (CheckPost w (.bool (seenB x))) := by
  obtain ⟨p, n, s⟩ := x
  by_cases h : n = 0
  · have hb : (n != 0) = false := by simp [h]
    have HS : Hid (seenB ⟨p, n, s⟩ = false) := by show _ = _; unfold seenB; rw [hb]; rfl
    clear h
    go_enter Tryz.func42, Tryz.ntmps42
    go_wp2_with fail
    go_ret
    exact ⟨by rw [HS.out]; rfl, (Below.refl _ _).alloc (Nat.le_refl _) _⟩
  · have hb : (n != 0) = true := by simp [h]
    have HS : Hid (seenB ⟨p, n, s⟩ = !s) := by show _ = _; unfold seenB; rw [hb]; rfl
    clear h
    go_enter Tryz.func42, Tryz.ntmps42
    go_wp2_with fail
    go_ret
    exact ⟨by rw [HS.out]; rfl, (Below.refl _ _).alloc (Nat.le_refl _) _⟩
end Go.Proofs.YtkaccnegdmpofaaGreatDoor
/- The document's Dot, less, before, Mark, walked. Conditions: places that an int may count. -/
namespace Go.Proofs.YtkaccnegdmpofaaGreatDoor
open Go.RowKit
set_option linter.unusedVariables false
set_option maxRecDepth 100000 in
theorem rdot_any (w : World) (d : LDot) : Calls Tryz.prog 96 #[.agg #[.int .i64 d.who, .int .i64 d.n]] w (CheckPost w (.int .i64 (dotErr d))) := by
  obtain ⟨who, n⟩ := d
  have HB : Hid (Below w.heap.size w (w.alloc (.cells #[.int .i64 who, .int .i64 n] 45))) := (Below.refl _ _).alloc (Nat.le_refl _) _
  by_cases h : 1 ≤ who ∧ who ≤ 8 ∧ 1 ≤ n ∧ n ≤ 9999
  · have HF : Hid (dotErr ⟨who, n⟩ = 0) := if_pos h
    obtain ⟨h1, h2, h3, h4⟩ := h
    go_enter Tryz.func96, Tryz.ntmps96
    go_wp2_with fail
    go_ret
    exact ⟨by rw [HF.out]; rfl, HB.out⟩
  · have HF : Hid (dotErr ⟨who, n⟩ = 1) := if_neg h
    by_cases h1 : who < 1
    · clear h
      go_enter Tryz.func96, Tryz.ntmps96
      go_wp2_with fail
      go_ret
      exact ⟨by rw [HF.out]; rfl, HB.out⟩
    by_cases h2 : 8 < who
    · clear h
      go_enter Tryz.func96, Tryz.ntmps96
      go_wp2_with fail
      go_ret
      exact ⟨by rw [HF.out]; rfl, HB.out⟩
    by_cases h3 : n < 1
    · clear h
      go_enter Tryz.func96, Tryz.ntmps96
      go_wp2_with fail
      go_ret
      exact ⟨by rw [HF.out]; rfl, HB.out⟩
    have h4 : 9999 < n := by omega
    clear h
    go_enter Tryz.func96, Tryz.ntmps96
    go_wp2_with fail
    go_ret
    exact ⟨by rw [HF.out]; rfl, HB.out⟩
def ltDb (a b : LDot) : Bool := decide (ordD a b < 0)
theorem ltDb_iff {a b : LDot} : ltDb a b = true ↔ ltD a b := by unfold ltDb; rw [decide_eq_true_iff, ordD_lt]
set_option maxRecDepth 100000 in
theorem rless_any (w : World) (a b : LDot) : Calls Tryz.prog 153 #[.agg #[.int .i64 a.who, .int .i64 a.n], .agg #[.int .i64 b.who, .int .i64 b.n]] w (CheckPost w (.bool (ltDb a b))) := by
  obtain ⟨p, d⟩ := a
  obtain ⟨q, e⟩ := b
  have HB : Hid (Below w.heap.size w ((w.alloc (.cells #[.int .i64 p, .int .i64 d] 45)).alloc (.cells #[.int .i64 q, .int .i64 e] 45))) := ((Below.refl _ _).alloc (Nat.le_refl _) _).alloc (by simp) _
  have HI : Hid (ltDb ⟨p, d⟩ ⟨q, e⟩ = true ↔ p < q ∨ (p = q ∧ d < e)) := ltDb_iff
  by_cases h1 : p < q
  · have HF : Hid (ltDb ⟨p, d⟩ ⟨q, e⟩ = true) := HI.out.2 (.inl h1)
    have g1 : decide (p < q) = true := decide_eq_true h1
    have g2 : (p == q) = false := by rw [beq_eq_false_iff_ne]; omega
    go_enter Tryz.func153, Tryz.ntmps153
    go_wp2_with fail
    go_ret
    exact ⟨by rw [HF.out]; rfl, HB.out⟩
  · have g1 : decide (p < q) = false := decide_eq_false h1
    by_cases h2 : p = q
    · have g2 : (p == q) = true := by rw [beq_iff_eq]; exact h2
      have HF : Hid (ltDb ⟨p, d⟩ ⟨q, e⟩ = decide (d < e)) := by
        show _ = _
        rw [Bool.eq_iff_iff, HI.out, decide_eq_true_iff]; omega
      clear h2
      go_enter Tryz.func153, Tryz.ntmps153
      go_wp2_with fail
      go_ret
      exact ⟨by rw [HF.out]; rfl, HB.out⟩
    · have g2 : (p == q) = false := by rw [beq_eq_false_iff_ne]; exact h2
      have HF : Hid (ltDb ⟨p, d⟩ ⟨q, e⟩ = false) := by
        show _ = _
        rw [Bool.eq_false_iff]; intro hh; have := HI.out.1 hh; omega
      clear h2
      go_enter Tryz.func153, Tryz.ntmps153
      go_wp2_with fail
      go_ret
      exact ⟨by rw [HF.out]; rfl, HB.out⟩
set_option maxRecDepth 100000 in
set_option maxHeartbeats 1000000 in
theorem rbefore_any (w : World) (a b : LMark) : Calls Tryz.prog 103 #[.agg #[.string a.place, .int .i64 a.dot.who, .int .i64 a.dot.n], .agg #[.string b.place, .int .i64 b.dot.who, .int .i64 b.dot.n]] w (CheckPost w (.bool (ltMb a b))) := by
  obtain ⟨p, ⟨d, n⟩⟩ := a
  obtain ⟨q, ⟨e, m⟩⟩ := b
  have HL := Lib.hid (fun w => rless_any w ⟨d, n⟩ ⟨e, m⟩)
  have HB : Hid (Below w.heap.size w ((w.alloc (.cells #[.string p, .int .i64 d, .int .i64 n] 114)).alloc (.cells #[.string q, .int .i64 e, .int .i64 m] 114))) := ((Below.refl _ _).alloc (Nat.le_refl _) _).alloc (by simp) _
  have HI : Hid (ltMb ⟨p, ⟨d, n⟩⟩ ⟨q, ⟨e, m⟩⟩ = true ↔ lt p q = true ∨ (p = q ∧ ltD ⟨d, n⟩ ⟨e, m⟩)) := ltMb_iff
  by_cases hp : p = q
  · have HF : Hid (ltMb ⟨p, ⟨d, n⟩⟩ ⟨q, ⟨e, m⟩⟩ = ltDb ⟨d, n⟩ ⟨e, m⟩) := by
      show _ = _
      rw [Bool.eq_iff_iff, HI.out, ltDb_iff]
      constructor
      · rintro (h | ⟨_, h⟩)
        · rw [hp, lt_irrefl] at h; cases h
        · exact h
      · exact fun h => .inr ⟨hp, h⟩
    have g0 : (p.toList == q.toList) = true := by rw [hp]; simp
    have g1 : (p.toList != q.toList) = false := by rw [hp]; simp
    clear hp
    go_enter Tryz.func103, Tryz.ntmps103
    go_wp2_with fail
    refine (HL.out _).mono ?_
    rintro e1 w1 ⟨rfl, hb1⟩
    have HB1 := Lib.hid (HB.out.trans (hb1.mono HB.out.size))
    clear hb1
    go_wp2_with fail
    go_ret
    exact ⟨by rw [HF.out]; rfl, HB1.out⟩
  · have HF : Hid (ltMb ⟨p, ⟨d, n⟩⟩ ⟨q, ⟨e, m⟩⟩ = Op.bytesLess p.toList q.toList) := by
      show _ = _
      rw [Bool.eq_iff_iff, HI.out]
      constructor
      · rintro (h | ⟨h, _⟩)
        · exact h
        · exact absurd h hp
      · exact fun h => .inl h
    have g0 : (p.toList == q.toList) = false := by rw [beq_eq_false_iff_ne]; exact fun h => hp (tl_inj h)
    have g1 : (p.toList != q.toList) = true := by rw [bne_iff_ne]; exact fun h => hp (tl_inj h)
    clear hp
    go_enter Tryz.func103, Tryz.ntmps103
    go_wp2_with fail
    go_ret
    exact ⟨by rw [HF.out]; rfl, HB.out⟩
set_option maxRecDepth 100000 in
set_option maxHeartbeats 4000000 in
theorem rdots_any (w : World) (A : Option Addr) (c : Nat) (l : List LDot) (h : Reads w w.heap.size 2 A l.length (dcells l)) (hn : l.length ≤ 1048576) :
    Calls Tryz.prog 99 #[.slice A l.length c] w (CheckPost w (.int .i64 (riseErr l))) := by
  have HC := Lib.hid (fun w (d : LDot) => rdot_any w d)
  have HO := Lib.hid (fun w (a b : LDot) => rless_any w a b)
  have HR := Lib.hid h
  clear h
  go_enter Tryz.func99, Tryz.ntmps99
  go_wp2_with fail
  go_loopw [3] (fun i wr => RiseLoop w l i wr) (fun i _ => l.length - (intOf i).toNat)
  case atStart => exact ⟨0, by omega, rfl, Below.refl _ _, fun j hj h => by omega⟩
  case round =>
    obtain ⟨k, hk, rfl, hBel, hp⟩ := hrel
    by_cases hkn : k < l.length
    · obtain ⟨ad, rfl, hb, c0, c1⟩ := (HR.out.below hBel).dot hkn
      have hlt : (k : Int) < (l.length : Int) := by omega
      have hk0 : (0 : Int) ≤ (k : Int) := by omega
      have HBel := Lib.hid hBel
      clear hBel
      by_cases he : dotErr l[k] = 0
      · have HE := Lib.hid he
        have g0 : (dotErr l[k] != 0) = false := by simp [he]
        clear he
        go_wp2_with fail
        refine (HC.out _ l[k]).mono ?_
        rintro e w2 ⟨rfl, hb2⟩
        have HB2 := Lib.hid (HBel.out.trans (hb2.mono HBel.out.size))
        clear hb2
        go_wp2_with fail
        go_roundw
        case rel =>
          refine ⟨k + 1, by omega, by go_num, HB2.out, fun j hj h => ?_⟩
          rcases Nat.lt_or_ge j k with h1 | h1
          · exact hp.out j hj h1
          · have : j = k := by omega
            subst this
            exact HE.out
        case measure => simp [intOf]; omega
      · have HE := Lib.hid he
        have g0 : (dotErr l[k] != 0) = true := by simp [he]
        clear he
        go_wp2_with fail
        refine (HC.out _ l[k]).mono ?_
        rintro e w2 ⟨rfl, hb2⟩
        have HB2 := Lib.hid (HBel.out.trans (hb2.mono HBel.out.size))
        clear hb2
        go_wp2_with fail
        go_ret
        refine ⟨?_, HB2.out⟩
        rw [rise_bad1 hkn HE.out, dotErr_one HE.out]
        rfl
    · have hkn' : k = l.length := by omega
      have HP := Lib.hid (rise_ok1 (fun j hj => hp.out j hj (by omega)))
      have hd : decide ((k : Int) < (l.length : Int)) = false := by simp; omega
      have HBel := Lib.hid hBel
      clear hp hkn' hBel
      go_wp2_with fail
      go_loopw [5, 6] (fun i _ wr => RiseLoop2 w l i wr) (fun i _ _ => l.length - (intOf i).toNat)
      case atStart => exact ⟨0, by omega, rfl, HBel.out, fun j hj => by omega⟩
      case round =>
        obtain ⟨k, hk, rfl, hBel, hp⟩ := hrel
        by_cases hkn : k + 1 < l.length
        · obtain ⟨ad, rfl, hb, c0, c1⟩ := (HR.out.below hBel).dot (show k < l.length by omega)
          obtain ⟨ad', had, hb', d0, d1⟩ := (HR.out.below hBel).dot (show k + 1 < l.length by omega)
          injection had with had
          subst had
          have hlt : (k : Int) + 1 < (l.length : Int) := by omega
          have hbk : ∀ k, Hid ((ad.add (k * 2)).block < wr.heap.size) := fun k => by have := hBel.size; show (ad.add (k * 2)).block < wr.heap.size; rw [block_of_add]; omega
          have z0 : (0 : Int) ≤ (k : Int) := by omega
          have z1 : (k : Int) < (l.length : Int) := by omega
          have z2 : (0 : Int) ≤ (k : Int) + 1 := by omega
          have z3 : ((k : Int) + 1 - 1) = k := by omega
          have hw1 : IntKind.i64.wrap ((k : Int) + 1 - 1) = (k : Int) := by rw [IntWalk.i64_in _ (by omega)]; omega
          have hw2 : IntKind.i64.wrap (k : Int) = (k : Int) := IntWalk.i64_in _ (by omega)
          have z5 : k < l.length := by omega
          have z4 : ((k : Int) + 1).toNat = k + 1 := by omega
          have HBel := Lib.hid hBel
          have HOK := Lib.hid (fun w => HO.out w l[k] l[k + 1])
          have HZZ : Hid (ltDb l[k] l[k + 1] = decide (ordD l[k] l[k + 1] < 0)) := rfl
          clear hBel
          go_wp2_with fail
          go_region_held3 (fun w' => w'.cell? (ad.add (k * 2)) = some (.int .i64 l[k].who) ∧ w'.cell? ⟨(ad.add (k * 2)).block, (ad.add (k * 2)).off + 1, none⟩ = some (.int .i64 l[k].n) ∧ w'.cell? (ad.add ((k + 1) * 2)) = some (.int .i64 l[k + 1].who) ∧ w'.cell? ⟨(ad.add ((k + 1) * 2)).block, (ad.add ((k + 1) * 2)).off + 1, none⟩ = some (.int .i64 l[k + 1].n))
            (first
              | go_keep
              | (refine ⟨?_, ?_, ?_, ?_⟩ <;> assumption))
            ((go_at_call 153; refine (HOK.out _).mono ?_; rintro e w2 ⟨rfl, hb2'⟩; have hb2 : Below wr.heap.size wr w2 := below_of_drew hb2'; have e0 := (hb2.cell (hbk k).out).trans c0; have e1 := (hb2.cell (p := ⟨(ad.add (k * 2)).block, (ad.add (k * 2)).off + 1, none⟩) (hbk k).out).trans c1; have e2 := (hb2.cell (hbk (k + 1)).out).trans d0; have e3 := (hb2.cell (p := ⟨(ad.add ((k + 1) * 2)).block, (ad.add ((k + 1) * 2)).off + 1, none⟩) (hbk (k + 1)).out).trans d1; have HB3 := Lib.hid (HBel.out.trans (hb2.mono HBel.out.size)); clear hb2 hb2'))
          cases ho : ltDb l[k] l[k + 1] with
          | false =>
            have HZ := Lib.hid (rise_bad2 HP.out hkn (by have h := HZZ.out; rw [ho] at h; have := of_decide_eq_false h.symm; omega))
            clear ho
            go_wp2_with fail
            go_ret
            exact ⟨by rw [HZ.out]; rfl, HB3.out⟩
          | true =>
            have HZ := Lib.hid (show ordD l[k] l[k + 1] < 0 by have h := HZZ.out; rw [ho] at h; exact of_decide_eq_true h.symm)
            clear ho
            go_wp2_with fail
            go_roundw
            case rel =>
              refine ⟨k + 1, by omega, by go_num, HB3.out, fun j hj => ?_⟩
              rcases Nat.lt_or_ge j k with h1 | h1
              · exact hp.out j h1
              · have : j = k := by omega
                subst this
                rw [getD_of (show j < l.length by omega), getD_of hkn]
                have := HZ.out
                omega
            case measure => simp [intOf]; omega
        · have hkn' : l.length ≤ k + 1 := by omega
          have HZ := Lib.hid (rise_ok2 HP.out hkn' hp.out)
          have hd : decide ((k : Int) + 1 < (l.length : Int)) = false := by simp; omega
          have HBel := Lib.hid hBel
          clear hBel
          go_wp2_with fail
          go_ret
          exact ⟨by rw [HZ.out]; rfl, HBel.out⟩
end Go.Proofs.YtkaccnegdmpofaaGreatDoor
