/- THREE HUNDRED AND NO MORE: the law BookFull answers true. Conditions: the library's one variable holds what its text lays (the card ties it). -/
import Derived.Test.YtikbcpljhjfoiaaDoorBookLaw
import Derived.Test.YtikbcpljhjfoiaaDoorCard
namespace Go.Proofs.YtikbcpljhjfoiaaDoor
open Go.RowKit Go.WideShapes Go.ChangeShapes Go.ChangeAt
set_option linter.unusedVariables false
namespace lawBookFull

/-- The k-th place. -/
def pb (k : Nat) : List UInt8 := [UInt8.ofNat (98 + k / 25), UInt8.ofNat (98 + k % 25), 98]
def pl (k : Nat) : ByteArray := strOf (pb k)
theorem pl_ok : ∀ k, k < 311 → placeErr (pl k) = 0 := by decide +kernel
theorem pl_next : ∀ k, k < 311 → lt (pl k) (pl (k + 1)) = true := by decide +kernel
theorem pl_size (k : Nat) : (pl k).size = 3 := by unfold pl; rw [strOf_size]; rfl
def leaf (k : Nat) : LLeaf := ⟨pl k, 120, false⟩
def fromTo (s n : Nat) : List LLeaf := (List.range' s n).map leaf
def fullL (k : Nat) : List LLeaf := fromTo 0 k
theorem ft_len (s n : Nat) : (fromTo s n).length = n := by simp [fromTo]
theorem ft_succ (s n : Nat) : fromTo s (n + 1) = leaf s :: fromTo (s + 1) n := rfl
theorem ft_rising : ∀ (n s : Nat), s + n ≤ 311 → Rising (fromTo s n) := by
  intro n
  induction n with
  | zero => intro s _; trivial
  | succ n ih =>
    intro s h
    rw [ft_succ]
    refine ⟨fun y hy => ?_, ih (s + 1) (by omega)⟩
    cases n with
    | zero => simp [fromTo] at hy
    | succ n =>
      rw [ft_succ] at hy
      simp at hy
      subst hy
      exact pl_next s (by omega)
theorem full_at {k j : Nat} (h : j < (fullL k).length) : (fullL k)[j] = leaf j := by simp [fullL, fromTo]
theorem full_len (k : Nat) : (fullL k).length = k := ft_len 0 k
theorem full_succ (k : Nat) : fullL (k + 1) = fullL k ++ [leaf k] := by
  unfold fullL fromTo
  rw [List.range'_concat, List.map_append]
  simp
theorem full_ok {k : Nat} (h : k ≤ 300) : BookOk (fullL k) := by
  refine ⟨by rw [full_len]; exact h, fun x hx => ?_, ft_rising k 0 (by omega)⟩
  obtain ⟨j, hj, rfl⟩ := List.getElem_of_mem hx
  rw [full_at]
  rw [full_len] at hj
  exact ⟨pl_ok j (by omega), fun _ => ⟨by show (32 : Int) ≤ 120; decide, by show (120 : Int) ≤ 126; decide⟩, fun h => by have : (120 : Int) = 0 := h; omega⟩
theorem full_less {j k : Nat} (h : j < k) (hk : k ≤ 310) : lt (pl j) (pl k) = true := by
  have := rising_lt (ft_rising (k + 1) 0 (by omega)) j k (by rw [ft_len]; omega) (by rw [ft_len]; omega) h
  have e1 : (fromTo 0 (k + 1))[j]'(by rw [ft_len]; omega) = leaf j := full_at (k := k + 1) (by rw [full_len]; omega)
  have e2 : (fromTo 0 (k + 1))[k]'(by rw [ft_len]; omega) = leaf k := full_at (k := k + 1) (by rw [full_len]; omega)
  rw [e1, e2] at this
  exact this
theorem full_ahead {m k : Nat} (h : m ≤ k) (hk : k ≤ 310) : ahead (fullL m) (pl k) = m ∧ hasAt (fullL m) (pl k) = false := by
  have ha : ahead (fullL m) (pl k) = m := ahead_of (by rw [full_len]; omega) (fun j hj hjm => by rw [full_at]; exact full_less (by omega) hk) (fun j hj hmj => by rw [full_len] at hj; omega)
  refine ⟨ha, ?_⟩
  unfold hasAt
  rw [ha, List.getElem?_eq_none (by rw [full_len]; omega)]
theorem full_write {k : Nat} (h : k < 300) : writeErr (fullL k) (pl k) 120 = 0 ∧ writeRes (fullL k) (pl k) 120 = fullL (k + 1) := by
  obtain ⟨h1, h2⟩ := full_ahead (m := k) (k := k) (by omega) (by omega)
  refine ⟨write_zero (full_ok (by omega)) (pl_ok k (by omega)) (by decide) (.inr (by rw [full_len]; exact h)) (.inl (by unfold old; rw [if_neg (by rw [h2]; decide)])), ?_⟩
  unfold writeRes
  rw [if_neg (by rw [h2]; decide), h1, bookPut, List.take_of_length_le (by rw [full_len]; omega), List.drop_of_length_le (by rw [full_len]; omega), full_succ]
  rfl
theorem full_more {k : Nat} (h0 : 300 ≤ k) (h : k ≤ 310) : writeErr (fullL 300) (pl k) 120 = 4 := by
  obtain ⟨h1, h2⟩ := full_ahead (m := 300) (k := k) (by omega) (by omega)
  have hb := full_ok (k := 300) (by omega)
  unfold writeErr
  have hr : bookReady (fullL 300) (pl k) = 0 := by unfold bookReady; rw [if_neg (fun x => x (bookErr_zero hb)), pl_ok k (by omega)]
  rw [if_neg (fun x => x hr), if_neg (by decide), if_pos h2]
  unfold putErr
  rw [if_pos (by rw [full_len]; omega)]
theorem full_has {k s : Nat} (hs : s < k) (h : k ≤ 300) : ahead (fullL k) (pl s) = s ∧ hasAt (fullL k) (pl s) = true := by
  have ha : ahead (fullL k) (pl s) = s := ahead_of (by rw [full_len]; omega) (fun j hj hjm => by rw [full_at]; exact full_less (by omega) (by omega)) (fun j hj hmj => by
    rw [full_len] at hj
    rw [full_at]
    rcases Nat.lt_or_ge s j with h1 | h1
    · exact less_asymm' _ _ (full_less h1 (by omega))
    · obtain rfl : j = s := by omega
      exact less_irrefl' _)
  refine ⟨ha, ?_⟩
  unfold hasAt
  rw [ha, List.getElem?_eq_getElem (by rw [full_len]; omega), full_at]
  simp [leaf]
def struckL (k s : Nat) : List LLeaf := (fullL k).set s (leaf s).strike
theorem full_strike {k s : Nat} (hs : s < k) (h : k ≤ 300) : strikeErr (fullL k) (pl s) = 0 ∧ strikeRes (fullL k) (pl s) = struckL k s := by
  obtain ⟨h1, h2⟩ := full_has hs h
  refine ⟨strike_zero (full_ok h) (pl_ok s (by omega)) (.inl h2), ?_⟩
  unfold strikeRes
  rw [if_pos h2, h1, struckL]
  congr 2
  unfold leafAt
  rw [h1, List.getD, List.getElem?_eq_getElem (by rw [full_len]; omega), full_at]
  rfl
theorem struck_ok {k s : Nat} (hs : s < k) (h : k ≤ 300) : BookOk (struckL k s) := by
  obtain ⟨h1, h2⟩ := full_strike hs h
  rw [← h2]
  exact strike_book h1
theorem struck_len (k s : Nat) : (struckL k s).length = k := by unfold struckL; rw [List.length_set, full_len]
theorem seen_len {l : List LLeaf} (h : ∀ x ∈ l, ∃ j, x = leaf j) : (textL l).length = l.length := by
  unfold textL
  rw [List.length_map, List.filter_eq_self.2]
  intro x hx
  obtain ⟨j, rfl⟩ := h x hx
  rfl
theorem full_leafs {k : Nat} : ∀ x ∈ fullL k, ∃ j, x = leaf j := by
  intro x hx
  obtain ⟨j, hj, rfl⟩ := List.getElem_of_mem hx
  exact ⟨j, full_at hj⟩
theorem struck_text {k s : Nat} (hs : s < k) : (textOf (struckL k s)).size = k - 1 := by
  unfold textOf
  rw [strOf_size]
  unfold struckL
  rw [List.set_eq_take_append_cons_drop, if_pos (by rw [full_len]; exact hs)]
  have e : ∀ a b : List LLeaf, textL (a ++ (leaf s).strike :: b) = textL a ++ textL b := by
    intro a b
    unfold textL
    rw [List.filter_append, List.filter_cons, show seenB (leaf s).strike = false by rfl]
    simp
  rw [e, List.length_append, seen_len, seen_len, List.length_take, List.length_drop, full_len]
  · omega
  · intro x hx; exact full_leafs x (List.mem_of_mem_drop hx)
  · intro x hx; exact full_leafs x (List.mem_of_mem_take hx)
theorem full_sized (k : Nat) : Sized (fullL k) := by
  intro x hx
  obtain ⟨j, rfl⟩ := full_leafs x hx
  show (pl j).size ≤ _
  rw [pl_size]; decide
def FLoop (w : World) (n : Nat) (v i : Value) (wr : World) : Prop :=
  ∃ (k c : Nat) (V : Option Addr), k ≤ n ∧ i = .int .i64 (k : Int) ∧ v = .slice V (min k 300) c ∧ Hid (Reads wr wr.heap.size 3 V (min k 300) (lcells (fullL (min k 300)))) ∧ Hid (Below w.heap.size w wr)
set_option maxRecDepth 100000 in
set_option maxHeartbeats 4000000 in
theorem walk (w : World) (n strike : Int) (hg : Glob w) :
    Calls Tryd.prog 9 #[.int .i64 n, .int .i64 strike] w (CheckPost w (.bool true)) := by
  have HG := Lib.hid hg
  clear hg
  by_cases hn : 290 ≤ n ∧ n ≤ 310
  · obtain ⟨n1, n2⟩ := hn
    obtain ⟨m, rfl⟩ := Int.eq_ofNat_of_zero_le (show 0 ≤ n by omega)
    have m1 : 290 ≤ m := by omega
    have m2 : m ≤ 310 := by omega
    go_enter Tryd.func9, Tryd.ntmps9
    go_wp2_with fail
    go_loopw [5, 6] (fun v i wr => FLoop w m v i wr) (fun _ i _ => m - (intOf i).toNat)
    case atStart => exact ⟨0, 0, none, by omega, rfl, rfl, Reads.none_, Below.refl _ _⟩
    case round =>
      obtain ⟨k, c, V, hk, rfl, rfl, HR, HB⟩ := hrel
      have HGr := Lib.hid (HG.out.below HB.out (Nat.le_refl _))
      by_cases hkm : k < m
      · have hlt : (k : Int) < (m : Int) := by omega
        have hq : Int.tdiv (k : Int) 25 = ((k / 25 : Nat) : Int) := by rw [Int.tdiv_eq_ediv_of_nonneg (by omega)]; rfl
        have hr : Int.tmod (k : Int) 25 = ((k % 25 : Nat) : Int) := by rw [Int.tmod_eq_emod_of_nonneg (by omega)]; rfl
        have hq0 : k / 25 ≤ 12 := by omega
        have hr0 : k % 25 ≤ 24 := by omega
        have hpl : pl k = strOf [UInt8.ofNat (98 + k / 25), UInt8.ofNat (98 + k % 25), 98] := rfl
        have HPS : Hid ((pl k).size ≤ 9223372036854775807) := by show _ ≤ _; rw [pl_size]; decide
        generalize k / 25 = q at *
        generalize k % 25 = r at *
        have hcv : ∀ W : World, (convert 104 9 (.slice (some ⟨W.heap.size, 0, none⟩) 3 3)).run Tryd.prog (W.alloc (.cells #[.int .u8 (98 + q), .int .u8 (98 + r), .int .u8 98] 5)) = .ok (.string (pl k)) (W.alloc (.cells #[.int .u8 (98 + q), .int .u8 (98 + r), .int .u8 98] 5)) := fun W => by
          rw [hpl]
          refine run_convert_bytes_back (P := Tryd.prog) _ 104 9 5 ⟨W.heap.size, 0, none⟩ 3 [UInt8.ofNat (98 + q), UInt8.ofNat (98 + r), 98] Tryd.underlying104 Tryd.underlying5 Tryd.underlying9 (fun j hj => ?_)
          have e : ∀ j, (⟨W.heap.size, 0, none⟩ : Addr).add j = ⟨W.heap.size, j, none⟩ := fun j => by
            unfold Addr.add
            by_cases hj : j = 0 <;> simp [hj]
          have hb := (Blk.new W 5 #[.int .u8 (98 + q), .int .u8 (98 + r), .int .u8 98])
          rw [e, hb.cell j]
          rcases (show j = 0 ∨ j = 1 ∨ j = 2 by simp at hj; omega) with rfl | rfl | rfl
          · simp; omega
          · simp; omega
          · simp
        have HBa := Lib.hid (HB.out.alloc HB.out.size (.cells #[.int .u8 (98 + q), .int .u8 (98 + r), .int .u8 98] 5))
        have HRa := Lib.hid (HR.out.alloc (Nat.le_refl _) (.cells #[.int .u8 (98 + q), .int .u8 (98 + r), .int .u8 98] 5))
        have HGa := Lib.hid (HGr.out.alloc (.cells #[.int .u8 (98 + q), .int .u8 (98 + r), .int .u8 98] 5))
        clear hpl
        have hmin : min k 300 ≤ 300 := Nat.min_le_right _ _
        have HMN : Hid (k < 300 → min k 300 = k) := fun h => Nat.min_eq_left (by omega)
        have HMX : Hid (300 ≤ k → min k 300 = 300) := fun h => Nat.min_eq_right h
        generalize min k 300 = x at *
        have HW := Lib.hid (write_any (wr.alloc (.cells #[.int .u8 (98 + q), .int .u8 (98 + r), .int .u8 98] 5)) V c (fullL x) (pl k) 120 (by rw [full_len]; exact HRa.out.more (by simp)) (full_sized _) (by rw [full_len]; omega) HPS.out)
        rw [full_len] at HW
        by_cases h3 : k < 300
        · obtain rfl : x = k := HMN.out h3
          have E := Lib.hid (full_write h3)
          have g3 : decide ((x : Int) < 300) = true := decide_eq_true (by omega)
          have g4 : decide ((300 : Int) ≤ (x : Int)) = false := decide_eq_false (by omega)
          have HM2 : Hid (min (x + 1) 300 = x + 1) := Nat.min_eq_left (by omega)
          clear hmin HMN HMX h3
          go_wp2_with fail
          refine HW.out.mono ?_
          rintro e w2 ⟨V2, c2, rfl, hO, hb2⟩
          rw [E.out.1, E.out.2, giveL, if_pos rfl, full_len, show errV 0 = .nilIface from rfl]
          rw [E.out.1, E.out.2, giveL, if_pos rfl, full_len] at hO
          have HO := Lib.hid hO.reads
          have HG2 := Lib.hid (HGa.out.below hb2 (Nat.le_refl _))
          have HB2 : Hid (Below w.heap.size w w2) := HBa.out.trans (hb2.mono HBa.out.size)
          clear hO hb2 HW
          go_wp2_with fail
          refine (error_any _ 0 4 HG2.out).mono ?_
          rintro e w3 ⟨rfl, hb3⟩
          have HO3 := Lib.hid ((HO.out.below hb3).more hb3.size)
          have HB3 : Hid (Below w.heap.size w w3) := HB2.out.trans (hb3.mono HB2.out.size)
          clear hb3
          rw [show ((0 : Int) == 4) = false from rfl]
          go_wp2_with fail
          go_roundw
          case rel => exact ⟨x + 1, c2, V2, by omega, by go_num, by rw [HM2.out], by rw [HM2.out]; exact HO3, HB3⟩
          case measure => simp [intOf]; omega
        · obtain rfl : x = 300 := HMX.out (by omega)
          have E := Lib.hid (full_more (k := k) (by omega) (by omega))
          have g3 : decide ((k : Int) < 300) = false := decide_eq_false (by omega)
          have g4 : decide ((300 : Int) ≤ (k : Int)) = true := decide_eq_true (by omega)
          have HM2 : Hid (min (k + 1) 300 = 300) := Nat.min_eq_right (by omega)
          clear hmin HMN HMX h3
          go_wp2_with fail
          refine HW.out.mono ?_
          rintro e w2 ⟨V2, c2, rfl, hO, hb2⟩
          rw [E.out, giveL_bad (by decide)]
          have HG2 := Lib.hid (HGa.out.below hb2 (Nat.le_refl _))
          have HB2 : Hid (Below w.heap.size w w2) := HBa.out.trans (hb2.mono HBa.out.size)
          have HO := Lib.hid (((HRa.out.more (B' := (wr.alloc (.cells #[.int .u8 (98 + q), .int .u8 (98 + r), .int .u8 98] 5)).heap.size) (by simp)).below hb2).more hb2.size)
          have HX := Lib.hid (error_any w2 4 4 HG2.out)
          clear hO hb2 HW
          rw [errV_ne (by decide)] at HX ⊢
          go_wp2_with fail
          refine HX.out.mono ?_
          rintro e w3 ⟨rfl, hb3⟩
          have HO3 := Lib.hid ((HO.out.below hb3).more hb3.size)
          have HB3 : Hid (Below w.heap.size w w3) := HB2.out.trans (hb3.mono HB2.out.size)
          clear hb3
          rw [show ((4 : Int) == 4) = true from rfl]
          go_wp2_with fail
          go_roundw
          case rel => exact ⟨k + 1, c, V, by omega, by go_num, by rw [HM2.out], by rw [HM2.out]; exact HO3, HB3⟩
          case measure => simp [intOf]; omega
      · obtain rfl : k = m := by omega
        have hd : decide ((k : Int) < (k : Int)) = false := by simp
        have hmin : min k 300 ≤ 300 := Nat.min_le_right _ _
        have hmin0 : 290 ≤ min k 300 := by omega
        generalize min k 300 = x at *
        by_cases hs : 0 ≤ strike ∧ strike < (x : Int)
        · obtain ⟨s, rfl⟩ := Int.eq_ofNat_of_zero_le hs.1
          have s1 : s < x := by omega
          have s2 : (s : Int) < (x : Int) := by omega
          have s0 : (0 : Int) ≤ (s : Int) := by omega
          have E := Lib.hid (full_strike s1 hmin)
          have SO := Lib.hid (struck_ok s1 hmin)
          have ST := Lib.hid (struck_text (k := x) s1)
          obtain ⟨ad, rfl, hb, c0, _, _⟩ := Reads.leaf (l := fullL x) (by rw [full_len]; exact HR.out) (k := s) (by rw [full_len]; exact s1)
          rw [full_at, show (leaf s).place = pl s from rfl] at c0
          have HS := Lib.hid (strike_any wr (some ad) c (fullL x) (pl s) (by rw [full_len]; exact HR.out) (full_sized _) (by rw [full_len]; omega) (by rw [pl_size]; decide))
          rw [full_len] at HS
          clear hs
          go_wp2_with fail
          refine HS.out.mono ?_
          rintro e w2 ⟨V2, c2, rfl, hO, hb2⟩
          rw [E.out.1, E.out.2, giveL, if_pos rfl, struck_len, show errV 0 = .nilIface from rfl]
          rw [E.out.1, E.out.2, giveL, if_pos rfl] at hO
          have HT := Lib.hid (text_any w2 V2 c2 (struckL x s) hO.reads (by
            intro y hy
            unfold struckL at hy
            rcases List.mem_or_eq_of_mem_set hy with h | h
            · exact full_sized _ y h
            · subst h; show (pl s).size ≤ _; rw [pl_size]; decide) (by rw [struck_len]; omega))
          rw [struck_len] at HT
          have HB2 : Hid (Below w.heap.size w w2) := HB.out.trans (hb2.mono HB.out.size)
          have HTZ : Hid (bookErr (struckL x s) = 0) := bookErr_zero SO.out
          clear hO hb2
          go_wp2_with fail
          refine HT.out.mono ?_
          rintro e w3 ⟨rfl, hb3⟩
          have HB3 : Hid (Below w.heap.size w w3) := HB2.out.trans (hb3.mono HB2.out.size)
          rw [HTZ.out, if_pos rfl, show errV 0 = .nilIface from rfl]
          clear hb3
          have ht := ST.out
          generalize textOf (struckL x s) = tx at ht ⊢
          have ht2 : tx.size ≤ 300 := by omega
          have g5 : ((tx.size : Int) == (x : Int) - 1) = true := by rw [beq_iff_eq]; omega
          have g6 : ((x : Int) == (x : Int)) = true := by simp
          clear ht
          go_wp2_with fail
          go_ret
          exact ⟨rfl, HB3.out⟩
        · have g7 : (decide (strike < 0) || decide ((x : Int) ≤ strike)) = true := by simp; omega
          by_cases s0 : strike < 0
          · clear hs g7
            go_wp2_with fail
            go_ret
            exact ⟨rfl, HB.out⟩
          · have s1 : (x : Int) ≤ strike := by omega
            clear hs g7
            go_wp2_with fail
            go_ret
            exact ⟨rfl, HB.out⟩
  · by_cases h1 : n < 290
    · clear hn
      go_enter Tryd.func9, Tryd.ntmps9
      go_wp2_with fail
      go_ret
      exact ⟨rfl, Below.refl _ _⟩
    · have h2 : 310 < n := by omega
      clear hn
      go_enter Tryd.func9, Tryd.ntmps9
      go_wp2_with fail
      go_ret
      exact ⟨rfl, Below.refl _ _⟩
set_option maxRecDepth 100000 in
theorem lifted (os : Os) (started : os.Started) (H : Type) (enc : TypeId × Value → H) :
    ReturnsInHanded {} Tryd.checked os 9 .any (fun w args => (Rows.bookFullSpec.pre enc Tryd.prog Tryd.f9 [] false w args ∧ laidMetH Tryd.prog Card.laid w) ∧ sizedMet enc Tryd.prog Tryd.f9 (OpenSpec.ofChange Rows.bookFullSpec) false w args)
      (Rows.bookFullSpec.post enc Tryd.prog Tryd.f9 false true false false) := by
  refine returnsInHanded_of_change_and (C := Tryd.checked) (X := fun w _ => laidMetH Tryd.prog Card.laid w) (fun _ _ _ hh h => h.of_heap hh) Tryd.own started (by kernel_rfl) Tryd.func9
    (ChangeSpec.witness_at (enc := enc) (C := Tryd.checked) (os := os) (X := fun w _ => laidMetH Tryd.prog Card.laid w) false (Card.laidWorld os) #[.int .i64 0, .int .i64 0] 8 rfl (by kernel_rfl) (by kernel_rfl) (by kernel_rfl) (by kernel_rfl) (by kernel_rfl) (Card.laidWorld_met os _)) ?_
  intro W base args ds gs before hval0 hW _ hsz0 hL _
  have hval : ∀ (j : Nat) t v, Tryd.f9.params[j]? = some t → args[j]? = some v → Value.okWide Tryd.prog W .any base t v := hval0
  obtain ⟨p, q, hA0, _⟩ := id hW
  have hA : DataW.TrodAll enc Tryd.prog W 0 (fun _ => true) true Tryd.f9.params.toList args.toList ds p := hA0
  have hsz : (DataW.weightsEach Tryd.prog (Tryd.f9.params.toList ++ Rows.bookFullSpec.plain.varTypes Tryd.prog) (ds ++ gs)).all (· ≤ reachBytes) = true := hsz0
  rw [Tryd.params9] at hA hval hsz
  obtain ⟨v0, v1, d0, d1, p0, p1, rfl, rfl, rfl, h0, h1⟩ := trodAll_two hA
  obtain ⟨a0, rfl, rfl, rfl, wa0⟩ := open_int Tryd.underlying3 (hval 0 3 v0 rfl rfl) h0
  obtain ⟨a1, rfl, rfl, rfl, wa1⟩ := open_int Tryd.underlying3 (hval 1 3 v1 rfl rfl) h1
  refine (walk W a0 a1 (Card.glob_of_laid hL)).mono fun e W' ⟨he, hb⟩ => ⟨_, he, ?_⟩
  exact law_post Tryd.laidOut (tb := 4) (by kernel_rfl) Tryd.underlying4 (by rw [Tryd.params9]; simp only [List.mem_cons, List.not_mem_nil, or_false]; rintro t (rfl | rfl) <;> exact ⟨by kernel_rfl, of_decide_eq_true (by kernel_rfl)⟩) rfl rfl hW hb

theorem holds : Rows.BookFullSaid :=
  OpenClaim.holds_of_wide 9 Tryd.f9 rfl rfl rfl rfl rfl rfl rfl ⟨rfl, rfl, rfl, rfl, rfl⟩ rfl rfl rfl rfl rfl (by kernel_rfl) Tryd.func9 (by kernel_rfl)
    (of_decide_eq_true (by kernel_rfl)) (by unfold Func.isWrapper; first | (rw [if_pos (by decide +kernel)]; kernel_rfl) | (rw [if_neg (by decide +kernel)]; exact ⟨rfl, rfl⟩))
    (fun os started H enc _ => lifted os started H enc)
theorem noStand : ∀ t ∈ Tryd.f9.params.toList, Tryd.prog.wantsStandIn t = false := by
  rw [Tryd.params9]
  simp only [List.mem_cons, List.not_mem_nil, or_false]
  rintro t (rfl | rfl) <;> kernel_rfl
theorem card_holds : Rows.BookFullCardSaid :=
  Claim7.holds_tied_plain_at .later [] [.handle] true Rows.bookFullCard.stood.harness true
    holds (fun _ h => by cases h) (by kernel_rfl) (fun _ h => by cases h) bookFull_row_tie rfl ⟨rfl, rfl⟩ (by kernel_rfl) rfl
    (fun f fn hf hfn => by
      obtain rfl : f = 9 := Option.some.inj ((show Tryd.prog.funcNamed Rows.bookFullRow.func = some 9 by kernel_rfl).symm.trans hf) |>.symm
      obtain rfl : fn = Tryd.f9 := (Option.some.inj (Tryd.func9.symm.trans hfn)).symm
      exact ⟨by kernel_rfl, fun j t ht => noStand t (by
        have := Array.mem_of_getElem? ht
        simpa using this)⟩)
    (by kernel_rfl)
#print axioms card_holds
end lawBookFull
end Go.Proofs.YtikbcpljhjfoiaaDoor
