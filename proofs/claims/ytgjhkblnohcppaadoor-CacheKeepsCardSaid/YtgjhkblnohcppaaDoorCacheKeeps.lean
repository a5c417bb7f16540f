/- leaflaw4.CacheKeeps, proved: the one asked for last stays. Conditions: the library's one variable holds what its text lays (the card ties it). -/
import Derived.Deep.CutBlock
import Derived.Deep.OwnRows
import Derived.Deep.RegionHeld3
import Derived.Test.YtgjhkblnohcppaaDoorBookText
import Derived.Test.YtgjhkblnohcppaaDoorCacheScene
import Derived.Test.YtgjhkblnohcppaaDoorCard
namespace Go.Proofs.YtgjhkblnohcppaaDoor
open Go.RowKit Go.WideShapes Go.ChangeShapes Go.ChangeAt
set_option linter.unusedVariables false
namespace lawCacheKeeps
def bb : ByteArray := ⟨#[98, 98]⟩
def cb : ByteArray := ⟨#[99, 98]⟩
def db : ByteArray := ⟨#[100, 98]⟩
theorem bc : bb ≠ cb := by decide
theorem bd : bb ≠ db := by decide
theorem cd : cb ≠ db := by decide
def fillL (N k : Nat) : List UInt8 := List.replicate k 120 ++ List.replicate (N - k) 0
theorem fill_zero (N : Nat) : bs (fillL N 0) = (madeCells #[.int .u8 0] N).toList := by
  have h : madeCells #[.int .u8 0] N = ⟨List.replicate N (.int .u8 0)⟩ := by
    apply Array.ext'
    apply List.ext_getElem
    · simp [madeCells]
    · intro i h1 h2
      simp [madeCells, Nat.mod_one]
  rw [h]
  simp [bs, fillL]
theorem fill_len {N k : Nat} (h : k ≤ N) : (fillL N k).length = N := by simp [fillL]; omega
theorem fill_next {N k : Nat} (h : k < N) : (bs (fillL N k)).set k (.int .u8 120) = bs (fillL N (k + 1)) := by
  apply List.ext_getElem
  · simp [bs, fillL]; omega
  · intro i h1 h2
    simp only [bs, List.getElem_set, List.getElem_map, fillL, List.getElem_append, List.getElem_replicate, List.length_replicate]
    by_cases h3 : k = i
    · subst h3; simp
    · rw [if_neg h3]
      by_cases h4 : i < k
      · simp [h4, show i < k + 1 by omega]
      · simp [h4, show ¬ i < k + 1 by omega]
theorem fill_all (N : Nat) : fillL N N = List.replicate N 120 := by simp [fillL]
theorem size_x (N : Nat) : (strOf (List.replicate N 120)).size = N := by
  show (List.replicate N (120 : UInt8)).toArray.size = N
  simp
theorem pe (p : ByteArray) (h : p = bb ∨ p = cb ∨ p = db) : placeErr p = 0 := by
  rcases h with rfl | rfl | rfl <;> decide +kernel
theorem le_ {N : Nat} {x p : ByteArray} (hx : x.size = N) (h : p = bb ∨ p = cb ∨ p = db) : loadE (2 * N) p x = 0 := by
  unfold loadE
  rw [if_neg (fun e => e.2 (pe p h)), if_neg (by omega)]
theorem l1 {N : Nat} {x : ByteArray} (hx : x.size = N) : loadR (2 * N) bb x [] = [(bb, x)] := by
  unfold loadR
  rw [if_pos (le_ hx (.inl rfl))]
  show fitK (2 * N) [(bb, x)] = _
  unfold fitK
  rw [if_neg (by simp [sumK]; omega)]
theorem on_new {p t : ByteArray} {m : List Kept} (h : p ∉ m.map Prod.fst) : onK p t m = m ++ [(p, t)] := by unfold onK; rw [offK_none h]
theorem l2 {N : Nat} {x : ByteArray} (hx : x.size = N) : loadR (2 * N) cb x [(bb, x)] = [(bb, x), (cb, x)] := by
  unfold loadR
  rw [if_pos (le_ hx (.inr (.inl rfl))), on_new (by simp; exact bc.symm)]
  show fitK (2 * N) [(bb, x), (cb, x)] = _
  unfold fitK
  rw [if_neg (by simp [sumK]; omega)]
theorem onb {x : ByteArray} : onK bb x [(bb, x), (cb, x)] = [(cb, x), (bb, x)] := by
  unfold onK
  rw [offK_cons, if_pos rfl, offK_cons, if_neg bc.symm]
  rfl
theorem onc {x : ByteArray} : onK cb x [(bb, x), (cb, x)] = [(bb, x), (cb, x)] := by
  unfold onK
  rw [offK_cons, if_neg bc, offK_cons, if_pos rfl]
  rfl
theorem getb {x : ByteArray} : get bb [(bb, x), (cb, x)] = some x := by unfold get; rw [if_pos rfl]
theorem getc {x : ByteArray} : get cb [(bb, x), (cb, x)] = some x := by unfold get; rw [if_neg bc.symm]; unfold get; rw [if_pos rfl]
theorem l3 {N : Nat} {x p q : ByteArray} (hN : 1 ≤ N) (hx : x.size = N) (hp : p ≠ db) (hq : q ≠ db) : loadR (2 * N) db x [(q, x), (p, x)] = [(p, x), (db, x)] := by
  unfold loadR
  rw [if_pos (le_ hx (.inr (.inr rfl))), on_new (by simp; exact ⟨fun h => hq h.symm, fun h => hp h.symm⟩)]
  show fitK (2 * N) [(q, x), (p, x), (db, x)] = _
  unfold fitK
  rw [if_pos (by simp [sumK]; omega)]
  unfold fitK
  rw [if_neg (by simp [sumK]; omega)]
theorem get_not {x p q : ByteArray} (h1 : q ≠ p) (h2 : q ≠ db) : get q [(p, x), (db, x)] = none := by
  unfold get; rw [if_neg h1]; unfold get; rw [if_neg h2]; rfl
theorem sum_two {N : Nat} {x p q : ByteArray} (hx : x.size = N) : sumK [(p, x), (q, x)] = 2 * (N : Int) := by simp [sumK]; omega
theorem strs_at {A : Option Addr} {l : List ByteArray} {w : World} {B n : Nat} (h : Reads w B 1 A n (strs l)) {k : Nat} {p : ByteArray} (hk : k < n) (hp : l[k]? = some p) : ∃ ad, A = some ad ∧ ad.block < B ∧ w.cell? (ad.add k) = some (.string p) := by
  obtain ⟨ad, u, e, hb, hu, hc⟩ := h.at_ hk
  refine ⟨ad, e, hb, ?_⟩
  unfold strs at hu
  rw [List.getElem?_map, hp] at hu
  rw [hc, ← hu]
  rfl
def LoopA (w : World) (N : Nat) (i : Value) (wr : World) : Prop := ∃ k : Nat, k ≤ N ∧ i = .int .i64 k ∧ Hid (Own wr w.heap.size 5 1 (some ⟨w.heap.size, 0, none⟩) N N (bs (fillL N k))) ∧ Hid (Below w.heap.size w wr)
set_option maxRecDepth 100000 in
set_option maxHeartbeats 16000000 in
theorem walk (w : World) (n : Int) (first : Bool) (hg : Glob w) : Calls Tryd.prog 3 #[.int .i64 n, .bool first] w (CheckPost w (.bool true)) := by
  by_cases h1 : n < 1
  · have HB := Lib.hid (Below.refl w.heap.size w)
    clear hg
    go_enter Tryd.func3, Tryd.ntmps3
    go_wp2_with fail
    go_ret
    exact ⟨rfl, HB.out⟩
  by_cases h2 : 50 < n
  · have HB := Lib.hid (Below.refl w.heap.size w)
    have h3 : decide (n > 50) = true := decide_eq_true h2
    clear hg
    go_enter Tryd.func3, Tryd.ntmps3
    go_wp2_with fail
    go_ret
    exact ⟨rfl, HB.out⟩
  obtain ⟨N, rfl⟩ : ∃ N : Nat, n = N := ⟨n.toNat, by omega⟩
  have hN1 : 1 ≤ N := by omega
  have hN2 : N ≤ 50 := by omega
  have g3 : decide ((N : Int) > 50) = false := decide_eq_false (by omega)
  have HE0 : errV 0 = .nilIface := rfl
  have hmk := run_make_row' (P := Tryd.prog) 22 5 (.int .u8 0) 1 Tryd.underlying22 (by kernel_rfl) rfl .i64 .i64 N (by omega) (by omega) w
  have HO0 : Hid (Own (w.alloc (.cells (madeCells #[.int .u8 0] N) 5)) w.heap.size 5 1 (some ⟨w.heap.size, 0, none⟩) N N (bs (fillL N 0))) := by
    refine ⟨by rw [bs_len, fill_len (Nat.zero_le _)]; omega, .inr ⟨w.heap.size, N, madeCells #[.int .u8 0] N, rfl, Nat.le_refl _, heap_alloc_new w _, Nat.le_refl _, by unfold maxLen; omega, by simp [madeCells], ?_⟩⟩
    rw [fill_zero, List.take_of_length_le]
    simp [madeCells]
  have HB0 : Hid (Below w.heap.size w (w.alloc (.cells (madeCells #[.int .u8 0] N) 5))) := (Below.refl _ _).alloc (Nat.le_refl _) _
  have q1 : IntKind.i64.wrap (2 * (N : Int)) = 2 * (N : Int) := IntWalk.i64_in _ (by omega)
  have HG := Lib.hid hg
  generalize madeCells #[.int .u8 0] N = MC at hmk HO0 HB0
  clear hg
  go_enter Tryd.func3, Tryd.ntmps3
  go_wp2_with fail
  go_loopw [6] (fun i wr => LoopA w N i wr) (fun i _ => N - (intOf i).toNat)
  case atStart => exact ⟨0, by omega, rfl, HO0, HB0⟩
  case round =>
    obtain ⟨k, hk, rfl, HO, HB⟩ := hrel
    have k0 : (0 : Int) ≤ (k : Int) := by omega
    by_cases hkn : k < N
    · have k1 : (k : Int) < (N : Int) := by omega
      have HO1 := Lib.hid (HO.out.storeK (k := k) (by omega) (.int .u8 120))
      rw [fill_next hkn] at HO1
      have hv0 : ∃ v, wr.cell? ⟨w.heap.size, k, none⟩ = some v := by
        rw [HO.out.cellAt (by omega)]
        have : k < (bs (fillL N k)).length := by rw [bs_len, fill_len (by omega)]; omega
        exact ⟨_, List.getElem?_eq_getElem this⟩
      have f0 := HO.out.frozenAt k
      have HB1 : Hid (Below w.heap.size w (wr.setCell ⟨w.heap.size, k, none⟩ (.int .u8 120))) := HB.out.setCell (Nat.le_refl _) _
      obtain ⟨v0, v0h⟩ := hv0
      go_wp2_with fail
      go_roundw
      case rel => exact ⟨k + 1, by omega, by go_num, HO1, HB1⟩
      case measure => simp [intOf]; omega
    · obtain rfl : k = N := by omega
      have k1 : ¬ (k : Int) < (k : Int) := by omega
      have hx := size_x k
      have HOF := HO
      rw [fill_all] at HOF
      have HCV : Hid (∀ W, Below wr.heap.size wr W → (convert 22 9 (.slice (some ⟨w.heap.size, 0, none⟩) k k)).run Tryd.prog W = .ok (.string (strOf (List.replicate k 120))) W) := fun W hW => conv_own (HOF.out.below hW)
      have HN := Lib.hid (cnew_scene wr wr (Below.refl _ _) (2 * k) (by omega) (by omega))
      generalize strOf (List.replicate k 120) = x at *
      have HX := Lib.hid hx
      clear HO HOF hx hmk HO0 HB0 g3
      go_wp2_with fail
      refine HN.out.mono ?_
      rintro e w1 ⟨b, rfl, hs⟩
      have hc1 := HCV.out _ hs.below
      have HL1 := Lib.hid (hs.load (by omega) (by omega) (by simp [sumK]) (by simp) bb x (by decide) (by have := HX.out; omega))
      rw [le_ HX.out (.inl rfl), l1 HX.out, HE0] at HL1
      clear hs HN
      go_wp2_with fail
      refine HL1.out.mono ?_
      rintro e w2 ⟨rfl, hs⟩
      have hc2 := HCV.out _ hs.below
      have HL2 := Lib.hid (hs.load (by omega) (by omega) (by simp [sumK]; have := HX.out; omega) (by simp) cb x (by decide) (by have := HX.out; omega))
      rw [le_ HX.out (.inr (.inl rfl)), l2 HX.out, HE0] at HL2
      clear hs HL1 hc1
      go_wp2_with fail
      refine HL2.out.mono ?_
      rintro e w3 ⟨rfl, hs⟩
      have HS3 := Lib.hid hs
      clear hs HL2 hc2
      cases first with
      | true =>
        have HGT := Lib.hid (HS3.out.found (by rw [sum_two HX.out]; omega) (by simp) (p := bb) (t := x) getb)
        rw [onb] at HGT
        clear HS3
        go_wp2_with fail
        refine HGT.out.mono ?_
        rintro e w4 ⟨rfl, hs⟩
        have hc4 := HCV.out _ hs.below
        have HL3 := Lib.hid (hs.load (by omega) (by omega) (by rw [sum_two HX.out]; omega) (by simp) db x (by decide) (by have := HX.out; omega))
        rw [le_ HX.out (.inr (.inr rfl)), l3 hN1 HX.out bd cd, HE0] at HL3
        clear hs HGT
        go_wp2_with fail
        refine HL3.out.mono ?_
        rintro e w5 ⟨rfl, hs⟩
        have HPL := Lib.hid (hs.places (by simp))
        clear hs HL3 hc4
        go_wp2_with fail
        refine HPL.out.mono ?_
        rintro e w6 ⟨V, c, rfl, hs⟩
        have HS6 := Lib.hid hs
        have HLO := Lib.hid (hs.lost (by rw [sum_two HX.out]; omega) (by simp) (p := cb) (get_not bc.symm cd))
        have hrow := hs.row (x := (V, [(bb, x), (db, x)].map Prod.fst)) (by simp)
        obtain ⟨av, rfl, _, p0⟩ := strs_at hrow (k := 0) (p := bb) (by simp) rfl
        obtain ⟨av', e', _, p1⟩ := strs_at hrow (k := 1) (p := db) (by simp) rfl
        injection e' with e'
        subst e'
        have p2 : w6.cell? av = some (.string ⟨#[98, 98]⟩) := by rw [show w6.cell? av = w6.cell? (av.add 0) from rfl, p0]; rfl
        have p3 : w6.cell? ⟨av.block, av.off + 1, none⟩ = some (.string ⟨#[100, 98]⟩) := by rw [show w6.cell? ⟨av.block, av.off + 1, none⟩ = w6.cell? (av.add 1) from rfl, p1]; rfl
        clear p0 p1
        have HER := Lib.hid (error_any w6 5 5 ((HG.out.below HB.out (Nat.le_refl _)).below hs.below (Nat.le_refl _)))
        have HU := Lib.hid (fun W hb => (HS6.out.stay (w' := W) hb).used)
        rw [sum_two HX.out] at HU
        have hb6 := Lib.hid (HB.out.trans (hs.below.mono HB.out.size))
        have b1 : ((⟨#[98, 98]⟩ : ByteArray).toList == (⟨#[98, 98]⟩ : ByteArray).toList) = true := beq_self_eq_true _
        have b4 : ((⟨#[100, 98]⟩ : ByteArray).toList == (⟨#[100, 98]⟩ : ByteArray).toList) = true := beq_self_eq_true _
        have b3 : ((2 * (k : Int)) == 2 * (k : Int)) = true := beq_self_eq_true _
        clear hs HPL hrow
        go_wp2_with fail
        refine HLO.out.mono ?_
        rintro e w7 ⟨rfl, rfl⟩
        go_wp2_with fail
        refine HER.out.mono ?_
        rintro e w8 ⟨rfl, hb8⟩
        have HU8 := Lib.hid (HU.out _ hb8)
        have HB8 := Lib.hid (hb6.out.trans (hb8.mono hb6.out.size))
        clear hb8 HU
        go_wp2_with fail
        refine HU8.out.mono ?_
        rintro e w9 ⟨rfl, rfl⟩
        go_wp2_with fail
        go_ret
        exact ⟨rfl, HB8.out⟩
      | false =>
        have HGT := Lib.hid (HS3.out.found (by rw [sum_two HX.out]; omega) (by simp) (p := cb) (t := x) getc)
        rw [onc] at HGT
        clear HS3
        go_wp2_with fail
        refine HGT.out.mono ?_
        rintro e w4 ⟨rfl, hs⟩
        have hc4 := HCV.out _ hs.below
        have HL3 := Lib.hid (hs.load (by omega) (by omega) (by rw [sum_two HX.out]; omega) (by simp) db x (by decide) (by have := HX.out; omega))
        rw [le_ HX.out (.inr (.inr rfl)), l3 hN1 HX.out cd bd, HE0] at HL3
        clear hs HGT
        go_wp2_with fail
        refine HL3.out.mono ?_
        rintro e w5 ⟨rfl, hs⟩
        have HPL := Lib.hid (hs.places (by simp))
        clear hs HL3 hc4
        go_wp2_with fail
        refine HPL.out.mono ?_
        rintro e w6 ⟨V, c, rfl, hs⟩
        have HS6 := Lib.hid hs
        have HLO := Lib.hid (hs.lost (by rw [sum_two HX.out]; omega) (by simp) (p := bb) (get_not bc bd))
        have hrow := hs.row (x := (V, [(cb, x), (db, x)].map Prod.fst)) (by simp)
        obtain ⟨av, rfl, _, p0⟩ := strs_at hrow (k := 0) (p := cb) (by simp) rfl
        obtain ⟨av', e', _, p1⟩ := strs_at hrow (k := 1) (p := db) (by simp) rfl
        injection e' with e'
        subst e'
        have p2 : w6.cell? av = some (.string ⟨#[99, 98]⟩) := by rw [show w6.cell? av = w6.cell? (av.add 0) from rfl, p0]; rfl
        have p3 : w6.cell? ⟨av.block, av.off + 1, none⟩ = some (.string ⟨#[100, 98]⟩) := by rw [show w6.cell? ⟨av.block, av.off + 1, none⟩ = w6.cell? (av.add 1) from rfl, p1]; rfl
        clear p0 p1
        have HER := Lib.hid (error_any w6 5 5 ((HG.out.below HB.out (Nat.le_refl _)).below hs.below (Nat.le_refl _)))
        have HU := Lib.hid (fun W hb => (HS6.out.stay (w' := W) hb).used)
        rw [sum_two HX.out] at HU
        have hb6 := Lib.hid (HB.out.trans (hs.below.mono HB.out.size))
        have b1 : ((⟨#[99, 98]⟩ : ByteArray).toList == (⟨#[99, 98]⟩ : ByteArray).toList) = true := beq_self_eq_true _
        have b4 : ((⟨#[100, 98]⟩ : ByteArray).toList == (⟨#[100, 98]⟩ : ByteArray).toList) = true := beq_self_eq_true _
        have b3 : ((2 * (k : Int)) == 2 * (k : Int)) = true := beq_self_eq_true _
        clear hs HPL hrow
        go_wp2_with fail
        refine HLO.out.mono ?_
        rintro e w7 ⟨rfl, rfl⟩
        go_wp2_with fail
        refine HER.out.mono ?_
        rintro e w8 ⟨rfl, hb8⟩
        have HU8 := Lib.hid (HU.out _ hb8)
        have HB8 := Lib.hid (hb6.out.trans (hb8.mono hb6.out.size))
        clear hb8 HU
        go_wp2_with fail
        refine HU8.out.mono ?_
        rintro e w9 ⟨rfl, rfl⟩
        go_wp2_with fail
        go_ret
        exact ⟨rfl, HB8.out⟩
set_option maxRecDepth 100000 in
theorem lifted (os : Os) (started : os.Started) (H : Type) (enc : TypeId × Value → H) :
    ReturnsInHanded {} Tryd.checked os 3 .any (fun w args => (Rows.cacheKeepsSpec.pre enc Tryd.prog Tryd.f3 [] false w args ∧ laidMetH Tryd.prog Card.laid w) ∧ sizedMet enc Tryd.prog Tryd.f3 (OpenSpec.ofChange Rows.cacheKeepsSpec) false w args)
      (Rows.cacheKeepsSpec.post enc Tryd.prog Tryd.f3 false true false false) := by
  refine returnsInHanded_of_change_and (C := Tryd.checked) (X := fun w _ => laidMetH Tryd.prog Card.laid w) (fun _ _ _ hh h => h.of_heap hh) Tryd.own started (by kernel_rfl) Tryd.func3
    (ChangeSpec.witness_at (enc := enc) (C := Tryd.checked) (os := os) (X := fun w _ => laidMetH Tryd.prog Card.laid w) false (Card.laidWorld os) #[.int .i64 0, .bool false] 8 rfl (by kernel_rfl) (by kernel_rfl) (by kernel_rfl) (by kernel_rfl) (by kernel_rfl) (Card.laidWorld_met os _)) ?_
  intro W base args ds gs before hval0 hW _ hsz0 hL _
  have hval : ∀ (j : Nat) t v, Tryd.f3.params[j]? = some t → args[j]? = some v → Value.okWide Tryd.prog W .any base t v := hval0
  obtain ⟨p, q, hA0, _⟩ := id hW
  have hA : DataW.TrodAll enc Tryd.prog W 0 (fun _ => true) true Tryd.f3.params.toList args.toList ds p := hA0
  have hsz : (DataW.weightsEach Tryd.prog (Tryd.f3.params.toList ++ Rows.cacheKeepsSpec.plain.varTypes Tryd.prog) (ds ++ gs)).all (· ≤ reachBytes) = true := hsz0
  rw [Tryd.params3] at hA hval hsz
  obtain ⟨v0, v1, d0, d1, p0, p1, rfl, rfl, rfl, h0, h1⟩ := trodAll_two hA
  obtain ⟨a0, rfl, rfl, rfl, wa0⟩ := open_int Tryd.underlying3 (hval 0 3 v0 rfl rfl) h0
  obtain ⟨a1, rfl, rfl, rfl⟩ := open_bool Tryd.underlying4 (hval 1 4 v1 rfl rfl) h1
  refine (walk W a0 a1 (Card.glob_of_laid hL)).mono fun e W' ⟨he, hb⟩ => ⟨_, he, ?_⟩
  exact law_post Tryd.laidOut (tb := 4) (by kernel_rfl) Tryd.underlying4 (by rw [Tryd.params3]; simp only [List.mem_cons, List.not_mem_nil, or_false]; rintro t (rfl | rfl) <;> exact ⟨by kernel_rfl, of_decide_eq_true (by kernel_rfl)⟩) rfl rfl hW hb

theorem holds : Rows.CacheKeepsSaid :=
  OpenClaim.holds_of_wide 3 Tryd.f3 rfl rfl rfl rfl rfl rfl rfl ⟨rfl, rfl, rfl, rfl, rfl⟩ rfl rfl rfl rfl rfl (by kernel_rfl) Tryd.func3 (by kernel_rfl)
    (of_decide_eq_true (by kernel_rfl)) (by unfold Func.isWrapper; first | (rw [if_pos (by decide +kernel)]; kernel_rfl) | (rw [if_neg (by decide +kernel)]; exact ⟨rfl, rfl⟩))
    (fun os started H enc _ => lifted os started H enc)
theorem noStand : ∀ t ∈ Tryd.f3.params.toList, Tryd.prog.wantsStandIn t = false := by
  rw [Tryd.params3]
  simp only [List.mem_cons, List.not_mem_nil, or_false]
  rintro t (rfl | rfl) <;> kernel_rfl
theorem card_holds : Rows.CacheKeepsCardSaid :=
  Claim7.holds_tied_plain_at .later [] [.handle] true Rows.cacheKeepsCard.stood.harness true
    holds (fun _ h => by cases h) (by kernel_rfl) (fun _ h => by cases h) cacheKeeps_row_tie rfl ⟨rfl, rfl⟩ (by kernel_rfl) rfl
    (fun f fn hf hfn => by
      obtain rfl : f = 3 := Option.some.inj ((show Tryd.prog.funcNamed Rows.cacheKeepsRow.func = some 3 by kernel_rfl).symm.trans hf) |>.symm
      obtain rfl : fn = Tryd.f3 := (Option.some.inj (Tryd.func3.symm.trans hfn)).symm
      exact ⟨by kernel_rfl, fun j t ht => noStand t (by
        have := Array.mem_of_getElem? ht
        simpa using this)⟩)
    (by kernel_rfl)
#print axioms card_holds
end lawCacheKeeps
end Go.Proofs.YtgjhkblnohcppaaDoor
