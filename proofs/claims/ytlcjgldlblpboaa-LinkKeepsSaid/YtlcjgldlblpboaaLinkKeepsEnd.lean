/- leaflaw2.LinkKeeps, proved. Conditions: none of our own. -/
import Derived.Test.YtlcjgldlblpboaaLift
import Derived.Test.YtlcjgldlblpboaaLinkKeeps
import Derived.Test.YtlcjgldlblpboaaOpenStrs
namespace Go.Proofs.Ytlcjgldlblpboaa
open Go.RowKit Go.WideShapes Go.ChangeShapes
set_option linter.unusedVariables false
namespace lawLinkKeeps
set_option maxRecDepth 100000 in
set_option maxHeartbeats 8000000 in
theorem walk_bad (w : World) (win wait : Int) (hb : win < 1 ∨ 16 < win ∨ wait < 1 ∨ 20 < wait) (A : Option Addr) (ca : Nat) (n : Nat) (F : Option Addr) (cf : Nat) (m : Nat) :
    Calls Try.prog 3 #[.int .i64 win, .int .i64 wait, .slice A n ca, .slice F m cf] w (fun e w' => e = .returned (.bool true) ∧ Below w.heap.size w w') := by
  have HN := Lib.hid (new_bad w win wait hb)
  by_cases a1 : win < 1
  · clear hb
    go_enter Try.func3, Try.ntmps3
    go_wp2_with fail
    refine HN.out.mono ?_
    rintro e w1 ⟨rfl, rfl⟩
    go_wp2_with fail
    refine HN.out.mono ?_
    rintro e w1 ⟨rfl, rfl⟩
    rw [errV_ne (by decide)]
    go_wp2_with fail
    go_ret
    exact ⟨rfl, Below.refl _ _⟩
  · by_cases a2 : 16 < win
    · have a2' : win > 16 := a2
      clear hb
      go_enter Try.func3, Try.ntmps3
      go_wp2_with fail
      refine HN.out.mono ?_
      rintro e w1 ⟨rfl, rfl⟩
      go_wp2_with fail
      refine HN.out.mono ?_
      rintro e w1 ⟨rfl, rfl⟩
      rw [errV_ne (by decide)]
      go_wp2_with fail
      go_ret
      exact ⟨rfl, Below.refl _ _⟩
    · have a2' : ¬ win > 16 := a2
      by_cases a3 : wait < 1
      · clear hb
        go_enter Try.func3, Try.ntmps3
        go_wp2_with fail
        refine HN.out.mono ?_
        rintro e w1 ⟨rfl, rfl⟩
        go_wp2_with fail
        refine HN.out.mono ?_
        rintro e w1 ⟨rfl, rfl⟩
        rw [errV_ne (by decide)]
        go_wp2_with fail
        go_ret
        exact ⟨rfl, Below.refl _ _⟩
      · have a4 : 20 < wait := by omega
        have a4' : wait > 20 := a4
        clear hb
        go_enter Try.func3, Try.ntmps3
        go_wp2_with fail
        refine HN.out.mono ?_
        rintro e w1 ⟨rfl, rfl⟩
        go_wp2_with fail
        refine HN.out.mono ?_
        rintro e w1 ⟨rfl, rfl⟩
        rw [errV_ne (by decide)]
        go_wp2_with fail
        go_ret
        exact ⟨rfl, Below.refl _ _⟩
theorem walk (w : World) (win wait : Int) (A : Option Addr) (ca : Nat) (data : List ByteArray) (h0 : Reads w w.heap.size 1 A data.length (strs data)) (hsz : ∀ x ∈ data, x.size ≤ maxLen) (hdl : data.length ≤ 9223372036854775807)
    (F : Option Addr) (cf : Nat) (fates : List Int) (h1 : Reads w w.heap.size 1 F fates.length (nums fates)) (hfl : fates.length ≤ 9223372036854775807) :
    Calls Try.prog 3 #[.int .i64 win, .int .i64 wait, .slice A data.length ca, .slice F fates.length cf] w (fun e w' => e = .returned (.bool true) ∧ Below w.heap.size w w') := by
  by_cases hb : win < 1 ∨ 16 < win ∨ wait < 1 ∨ 20 < wait
  · exact walk_bad w win wait hb A ca _ F cf _
  · obtain ⟨n, rfl⟩ := Int.eq_ofNat_of_zero_le (a := win) (by omega)
    obtain ⟨m, rfl⟩ := Int.eq_ofNat_of_zero_le (a := wait) (by omega)
    exact walk_main w n m (by omega) (by omega) (by omega) (by omega) A ca data h0 hsz hdl F cf fates h1 hfl
set_option maxRecDepth 100000 in
theorem lifted (os : Os) (started : os.Started) (H : Type) (enc : TypeId × Value → H) :
    ReturnsInHanded {} Try.checked os 3 .any (Rows.linkKeepsSpec.pre6 enc Try.prog Try.f3 Rows.linkKeepsRow.domain false) (Rows.linkKeepsSpec.post enc Try.prog Try.f3 false true false false) := by
  refine returnsInHanded_of_change (C := Try.checked) Try.own started (by kernel_rfl) Try.func3
    (ChangeSpec.witness6 (enc := enc) (C := Try.checked) false ⟨#[], #[.int .i64 0, .int .i64 0, .slice none 0 0, .slice none 0 0], []⟩ 8 (by kernel_rfl) (by kernel_rfl) (by kernel_rfl) (by kernel_rfl)) ?_
  intro W base args ds gs before hval0 hW _ _
  have hval : ∀ (j : Nat) t v, Try.f3.params[j]? = some t → args[j]? = some v → Value.okWide Try.prog W .any base t v := hval0
  obtain ⟨p, q, hA0, _⟩ := id hW
  have hA : DataW.TrodAll enc Try.prog W 0 (fun _ => true) true Try.f3.params.toList args.toList ds p := hA0
  rw [Try.params3] at hA hval
  obtain ⟨v0, v1, v2, v3, d0, d1, d2, d3, p0, p1, p2, p3, rfl, rfl, rfl, h0, h1, h2, h3⟩ := trodAll_four hA
  obtain ⟨a0, rfl, rfl, rfl, wa0⟩ := open_int Try.underlying3 (hval 0 3 v0 rfl rfl) h0
  obtain ⟨a1, rfl, rfl, rfl, wa1⟩ := open_int Try.underlying3 (hval 1 3 v1 rfl rfl) h1
  obtain ⟨A2, c2, l2, rfl, r2, g2, lc2, cm2⟩ := arg_strs (hval 2 22 v2 rfl rfl) h2
  obtain ⟨A3, c3, l3, rfl, r3, g3, lc3, cm3⟩ := arg_ints (hval 3 23 v3 rfl rfl) h3
  refine (walk W a0 a1 A2 c2 l2 r2 g2 (by unfold maxLen at cm2; omega) A3 c3 l3 r3 (by unfold maxLen at cm3; omega)).mono fun e W' ⟨he, hb⟩ => ⟨_, he, ?_⟩
  exact law_post Try.laidOut (tb := 4) (by kernel_rfl) Try.underlying4 (by rw [Try.params3]; simp only [List.mem_cons, List.not_mem_nil, or_false]; rintro t (rfl | rfl | rfl | rfl) <;> exact ⟨by kernel_rfl, of_decide_eq_true (by kernel_rfl)⟩) rfl rfl hW hb

theorem holds : Rows.LinkKeepsSaid :=
  OpenClaim.holds_of_wide 3 Try.f3 rfl rfl rfl rfl rfl rfl rfl ⟨rfl, rfl, rfl, rfl, rfl⟩ rfl rfl rfl rfl rfl (by kernel_rfl) Try.func3 (by kernel_rfl)
    (of_decide_eq_true (by kernel_rfl)) (by unfold Func.isWrapper; first | (rw [if_pos (by decide +kernel)]; kernel_rfl) | (rw [if_neg (by decide +kernel)]; exact ⟨rfl, rfl⟩))
    (fun os started H enc _ => lifted os started H enc)
#print axioms holds
end lawLinkKeeps
end Go.Proofs.Ytlcjgldlblpboaa
