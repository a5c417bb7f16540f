/- WHAT BOTH HAVE IS KEPT: the law DiffSame answers true. Conditions: none. -/
import Derived.Test.YtgninfpdomcobaaDiffWalk
import Derived.Test.YtgninfpdomcobaaLift
import Derived.SizedLaws
namespace Go.Proofs.Ytgninfpdomcobaa
open Go.RowKit Go.WideShapes Go.ChangeShapes Go.ChangeAt
open Go.ChangeMaps (open_string)
set_option linter.unusedVariables false

theorem led_cost (e : Df.Ed) (h : e.strike ≤ 200) : e.L.cost = e.strike + e.write.length := by
  unfold LEd.cost
  have h1 : e.L.strike = (e.strike : Int) := rfl
  have h2 : e.L.write.size = e.write.length := strOf_size _
  rw [h1, h2]
  by_cases h5 : 0 < e.strike
  · rw [if_pos ⟨by omega, by omega⟩]; omega
  · rw [if_neg (by omega)]; omega
theorem costL_dif (a b : ByteArray) (ha : a.size ≤ 200) : costL ((difL a b).map Df.Ed.L) + 2 * Df.lcs a.data.toList b.data.toList = a.size + b.size := by
  have hal : a.data.toList.length = a.size := by rw [Array.length_toList]; rfl
  have hbl : b.data.toList.length = b.size := by rw [Array.length_toList]; rfl
  have h1 := Df.cost_dif ⟨0, 0, []⟩ a.data.toList b.data.toList
  have h2 := Df.strike_dif ⟨0, 0, []⟩ a.data.toList b.data.toList
  have h3 : costL ((difL a b).map Df.Ed.L) = Df.cost (difL a b) := by
    unfold costL Df.cost
    rw [List.map_map]
    congr 1
    apply List.map_congr_left
    intro e he
    have h4 := h2 e he
    rw [hal] at h4
    simp only at h4
    exact led_cost e (by omega)
  rw [h3]
  unfold difL
  simp only [List.length_nil] at h1
  omega
theorem many_difL (a b : ByteArray) (ha : a.size ≤ 200) (hb : b.size ≤ 200) : (difL a b).length ≤ 134 := by
  have hal : a.data.toList.length = a.size := by rw [Array.length_toList]; rfl
  have hbl : b.data.toList.length = b.size := by rw [Array.length_toList]; rfl
  have := Df.many_dif ⟨0, 0, []⟩ a.data.toList b.data.toList
  rw [show (Df.Ed.mk 0 0 []).dirty = false from rfl] at this
  unfold difL
  simp at this
  omega
namespace lawDiffSame

/-- The text with the other one put in. -/
def put (a b : ByteArray) (n : Nat) : ByteArray := a.extract 0 n ++ b ++ a.extract n a.size
theorem put_list {a b : ByteArray} {n : Nat} (h : n ≤ a.size) : (put a b n).data.toList = a.data.toList.take n ++ b.data.toList ++ a.data.toList.drop n := by
  have hal : a.data.toList.length = a.size := by rw [Array.length_toList]; rfl
  unfold put
  rw [ByteArray.data_append, ByteArray.data_append, Array.toList_append, Array.toList_append, extract_list, extract_list, List.drop_zero, ← hal, List.take_length]
theorem put_size {a b : ByteArray} {n : Nat} (h : n ≤ a.size) : (put a b n).size = a.size + b.size := by
  unfold put
  rw [ByteArray.size_append, ByteArray.size_append, ByteArray.size_extract, ByteArray.size_extract]
  omega
theorem put_sub {a b : ByteArray} {n : Nat} (h : n ≤ a.size) : a.data.toList.Sublist (put a b n).data.toList := by
  rw [put_list h]
  conv => lhs; rw [← List.take_append_drop n a.data.toList]
  exact List.Sublist.append (List.sublist_append_left _ _) (List.Sublist.refl _)
theorem put_cost {a b : ByteArray} {n : Nat} (h : n ≤ a.size) (hs : (put a b n).size ≤ 200) :
    costL ((difL a (put a b n)).map Df.Ed.L) = b.size ∧ costL ((difL (put a b n) a).map Df.Ed.L) = b.size := by
  have hsz := put_size (b := b) h
  have hal : a.data.toList.length = a.size := by rw [Array.length_toList]; rfl
  obtain ⟨h1, h2⟩ := Df.lcs_sub (put_sub (b := b) h)
  have h3 := costL_dif a (put a b n) (by omega)
  have h4 := costL_dif (put a b n) a hs
  omega

def fact : List LEd := [⟨1, 0, ⟨#[120]⟩⟩]
theorem fact_err : wkErr ⟨#[97, 98]⟩ fact = 0 := by decide +kernel
theorem fact_out : strOf (wkOut ⟨#[97, 98]⟩ fact) = ⟨#[97, 120, 98]⟩ := by decide +kernel

set_option maxRecDepth 100000 in
set_option maxHeartbeats 4000000 in
theorem walk (w : World) (a : ByteArray) (at_ : Int) (b : ByteArray) (ha : a.size ≤ 140737488351232) (hb : b.size ≤ 140737488351232) :
    Calls Try.prog 5 #[.string a, .int .i64 at_, .string b] w (CheckPost w (.bool true)) := by
  by_cases h0 : at_ < 0
  · go_enter Try.func5, Try.ntmps5
    go_wp2_with fail
    go_ret
    exact ⟨rfl, Below.refl _ _⟩
  · by_cases h1 : (a.size : Int) < at_
    · go_enter Try.func5, Try.ntmps5
      go_wp2_with fail
      go_ret
      exact ⟨rfl, Below.refl _ _⟩
    · obtain ⟨n, rfl⟩ := Int.eq_ofNat_of_zero_le (show 0 ≤ at_ by omega)
      have hn : n ≤ a.size := by omega
      have hn0 : (0 : Int) ≤ (n : Int) := by omega
      have hn1 : (n : Int) ≤ (a.size : Int) := by omega
      have HB := Lib.hid ((Below.refl w.heap.size w).alloc (Nat.le_refl _) (.cells #[.int .i64 1, .int .i64 0, .string ⟨#[120]⟩] 48))
      have HF := Lib.hid (apply_any (w.alloc (.cells #[.int .i64 1, .int .i64 0, .string ⟨#[120]⟩] 48)) ⟨#[97, 98]⟩ (some ⟨w.heap.size, 0, none⟩) 1 fact (reads_led w ⟨1, 0, ⟨#[120]⟩⟩) (by decide) (by decide) (by decide))
      have HS := Lib.hid (put_size (b := b) hn)
      have HCo := Lib.hid (fun h => put_cost (b := b) hn h)
      have HD := Lib.hid (fun w a b ha hb => diff_any w a b ha hb)
      have hcat1 : ∀ W, (Op.stringOp .add (a.extract 0 n) b).run Try.prog W = .ok (.string (a.extract 0 n ++ b)) W := fun W => run_string_add_sum _ _ _ (by rw [ByteArray.size_extract]; omega)
      have hcat2 : ∀ W, (Op.stringOp .add (a.extract 0 n ++ b) (a.extract n a.size)).run Try.prog W = .ok (.string (put a b n)) W := fun W => run_string_add_sum _ _ _ (by rw [ByteArray.size_append, ByteArray.size_extract, ByteArray.size_extract]; omega)
      clear h0 h1
      go_enter Try.func5, Try.ntmps5
      go_wp2_with fail
      refine HF.out.mono ?_
      rintro e w1 ⟨rfl, hb1⟩
      rw [fact_err, if_pos rfl, fact_out, show errV 0 = .nilIface from rfl]
      have HB1 : Hid (Below w.heap.size w w1) := HB.out.trans (hb1.mono (by simp))
      clear hb1
      go_wp2_with fail
      go_quiet (fail)
      clear hcat1 hcat2
      generalize hC : put a b n = C at *
      have hcs : C.size ≤ 9223372036854775807 := by have := HS.out; omega
      have hca : a.size ≤ C.size := by have := HS.out; omega
      have hcb : b.size ≤ C.size := by have := HS.out; omega
      have HC := Lib.hid hC
      clear hC
      obtain ⟨wx, hwx⟩ : ∃ wx : World, wx = w1.drewN nq := ⟨_, rfl⟩
      rw [← hwx]
      have HB2 : Hid (Below w.heap.size w wx) := by rw [hwx]; exact below_drewN HB1.out nq
      clear hwx HB1 HS
      by_cases hbig : 200 < C.size
      · have E1 : Hid (¬ diffErr a C = 0) := by show ¬ _; unfold diffErr; rw [if_pos (.inr hbig)]; decide
        have E2 : Hid (¬ diffErr C a = 0) := by show ¬ _; unfold diffErr; rw [if_pos (.inl hbig)]; decide
        have hdb : decide (200 < (C.size : Int)) = true := by simp; omega
        clear HCo
        go_wp2_with fail
        refine (HD.out _ _ _ (by omega) (by omega)).mono ?_
        intro e w2 hp
        unfold DiffPost at hp
        rw [if_neg E1.out] at hp
        obtain ⟨rfl, hb2⟩ := hp
        have HB3 : Hid (Below w.heap.size w w2) := HB2.out.trans (hb2.mono HB2.out.size)
        clear hb2 HB2
        rw [show errV 4 = .iface 97 (.int .i64 4) from rfl]
        go_wp2_with fail
        refine (HD.out _ _ _ (by omega) (by omega)).mono ?_
        intro e w3 hp
        unfold DiffPost at hp
        rw [if_neg E2.out] at hp
        obtain ⟨rfl, hb3⟩ := hp
        have HB4 : Hid (Below w.heap.size w w3) := HB3.out.trans (hb3.mono HB3.out.size)
        clear hb3 HB3
        rw [show errV 4 = .iface 97 (.int .i64 4) from rfl]
        go_wp2_with fail
        go_ret
        exact ⟨rfl, HB4.out⟩
      · have hE1 : diffErr a C = 0 := by unfold diffErr; rw [if_neg (by omega)]
        have hE2 : diffErr C a = 0 := by unfold diffErr; rw [if_neg (by omega)]
        have E1 := Lib.hid hE1
        have E2 := Lib.hid hE2
        have HK := Lib.hid (HCo.out (by omega))
        have M1 := Lib.hid (many_difL a C (by omega) (by omega))
        have M2 := Lib.hid (many_difL C a (by omega) (by omega))
        clear hE1 hE2 HCo
        go_wp2_with fail
        refine (HD.out _ _ _ (by omega) (by omega)).mono ?_
        intro e w2 hp
        unfold DiffPost at hp
        rw [if_pos E1.out] at hp
        obtain ⟨V, cv, rfl, hr1, hb2⟩ := hp
        have HR1 := Lib.hid hr1
        have HB3 : Hid (Below w.heap.size w w2) := HB2.out.trans (hb2.mono HB2.out.size)
        clear hr1 hb2 HB2
        go_wp2_with fail
        refine (HD.out _ _ _ (by omega) (by omega)).mono ?_
        intro e w3 hp
        unfold DiffPost at hp
        rw [if_pos E2.out] at hp
        obtain ⟨V2, cv2, rfl, hr2, hb3⟩ := hp
        have HR2 := Lib.hid hr2
        have HR1 := Lib.hid ((HR1.out.below hb3).more hb3.size)
        have HB4 : Hid (Below w.heap.size w w3) := HB3.out.trans (hb3.mono HB3.out.size)
        clear hr2 hb3 HB3
        have C1 : Hid (∀ w', Below w3.heap.size w3 w' → Calls Try.prog 26 #[.slice V (difL a C).length cv] w' (CheckPost w' (.int .i64 (b.size : Int)))) := fun w' hb => by
          have := cost_any w' V cv ((difL a C).map Df.Ed.L) (by rw [List.length_map]; exact (HR1.out.below hb).more hb.size) (by rw [List.length_map]; have := M1.out; omega) (by rw [HK.out.1]; omega)
          rw [HK.out.1, List.length_map] at this
          exact this
        have C2 : Hid (∀ w', Below w3.heap.size w3 w' → Calls Try.prog 26 #[.slice V2 (difL C a).length cv2] w' (CheckPost w' (.int .i64 (b.size : Int)))) := fun w' hb => by
          have := cost_any w' V2 cv2 ((difL C a).map Df.Ed.L) (by rw [List.length_map]; exact (HR2.out.below hb).more hb.size) (by rw [List.length_map]; have := M2.out; omega) (by rw [HK.out.2]; omega)
          rw [HK.out.2, List.length_map] at this
          exact this
        clear HR1 HR2 HK M1 M2 E1 E2
        generalize (difL a C).length = n1 at *
        generalize (difL C a).length = n2 at *
        go_wp2_with fail
        refine (C1.out _ (Below.refl _ _)).mono ?_
        rintro e w4 ⟨rfl, hb4⟩
        go_wp2_with fail
        refine (C2.out _ hb4).mono ?_
        rintro e w5 ⟨rfl, hb5⟩
        have HB5 : Hid (Below w.heap.size w w5) := HB4.out.trans ((hb4.trans (hb5.mono hb4.size)).mono HB4.out.size)
        clear hb4 hb5
        go_wp2_with fail
        go_ret
        exact ⟨by simp, HB5.out⟩
set_option maxRecDepth 100000 in
theorem lifted (os : Os) (started : os.Started) (H : Type) (enc : TypeId × Value → H) :
    ReturnsInHanded {} Try.checked os 5 .any (Rows.diffSameSpec.pre6 enc Try.prog Try.f5 Rows.diffSameRow.domain false) (Rows.diffSameSpec.post enc Try.prog Try.f5 false true false false) := by
  refine returnsInHanded_of_change_sized (C := Try.checked) Try.own started (by kernel_rfl) Try.func5
    (ChangeSpec.witness6 (enc := enc) (C := Try.checked) false ⟨#[], #[.string ⟨#[]⟩, .int .i64 0, .string ⟨#[]⟩], []⟩ 8 (by kernel_rfl) (by kernel_rfl) (by kernel_rfl) (by kernel_rfl)) ?_
  intro W base args ds gs before hval0 hW _ hsz0 _
  have hval : ∀ (j : Nat) t v, Try.f5.params[j]? = some t → args[j]? = some v → Value.okWide Try.prog W .any base t v := hval0
  obtain ⟨p, q, hA0, _⟩ := id hW
  have hA : DataW.TrodAll enc Try.prog W 0 (fun _ => true) true Try.f5.params.toList args.toList ds p := hA0
  have hsz : (DataW.weightsEach Try.prog (Try.f5.params.toList ++ Rows.diffSameSpec.plain.varTypes Try.prog) (ds ++ gs)).all (· ≤ reachBytes) = true := hsz0
  rw [Try.params5] at hA hval hsz
  obtain ⟨v0, v1, v2, d0, d1, d2, p0, p1, p2, rfl, rfl, rfl, h0, h1, h2⟩ := trodAll_three hA
  obtain ⟨a0, rfl, rfl, rfl, wa0⟩ := open_string Try.underlying9 (hval 0 9 v0 rfl rfl) h0
  obtain ⟨a1, rfl, rfl, rfl, wa1⟩ := open_int Try.underlying3 (hval 1 3 v1 rfl rfl) h1
  obtain ⟨a2, rfl, rfl, rfl, wa2⟩ := open_string Try.underlying9 (hval 2 9 v2 rfl rfl) h2
  refine (walk W a0 a1 a2 (by have h := sized_string hsz (j := 0) (t := 9) rfl rfl; rw [Array.length_toList] at h; exact h) (by have h := sized_string hsz (j := 2) (t := 9) rfl rfl; rw [Array.length_toList] at h; exact h)).mono fun e W' ⟨he, hb⟩ => ⟨_, he, ?_⟩
  exact law_post Try.laidOut (tb := 4) (by kernel_rfl) Try.underlying4 (by rw [Try.params5]; simp only [List.mem_cons, List.not_mem_nil, or_false]; rintro t (rfl | rfl | rfl) <;> exact ⟨by kernel_rfl, of_decide_eq_true (by kernel_rfl)⟩) rfl rfl hW hb

theorem holds : Rows.DiffSameSaid :=
  OpenClaim.holds_of_wide 5 Try.f5 rfl rfl rfl rfl rfl rfl rfl ⟨rfl, rfl, rfl, rfl, rfl⟩ rfl rfl rfl rfl rfl (by kernel_rfl) Try.func5 (by kernel_rfl)
    (of_decide_eq_true (by kernel_rfl)) (by unfold Func.isWrapper; first | (rw [if_pos (by decide +kernel)]; kernel_rfl) | (rw [if_neg (by decide +kernel)]; exact ⟨rfl, rfl⟩))
    (fun os started H enc _ => lifted os started H enc)
#print axioms holds

end lawDiffSame
end Go.Proofs.Ytgninfpdomcobaa
