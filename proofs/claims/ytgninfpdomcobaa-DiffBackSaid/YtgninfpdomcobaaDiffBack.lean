/- THERE AND BACK: the law DiffBack answers true. Conditions: none. -/
import Derived.Test.YtgninfpdomcobaaDiffSame
namespace Go.Proofs.Ytgninfpdomcobaa
open Go.RowKit Go.WideShapes Go.ChangeShapes Go.ChangeAt
open Go.ChangeMaps (open_string)
set_option linter.unusedVariables false
namespace lawDiffBack

theorem list_len (a : ByteArray) : a.data.toList.length = a.size := by rw [Array.length_toList]; rfl
theorem sumW_costL (l : List LEd) : sumW l ≤ costL l := by
  induction l with
  | nil => simp [sumW, costL]
  | cons e l ih =>
    simp only [sumW, costL, List.map_cons, List.sum_cons, LEd.cost] at ih ⊢
    omega
theorem sumW_back {a s : List UInt8} {l bk : List LEd} (h : wk a l = some (s, bk)) : sumW bk ≤ a.length := by
  induction l generalizing a s bk with
  | nil => simp [wk] at h; obtain ⟨rfl, rfl⟩ := h; simp [sumW]
  | cons e l ih =>
    rw [wk] at h
    split at h
    · cases h
    · rw [Option.map_eq_some_iff] at h
      obtain ⟨⟨s', bk'⟩, h1, h2⟩ := h
      injection h2 with h2 h3
      subst h3
      have := ih h1
      rw [List.length_drop] at this
      simp only [sumW, List.map_cons, List.sum_cons] at this ⊢
      simp only [edBack, strOf_size, List.length_drop, List.length_take]
      omega
def xs (a b : ByteArray) : List LEd := (difL a b).map Df.Ed.L
theorem xs_len (a b : ByteArray) (ha : a.size ≤ 200) (hb : b.size ≤ 200) : (xs a b).length ≤ 134 := by
  unfold xs
  rw [List.length_map]
  exact many_difL a b ha hb
theorem xs_cost (a b : ByteArray) (ha : a.size ≤ 200) : costL (xs a b) + 2 * Df.lcs a.data.toList b.data.toList = a.size + b.size := costL_dif a b ha
theorem xs_wk (a b : ByteArray) : ∃ bk, wk a.data.toList (xs a b) = some (b.data.toList, bk) := by
  obtain ⟨bk, h⟩ := wk_dif ⟨0, 0, []⟩ a.data.toList b.data.toList [] [] rfl rfl
  exact ⟨bk, by simpa [xs, difL] using h⟩
structure Facts (a b : ByteArray) : Prop where
  err : wkErr a (xs a b) = 0
  out : strOf (wkOut a (xs a b)) = b
  berr : wkErr b (wkBack a (xs a b)) = 0
  bout : strOf (wkOut b (wkBack a (xs a b))) = a
  blen : (wkBack a (xs a b)).length ≤ 134
  sum : sumW (xs a b) ≤ 400
  bsum : sumW (wkBack a (xs a b)) ≤ 200
  len : (xs a b).length ≤ 134
theorem strOf_data (b : ByteArray) : strOf b.data.toList = b := by
  apply ByteArray.ext
  simp [strOf]
theorem facts (a b : ByteArray) (ha : a.size ≤ 200) (hb : b.size ≤ 200) : Facts a b := by
  obtain ⟨bk, h⟩ := xs_wk a b
  have hl := xs_len a b ha hb
  have hbl := wk_len h
  have hs := sumW_back h
  have hc := xs_cost a b ha
  have hsc := sumW_costL (xs a b)
  obtain ⟨r, hr⟩ := wk_turn h
  have hal := list_len a
  have hbl2 := list_len b
  have hback : wkBack a (xs a b) = bk := by unfold wkBack; rw [h]
  refine ⟨?_, ?_, ?_, ?_, ?_, by omega, ?_, hl⟩
  · unfold wkErr; rw [if_neg (by omega), h]; show (if 200 < b.data.toList.length then _ else _) = _; rw [if_neg (by omega)]
  · unfold wkOut; rw [h]; exact strOf_data b
  · rw [hback]; unfold wkErr; rw [if_neg (by omega), hr]; show (if 200 < a.data.toList.length then _ else _) = _; rw [if_neg (by omega)]
  · rw [hback]; unfold wkOut; rw [hr]; exact strOf_data a
  · rw [hback]; omega
  · rw [hback]; omega
theorem tri (a b c : ByteArray) (ha : a.size ≤ 200) (hb : b.size ≤ 200) : costL (xs a c) ≤ costL (xs a b) + costL (xs b c) := by
  have h1 := xs_cost a b ha
  have h2 := xs_cost b c hb
  have h3 := xs_cost a c ha
  have h4 := Df.lcs_tri a.data.toList b.data.toList c.data.toList
  rw [list_len b] at h4
  omega
theorem xs_same (a : ByteArray) : (xs a a).length = 0 := by unfold xs difL; rw [Df.dif_same _ rfl]; rfl
def cat : ByteArray := ⟨#[99, 97, 116]⟩
def cart : ByteArray := ⟨#[99, 97, 114, 116]⟩
theorem cat_cost : costL (xs cat cart) = 1 := by
  have h := xs_cost cat cart (by decide)
  have h2 : Df.lcs cat.data.toList cart.data.toList = 3 := by
    show Df.lcs [99, 97, 116] [99, 97, 114, 116] = 3
    rw [Df.lcs_same, Df.lcs_same, Df.lcs_other (by decide), Df.lcs_same, Df.lcs_nil, Df.lcs_nil]
    rfl
  have h3 : cat.size = 3 := rfl
  have h4 : cart.size = 4 := rfl
  omega

def OkPost (w : World) (a b : ByteArray) (e : Ending) (w' : World) : Prop :=
  ∃ V c, e = .returned (.tuple #[.slice V (xs a b).length c, .nilIface]) ∧ Reads w' w'.heap.size 3 V (xs a b).length (ecells (xs a b)) ∧ Below w.heap.size w w'
theorem diff_ok (w : World) (a b : ByteArray) (ha : a.size ≤ 200) (hb : b.size ≤ 200) : Calls Try.prog 25 #[.string a, .string b] w (OkPost w a b) := by
  refine (diff_any w a b (by omega) (by omega)).mono ?_
  intro e w' hp
  unfold DiffPost at hp
  rw [if_pos (by unfold diffErr; rw [if_neg (by omega)])] at hp
  obtain ⟨V, c, rfl, hr, hb⟩ := hp
  exact ⟨V, c, by unfold xs; rw [List.length_map], by unfold xs; rw [List.length_map]; exact hr, hb⟩
def NoPost (w : World) (e : Ending) (w' : World) : Prop := e = .returned (.tuple #[.slice none 0 0, .iface 97 (.int .i64 4)]) ∧ Below w.heap.size w w'
theorem diff_no (w : World) (a b : ByteArray) (ha : a.size ≤ 9223372036854775807) (hb : b.size ≤ 9223372036854775807) (h : 200 < a.size ∨ 200 < b.size) : Calls Try.prog 25 #[.string a, .string b] w (NoPost w) := by
  refine (diff_any w a b ha hb).mono ?_
  intro e w' hp
  unfold DiffPost at hp
  rw [if_neg (by unfold diffErr; rw [if_pos h]; decide)] at hp
  exact hp
theorem cost_at (w : World) (V : Option Addr) (c : Nat) (l : List LEd) (h : Reads w w.heap.size 3 V l.length (ecells l)) (hn : l.length ≤ 134) (hc : costL l ≤ 1000) : Calls Try.prog 26 #[.slice V l.length c] w (CheckPost w (.int .i64 (costL l : Int))) :=
  cost_any w V c l h (by omega) (by omega)
/-- Whatever the texts: edits or an error. -/
def EitherPost (w : World) (a b : ByteArray) (e : Ending) (w' : World) : Prop :=
  (∃ V n c E, e = .returned (.tuple #[.slice V n c, E]) ∧ (E = .nilIface ∧ a.size ≤ 200 ∧ b.size ≤ 200 ∨ E = .iface 97 (.int .i64 4))) ∧ Below w.heap.size w w'
theorem diff_either (w : World) (a b : ByteArray) (ha : a.size ≤ 9223372036854775807) (hb : b.size ≤ 9223372036854775807) : Calls Try.prog 25 #[.string a, .string b] w (EitherPost w a b) := by
  by_cases h : 200 < a.size ∨ 200 < b.size
  · refine (diff_no w a b ha hb h).mono ?_
    rintro e w' ⟨rfl, hb⟩
    exact ⟨⟨_, _, _, _, rfl, .inr rfl⟩, hb⟩
  · refine (diff_ok w a b (by omega) (by omega)).mono ?_
    rintro e w' ⟨V, c, rfl, _, hb⟩
    exact ⟨⟨_, _, _, _, rfl, .inl ⟨rfl, by omega, by omega⟩⟩, hb⟩

set_option maxRecDepth 100000 in
set_option maxHeartbeats 4000000 in
theorem walk_no (w : World) (a b c : ByteArray) (ha : a.size ≤ 9223372036854775807) (hb : b.size ≤ 9223372036854775807) (hc : c.size ≤ 9223372036854775807) (h : ¬ (a.size ≤ 200 ∧ b.size ≤ 200 ∧ c.size ≤ 200)) :
    Calls Try.prog 6 #[.string a, .string b, .string c] w (CheckPost w (.bool true)) := by
  have H0 := Lib.hid (diff_ok w cat cart (by decide) (by decide))
  have L0 := Lib.hid (xs_len cat cart (by decide) (by decide))
  have C0 := Lib.hid cat_cost
  have H := Lib.hid h
  have HD1 := Lib.hid (fun w => diff_either w a b ha hb)
  have HD2 := Lib.hid (fun w => diff_either w b c hb hc)
  have HD3 := Lib.hid (fun w => diff_either w a c ha hc)
  clear h ha hb hc
  go_enter Try.func6, Try.ntmps6
  go_wp2_with fail
  refine H0.out.mono ?_
  rintro e w1 ⟨V0, c0, rfl, hr0, hb0⟩
  have HC0 := Lib.hid (cost_at w1 V0 c0 (xs cat cart) hr0 L0.out (by rw [C0.out]; omega))
  generalize (xs cat cart).length = n0 at *
  have HB1 := Lib.hid hb0
  clear hr0 hb0
  go_wp2_with fail
  refine HC0.out.mono ?_
  rintro e w2 ⟨rfl, hb2⟩
  rw [C0.out]
  have HB2 : Hid (Below w.heap.size w w2) := HB1.out.trans (hb2.mono HB1.out.size)
  clear hb2 HB1
  go_wp2_with fail
  refine (HD1.out _).mono ?_
  rintro e w3 ⟨⟨V1, n1, c1, E1, rfl, hE1⟩, hb3⟩
  have HB3 : Hid (Below w.heap.size w w3) := HB2.out.trans (hb3.mono HB2.out.size)
  clear hb3 HB2
  rcases hE1 with ⟨rfl, hE1⟩ | rfl
  all_goals
    go_wp2_with fail
    refine (HD2.out _).mono ?_
    rintro e w4 ⟨⟨V2, n2, c2, E2, rfl, hE2⟩, hb4⟩
    have HB4 : Hid (Below w.heap.size w w4) := HB3.out.trans (hb4.mono HB3.out.size)
    clear hb4 HB3
    rcases hE2 with ⟨rfl, hE2⟩ | rfl
    all_goals
      go_wp2_with fail
      refine (HD3.out _).mono ?_
      rintro e w5 ⟨⟨V3, n3, c3, E3, rfl, hE3⟩, hb5⟩
      have HB5 : Hid (Below w.heap.size w w5) := HB4.out.trans (hb5.mono HB4.out.size)
      clear hb5 HB4
      rcases hE3 with ⟨rfl, hE3⟩ | rfl
      all_goals first
        | (go_wp2_with fail
           go_ret
           exact ⟨rfl, HB5.out⟩)
        | (exact absurd ⟨hE1.1, hE1.2, hE2.2⟩ H.out)

set_option maxRecDepth 100000 in
set_option maxHeartbeats 4000000 in
theorem walk_ok (w : World) (a b c : ByteArray) (h1 : a.size ≤ 200) (h2 : b.size ≤ 200) (h3 : c.size ≤ 200) :
    Calls Try.prog 6 #[.string a, .string b, .string c] w (CheckPost w (.bool true)) := by
  have H0 := Lib.hid (diff_ok w cat cart (by decide) (by decide))
  have L0 := Lib.hid (xs_len cat cart (by decide) (by decide))
  have C0 := Lib.hid cat_cost
  have F := Lib.hid (facts a b h1 h2)
  have T := Lib.hid (tri a b c h1 h2)
  have K1 := Lib.hid (xs_cost a b h1)
  have K2 := Lib.hid (xs_cost b c h2)
  have K3 := Lib.hid (xs_cost a c h1)
  have M2 := Lib.hid (xs_len b c h2 h3)
  have M3 := Lib.hid (xs_len a c h1 h3)
  have S := Lib.hid (xs_same a)
  have HD1 := Lib.hid (fun w => diff_ok w a b h1 h2)
  have HD2 := Lib.hid (fun w => diff_ok w b c h2 h3)
  have HD3 := Lib.hid (fun w => diff_ok w a c h1 h3)
  have HD4 := Lib.hid (fun w => diff_ok w a a h1 h1)
  go_enter Try.func6, Try.ntmps6
  go_wp2_with fail
  refine H0.out.mono ?_
  rintro e w1 ⟨V0, c0, rfl, hr0, hb0⟩
  have HC0 := Lib.hid (cost_at w1 V0 c0 (xs cat cart) hr0 L0.out (by rw [C0.out]; omega))
  generalize (xs cat cart).length = n0 at *
  have HB1 := Lib.hid hb0
  clear hr0 hb0
  go_wp2_with fail
  refine HC0.out.mono ?_
  rintro e w2 ⟨rfl, hb2⟩
  rw [C0.out]
  have HB2 : Hid (Below w.heap.size w w2) := HB1.out.trans (hb2.mono HB1.out.size)
  clear hb2 HB1
  go_wp2_with fail
  refine (HD1.out _).mono ?_
  rintro e w3 ⟨V1, c1, rfl, hr1, hb3⟩
  have HR1 := Lib.hid hr1
  have HB3 : Hid (Below w.heap.size w w3) := HB2.out.trans (hb3.mono HB2.out.size)
  clear hb3 HB2 hr1
  go_wp2_with fail
  refine (HD2.out _).mono ?_
  rintro e w4 ⟨V2, c2, rfl, hr2, hb4⟩
  have HR2 := Lib.hid hr2
  have HR1 := Lib.hid ((HR1.out.below hb4).more hb4.size)
  have HB4 : Hid (Below w.heap.size w w4) := HB3.out.trans (hb4.mono HB3.out.size)
  clear hb4 HB3 hr2
  go_wp2_with fail
  refine (HD3.out _).mono ?_
  rintro e w5 ⟨V3, c3, rfl, hr3, hb5⟩
  have HR3 := Lib.hid hr3
  have HR1 := Lib.hid ((HR1.out.below hb5).more hb5.size)
  have HR2 := Lib.hid ((HR2.out.below hb5).more hb5.size)
  have HB5 : Hid (Below w.heap.size w w5) := HB4.out.trans (hb5.mono HB4.out.size)
  clear hb5 HB4 hr3
  go_wp2_with fail
  refine (apply_any _ a V1 c1 (xs a b) HR1.out (by omega) (by have := F.out.len; omega) (by have := F.out.sum; omega)).mono ?_
  rintro e w6 ⟨rfl, hb6⟩
  rw [F.out.err, if_pos rfl, F.out.out, show errV 0 = .nilIface from rfl]
  have HR1 := Lib.hid ((HR1.out.below hb6).more hb6.size)
  have HR2 := Lib.hid ((HR2.out.below hb6).more hb6.size)
  have HR3 := Lib.hid ((HR3.out.below hb6).more hb6.size)
  have HB6 : Hid (Below w.heap.size w w6) := HB5.out.trans (hb6.mono HB5.out.size)
  clear hb6 HB5
  go_wp2_with fail
  refine (turn_any _ a V1 c1 (xs a b) HR1.out (by omega) (by have := F.out.len; omega) (by have := F.out.sum; omega)).mono ?_
  intro e w7 hp
  unfold TurnPost at hp
  rw [if_pos F.out.err] at hp
  obtain ⟨V4, c4, rfl, hr4, hb7⟩ := hp
  have HR4 := Lib.hid hr4
  have HR1 := Lib.hid ((HR1.out.below hb7).more hb7.size)
  have HR2 := Lib.hid ((HR2.out.below hb7).more hb7.size)
  have HR3 := Lib.hid ((HR3.out.below hb7).more hb7.size)
  have HB7 : Hid (Below w.heap.size w w7) := HB6.out.trans (hb7.mono HB6.out.size)
  clear hb7 HB6 hr4
  go_wp2_with fail
  refine (apply_any _ b V4 c4 (wkBack a (xs a b)) HR4.out (by omega) (by have := F.out.blen; omega) (by have := F.out.bsum; omega)).mono ?_
  rintro e w8 ⟨rfl, hb8⟩
  rw [F.out.berr, if_pos rfl, F.out.bout, show errV 0 = .nilIface from rfl]
  have HR1 := Lib.hid ((HR1.out.below hb8).more hb8.size)
  have HR2 := Lib.hid ((HR2.out.below hb8).more hb8.size)
  have HR3 := Lib.hid ((HR3.out.below hb8).more hb8.size)
  have HB8 : Hid (Below w.heap.size w w8) := HB7.out.trans (hb8.mono HB7.out.size)
  clear hb8 HB7 HR4
  go_wp2_with fail
  refine (HD4.out _).mono ?_
  rintro e w9 ⟨V5, c5, rfl, hr5, hb9⟩
  rw [S.out]
  have HR1 := Lib.hid ((HR1.out.below hb9).more hb9.size)
  have HR2 := Lib.hid ((HR2.out.below hb9).more hb9.size)
  have HR3 := Lib.hid ((HR3.out.below hb9).more hb9.size)
  have HB9 : Hid (Below w.heap.size w w9) := HB8.out.trans (hb9.mono HB8.out.size)
  clear hb9 HB8 hr5
  go_wp2_with fail
  refine (cost_at _ V3 c3 (xs a c) HR3.out M3.out (by have := K3.out; omega)).mono ?_
  rintro e w10 ⟨rfl, hb10⟩
  have HR1 := Lib.hid ((HR1.out.below hb10).more hb10.size)
  have HR2 := Lib.hid ((HR2.out.below hb10).more hb10.size)
  have HB10 : Hid (Below w.heap.size w w10) := HB9.out.trans (hb10.mono HB9.out.size)
  clear hb10 HB9 HR3
  go_wp2_with fail
  refine (cost_at _ V1 c1 (xs a b) HR1.out F.out.len (by have := K1.out; omega)).mono ?_
  rintro e w11 ⟨rfl, hb11⟩
  have HR2 := Lib.hid ((HR2.out.below hb11).more hb11.size)
  have HB11 : Hid (Below w.heap.size w w11) := HB10.out.trans (hb11.mono HB10.out.size)
  clear hb11 HB10 HR1
  go_wp2_with fail
  refine (cost_at _ V2 c2 (xs b c) HR2.out M2.out (by have := K2.out; omega)).mono ?_
  rintro e w12 ⟨rfl, hb12⟩
  have HB12 : Hid (Below w.heap.size w w12) := HB11.out.trans (hb12.mono HB11.out.size)
  clear hb12 HB11 HR2
  have t1 := T.out
  have t2 := K1.out
  have t3 := K2.out
  have t4 := K3.out
  have u1 : costL (xs a b) ≤ 400 := by omega
  have u2 : costL (xs b c) ≤ 400 := by omega
  have u3 : costL (xs a c) ≤ 400 := by omega
  clear t2 t3 t4
  generalize costL (xs a b) = q1 at *
  generalize costL (xs b c) = q2 at *
  generalize costL (xs a c) = q3 at *
  have t5 : (q3 : Int) ≤ (q1 : Int) + (q2 : Int) := by omega
  go_wp2_with fail
  go_ret
  exact ⟨by simp, HB12.out⟩

theorem walk (w : World) (a b c : ByteArray) (ha : a.size ≤ 9223372036854775807) (hb : b.size ≤ 9223372036854775807) (hc : c.size ≤ 9223372036854775807) :
    Calls Try.prog 6 #[.string a, .string b, .string c] w (CheckPost w (.bool true)) := by
  by_cases h : a.size ≤ 200 ∧ b.size ≤ 200 ∧ c.size ≤ 200
  · exact walk_ok w a b c h.1 h.2.1 h.2.2
  · exact walk_no w a b c ha hb hc h
set_option maxRecDepth 100000 in
theorem lifted (os : Os) (started : os.Started) (H : Type) (enc : TypeId × Value → H) :
    ReturnsInHanded {} Try.checked os 6 .any (Rows.diffBackSpec.pre6 enc Try.prog Try.f6 Rows.diffBackRow.domain false) (Rows.diffBackSpec.post enc Try.prog Try.f6 false true false false) := by
  refine returnsInHanded_of_change (C := Try.checked) Try.own started (by kernel_rfl) Try.func6
    (ChangeSpec.witness6 (enc := enc) (C := Try.checked) false ⟨#[], #[.string ⟨#[]⟩, .string ⟨#[]⟩, .string ⟨#[]⟩], []⟩ 8 (by kernel_rfl) (by kernel_rfl) (by kernel_rfl) (by kernel_rfl)) ?_
  intro W base args ds gs before hval0 hW _ _
  have hval : ∀ (j : Nat) t v, Try.f6.params[j]? = some t → args[j]? = some v → Value.okWide Try.prog W .any base t v := hval0
  obtain ⟨p, q, hA0, _⟩ := id hW
  have hA : DataW.TrodAll enc Try.prog W 0 (fun _ => true) true Try.f6.params.toList args.toList ds p := hA0
  rw [Try.params6] at hA hval
  obtain ⟨v0, v1, v2, d0, d1, d2, p0, p1, p2, rfl, rfl, rfl, h0, h1, h2⟩ := trodAll_three hA
  obtain ⟨a0, rfl, rfl, rfl, wa0⟩ := open_string Try.underlying9 (hval 0 9 v0 rfl rfl) h0
  obtain ⟨a1, rfl, rfl, rfl, wa1⟩ := open_string Try.underlying9 (hval 1 9 v1 rfl rfl) h1
  obtain ⟨a2, rfl, rfl, rfl, wa2⟩ := open_string Try.underlying9 (hval 2 9 v2 rfl rfl) h2
  refine (walk W a0 a1 a2 (by unfold maxLen at wa0; exact wa0) (by unfold maxLen at wa1; exact wa1) (by unfold maxLen at wa2; exact wa2)).mono fun e W' ⟨he, hb⟩ => ⟨_, he, ?_⟩
  exact law_post Try.laidOut (tb := 4) (by kernel_rfl) Try.underlying4 (by rw [Try.params6]; simp only [List.mem_cons, List.not_mem_nil, or_false]; rintro t (rfl | rfl | rfl) <;> exact ⟨by kernel_rfl, of_decide_eq_true (by kernel_rfl)⟩) rfl rfl hW hb

theorem holds : Rows.DiffBackSaid :=
  OpenClaim.holds_of_wide 6 Try.f6 rfl rfl rfl rfl rfl rfl rfl ⟨rfl, rfl, rfl, rfl, rfl⟩ rfl rfl rfl rfl rfl (by kernel_rfl) Try.func6 (by kernel_rfl)
    (of_decide_eq_true (by kernel_rfl)) (by unfold Func.isWrapper; first | (rw [if_pos (by decide +kernel)]; kernel_rfl) | (rw [if_neg (by decide +kernel)]; exact ⟨rfl, rfl⟩))
    (fun os started H enc _ => lifted os started H enc)
#print axioms holds

end lawDiffBack
end Go.Proofs.Ytgninfpdomcobaa
