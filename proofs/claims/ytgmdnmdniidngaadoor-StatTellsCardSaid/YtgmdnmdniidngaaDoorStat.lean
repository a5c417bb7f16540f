/- stat.Runs, walked; runs as plain data. Conditions: the book is right. -/
import Derived.Deep.CutBlock
import Derived.Test.YtgmdnmdniidngaaDoorBookLaw
import Derived.Test.YtgmdnmdniidngaaDoorBookText
import Derived.Test.YtgmdnmdniidngaaDoorPlaceWho
import Derived.Test.YtgmdnmdniidngaaDoorSmall
import Derived.Test.YtgmdnmdniidngaaDoorVecAdd
namespace Go.Proofs.YtgmdnmdniidngaaDoor
open Go.RowKit
set_option linter.unusedVariables false
abbrev Run := Int × Int
def rcells (l : List Run) : List Value := l.flatMap fun x => [.int .i64 x.1, .int .i64 x.2]
theorem rcells_len (l : List Run) : (rcells l).length = l.length * 2 := by
  induction l with
  | nil => rfl
  | cons x l ih => rw [rcells, List.flatMap_cons, List.length_append, ← rcells, ih]; simp; omega
theorem rcells_at (l : List Run) (k r : Nat) (hk : k < l.length) (hr : r < 2) : (rcells l)[k * 2 + r]? = [Value.int .i64 l[k].1, .int .i64 l[k].2][r]? := by
  induction l generalizing k with
  | nil => simp at hk
  | cons x l ih =>
    rw [rcells, List.flatMap_cons, ← rcells]
    cases k with
    | zero => simp only [List.getElem_cons_zero]; rw [List.getElem?_append_left (by simp; omega)]; simp
    | succ k =>
      rw [List.getElem?_append_right (by simp; omega)]
      have := ih k (by simpa using hk)
      simp only [List.getElem_cons_succ]
      rw [← this]
      congr 1
      simp; omega
theorem rcells_app (a b : List Run) : rcells (a ++ b) = rcells a ++ rcells b := by simp [rcells]
theorem oneCells_r (l : List Run) : OneCells (rcells l) := by
  intro u hu
  simp only [rcells, List.mem_flatMap] at hu
  obtain ⟨x, _, hu⟩ := hu
  simp at hu
  rcases hu with rfl | rfl <;> rfl
theorem rcells_set (l : List Run) (k : Nat) (hk : k < l.length) (n : Int) : (rcells l).set (k * 2 + 1) (.int .i64 n) = rcells (l.set k (l[k].1, n)) := by
  apply List.ext_getElem?
  intro i
  by_cases hi : i < l.length * 2
  · have hd : i / 2 < l.length := by omega
    have hi2 : i = i / 2 * 2 + i % 2 := by omega
    rw [List.getElem?_set]
    have hl2 : (l.set k (l[k].1, n)).length = l.length := by simp
    have e2 := rcells_at (l.set k (l[k].1, n)) (i / 2) (i % 2) (by rw [hl2]; exact hd) (by omega)
    rw [← hi2] at e2
    have e1 := rcells_at l (i / 2) (i % 2) hd (by omega)
    rw [← hi2] at e1
    rw [e2, List.getElem_set]
    by_cases hk2 : k = i / 2
    · subst hk2
      rw [if_pos rfl]
      by_cases hm : i / 2 * 2 + 1 = i
      · rw [if_pos hm, if_pos (by rw [rcells_len]; omega), show i % 2 = 1 by omega]
        rfl
      · rw [if_neg hm, e1, show i % 2 = 0 by omega]
        rfl
    · rw [if_neg hk2, if_neg (by omega), e1]
  · rw [List.getElem?_eq_none (by rw [List.length_set, rcells_len]; omega), List.getElem?_eq_none (by rw [rcells_len]; simp; omega)]
theorem elemR : Elem Tryd.prog 24 27 2 16 := Elem.mk_ (z := .agg #[.int .i64 0, .int .i64 0]) Tryd.underlying24 (by kernel_rfl) rfl (by decide)
/-- The author of a place. -/
def whoP (p : ByteArray) : Int := (byteAt p (p.size - 1) : Int) - 97
/-- A letter more of an author. -/
def runAdd (out : List Run) (who : Int) : List Run :=
  match out.getLast? with
  | some x => if x.1 = who then out.set (out.length - 1) (x.1, x.2 + 1) else out ++ [(who, 1)]
  | none => out ++ [(who, 1)]
def runsOf (l : List LLeaf) : List Run := l.foldl (fun out x => if seenB x = true then runAdd out (whoP x.place) else out) []
theorem runsOf_take {l : List LLeaf} {k : Nat} (h : k < l.length) : runsOf (l.take (k + 1)) = if seenB l[k] = true then runAdd (runsOf (l.take k)) (whoP l[k].place) else runsOf (l.take k) := by
  unfold runsOf
  rw [List.take_succ_eq_append_getElem h, List.foldl_append]
  rfl
theorem runAdd_len (out : List Run) (who : Int) : (runAdd out who).length ≤ out.length + 1 := by
  unfold runAdd
  split
  · split <;> simp
  · simp
theorem runsOf_len (l : List LLeaf) : (runsOf l).length ≤ l.length := by
  have key : ∀ (l : List LLeaf) (out : List Run), (l.foldl (fun out x => if seenB x = true then runAdd out (whoP x.place) else out) out).length ≤ out.length + l.length := by
    intro l
    induction l with
    | nil => simp
    | cons x l ih =>
      intro out
      rw [List.foldl_cons]
      have := ih (if seenB x = true then runAdd out (whoP x.place) else out)
      have h2 : (if seenB x = true then runAdd out (whoP x.place) else out).length ≤ out.length + 1 := by
        split
        · exact runAdd_len _ _
        · omega
      simp; omega
  have := key l []
  simpa [runsOf] using this

theorem textL_cons' (x : LLeaf) (l : List LLeaf) : textL (x :: l) = (if seenB x = true then [u8 x.letter] else []) ++ textL l := by
  unfold textL
  rw [List.filter_cons]
  split <;> simp
def runSum (l : List Run) : Int := (l.map Prod.snd).sum
theorem runAdd_sum (out : List Run) (who : Int) : runSum (runAdd out who) = runSum out + 1 := by
  unfold runAdd
  split
  · rename_i x hx
    split
    · obtain ⟨l', rfl⟩ : ∃ l', out = l' ++ [x] := by
        have := List.getLast?_eq_some_iff.1 hx
        obtain ⟨l', h⟩ := this
        exact ⟨l', h⟩
      simp [runSum]
      omega
    · simp [runSum]
  · simp [runSum]
theorem runsOf_sum (l : List LLeaf) : runSum (runsOf l) = ((textL l).length : Int) := by
  have key : ∀ (l : List LLeaf) (out : List Run), runSum (l.foldl (fun out x => if seenB x = true then runAdd out (whoP x.place) else out) out) = runSum out + ((textL l).length : Int) := by
    intro l
    induction l with
    | nil => intro out; simp [textL]
    | cons x l ih =>
      intro out
      rw [List.foldl_cons, ih, textL_cons']
      by_cases h : seenB x = true
      · rw [if_pos h, if_pos h, runAdd_sum]; simp; omega
      · rw [if_neg h, if_neg h]; simp
  have := key l []
  simpa [runsOf, runSum] using this
/-- Rounds of Runs. -/
def RunsLoop (w : World) (l : List LLeaf) (v i : Value) (wr : World) : Prop :=
  ∃ (k cv : Nat) (V : Option Addr), k ≤ l.length ∧ i = .int .i64 k ∧ v = .slice V (runsOf (l.take k)).length cv ∧ Hid (Own wr w.heap.size 27 2 V (runsOf (l.take k)).length cv (rcells (runsOf (l.take k)))) ∧ Hid (Below w.heap.size w wr)
def RunsPost (w : World) (l : List LLeaf) (e : Ending) (w' : World) : Prop :=
  ∃ V c, e = .returned (.tuple #[.slice V (runsOf l).length c, .nilIface]) ∧ Own w' w.heap.size 27 2 V (runsOf l).length c (rcells (runsOf l)) ∧ Below w.heap.size w w'
theorem whoP_place {p : ByteArray} (h : placeErr p = 0) : ((byteAt p (p.size - 1) - 97 : Nat) : Int) = whoP p ∧ 1 ≤ whoP p ∧ whoP p ≤ 8 := by
  obtain ⟨h1, h2, h3⟩ := okPlace h
  have := h3.2.1
  have := h3.2.2.1
  unfold whoP
  omega
/-- The last of some runs. -/
theorem runAdd_cases (out : List Run) (who : Int) : (out.length = 0 ∧ runAdd out who = out ++ [(who, 1)]) ∨ (∃ k, ∃ hk : k < out.length, out.length = k + 1 ∧ ((out[k].1 = who ∧ runAdd out who = out.set k (out[k].1, out[k].2 + 1)) ∨ (out[k].1 ≠ who ∧ runAdd out who = out ++ [(who, 1)]))) := by
  rcases List.eq_nil_or_concat out with rfl | ⟨l', x, rfl⟩
  · exact .inl ⟨rfl, rfl⟩
  · refine .inr ⟨l'.length, by simp, by simp, ?_⟩
    have e : (l'.concat x).getLast? = some x := by simp
    unfold runAdd
    rw [e]
    simp only
    by_cases hx : x.1 = who
    · rw [if_pos hx]; exact .inl ⟨by simpa using hx, by simp⟩
    · rw [if_neg hx]; exact .inr ⟨by simpa using hx, rfl⟩
theorem run_le (l : List LLeaf) : ∀ x ∈ runsOf l, 1 ≤ x.2 ∧ x.2 ≤ l.length := by
  have key : ∀ (l : List LLeaf) (out : List Run) (n : Nat), (∀ x ∈ out, 1 ≤ x.2 ∧ x.2 ≤ n) → ∀ x ∈ l.foldl (fun out x => if seenB x = true then runAdd out (whoP x.place) else out) out, 1 ≤ x.2 ∧ x.2 ≤ ((n + l.length : Nat) : Int) := by
    intro l
    induction l with
    | nil => intro out n h x hx; exact h x hx
    | cons y l ih =>
      intro out n h x hx
      rw [List.foldl_cons] at hx
      have := ih _ (n + 1) (fun z hz => ?_) x hx
      · simp only [List.length_cons]; omega
      · split at hz
        · rcases runAdd_cases out (whoP y.place) with ⟨_, e⟩ | ⟨k, hk, _, ⟨_, e⟩ | ⟨_, e⟩⟩
          · rw [e] at hz
            rcases List.mem_append.1 hz with hz | hz
            · have := h z hz; omega
            · simp at hz; subst hz; simp; omega
          · rw [e] at hz
            rcases List.mem_or_eq_of_mem_set hz with hz | rfl
            · have := h z hz; omega
            · have := h _ (List.getElem_mem hk); simp only; omega
          · rw [e] at hz
            rcases List.mem_append.1 hz with hz | hz
            · have := h z hz; omega
            · simp at hz; subst hz; simp; omega
        · have := h z hz; omega
  have := key l [] 0 (by simp)
  simpa [runsOf] using this
set_option maxRecDepth 100000 in
set_option maxHeartbeats 8000000 in
theorem runs_any (w : World) (A : Option Addr) (c : Nat) (l : List LLeaf) (h : Reads w w.heap.size 3 A l.length (lcells l)) (hb : BookOk l) :
    Calls Tryd.prog 13 #[.slice A l.length c] w (RunsPost w l) := by
  have HR := Lib.hid h
  have HBO := Lib.hid hb
  have hfew := hb.few
  have HE0 : errV 0 = .nilIface := rfl
  have HS := Lib.hid (fun w x => seen_any w x)
  have HCK : Hid (Calls _ _ _ _ _) := bookCheck_any w A c l h (fun x hx => by have := place_small (hb.leafs x hx).place; omega) (by omega)
  rw [bookErr_zero hb] at HCK
  clear h hb
  go_enter Tryd.func13, Tryd.ntmps13
  go_wp2_with fail
  refine HCK.out.mono ?_
  rintro e w1 ⟨rfl, hb1⟩
  rw [HE0]
  have HB1 := Lib.hid hb1
  clear hb1
  go_wp2_with fail
  go_loopw [5, 18] (fun v i wr => RunsLoop w l v i wr) (fun _ i _ => l.length - (intOf i).toNat)
  case atStart => exact ⟨0, 0, none, Nat.zero_le _, rfl, rfl, Own.nil _ _ _ _, HB1.out⟩
  case round =>
    obtain ⟨k, cv, V, hk, rfl, rfl, HO, HB⟩ := hrel
    have k0 : (0 : Int) ≤ (k : Int) := by omega
    by_cases hlt : k < l.length
    · have k1 : (k : Int) < (l.length : Int) := by omega
      obtain ⟨ad, rfl, _, c0, c1, c2⟩ := (HR.out.below HB.out).leaf hlt
      have HT := Lib.hid (runsOf_take hlt)
      have HLF := Lib.hid (HBO.out.leafs _ (List.getElem_mem hlt))
      have hrl := runsOf_len (l.take k)
      rw [List.length_take] at hrl
      have HRL := Lib.hid (run_le (l.take k))
      generalize l[k] = x at *
      obtain ⟨p, n, s⟩ := x
      simp only at c0 c1 c2 HT
      have HBX : Hid (Below w.heap.size w (wr.alloc (.cells #[.string p, .int .i64 n, .bool s] 29))) := HB.out.alloc HB.out.size _
      have HBK := Lib.hid (Blk.new wr 29 #[.string p, .int .i64 n, .bool s])
      have HWH := Lib.hid (fun W => who_any W p (by have := place_small HLF.out.place; simp only at this; omega))
      have HOX : Hid (Own (wr.alloc (.cells #[.string p, .int .i64 n, .bool s] 29)) w.heap.size 27 2 V (runsOf (l.take k)).length cv (rcells (runsOf (l.take k)))) := HO.out.alloc _
      generalize hrs : runsOf (l.take k) = rs at *
      clear hrs
      cases hsn : seenB ⟨p, n, s⟩ with
      | false =>
        rw [hsn] at HT
        have HS1 := Lib.hid (HS.out (wr.alloc (.cells #[.string p, .int .i64 n, .bool s] 29)) ⟨p, n, s⟩)
        rw [hsn] at HS1
        simp only [Bool.false_eq_true, if_false] at HT
        clear hsn HWH
        go_wp2_with fail
        refine HS1.out.mono ?_
        rintro e w2 ⟨rfl, hb2⟩
        have HO2 := Lib.hid (HOX.out.below hb2)
        have HB2 := Lib.hid (HBX.out.trans (hb2.mono HBX.out.size))
        clear hb2
        go_wp2_with fail
        go_roundw
        case rel => exact ⟨k + 1, cv, V, by omega, by go_num, by rw [HT.out], by rw [HT.out]; exact HO2, HB2⟩
        case measure => simp [intOf]; omega
      | true =>
        rw [hsn] at HT
        have HS1 := Lib.hid (HS.out (wr.alloc (.cells #[.string p, .int .i64 n, .bool s] 29)) ⟨p, n, s⟩)
        rw [hsn] at HS1
        simp only [if_true] at HT
        have HW1 : Hid (∀ W : World, Calls Tryd.prog 18 #[.string p] W fun e w' => e = .returned (.tuple #[.int .i64 (whoP p), .nilIface]) ∧ Below W.heap.size W w') := fun W => by
          have h1 := HWH.out W
          have h2 : placeErr p = 0 := HLF.out.place
          unfold WhoPost at h1
          rw [h2, if_pos rfl, (whoP_place h2).1] at h1
          exact h1
        clear hsn HWH
        generalize whoP p = who at *
        go_wp2_with fail
        refine HS1.out.mono ?_
        rintro e w2 ⟨rfl, hb2⟩
        have HO2 := Lib.hid (HOX.out.below hb2)
        have HB2 := Lib.hid (HBX.out.trans (hb2.mono HBX.out.size))
        have b0 : w2.cell? ⟨wr.heap.size, 0, none⟩ = some (.string p) := by rw [(HBK.out.below hb2 HBK.out.lt).cell]; rfl
        clear hb2
        go_wp2_with fail
        refine (HW1.out _).mono ?_
        rintro e w3 ⟨rfl, hb3⟩
        have HO3 := Lib.hid (HO2.out.below hb3)
        have HB3 := Lib.hid (HB2.out.trans (hb3.mono HB2.out.size))
        have hw3 : w.heap.size ≤ w3.heap.size := HB3.out.size
        clear hb3 HW1 HS1 c0 c1 c2 b0 HO2 HB2 HBX HOX
        rcases runAdd_cases rs who with ⟨e0, e1⟩ | ⟨r, hr, hrl2, ⟨e1, e2⟩ | ⟨e1, e2⟩⟩
        · have HT' : Hid (runsOf (l.take (k + 1)) = rs ++ [(who, 1)]) := by show _ = _; rw [HT.out, e1]
          have HRO := Lib.hid (fun W : World => Reads.row W 27 #[.int .i64 who, .int .i64 1])
          have HON := Lib.hid (oneCells_r [(who, 1)])
          have hF : Fits (rs.length + 1) 16 := Fits.of_small (by omega) (by decide)
          have q1 : IntKind.i64.wrap ((rs.length : Int) - 1) = (rs.length : Int) - 1 := IntWalk.i64_in _ (by omega)
          have n0 : ¬ (0 : Int) ≤ (rs.length : Int) - 1 := by omega
          clear e0 e1 HT
          go_wp2_with (at_builtin; go_loud (refine wpList_app _ (.tmp 56) (.tmp 59) rfl rfl elemR rfl rfl (HO3.out.alloc _) (HRO.out _) HON.out hF (by simp; omega) ?_; intro V2 cv2 w4 HO4 HL4 HX4; have HOn := Lib.hid HO4; have HBn : Hid (Below w.heap.size w w4) := (HB3.out.alloc HB3.out.size _).trans (HL4.below (by simp; omega) (fun g hg => (HO3.out.lt g hg).1)); clear HO4 HL4 HX4))
          go_roundw
          case rel => exact ⟨k + 1, cv2, V2, by omega, by go_num, by rw [HT'.out]; simp, by rw [HT'.out, rcells_app, List.length_append]; exact HOn, HBn⟩
          case measure => simp [intOf]; omega
        · have HT' : Hid (runsOf (l.take (k + 1)) = rs.set r (rs[r].1, rs[r].2 + 1)) := by show _ = _; rw [HT.out, e2]
          obtain ⟨g, rfl, hg1, hg2⟩ := HO3.out.head (by omega)
          have a0 : w3.cell? ⟨g, r * 2, none⟩ = some (.int .i64 rs[r].1) := by rw [HO3.out.cellAt (by omega), show r * 2 = r * 2 + 0 from rfl, rcells_at rs r 0 hr (by omega)]; rfl
          have a1 : w3.cell? ⟨g, r * 2 + 1, none⟩ = some (.int .i64 rs[r].2) := by rw [HO3.out.cellAt (by omega), rcells_at rs r 1 hr (by omega)]; rfl
          have f1 := HO3.out.frozenAt (r * 2 + 1)
          have hrb := HRL.out _ (List.getElem_mem hr)
          have hlk : (l.take k).length ≤ 300 := by rw [List.length_take]; omega
          have q1 : IntKind.i64.wrap ((rs.length : Int) - 1) = (r : Int) := by rw [IntWalk.i64_in _ (by omega)]; omega
          have q2 : IntKind.i64.wrap (rs[r].2 + 1) = rs[r].2 + 1 := IntWalk.i64_in _ (by omega)
          have n0 : (0 : Int) ≤ (r : Int) := by omega
          have n1 : (r : Int) < (rs.length : Int) := by omega
          have HST := Lib.hid (HO3.out.storeN (k := r * 2 + 1) (by omega) (.int .i64 (rs[r].2 + 1)))
          rw [rcells_set rs r hr] at HST
          have hwb : (rs[r].1 == who) = true := by rw [beq_iff_eq]; exact e1
          clear e1 e2 HT hrl2
          generalize hx1 : rs[r].1 = x1 at *
          generalize hx2 : rs[r].2 = x2 at *
          clear hx1 hx2
          go_wp2_with fail
          go_region
          all_goals
            go_wp2_with fail
            go_roundw
            case rel => exact ⟨k + 1, cv, some ⟨g, 0, none⟩, by omega, by go_num, by rw [HT'.out]; simp, by rw [HT'.out, List.length_set]; exact HST.out.drewN 1, (HB3.out.drew.setCell (by omega) _)⟩
            case measure => simp [intOf]; omega
        · have HT' : Hid (runsOf (l.take (k + 1)) = rs ++ [(who, 1)]) := by show _ = _; rw [HT.out, e2]
          obtain ⟨g, rfl, hg1, hg2⟩ := HO3.out.head (by omega)
          have a0 : w3.cell? ⟨g, r * 2, none⟩ = some (.int .i64 rs[r].1) := by rw [HO3.out.cellAt (by omega), show r * 2 = r * 2 + 0 from rfl, rcells_at rs r 0 hr (by omega)]; rfl
          have q1 : IntKind.i64.wrap ((rs.length : Int) - 1) = (r : Int) := by rw [IntWalk.i64_in _ (by omega)]; omega
          have n0 : (0 : Int) ≤ (r : Int) := by omega
          have n1 : (r : Int) < (rs.length : Int) := by omega
          have hwb : (rs[r].1 == who) = false := by rw [beq_eq_false_iff_ne]; exact e1
          have HRO := Lib.hid (fun W : World => Reads.row W 27 #[.int .i64 who, .int .i64 1])
          have HON := Lib.hid (oneCells_r [(who, 1)])
          have hF : Fits (rs.length + 1) 16 := Fits.of_small (by omega) (by decide)
          clear e1 e2 HT hrl2
          generalize hx1 : rs[r].1 = x1 at *
          clear hx1
          go_wp2_with (at_builtin; go_loud (refine wpList_app _ (.tmp 56) (.tmp 59) rfl rfl elemR rfl rfl (HO3.out.alloc _) (HRO.out _) HON.out hF (by simp; omega) ?_; intro V2 cv2 w4 HO4 HL4 HX4; have HOn := Lib.hid HO4; have HBn : Hid (Below w.heap.size w w4) := (HB3.out.alloc HB3.out.size _).trans (HL4.below (by simp; omega) (fun g hg => (HO3.out.lt g hg).1)); clear HO4 HL4 HX4))
          go_roundw
          case rel => exact ⟨k + 1, cv2, V2, by omega, by go_num, by rw [HT'.out]; simp, by rw [HT'.out, rcells_app, List.length_append]; exact HOn, HBn⟩
          case measure => simp [intOf]; omega
    · have k1 : ¬ (k : Int) < (l.length : Int) := by omega
      obtain rfl : k = l.length := by omega
      rw [List.take_length] at HO
      have HO' := Lib.hid HO.out
      go_wp2_with fail
      go_ret2
      exact ⟨V, cv, rfl, HO'.out, HB.out⟩
end Go.Proofs.YtgmdnmdniidngaaDoor
