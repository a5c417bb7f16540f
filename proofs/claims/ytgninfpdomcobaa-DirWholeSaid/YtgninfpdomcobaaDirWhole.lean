/- ALL OF IT, IN ORDER: the law DirWhole answers true. Conditions: none. -/
import Derived.Test.YtgninfpdomcobaaDirOf
import Derived.Test.YtgninfpdomcobaaOpenDir
import Derived.Test.YtgninfpdomcobaaLift
namespace Go.Proofs.Ytgninfpdomcobaa
open Go.RowKit Go.WideShapes Go.ChangeShapes Go.ChangeAt
set_option linter.unusedVariables false
namespace lawDirWhole

def oneL : List LLeaf := [⟨⟨#[102, 98]⟩, 104, false⟩, ⟨⟨#[110, 98]⟩, 105, false⟩]
def twoL : List LMark := [⟨⟨#[110, 98]⟩, ⟨1, 1⟩⟩]
theorem one_ok : dirErr oneL twoL = 0 := by decide +kernel
theorem one_len : (strL oneL (places twoL)).length = 2 := by decide +kernel
theorem one_st : StOk oneL ((strL oneL (places twoL))[1]'(by rw [one_len]; decide)) 1 1 := ⟨by decide +kernel, by decide +kernel, by decide +kernel⟩
theorem one_slice : (textOf oneL).extract 1 (1 + 1) = ⟨#[105]⟩ := by decide +kernel
theorem one_in (w : World) (A A2 : Option Addr) (h : Reads w w.heap.size 3 A 2 (lcells oneL)) (h2 : Reads w w.heap.size 3 A2 1 (mcells twoL)) : DirIn w A 2 oneL A2 1 twoL :=
  ⟨h, h2, by intro x hx; simp [oneL] at hx; rcases hx with rfl | rfl <;> decide, by intro x hx; simp [twoL] at hx; subst hx; decide, by decide, by decide, by decide⟩
theorem reads_blk {W : World} {g n size : Nat} {t : TypeId} {cs : Array Value} (h : Blk W g t cs) (hl : cs.toList.length = n * size) : Reads W W.heap.size size (some ⟨g, 0, none⟩) n cs.toList := by
  refine ⟨hl, fun _ => ⟨_, rfl, h.lt, fun j u hu => ?_⟩⟩
  have e1 : (⟨g, 0, none⟩ : Addr).add j = ⟨g, j, none⟩ := by
    unfold Addr.add
    by_cases hj : j = 0 <;> simp [hj]
  rw [e1, h.cell]
  simpa using hu
theorem blk_new2 (w : World) (o : Obj) (t : TypeId) (cs : Array Value) : Blk ((w.alloc o).alloc (.cells cs t)) (w.heap.size + 1) t cs := by
  have h := Blk.new (w.alloc o) t cs
  rwa [show (w.alloc o).heap.size = w.heap.size + 1 by simp] at h
theorem slice_one (w : World) (A A2 : Option Addr) (h : Reads w w.heap.size 3 A 2 (lcells oneL)) (h2 : Reads w w.heap.size 3 A2 1 (mcells twoL)) :
    Calls Try.prog 36 #[.slice A 2 2, .slice A2 1 1, .int .i64 1] w (SlicePost w ⟨#[105]⟩ 0) := by
  have := slice_in (one_in w A A2 h h2) one_ok 1 (by rw [one_len]; decide) 1 1 one_st
  rw [one_slice] at this
  exact this
theorem ext_list (a : ByteArray) (i j : Nat) : (a.extract i j).data.toList = (a.data.toList.drop i).take (j - i) := by
  rw [ByteArray.data_extract, Array.toList_extract]
theorem ext_join (a : ByteArray) (f n : Nat) : a.extract 0 f ++ a.extract f (f + n) = a.extract 0 (f + n) := by
  refine ByteArray.ext (Array.ext' ?_)
  rw [ByteArray.data_append, Array.toList_append, ext_list, ext_list, ext_list]
  simp only [Nat.sub_zero, List.drop_zero, Nat.add_sub_cancel_left]
  rw [List.take_add]
theorem ext_all (a : ByteArray) : a.extract 0 a.size = a := by
  refine ByteArray.ext (Array.ext' ?_)
  rw [ext_list]
  simp only [Nat.sub_zero, List.drop_zero]
  rw [List.take_of_length_le]
  rw [Array.length_toList]; exact Nat.le_refl _
theorem ext_zero (a : ByteArray) : a.extract 0 0 = ⟨#[]⟩ := by
  refine ByteArray.ext (Array.ext' ?_)
  rw [ext_list]
  simp
theorem mark_places : ∀ (m : List LMark) (prev : Option LMark), marksFault prev m = 0 → ∀ x ∈ m, placeErr x.place = 0 := by
  intro m
  induction m with
  | nil => intro _ _ x hx; simp at hx
  | cons y m ih =>
    intro prev hf x hx
    rw [marksFault_cons] at hf
    by_cases h1 : markErr y ≠ 0
    · rw [if_pos h1] at hf; exact absurd hf h1
    rw [if_neg h1] at hf
    by_cases h2 : mClash prev y = true
    · rw [if_pos h2] at hf; omega
    rw [if_neg h2] at hf
    rcases List.mem_cons.mp hx with rfl | hx
    · by_cases h3 : placeErr x.place = 0
      · exact h3
      · exfalso; apply h1; unfold markErr; rw [if_pos h3]; exact h3
    · exact ih _ hf x hx
theorem mem_fold : ∀ (m : List LMark) (out : List ByteArray) (p : ByteArray), p ∈ m.foldl plStep out → p ∈ out ∨ ∃ x ∈ m, p = x.place := by
  intro m
  induction m with
  | nil => intro out p h; exact .inl h
  | cons y m ih =>
    intro out p h
    rcases ih _ _ h with h1 | ⟨x, hx, h1⟩
    · unfold plStep at h1
      split at h1
      · exact .inl h1
      · rcases List.mem_append.mp h1 with h2 | h2
        · exact .inl h2
        · simp at h2; exact .inr ⟨y, by simp, h2⟩
    · exact .inr ⟨x, by simp [hx], h1⟩
theorem places_pos {m : List LMark} (h : marksErr m = 0) : ∀ p ∈ places m, 0 < p.size := by
  intro p hp
  have hf : marksFault none m = 0 := by
    unfold marksErr at h
    by_cases h1 : 40 < m.length
    · rw [if_pos h1] at h; omega
    · rw [if_neg h1] at h; exact h
  rcases mem_fold m [] p hp with h1 | ⟨x, hx, rfl⟩
  · simp at h1
  · have h2 := mark_places m none hf x hx
    have h3 := (okPlace h2).2.2
    have := h3.1; omega
def stop (l : List LLeaf) (ps : List ByteArray) (k : Nat) : Nat := if k ≤ ps.length then fr l ps k else (textL l).length
theorem stop_succ {l : List LLeaf} {ps : List ByteArray} {k : Nat} (hk : k ≤ ps.length) : stop l ps (k + 1) = endOf l ps k := by
  unfold stop endOf
  by_cases h : k < ps.length
  · rw [if_pos (show k + 1 ≤ ps.length by omega), if_pos h]
  · rw [if_neg (show ¬ k + 1 ≤ ps.length by omega), if_neg h]
def WLoop (w : World) (l : List LLeaf) (ps : List ByteArray) (g cv : Nat) (a i : Value) (wr : World) : Prop :=
  ∃ k : Nat, k ≤ ps.length + 1 ∧ i = .int .i64 k ∧ a = .string ((textOf l).extract 0 (stop l ps k)) ∧ Hid (Own wr w.heap.size 89 3 (some ⟨g, 0, none⟩) (ps.length + 1) cv (scells (strL l ps))) ∧ Hid (Below w.heap.size w wr)
/-- What the loop needs of one stretch. -/
structure Seg (l : List LLeaf) (ps : List ByteArray) (k f n : Nat) (p : ByteArray) : Prop where
  at_ : (strL l ps)[k]? = some ⟨p, f, n⟩
  f_eq : f = stop l ps k
  e_eq : f + n = stop l ps (k + 1)
  le : f + n ≤ (textL l).length
  prev : ∀ j, k = j + 1 → ∃ q, (strL l ps)[j]?.map LStr.place = some q ∧ Op.bytesLess q.toList p.toList = true
theorem Seg.stok {l : List LLeaf} {ps : List ByteArray} {k f n : Nat} {p : ByteArray} (h : Seg l ps k f n p) (hk : k < (strL l ps).length) : StOk l (strL l ps)[k] f n := by
  have h1 := h.at_
  rw [List.getElem?_eq_getElem hk] at h1
  injection h1 with h1
  exact ⟨by rw [h1], by rw [h1], h.le⟩
theorem Seg.cells {w : World} {B g c : Nat} {l : List LLeaf} {ps : List ByteArray} {k f n : Nat} {p : ByteArray} (h : Seg l ps k f n p) (hk : k ≤ ps.length) (ho : Own w B 89 3 (some ⟨g, 0, none⟩) (ps.length + 1) c (scells (strL l ps))) :
    w.cell? ⟨g, k * 3, none⟩ = some (.string p) ∧ w.cell? ⟨g, k * 3 + 1, none⟩ = some (.int .i64 f) ∧ w.cell? ⟨g, k * 3 + 2, none⟩ = some (.int .i64 n) := by
  have hl : (strL l ps).length = ps.length + 1 := strL_len
  rw [← hl] at ho
  have h1 := h.at_
  rw [List.getElem?_eq_getElem (by rw [hl]; omega)] at h1
  injection h1 with h1
  have := ho.str (k := k) (by rw [hl]; omega)
  rwa [h1] at this
theorem cell_place {w : World} {B g c : Nat} {l : List LLeaf} {ps : List ByteArray} {j : Nat} {q : ByteArray} (hj : j < ps.length) (ho : Own w B 89 3 (some ⟨g, 0, none⟩) (ps.length + 1) c (scells (strL l ps))) (hq : (strL l ps)[j]?.map LStr.place = some q) : w.cell? ⟨g, j * 3, none⟩ = some (.string q) := by
  have hl : (strL l ps).length = ps.length + 1 := strL_len
  rw [← hl] at ho
  rw [List.getElem?_eq_getElem (by rw [hl]; omega)] at hq
  have := (ho.str (k := j) (by rw [hl]; omega)).1
  rw [this]
  simpa using hq
theorem seg_ok {l : List LLeaf} {m : List LMark} (hp : Rises (places m)) (h0 : ∀ p ∈ places m, 0 < p.size) {k : Nat} (hk : k ≤ (places m).length) : ∃ f n p, Seg l (places m) k f n p := by
  have h1 := fr_end (l := l) hp hk
  refine ⟨fr l (places m) k, endOf l (places m) k - fr l (places m) k, plAt (places m) k, ?_, ?_, ?_, ?_, ?_⟩
  · rw [strL_at hk]; congr 2; omega
  · unfold stop; rw [if_pos hk]
  · rw [stop_succ hk]; omega
  · have := end_le (l := l) (ps := places m) k; omega
  · rintro j rfl
    refine ⟨plAt (places m) j, by rw [strL_at (by omega)]; rfl, ?_⟩
    rcases Nat.eq_zero_or_pos j with h2 | h2
    · subst h2
      have h3 : plAt (places m) (0 + 1) = (places m)[0]'(by omega) := by unfold plAt; simp [show 0 < (places m).length by omega]
      rw [h3]
      have h4 := h0 _ (List.getElem_mem (show 0 < (places m).length by omega))
      generalize (places m)[0]'(by omega) = q at h4
      show Op.bytesLess (plAt (places m) 0).toList q.toList = true
      have h5 : plAt (places m) 0 = ⟨#[]⟩ := rfl
      rw [h5, toList_data, toList_data]
      have h6 : q.data.toList.length = q.size := by rw [Array.length_toList]; rfl
      generalize q.data.toList = L at h6
      cases L with
      | nil => simp at h6; omega
      | cons a b => rfl
    · exact plAt_lt hp (by omega) hk h2
theorem str_get {l : List LLeaf} {ps : List ByteArray} {k : Nat} (hk : k ≤ ps.length) (h : k < (strL l ps).length) : (strL l ps)[k] = ⟨plAt ps k, fr l ps k, (endOf l ps k : Int) - fr l ps k⟩ := by
  have h1 := strL_at (l := l) hk
  rw [List.getElem?_eq_getElem h] at h1
  injection h1
theorem hit_at {l : List LLeaf} {ps : List ByteArray} {k : Nat} {off : Int} (hk : k ≤ ps.length) (h : k < (strL l ps).length) (hh : hit (strL l ps)[k] off = true) : (strL l ps)[k].from_ = (fr l ps k : Int) ∧ (fr l ps k : Int) ≤ off ∧ off < (endOf l ps k : Int) := by
  rw [str_get hk h] at hh ⊢
  unfold hit at hh
  simp only [Bool.and_eq_true, decide_eq_true_eq] at hh
  exact ⟨rfl, hh.1, by omega⟩
theorem hit_true {l : List LLeaf} {ps : List ByteArray} {k o : Nat} (hk : k ≤ ps.length) (h : k < (strL l ps).length) (h1 : fr l ps k ≤ o) (h2 : o < endOf l ps k) : hit (strL l ps)[k] (o : Int) = true := by
  rw [str_get hk h]
  unfold hit
  simp only [Bool.and_eq_true, decide_eq_true_eq]
  omega
theorem some_hit {l : List LLeaf} {ps : List ByteArray} (hr : Rises ps) {o : Nat} (ho : o < (textL l).length) : ∃ k, k ≤ ps.length ∧ fr l ps k ≤ o ∧ o < endOf l ps k := by
  have step : ∀ j, j ≤ ps.length → (∃ k, k ≤ ps.length ∧ fr l ps k ≤ o ∧ o < endOf l ps k) ∨ fr l ps j ≤ o := by
    intro j
    induction j with
    | zero => intro _; right; rw [fr_zero]; omega
    | succ j ih =>
      intro hj
      rcases ih (by omega) with h | h
      · exact .inl h
      · by_cases h1 : o < endOf l ps j
        · exact .inl ⟨j, by omega, h, h1⟩
        · right
          unfold endOf at h1
          rw [if_pos (by omega)] at h1
          omega
  rcases step ps.length (Nat.le_refl _) with h | h
  · exact h
  · exact ⟨ps.length, Nat.le_refl _, h, by unfold endOf; rw [if_neg (by omega)]; exact ho⟩
set_option maxRecDepth 100000 in
set_option maxHeartbeats 4000000 in
theorem walk (w : World) (A A2 : Option Addr) (c c2 : Nat) (l : List LLeaf) (m : List LMark) (H : DirIn w A c l A2 c2 m) (off : Int) (ho : -9223372036854775808 ≤ off ∧ off ≤ 9223372036854775807) :
    Calls Try.prog 10 #[.slice A l.length c, .slice A2 m.length c2, .int .i64 off] w (CheckPost w (.bool true)) := by
  have HI := Lib.hid H
  clear H
  go_enter Try.func10, Try.ntmps10
  go_wp2_with fail
  refine (slice_one _ _ _ (reads_blk (n := 2) (size := 3) ((Blk.new w 81 _).alloc _) rfl) (reads_blk (n := 1) (size := 3) (t := 83) (g := w.heap.size + 1) (blk_new2 w _ _ _) rfl)).mono ?_
  rintro e w1 ⟨rfl, hb1⟩
  rw [show errV 0 = .nilIface from rfl]
  have HB1 : Hid (Below w.heap.size w w1) := (((Below.refl _ _).alloc (Nat.le_refl _) _).alloc (by simp) _).trans (hb1.mono (by simp; omega))
  have HI1 := Lib.hid (HI.out.below HB1.out)
  clear hb1
  go_wp2_with fail
  by_cases he : dirErr l m = 0
  · have HS := Lib.hid (stretches_ok HI1.out he)
    have HE := Lib.hid he
    have hb0 : bookErr l = 0 := by
      unfold dirErr at he
      by_cases h1 : bookErr l = 0
      · exact h1
      · rw [if_pos h1] at he; exact he
    have hm0 : marksErr m = 0 := by unfold dirErr at he; rw [if_neg (fun x => x hb0)] at he; exact he
    have OK := Lib.hid (book_ok hb0)
    have HRI := Lib.hid (rises_places hm0)
    have HPO := Lib.hid (places_pos hm0)
    have hT : (textL l).length ≤ 300 := by have := textL_le l; have := OK.out.few; omega
    have hts : (textOf l).size = (textL l).length := strOf_size _
    have HBE := Lib.hid hb0
    have hps : (places m).length ≤ 40 := by have := places_le m m.length (Nat.le_refl _); rw [List.take_length] at this; have := marks_few hm0; omega
    clear he hb0 hm0
    refine HS.out.mono ?_
    rintro e w2 ⟨V, cv, rfl, hO, hb2⟩
    obtain ⟨g, rfl, hg1, hg2⟩ := hO.head (by rw [strL_len]; omega)
    have HO := Lib.hid (hO.mono HB1.out.size)
    have HB2 := Lib.hid (HB1.out.trans (hb2.mono HB1.out.size))
    have hg := Nat.le_trans HB1.out.size hg1
    clear hO hb2 hg1 hg2
    have hln : (strL l (places m)).length = (places m).length + 1 := strL_len
    rw [hln] at HO ⊢
    clear hln
    go_wp2_with fail
    go_loopw [13, 14] (fun a i wr => WLoop w l (places m) g cv a i wr) (fun _ i _ => ((places m).length + 1) - (intOf i).toNat)
    case atStart => exact ⟨0, by omega, rfl, by rw [show stop l (places m) 0 = 0 from by unfold stop; rw [if_pos (Nat.zero_le _), fr_zero], ext_zero], HO, HB2⟩
    case round =>
      obtain ⟨k, hk, rfl, rfl, HOr, HBr⟩ := hrel
      by_cases hkn : k ≤ (places m).length
      · obtain ⟨f, n, p, sg⟩ := seg_ok (l := l) HRI.out HPO.out hkn
        have HSL := Lib.hid (slice_in (HI.out.below HBr.out) HE.out k (by rw [strL_len]; omega) f n (sg.stok (by rw [strL_len]; omega)))
        obtain ⟨e0, e1, e2⟩ := sg.cells hkn HOr.out
        have HPV := Lib.hid sg.prev
        have hle := sg.le
        have hT2 := hT
        rw [← hts] at hle hT2
        have HJ : Hid ((textOf l).extract 0 (stop l (places m) k) ++ (textOf l).extract f (f + n) = (textOf l).extract 0 (stop l (places m) (k + 1))) := by
          show _ = _
          rw [← sg.f_eq, ← sg.e_eq]; exact ext_join _ _ _
        have h71 : ((f : Int) != (((textOf l).extract 0 (stop l (places m) k)).size : Int)) = false := by
          rw [← sg.f_eq, ByteArray.size_extract]; simp; omega
        have ha : ((textOf l).extract 0 (stop l (places m) k)).size ≤ 300 := by rw [ByteArray.size_extract]; omega
        have h72 : ((((textOf l).extract f (f + n)).size : Int) != (n : Int)) = false := by
          rw [ByteArray.size_extract]; simp; omega
        have ht : ((textOf l).extract f (f + n)).size ≤ 300 := by rw [ByteArray.size_extract]; omega
        have ki : (k : Int) < ((places m).length : Int) + 1 := by omega
        have ki0 : (0 : Int) ≤ (k : Int) := by omega
        clear sg hT2 hle
        generalize (textOf l).extract 0 (stop l (places m) k) = a at *
        generalize (textOf l).extract f (f + n) = t at *
        have hcat : ∀ W, (Op.stringOp .add a t).run Try.prog W = .ok (.string (a ++ t)) W := fun W => run_string_add_sum _ _ _ (by omega)
        go_wp2_with fail
        refine HSL.out.mono ?_
        rintro e w3 ⟨rfl, hb3⟩
        rw [show errV 0 = .nilIface from rfl]
        have HO3 := Lib.hid (HOr.out.below hb3)
        have HB3 := Lib.hid (HBr.out.trans (hb3.mono HBr.out.size))
        have hgw : g < wr.heap.size := by
          obtain ⟨g', hg', _, h2⟩ := HOr.out.head (by omega)
          injection hg' with hg'; injection hg' with hg'; omega
        have d0 : w3.cell? ⟨g, k * 3, none⟩ = some (.string p) := (hb3.cell hgw).trans e0
        have d1 : w3.cell? ⟨g, k * 3 + 1, none⟩ = some (.int .i64 f) := (hb3.cell hgw).trans e1
        have d2 : w3.cell? ⟨g, k * 3 + 2, none⟩ = some (.int .i64 n) := (hb3.cell hgw).trans e2
        clear e0 e1 e2 hb3 hgw
        rcases Nat.eq_zero_or_pos k with hk0 | hk0
        · subst hk0
          go_wp2_with fail
          go_quiet (fail)
          go_wp2_with fail
          go_roundw
          case rel => exact ⟨1, by omega, by go_num, by rw [HJ.out], HO3.out.drewN _, below_drewN HB3.out _⟩
          case measure => simp [intOf]
        · obtain ⟨j, rfl⟩ : ∃ j, k = j + 1 := ⟨k - 1, by omega⟩
          obtain ⟨q, hq, hqp⟩ := HPV.out j rfl
          have c0 := cell_place (by omega) HO3.out hq
          have q2 : IntKind.i64.wrap ((j : Int) + 1 - 1) = (j : Int) := by rw [IntWalk.i64_in _ (by omega)]; omega
          have q3 : IntKind.i64.wrap (((j + 1 : Nat) : Int) - 1) = (j : Int) := by rw [IntWalk.i64_in _ (by omega)]; omega
          have j0 : (0 : Int) < (j : Int) + 1 := by omega
          have j1 : (0 : Int) ≤ (j : Int) := by omega
          have j2 : (j : Int) < ((places m).length : Int) + 1 := by omega
          have t1 : decide ((j : Int) + 1 > 0) = true := decide_eq_true j0
          have t0 : decide ((0 : Int) < (j : Int) + 1) = true := decide_eq_true j0
          clear hq HPV
          go_wp2_with fail
          go_quiet (fail)
          go_wp2_with fail
          go_roundw
          case rel => exact ⟨j + 1 + 1, by omega, by go_num, by rw [HJ.out], HO3.out.drewN _, below_drewN HB3.out _⟩
          case measure => simp [intOf]; omega
      · obtain rfl : k = (places m).length + 1 := by omega
        have HALL : Hid ((textOf l).extract 0 (stop l (places m) ((places m).length + 1)) = textOf l) := by
          show _ = _
          rw [show stop l (places m) ((places m).length + 1) = (textOf l).size from by unfold stop; rw [if_neg (by omega), hts], ext_all]
        rw [HALL.out]
        have HTX := Lib.hid (text_any wr A c l (HI.out.below HBr.out).rl HI.out.sl HI.out.nl)
        have HLO := Lib.hid (fun w (H : DirIn w A c l A2 c2 m) => locate_any H HE.out off ho)
        have hlen : (strL l (places m)).length = (places m).length + 1 := strL_len
        go_wp2_with fail
        refine HTX.out.mono ?_
        rintro e w3 ⟨rfl, hb3⟩
        rw [if_pos HBE.out, HBE.out, show errV 0 = .nilIface from rfl]
        have HO3 := Lib.hid (HOr.out.below hb3)
        have HB3 := Lib.hid (HBr.out.trans (hb3.mono HBr.out.size))
        clear hb3 HTX
        generalize hqt : textOf l = tx at *
        have b2 : (tx.toList != tx.toList) = false := by simp
        have b3 : (tx.toList == tx.toList) = true := by simp
        have HQT := Lib.hid hqt
        have HTS := Lib.hid hts
        clear hqt hts
        go_wp2_with fail
        refine (HLO.out _ (HI.out.below HB3.out)).mono ?_
        rintro e w4 ⟨hloc, hb4⟩
        have HO4 := Lib.hid (HO3.out.below hb4)
        have HB4 := Lib.hid (HB3.out.trans (hb4.mono HB3.out.size))
        clear hb4
        rcases hloc with ⟨k, hk, hhit, rfl⟩ | ⟨hno, rfl⟩
        · have hk2 : k ≤ (places m).length := by omega
          obtain ⟨hx, hf1, hf2⟩ := hit_at hk2 hk hhit
          rw [hx]
          have hmono := fr_end (l := l) HRI.out hk2
          have hend := end_le (l := l) (ps := places m) k
          obtain ⟨o, rfl⟩ : ∃ o : Nat, off = (o : Int) := ⟨off.toNat, by omega⟩
          obtain ⟨n, hn, hn1, hn2, hn3⟩ := nth_seen l 0 o (by omega)
          have hat : atErr l (o : Int) = 0 := by unfold atErr; rw [if_neg (fun x => x HBE.out), if_neg (by rw [hn1]; omega)]
          have HAT := Lib.hid (at_any w4 A c l (o : Int) (HI.out.below HB4.out).rl HI.out.sl HI.out.nl ho.2)
          have HNN : Hid ((if atErr l (o : Int) = 0 then nthFrom 0 l (o : Int) else 0) = (n : Int)) := by show _ = _; rw [if_pos hat, hn1]; congr 1; omega
          have HAE := Lib.hid hat
          have HPL := Lib.hid (OK.out.leafs l[n] (List.getElem_mem hn)).place
          have HOF := Lib.hid (fun w (H : DirIn w A c l A2 c2 m) => of_any H HE.out l[n].place HPL.out (HI.out.sl _ (List.getElem_mem hn)))
          have HUNI : Hid (∀ i, i ≤ (places m).length → (i = 0 ∨ ¬ ltP l[n].place (plAt (places m) i)) → (∀ j, j ≤ (places m).length → i < j → ltP l[n].place (plAt (places m) j)) → i = k) := fun i hi a1 a2 => of_is OK.out.rising HRI.out hn hn2 hn3 hk2 (by omega) (by omega) hi a1 a2
          have hc1 := (Own.str (ss := strL l (places m)) (by rw [hlen]; exact HO4.out) hk).2.1
          rw [hx] at hc1
          have HRF := Lib.hid (HI.out.below HB4.out).rl
          clear hat hn1 hn2 hn3 hmono hend hhit hf1
          go_wp2_with fail
          refine HAT.out.mono ?_
          rintro e w5 ⟨rfl, hb5⟩
          rw [HNN.out, HAE.out, show errV 0 = .nilIface from rfl]
          have HB5 := Lib.hid (HB4.out.trans (hb5.mono HB4.out.size))
          have HO5 := Lib.hid (HO4.out.below hb5)
          have hgw : g < w4.heap.size := by
            obtain ⟨g', hg', _, h2⟩ := HO4.out.head (by omega)
            injection hg' with hg'; injection hg' with hg'; omega
          have hc5 : w5.cell? ⟨g, k * 3 + 1, none⟩ = some (.int .i64 (fr l (places m) k)) := (hb5.cell hgw).trans hc1
          obtain ⟨ad, rfl, hbl, p0, _, _⟩ := (HI.out.below HB5.out).rl.leaf hn
          have n0 : (0 : Int) ≤ (n : Int) := by omega
          have n1 : (n : Int) < (l.length : Int) := by omega
          clear hb5 hgw hc1 hf2
          generalize hpn : l[n].place = pn at *
          clear hpn
          go_wp2_with fail
          refine (HOF.out _ (HI.out.below HB5.out)).mono ?_
          rintro e w6 ⟨⟨i, hi, a1, a2, rfl⟩, hb6⟩
          have hik : i = k := HUNI.out i (by omega) (by
            rcases a1 with h | h
            · exact .inl h
            · rw [str_get (by omega) hi] at h; exact .inr h) (fun j hj hij => by
            have := a2 j (by omega) hij
            rwa [str_get hj] at this)
          subst hik
          have HB6 := Lib.hid (HB5.out.trans (hb6.mono HB5.out.size))
          have hgw : g < w5.heap.size := by
            obtain ⟨g', hg', _, h2⟩ := HO5.out.head (by omega)
            injection hg' with hg'; injection hg' with hg'; omega
          have hc6 : w6.cell? ⟨g, i * 3 + 1, none⟩ = some (.int .i64 (fr l (places m) i)) := (hb6.cell hgw).trans hc5
          have hfr : fr l (places m) i ≤ 300 := by have := fr_le (l := l) (ps := places m) i; omega
          clear hb6 hgw hc5 a1 a2 hx
          generalize fr l (places m) i = f at *
          have hw1 : IntKind.i64.wrap ((f : Int) + ((o : Int) - (f : Int))) = (o : Int) := by rw [IntWalk.i64_in _ (by omega)]; omega
          have i0 : (0 : Int) ≤ (i : Int) := by omega
          have i1 : (i : Int) < ((places m).length : Int) + 1 := by omega
          have g1 : ((i : Int) == (i : Int)) = true := by simp
          have g2 : ((o : Int) == (o : Int)) = true := by simp
          go_wp2_with fail
          go_ret
          exact ⟨rfl, HB6.out⟩
        · have hor : off < 0 ∨ (tx.size : Int) ≤ off := by
            rw [HTS.out]
            by_cases h0 : off < 0
            · exact .inl h0
            · right
              rcases Int.lt_or_le off ((textL l).length : Int) with h1 | h1
              · exfalso
                obtain ⟨o, rfl⟩ : ∃ o : Nat, off = (o : Int) := ⟨off.toNat, by omega⟩
                obtain ⟨k, hk, h2, h3⟩ := some_hit (l := l) (ps := places m) HRI.out (o := o) (by omega)
                have h4 := hno k (by rw [strL_len]; omega)
                rw [hit_true hk (by rw [strL_len]; omega) h2 h3] at h4
                cases h4
              · exact h1
          by_cases h0 : off < 0
          · have g0 : decide (off < 0) = true := decide_eq_true h0
            clear hor hno
            rw [errV_ne (by decide)]
            go_wp2_with fail
            go_ret
            exact ⟨rfl, HB4.out⟩
          · have h1 : (tx.size : Int) ≤ off := by omega
            have g0 : decide (off < 0) = false := decide_eq_false h0
            have g1 : decide ((tx.size : Int) ≤ off) = true := decide_eq_true h1
            have g2 : decide (off ≥ (tx.size : Int)) = true := decide_eq_true h1
            clear hor hno
            rw [errV_ne (by decide)]
            go_wp2_with fail
            go_ret
            exact ⟨rfl, HB4.out⟩
  · refine (stretches_bad HI1.out he).mono ?_
    rintro e w2 ⟨rfl, hb2⟩
    rw [errV_ne he]
    have HB2 := Lib.hid (HB1.out.trans (hb2.mono HB1.out.size))
    clear hb2 he
    go_wp2_with fail
    go_ret
    exact ⟨rfl, HB2.out⟩
set_option maxRecDepth 100000 in
theorem lifted (os : Os) (started : os.Started) (H : Type) (enc : TypeId × Value → H) :
    ReturnsInHanded {} Try.checked os 10 .any (Rows.dirWholeSpec.pre6 enc Try.prog Try.f10 Rows.dirWholeRow.domain false) (Rows.dirWholeSpec.post enc Try.prog Try.f10 false true false false) := by
  refine returnsInHanded_of_change (C := Try.checked) Try.own started (by kernel_rfl) Try.func10
    (ChangeSpec.witness6 (enc := enc) (C := Try.checked) false ⟨#[], #[.slice none 0 0, .slice none 0 0, .int .i64 0], []⟩ 8 (by kernel_rfl) (by kernel_rfl) (by kernel_rfl) (by kernel_rfl)) ?_
  intro W base args ds gs before hval0 hW _ _
  have hval : ∀ (j : Nat) t v, Try.f10.params[j]? = some t → args[j]? = some v → Value.okWide Try.prog W .any base t v := hval0
  obtain ⟨p, q, hA0, _⟩ := id hW
  have hA : DataW.TrodAll enc Try.prog W 0 (fun _ => true) true Try.f10.params.toList args.toList ds p := hA0
  rw [Try.params10] at hA hval
  obtain ⟨v0, v1, v2, d0, d1, d2, p0, p1, p2, rfl, rfl, rfl, h0, h1, h2⟩ := trodAll_three hA
  obtain ⟨A, c, l, rfl, ra, ia, la, ca⟩ := arg_leafs (hval 0 78 v0 rfl rfl) h0
  obtain ⟨A2, c2, m, rfl, rb, ib, lb, cb⟩ := arg_marks (hval 1 79 v1 rfl rfl) h1
  unfold maxLen at ca cb
  obtain ⟨a2, rfl, rfl, rfl, wa2⟩ := open_int Try.underlying3 (hval 2 3 v2 rfl rfl) h2
  refine (walk W A A2 c c2 l m ⟨ra, rb, fun x hx => by have := (ia x hx).1; unfold maxLen at this; exact this, fun x hx => by have := (ib x hx).1; unfold maxLen at this; exact this, by omega, by omega, la⟩ a2 (i64_of_wf wa2)).mono fun e W' ⟨he, hb⟩ => ⟨_, he, ?_⟩
  exact law_post Try.laidOut (tb := 4) (by kernel_rfl) Try.underlying4 (by rw [Try.params10]; simp only [List.mem_cons, List.not_mem_nil, or_false]; rintro t (rfl | rfl | rfl) <;> exact ⟨by kernel_rfl, of_decide_eq_true (by kernel_rfl)⟩) rfl rfl hW hb

theorem holds : Rows.DirWholeSaid :=
  OpenClaim.holds_of_wide 10 Try.f10 rfl rfl rfl rfl rfl rfl rfl ⟨rfl, rfl, rfl, rfl, rfl⟩ rfl rfl rfl rfl rfl (by kernel_rfl) Try.func10 (by kernel_rfl)
    (of_decide_eq_true (by kernel_rfl)) (by unfold Func.isWrapper; first | (rw [if_pos (by decide +kernel)]; kernel_rfl) | (rw [if_neg (by decide +kernel)]; exact ⟨rfl, rfl⟩))
    (fun os started H enc _ => lifted os started H enc)
#print axioms holds

end lawDirWhole
end Go.Proofs.Ytgninfpdomcobaa
