/- dir.Slice, Locate, Of, walked. -/
import Derived.Test.YteiadcdaleckjaaDoorDirLaw
namespace Go.Proofs.YteiadcdaleckjaaDoor
open Go.RowKit
set_option linter.unusedVariables false

/-- One stretch of a book that is right. -/
structure StOk (l : List LLeaf) (s : LStr) (f n : Nat) : Prop where
  from_ : s.from_ = (f : Int)
  long : s.long = (n : Int)
  in_ : f + n ≤ (textL l).length
def StrsOk (l : List LLeaf) (ss : List LStr) : Prop := ∀ k (hk : k < ss.length), ∃ f n : Nat, StOk l ss[k] f n
theorem strs_ok {l : List LLeaf} {m : List LMark} (h : dirErr l m = 0) : StrsOk l (strL l (places m)) := by
  have hm0 : marksErr m = 0 := by
    unfold dirErr at h
    by_cases h1 : bookErr l = 0
    · rw [if_neg (fun x => x h1)] at h; exact h
    · rw [if_pos h1] at h; exact absurd h h1
  intro k hk
  rw [strL_len] at hk
  have h1 := strL_at (l := l) (ps := places m) (k := k) (by omega)
  have h2 := fr_end (l := l) (rises_places hm0) (k := k) (by omega)
  have h3 := end_le (l := l) (ps := places m) k
  have h4 : (strL l (places m))[k]'(by rw [strL_len]; exact hk) = ⟨plAt (places m) k, fr l (places m) k, (endOf l (places m) k : Int) - fr l (places m) k⟩ := by
    rw [List.getElem?_eq_getElem (by rw [strL_len]; exact hk)] at h1
    injection h1
  refine ⟨fr l (places m) k, endOf l (places m) k - fr l (places m) k, ?_, ?_, by omega⟩
  · rw [h4]
  · rw [h4]; show ((_ : Int) - _) = _; omega
theorem Own.str {w : World} {B g c : Nat} {ss : List LStr} (h : Own w B 46 3 (some ⟨g, 0, none⟩) ss.length c (scells ss)) {k : Nat} (hk : k < ss.length) :
    w.cell? ⟨g, k * 3, none⟩ = some (.string ss[k].place) ∧ w.cell? ⟨g, k * 3 + 1, none⟩ = some (.int .i64 ss[k].from_) ∧ w.cell? ⟨g, k * 3 + 2, none⟩ = some (.int .i64 ss[k].long) := by
  refine ⟨?_, ?_, ?_⟩
  · rw [h.cellAt (by omega), show k * 3 = k * 3 + 0 from rfl, scells_at ss k 0 hk (by omega)]; rfl
  · rw [h.cellAt (by omega), scells_at ss k 1 hk (by omega)]; rfl
  · rw [h.cellAt (by omega), scells_at ss k 2 hk (by omega)]; rfl
def sliceErr (l : List LLeaf) (m : List LMark) (i : Int) : Int := if dirErr l m ≠ 0 then dirErr l m else if i < 0 ∨ ((strL l (places m)).length : Int) ≤ i then 1 else 0
def SlicePost (w : World) (s : ByteArray) (n : Int) (e : Ending) (w' : World) : Prop := e = .returned (.tuple #[.string s, errV n]) ∧ Below w.heap.size w w'
theorem DirIn.drew {w : World} {A A2 : Option Addr} {c c2 : Nat} {l : List LLeaf} {m : List LMark} (h : DirIn w A c l A2 c2 m) : DirIn w.drew A c l A2 c2 m := ⟨h.rl, h.rm, h.sl, h.sm, h.nl, h.nm, h.cl⟩
section
variable {w : World} {A A2 : Option Addr} {c c2 : Nat} {l : List LLeaf} {m : List LMark}
set_option maxRecDepth 100000 in
set_option maxHeartbeats 2000000 in
theorem slice_in (H : DirIn w A c l A2 c2 m) (h : dirErr l m = 0) (i : Nat) (hi : i < (strL l (places m)).length) (f n : Nat) (hst : StOk l (strL l (places m))[i] f n) :
    Calls Tryd.prog 20 #[.slice A l.length c, .slice A2 m.length c2, .int .i64 i] w (SlicePost w ((textOf l).extract f (f + n)) 0) := by
  have hb0 : bookErr l = 0 := by
    unfold dirErr at h
    by_cases h1 : bookErr l = 0
    · exact h1
    · rw [if_pos h1] at h; exact h
  have ok := book_ok hb0
  have HS := Lib.hid (fun w (H : DirIn w A c l A2 c2 m) => stretches_ok H h)
  have HT := Lib.hid (fun w (H : DirIn w A c l A2 c2 m) => textOf_any w A c l H.rl ok.fit (by have := ok.few; omega))
  have HI := Lib.hid H
  have hlen : (textL l).length ≤ 300 := by have := textL_le l; have := ok.few; omega
  have hts : (textOf l).size = (textL l).length := strOf_size _
  have hin := hst.in_
  rw [← hts] at hlen hin
  have ss_le : (strL l (places m)).length ≤ 100 := by rw [strL_len]; have := places_le m m.length (Nat.le_refl _); rw [List.take_length] at this; have := marks_few (m := m) (by unfold dirErr at h; rw [if_neg (fun x => x hb0)] at h; exact h); omega
  have HST := Lib.hid hst
  clear H h hb0 ok hts hst
  generalize strL l (places m) = ss at *
  go_enter Tryd.func20, Tryd.ntmps20
  go_wp2_with fail
  refine (HS.out _ HI.out).mono ?_
  rintro e w1 ⟨V, cv, rfl, hO, hb1⟩
  obtain ⟨g, rfl, hg1, hg2⟩ := hO.head (by omega)
  obtain ⟨e0, e1, e2⟩ := hO.str hi
  rw [HST.out.from_] at e1
  rw [HST.out.long] at e2
  have HI1 := Lib.hid (HI.out.below hb1)
  have HO := Lib.hid hO
  have HB1 := Lib.hid hb1
  clear hO hb1
  generalize ss[i] = x at *
  generalize ss.length = sn at *
  have i0 : (0 : Int) ≤ (i : Int) := by omega
  have i1 : (i : Int) < (sn : Int) := by omega
  have g0 : decide ((i : Int) < 0) = false := by simp
  have g1 : decide ((sn : Int) ≤ (i : Int)) = false := by simp; omega
  have g2 : decide ((i : Int) ≥ (sn : Int)) = false := by simp; omega
  generalize textOf l = tx at *
  have f0 : (0 : Int) ≤ (f : Int) := by omega
  have f1 : (f : Int) ≤ (f : Int) + (n : Int) := by omega
  have f2 : (f : Int) + (n : Int) ≤ (tx.size : Int) := by omega
  have hw : IntKind.i64.wrap ((f : Int) + (n : Int)) = (f : Int) + (n : Int) := by rw [IntWalk.i64_in _ (by omega)]
  have t2 : ((f : Int) + (n : Int)).toNat = f + n := by omega
  have t1 : (f : Int).toNat = f := by omega
  go_wp2_with fail
  go_region_held3 (fun w' => w'.cell? ⟨g, i * 3 + 1, none⟩ = some (.int .i64 f) ∧ w'.cell? ⟨g, i * 3 + 2, none⟩ = some (.int .i64 n))
    (first
      | go_keep
      | (refine ⟨?_, ?_⟩ <;> assumption))
    (first
      | (go_at_call 34; refine (HT.out _ HI1.out.drew).mono ?_; rintro e3 w2 ⟨rfl, hb2'⟩; have hb2 : Below w1.heap.size w1 w2 := below_of_drew hb2'; have k1 : w2.cell? ⟨g, i * 3 + 1, none⟩ = some (.int .i64 f) := (hb2.cell hg2).trans e1; have k2 : w2.cell? ⟨g, i * 3 + 2, none⟩ = some (.int .i64 n) := (hb2.cell hg2).trans e2; have HB2 := Lib.hid (HB1.out.trans (hb2.mono HB1.out.size)); clear hb2 hb2'))
  go_wp2_with fail
  go_ret2
  exact ⟨rfl, HB2.out⟩
def hit (s : LStr) (off : Int) : Bool := decide (s.from_ ≤ off) && decide (off - s.from_ < s.long)
def LocPost (w : World) (ss : List LStr) (off : Int) (e : Ending) (w' : World) : Prop :=
  ((∃ k, ∃ hk : k < ss.length, hit ss[k] off = true ∧ e = .returned (.tuple #[.int .i64 k, .int .i64 (off - ss[k].from_), .nilIface])) ∨ ((∀ k (hk : k < ss.length), hit ss[k] off = false) ∧ e = .returned (.tuple #[.int .i64 0, .int .i64 0, errV 1]))) ∧ Below w.heap.size w w'
def LocLoop (w : World) (ss : List LStr) (off : Int) (g cv : Nat) (i : Value) (wr : World) : Prop :=
  ∃ k : Nat, k ≤ ss.length ∧ i = .int .i64 k ∧ Hid (Own wr w.heap.size 46 3 (some ⟨g, 0, none⟩) ss.length cv (scells ss)) ∧ Hid (Below w.heap.size w wr) ∧ Hid (∀ j (hj : j < ss.length), j < k → hit ss[j] off = false)
set_option maxRecDepth 100000 in
set_option maxHeartbeats 2000000 in
theorem locate_any (H : DirIn w A c l A2 c2 m) (h : dirErr l m = 0) (off : Int) (ho : -9223372036854775808 ≤ off ∧ off ≤ 9223372036854775807) :
    Calls Tryd.prog 18 #[.slice A l.length c, .slice A2 m.length c2, .int .i64 off] w (LocPost w (strL l (places m)) off) := by
  have HS := Lib.hid (fun w (H : DirIn w A c l A2 c2 m) => stretches_ok H h)
  have HK := Lib.hid (strs_ok h)
  have HI := Lib.hid H
  have hln : (strL l (places m)).length ≤ 100 := by
    have hm0 : marksErr m = 0 := by
      unfold dirErr at h
      by_cases h1 : bookErr l = 0
      · rw [if_neg (fun x => x h1)] at h; exact h
      · rw [if_pos h1] at h; exact absurd h h1
    rw [strL_len]; have := places_le m m.length (Nat.le_refl _); rw [List.take_length] at this; have := marks_few hm0; omega
  have hl0 : 0 < (strL l (places m)).length := by rw [strL_len]; omega
  have hT : (textL l).length ≤ 300 := by
    have hb0 : bookErr l = 0 := by
      unfold dirErr at h
      by_cases h1 : bookErr l = 0
      · exact h1
      · rw [if_pos h1] at h; exact h
    have := textL_le l; have := (book_ok hb0).few; omega
  obtain ⟨ho1, ho2⟩ := ho
  clear H h
  generalize strL l (places m) = ss at *
  go_enter Tryd.func18, Tryd.ntmps18
  go_wp2_with fail
  refine (HS.out _ HI.out).mono ?_
  rintro e w1 ⟨V, cv, rfl, hO, hb1⟩
  obtain ⟨g, rfl, hg1, hg2⟩ := hO.head (by omega)
  have HO := Lib.hid hO
  have HB1 := Lib.hid hb1
  clear hO hb1 hg2 hl0
  go_wp2_with fail
  go_loopw [24] (fun i wr => LocLoop w ss off g cv i wr) (fun i _ => ss.length - (intOf i).toNat)
  case atStart => exact ⟨0, by omega, rfl, HO, HB1, Lib.hid (fun j _ h => absurd h (by omega))⟩
  case round =>
    obtain ⟨k, hk, rfl, HOr, HBr, HN⟩ := hrel
    by_cases hkn : k < ss.length
    · obtain ⟨e0, e1, e2⟩ := HOr.out.str hkn
      obtain ⟨f, n, hst⟩ := HK.out k hkn
      rw [hst.from_] at e1
      rw [hst.long] at e2
      have hfT : f + n ≤ 300 := by have := hst.in_; omega
      have hhit : hit ss[k] off = (decide ((f : Int) ≤ off) && decide (off - (f : Int) < (n : Int))) := by unfold hit; rw [hst.from_, hst.long]
      have HH := Lib.hid hhit
      have HFr : Hid (ss[k].from_ = (f : Int)) := hst.from_
      have hlt : (k : Int) < (ss.length : Int) := by omega
      clear hst hhit
      generalize hpk : ss[k].place = p at e0
      clear hpk
      have HBa := Lib.hid (HBr.out.alloc HBr.out.size (.cells #[.string p, .int .i64 f, .int .i64 n] 46))
      have HOa := Lib.hid (HOr.out.alloc (.cells #[.string p, .int .i64 f, .int .i64 n] 46))
      have HBox := Lib.hid (Blk.new wr 46 #[.string p, .int .i64 f, .int .i64 n])
      have d1 : (wr.alloc (.cells #[.string p, .int .i64 f, .int .i64 n] 46)).cell? ⟨wr.heap.size, 1, none⟩ = some (.int .i64 f) := by rw [HBox.out.cell]; rfl
      have d2 : (wr.alloc (.cells #[.string p, .int .i64 f, .int .i64 n] 46)).cell? ⟨wr.heap.size, 2, none⟩ = some (.int .i64 n) := by rw [HBox.out.cell]; rfl
      have HNX : Hid (hit ss[k] off = false → ∀ j (hj : j < ss.length), j < k + 1 → hit ss[j] off = false) := fun hf j hj h1 => by
        rcases Nat.lt_or_eq_of_le (Nat.le_of_lt_succ h1) with h2 | h2
        · exact HN.out j hj h2
        · subst h2; exact hf
      by_cases hg0 : (f : Int) ≤ off
      · have hw : IntKind.i64.wrap (off - (f : Int)) = off - (f : Int) := by rw [IntWalk.i64_in _ (by omega)]
        have t0 : decide ((f : Int) ≤ off) = true := by simp; omega
        have t1 : decide (off ≥ (f : Int)) = true := by simp; omega
        by_cases hg1' : off - (f : Int) < (n : Int)
        · have hh : hit ss[k] off = true := by rw [HH.out, t0]; simpa using hg1'
          have HHt := Lib.hid hh
          have t2 : decide (off - (f : Int) < (n : Int)) = true := by simpa using hg1'
          clear hh
          go_wp2_with fail
          go_quiet (fail)
          go_wp2_with fail
          go_ret3
          exact ⟨.inl ⟨k, hkn, HHt.out, by rw [HFr.out]; rfl⟩, below_drewN HBa.out _⟩
        · have t2 : decide (off - (f : Int) < (n : Int)) = false := by simpa using hg1'
          have hh : hit ss[k] off = false := by rw [HH.out, t2]; simp
          have HHt := Lib.hid hh
          clear hh
          go_wp2_with fail
          go_roundw
          case rel => exact ⟨k + 1, by omega, by go_num, HOa, HBa, Lib.hid (HNX.out HHt.out)⟩
          case measure => simp [intOf]; omega
      · have t0 : decide ((f : Int) ≤ off) = false := by simpa using hg0
        have t1 : decide (off ≥ (f : Int)) = false := by simpa using hg0
        have hh : hit ss[k] off = false := by rw [HH.out, t0]; rfl
        have HHt := Lib.hid hh
        clear hh
        go_wp2_with fail
        go_roundw
        case rel => exact ⟨k + 1, by omega, by go_num, HOa, HBa, Lib.hid (HNX.out HHt.out)⟩
        case measure => simp [intOf]; omega
    · have hd : decide ((k : Int) < (ss.length : Int)) = false := by simp; omega
      go_wp2_with fail
      go_ret3
      exact ⟨.inr ⟨fun j hj => HN.out j hj (by omega), rfl⟩, HBr.out⟩
def OfPost (w : World) (ss : List LStr) (p : ByteArray) (e : Ending) (w' : World) : Prop :=
  (∃ k, ∃ hk : k < ss.length, (k = 0 ∨ ¬ ltP p ss[k].place) ∧ (∀ j (hj : j < ss.length), k < j → ltP p ss[j].place) ∧ e = .returned (.tuple #[.int .i64 k, .nilIface])) ∧ Below w.heap.size w w'
def OfLoop (w : World) (ss : List LStr) (p : ByteArray) (g cv : Nat) (i : Value) (wr : World) : Prop :=
  ∃ k : Nat, k < ss.length ∧ i = .int .i64 k ∧ Hid (Own wr w.heap.size 46 3 (some ⟨g, 0, none⟩) ss.length cv (scells ss)) ∧ Hid (Below w.heap.size w wr) ∧ Hid (∀ j (hj : j < ss.length), k < j → ltP p ss[j].place)
set_option maxRecDepth 100000 in
set_option maxHeartbeats 2000000 in
theorem of_any (H : DirIn w A c l A2 c2 m) (h : dirErr l m = 0) (p : ByteArray) (hp : placeErr p = 0) (hps : p.size ≤ 9223372036854775807) :
    Calls Tryd.prog 22 #[.slice A l.length c, .slice A2 m.length c2, .string p] w (OfPost w (strL l (places m)) p) := by
  have HS := Lib.hid (fun w (H : DirIn w A c l A2 c2 m) => stretches_ok H h)
  have HC := Lib.hid (fun w => check_any w p hps)
  have HP := Lib.hid hp
  have HI := Lib.hid H
  have hln : (strL l (places m)).length ≤ 100 := by
    have hm0 : marksErr m = 0 := by
      unfold dirErr at h
      by_cases h1 : bookErr l = 0
      · rw [if_neg (fun x => x h1)] at h; exact h
      · rw [if_pos h1] at h; exact absurd h h1
    rw [strL_len]; have := places_le m m.length (Nat.le_refl _); rw [List.take_length] at this; have := marks_few hm0; omega
  have hl0 : 0 < (strL l (places m)).length := by rw [strL_len]; omega
  clear H h hp hps
  generalize strL l (places m) = ss at *
  go_enter Tryd.func22, Tryd.ntmps22
  go_wp2_with fail
  refine (HS.out _ HI.out).mono ?_
  rintro e w1 ⟨V, cv, rfl, hO, hb1⟩
  obtain ⟨g, rfl, hg1, hg2⟩ := hO.head (by omega)
  have HO := Lib.hid hO
  have HB1 := Lib.hid hb1
  clear hO hb1 hg2
  go_wp2_with fail
  refine (HC.out _).mono ?_
  rintro e w2 ⟨rfl, hb2⟩
  rw [HP.out, show errV 0 = .nilIface from rfl]
  have HO2 := Lib.hid (HO.out.below hb2)
  have HB2 := Lib.hid (HB1.out.trans (hb2.mono HB1.out.size))
  clear hb2
  have q1 : IntKind.i64.wrap ((ss.length : Int) - 1) = (ss.length : Int) - 1 := by rw [IntWalk.i64_in _ (by omega)]
  go_wp2_with fail
  go_loopw [11] (fun i wr => OfLoop w ss p g cv i wr) (fun i _ => (intOf i).toNat)
  case atStart => exact ⟨ss.length - 1, by omega, by congr 1; omega, HO2, HB2, Lib.hid (fun j hj h => by omega)⟩
  case round =>
    obtain ⟨k, hk, rfl, HOr, HBr, HN⟩ := hrel
    have ki : (k : Int) < (ss.length : Int) := by omega
    rcases Nat.eq_zero_or_pos k with hk0 | hk0
    · subst hk0
      go_wp2_with fail
      go_ret2
      exact ⟨⟨0, hk, .inl rfl, HN.out, rfl⟩, HBr.out⟩
    · obtain ⟨j, rfl⟩ : ∃ j, k = j + 1 := ⟨k - 1, by omega⟩
      obtain ⟨e0, _, _⟩ := HOr.out.str hk
      have HQ : Hid (∀ q, q = ss[j + 1].place → (ltP p q → ∀ x (hx : x < ss.length), j < x → ltP p ss[x].place) ∧ (¬ ltP p q → ¬ ltP p ss[j + 1].place)) := fun q hq => by
        subst hq
        refine ⟨fun h x hx h1 => ?_, fun h => h⟩
        rcases Nat.lt_or_eq_of_le (show j + 1 ≤ x from h1) with h2 | h2
        · exact HN.out x hx h2
        · subst h2; exact h
      generalize hq : ss[j + 1].place = q at e0
      have HQ2 := Lib.hid (HQ.out q hq.symm)
      clear hq HQ
      have q2 : IntKind.i64.wrap ((j : Int) + 1 - 1) = (j : Int) := by rw [IntWalk.i64_in _ (by omega)]; omega
      have q3 : IntKind.i64.wrap (((j + 1 : Nat) : Int) - 1) = (j : Int) := by rw [IntWalk.i64_in _ (by omega)]; omega
      have j0 : (0 : Int) < (j : Int) + 1 := by omega
      have j1 : (0 : Int) ≤ (j : Int) + 1 := by omega
      have j2 : (j : Int) + 1 < (ss.length : Int) := by omega
      have t0 : decide ((0 : Int) < (j : Int) + 1) = true := decide_eq_true j0
      have t1 : decide ((j : Int) + 1 > 0) = true := decide_eq_true j0
      by_cases hlt : ltP p q
      · have b1 : Op.bytesLess q.toList p.toList = false := less_asymm' _ _ hlt
        have b2 : (q.toList == p.toList) = false := by
          rw [beq_eq_false_iff_ne]; intro h; unfold ltP at hlt; rw [h, less_irrefl'] at hlt; cases hlt
        have HH := Lib.hid (HQ2.out.1 hlt)
        clear hlt HQ2 HN
        go_wp2_with fail
        go_roundw
        case rel => exact ⟨j, by omega, by go_num, HOr, HBr, HH⟩
        case measure => simp [intOf]
      · have HH := Lib.hid (HQ2.out.2 hlt)
        by_cases he : q.toList = p.toList
        · have b2 : (q.toList == p.toList) = true := by simpa using he
          clear hlt HQ2 he
          go_wp2_with fail
          go_ret2
          exact ⟨⟨j + 1, hk, .inr HH.out, HN.out, rfl⟩, HBr.out⟩
        · have b2 : (q.toList == p.toList) = false := by rw [beq_eq_false_iff_ne]; exact he
          have b1 : Op.bytesLess q.toList p.toList = true := less_total' p.toList q.toList (by unfold ltP at hlt; simpa using hlt) (fun h => he h.symm)
          clear hlt HQ2 he
          go_wp2_with fail
          go_ret2
          exact ⟨⟨j + 1, hk, .inr HH.out, HN.out, rfl⟩, HBr.out⟩
end
end Go.Proofs.YteiadcdaleckjaaDoor
