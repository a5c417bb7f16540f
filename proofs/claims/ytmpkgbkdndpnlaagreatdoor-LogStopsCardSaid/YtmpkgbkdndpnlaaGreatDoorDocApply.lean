/- 2 texts in one: each says ahead of itself what is proved, and its conditions. -/
import Derived.Test.YtmpkgbkdndpnlaaGreatDoorDocAt
import Derived.Test.YtmpkgbkdndpnlaaGreatDoorDocTurn
/- slices.Clone of dots and of ops, walked. Conditions: few elements. -/
namespace Go.Proofs.YtmpkgbkdndpnlaaGreatDoor
open Go.RowKit
set_option linter.unusedVariables false
theorem elemD_ : Elem Tryz.prog 32 31 2 16 := Elem.mk_ (z := .agg #[.int .i64 0, .int .i64 0]) Tryz.underlying32 (by kernel_rfl) rfl (by decide)
set_option maxRecDepth 100000 in
theorem cloneD (w : World) (B : Nat) (A : Option Addr) (n c : Nat) (xs : List Value) (hr : Reads w B 2 A n xs) (h1 : OneCells xs) (hf : Fits n 16) (hB : B ≤ w.heap.size) :
    Calls Tryz.prog 59 #[.slice A n c] w (ClonePost w 31 2 n xs) := by
  have HF : Fits (0 + n) 16 := by simpa using hf
  have HR := hr.alloc hB (.cells #[] 31)
  cases A with
  | none =>
    have he := Lib.run_eql_slice_nil (P := Tryz.prog) w 32 31 none n c 0 0 Tryz.underlying32
    go_enter Tryz.func59, Tryz.ntmps59
    go_wp2
    go_ret
    have hn : n = 0 := by
      rcases Nat.eq_zero_or_pos n with h | h
      · exact h
      · obtain ⟨_, h, _⟩ := hr.2 h; cases h
    subst hn
    have hx : xs = [] := List.eq_nil_of_length_eq_zero (by simpa using hr.1)
    subst hx
    exact ⟨none, 0, rfl, Own.nil _ _ _ _, Below.refl _ _⟩
  | some ad =>
    have heS := Lib.run_eql_slice_nil (P := Tryz.prog) w 32 31 (some ad) n c 0 0 Tryz.underlying32
    go_enter Tryz.func59, Tryz.ntmps59
    go_wp2_with (at_builtin; refine wpList_app _ (.tmp 5) (.tmp 6) rfl rfl elemD_ rfl rfl (Own.made w 31 w.heap.size (Nat.le_refl _) 2) HR h1 HF (by simp) ?_; intro A' c' w1 HO HL HB)
    go_ret
    refine ⟨A', c', rfl, by simpa using HO, ?_⟩
    exact ((Below.refl _ _).alloc (Nat.le_refl _) _).trans (HL.below (by simp) (by simp [ob]))


theorem elemO_ : Elem Tryz.prog 40 34 6 72 := Elem.mk_ (z := .agg #[.int .i64 0, .int .i64 0, .int .i64 0, .string ⟨#[]⟩, .int .i64 0, .slice none 0 0]) Tryz.underlying40 (by kernel_rfl) rfl (by decide)
set_option maxRecDepth 100000 in
theorem cloneO (w : World) (B : Nat) (A : Option Addr) (n c : Nat) (xs : List Value) (hr : Reads w B 6 A n xs) (h1 : OneCells xs) (hf : Fits n 72) (hB : B ≤ w.heap.size) :
    Calls Tryz.prog 101 #[.slice A n c] w (ClonePost w 34 6 n xs) := by
  have HF : Fits (0 + n) 72 := by simpa using hf
  have HR := hr.alloc hB (.cells #[] 34)
  cases A with
  | none =>
    have he := Lib.run_eql_slice_nil (P := Tryz.prog) w 40 34 none n c 0 0 Tryz.underlying40
    go_enter Tryz.func101, Tryz.ntmps101
    go_wp2
    go_ret
    have hn : n = 0 := by
      rcases Nat.eq_zero_or_pos n with h | h
      · exact h
      · obtain ⟨_, h, _⟩ := hr.2 h; cases h
    subst hn
    have hx : xs = [] := List.eq_nil_of_length_eq_zero (by simpa using hr.1)
    subst hx
    exact ⟨none, 0, rfl, Own.nil _ _ _ _, Below.refl _ _⟩
  | some ad =>
    have heS := Lib.run_eql_slice_nil (P := Tryz.prog) w 40 34 (some ad) n c 0 0 Tryz.underlying40
    go_enter Tryz.func101, Tryz.ntmps101
    go_wp2_with (at_builtin; refine wpList_app _ (.tmp 5) (.tmp 6) rfl rfl elemO_ rfl rfl (Own.made w 34 w.heap.size (Nat.le_refl _) 6) HR h1 HF (by simp) ?_; intro A' c' w1 HO HL HB)
    go_ret
    refine ⟨A', c', rfl, by simpa using HO, ?_⟩
    exact ((Below.refl _ _).alloc (Nat.le_refl _) _).trans (HL.below (by simp) (by simp [ob]))


end Go.Proofs.YtmpkgbkdndpnlaaGreatDoor
/- (*doc.Doc).Apply, walked. Conditions: the document is right. -/
namespace Go.Proofs.YtmpkgbkdndpnlaaGreatDoor
open Go.RowKit
set_option linter.unusedVariables false
namespace LDoc
/-- What an op does, case by case. -/
theorem applyE_bad {d : LDoc} {o : LOp} {k : Int} (h : d.applyE o = k) (hk : k ≠ 0) : d.applyE o = k ∧ d.applyB o = false ∧ d.apply o = d := by
  have hb : d.applyB o = false := by unfold applyB; rw [h, decide_eq_false hk]; rfl
  exact ⟨h, hb, by unfold apply; rw [hb]; rfl⟩
theorem apply_bad1 {d : LDoc} {o : LOp} (h : opErr o ≠ 0) : d.applyE o = opErr o ∧ d.applyB o = false ∧ d.apply o = d := applyE_bad (by unfold applyE; rw [if_pos h]) h
theorem vd_zero {d : LDoc} (hk : d.Ok) {o : LOp} (h : opErr o = 0) : vdErr d.known o.dot = 0 := by
  unfold vdErr; rw [if_neg (fun h => h hk.known)]; exact (op_ok h).1
theorem apply_has {d : LDoc} (hk : d.Ok) {o : LOp} (h : opErr o = 0) (h2 : hasRes d.known o.dot = true) : d.applyE o = 0 ∧ d.applyB o = false ∧ d.apply o = d := by
  have hv := vd_zero hk h
  have e1 : d.applyE o = 0 := by unfold applyE; rw [if_neg (by omega), if_neg (by omega), if_pos h2]
  have e2 : d.applyB o = false := by unfold applyB; rw [h2, decide_eq_true h]; simp
  exact ⟨e1, e2, by unfold apply; rw [e2]; rfl⟩
theorem apply_bad2 {d : LDoc} (hk : d.Ok) {o : LOp} (h : opErr o = 0) (h2 : hasRes d.known o.dot = false) (h3 : addErr d.known o.dot ≠ 0) : d.applyE o = addErr d.known o.dot ∧ d.applyB o = false ∧ d.apply o = d := by
  have hv := vd_zero hk h
  exact applyE_bad (by unfold applyE; rw [if_neg (by omega), if_neg (by omega), if_neg (by rw [h2]; decide), if_pos h3]) h3
theorem apply_full {d : LDoc} (hk : d.Ok) {o : LOp} (h : opErr o = 0) (h2 : hasRes d.known o.dot = false) (h3 : addErr d.known o.dot = 0) (h4 : 400 ≤ d.ops.length) : d.applyE o = 4 ∧ d.applyB o = false ∧ d.apply o = d := by
  have hv := vd_zero hk h
  exact applyE_bad (by unfold applyE; rw [if_neg (by omega), if_neg (by omega), if_neg (by rw [h2]; decide), if_neg (by omega), if_pos h4]) (by decide)
theorem apply_bad3 {d : LDoc} (hk : d.Ok) {o : LOp} (h : opErr o = 0) (h2 : hasRes d.known o.dot = false) (h3 : addErr d.known o.dot = 0) (h4 : d.ops.length < 400) (h5 : d.turnE o ≠ 0) : d.applyE o = d.turnE o ∧ d.applyB o = false ∧ d.apply o = d := by
  have hv := vd_zero hk h
  exact applyE_bad (by unfold applyE; rw [if_neg (by omega), if_neg (by omega), if_neg (by rw [h2]; decide), if_neg (by omega), if_neg (by omega)]) h5
theorem apply_good {d : LDoc} (hk : d.Ok) {o : LOp} (h : opErr o = 0) (h2 : hasRes d.known o.dot = false) (h3 : addErr d.known o.dot = 0) (h4 : d.ops.length < 400) (h5 : d.turnE o = 0) :
    d.applyE o = 0 ∧ d.applyB o = true ∧ d.apply o = { d.turn o with known := addRes d.known o.dot, ops := (d.turn o).ops ++ [o] } := by
  have hv := vd_zero hk h
  have e1 : d.applyE o = 0 := by unfold applyE; rw [if_neg (by omega), if_neg (by omega), if_neg (by rw [h2]; decide), if_neg (by omega), if_neg (by omega)]; exact h5
  have e2 : d.applyB o = true := by unfold applyB; rw [h2, e1]; simp
  exact ⟨e1, e2, by unfold apply; rw [e2, (turn_rest d o).2]; rfl⟩
end LDoc
def ApplyPost (w : World) (B : Nat) (S : List Nat) (b : Nat) (is : Bool) (k : Int) (st : LDoc) (e : Ending) (w' : World) : Prop := e = .returned (.tuple #[.bool is, errV k]) ∧ DocTo w B S b st w'
/-- The last step: the seen dots cloned, the op appended, all laid. -/
theorem apply_close {w w5 w6 W6 w8 : World} {B : Nat} {S S1 : List Nat} {b : Nat} {st : LDoc} {D1 : DLay} {o : LOp} {V2 V K : Option Addr} {c2 cV cK : Nat} {kn : List Int} {cs : Array Value}
    (hB : B ≤ w.heap.size) (ho : Only S w w5) (hs : ∀ g ∈ S1, g ∈ S ∨ w.heap.size ≤ g) (hd : DocIs w5 B S1 b st D1) (hK : Own w5 (w.heap.size + 1) 3 1 K kn.length cK (ints kn))
    (h6 : Below w5.heap.size w5 w6) (hy : Own w6 w5.heap.size 31 2 V2 o.seen.length c2 (dcells o.seen)) (hbox : w.heap.size < w5.heap.size) (hW6 : W6 = w6.setCell ⟨w.heap.size, 5, none⟩ (.slice V2 o.seen.length c2))
    (hV : Own w8 B 34 6 V (st.ops.length + 1) cV (ocells D1.ys ++ OpAt.cells ⟨o, V2, c2⟩))
    (ho8 : Only (ob D1.a4) (W6.drew.alloc (.cells cs 34)) w8) (hg8 : ∀ g ∈ ob V, g ∈ ob D1.a4 ∨ g = (W6.drew.alloc (.cells cs 34)).heap.size)
    (hbx : w.heap.size ∉ S1) :
    DocTo w B S b { st with known := kn, ops := st.ops ++ [o] } ((w8.setCell ⟨b, 2, none⟩ (.slice K kn.length cK)).setCell ⟨b, 3, none⟩ (.slice V (st.ops.length + 1) cV)) := by
  have ho67 : Only [w.heap.size] w6 (W6.drew.alloc (.cells cs 34)) := by
    rw [hW6]
    exact (((Only.refl [w.heap.size] w6).setCell (.inl (by simp)) _).drew).alloc _
  have ho57 := (Only.of_below (S := [w.heap.size]) h6).trans ho67
  generalize W6.drew.alloc (.cells cs 34) = W7 at *
  have hsz : w.heap.size ≤ w5.heap.size := ho.size
  have hd7 := hd.only ho57 (fun g hg => by simp at hg; subst hg; exact hbx)
  have hK7 : Own W7 B 3 1 K kn.length cK (ints kn) := (hK.only ho57 (fun g hg hm => by
    simp at hm; subst hm
    have := (hK.lt _ hg).1; omega)).mono (by omega)
  have hy7 : Own W7 B 31 2 V2 o.seen.length c2 (dcells o.seen) := (hy.only ho67 (fun g hg hm => by
    simp at hm; subst hm
    have := (hy.lt _ hg).1; omega)).mono (by omega)
  have hb4 : b ∉ ob D1.a4 := hd7.ops.blk_ne hd7.blk (by decide)
  have hb8 := ho8.blk hd7.blk hb4
  have ho2 : Only [b] w8 ((w8.setCell ⟨b, 2, none⟩ (.slice K kn.length cK)).setCell ⟨b, 3, none⟩ (.slice V (st.ops.length + 1) cV)) := ((Only.refl [b] w8).setCell (.inl (by simp)) _).setCell (.inl (by simp)) _
  have e1 : (st.ops ++ [o]).length = st.ops.length + 1 := by simp
  have hb9 := (hb8.set_ 2 (.slice K kn.length cK)).set_ 3 (.slice V (st.ops.length + 1) cV)
  have hfin := hd7.setOps (y := ⟨o, V2, c2⟩) hy7 hK7 hV ho8 ho2 (by
    unfold DLay.cells
    simp only [e1]
    exact hb9)
  have h57 := ho57.size
  have h78 := ho8.size
  refine ⟨_, _, hfin, ?_, fun g hg => ?_⟩
  · refine ((ho.trans_new ho57 (fun i hi => by simp at hi; exact .inr (by omega))).trans_new ho8 (fun i hi => hs i (hd.sub4 i hi))).trans_new ho2 (fun i hi => by simp at hi; subst hi; exact hs _ hd.subb)
  · rcases List.mem_append.1 hg with hg | hg
    · exact .inr (by have := (hK7.lt g hg).1; have := (hK.lt g hg).1; omega)
    rcases List.mem_append.1 hg with hg | hg
    · rcases hg8 g hg with h | h
      · exact hs g (hd.sub4 g h)
      · exact .inr (by omega)
    rcases List.mem_append.1 hg with hg | hg
    · exact .inr (by have := (hy.lt g hg).1; omega)
    · exact hs g hg
set_option maxRecDepth 100000 in
set_option maxHeartbeats 8000000 in
theorem apply_doc (w : World) (B : Nat) (S : List Nat) (b : Nat) (st : LDoc) (D : DLay) (h : DocIs w B S b st D) (ok : st.Ok) (o : LOp) (A : Option Addr) (c : Nat) (hp : o.place.size ≤ 9223372036854775807)
    (hr : Reads w w.heap.size 2 A o.seen.length (dcells o.seen)) (hns : 0 < o.seen.length → ∀ g ∈ ob A, g ∉ S) :
    Calls Tryz.prog 33 #[.pointer (some ⟨b, 0, none⟩), o.val A c] w (ApplyPost w B S b (st.applyB o) (st.applyE o) (st.apply o)) := by
  obtain ⟨W0, hW0⟩ : ∃ W0, W0 = w.alloc (.cells (o.cells A c) 34) := ⟨_, rfl⟩
  have HB : Hid (Beside w B S b st D o A c W0) := by show Beside _ _ _ _ _ _ _ _ _ _; rw [hW0]; exact Beside.new h o A c
  have HRS : Hid (Reads W0 W0.heap.size 2 A o.seen.length (dcells o.seen)) := (hr.below HB.out.below).more HB.out.below.size
  have HBR : Hid (Below W0.heap.size W0 W0) := Below.refl _ _
  have HCEL := Lib.hid (fun W (hb : Below W0.heap.size W0 W) => HB.out.cells hb)
  have HFR := Lib.hid (fun W (hb : Below W0.heap.size W0 W) => HB.out.frozen hb)
  have HBK := Lib.hid (fun W (hb : Below W0.heap.size W0 W) => HB.out.back hb)
  have HBW := Lib.hid HB.out.below
  have HDW := Lib.hid h
  have HDO := Lib.hid HB.out.doc
  obtain ⟨hbs, hb0⟩ := HB.out.lt
  have HCK := Lib.hid (fun W (hb : Below W0.heap.size W0 W) => opCheck_any W A c o ((HRS.out.below hb).more hb.size) hp)
  have hkl := vec_ok ok.known
  have HCH := Lib.hid (fun W (hb : Below W0.heap.size W0 W) => has_any W D.a3 D.c3 st.known o.dot (HB.out.doc.below hb).known.reads (by omega))
  have HCA := Lib.hid (fun W (hb : Below W0.heap.size W0 W) => add_any W D.a3 D.c3 st.known o.dot (HB.out.doc.below hb).known.reads (by omega))
  have HBAD1 := Lib.hid (fun h1 => LDoc.apply_bad1 (d := st) (o := o) h1)
  have hE : st.applyE o = st.applyE o := rfl
  have HE0 : errV 0 = .nilIface := rfl
  by_cases h1 : opErr o = 0
  · have HE : Hid (errV (opErr o) = .nilIface) := by rw [h1]; rfl
    have hv := LDoc.vd_zero ok h1
    have HV : Hid (errV (vdErr st.known o.dot) = .nilIface) := by rw [hv]; rfl
    cases h2 : hasRes st.known o.dot with
    | true =>
      obtain ⟨k1, k2, k3⟩ := LDoc.apply_has ok h1 h2
      rw [k1, k2, k3]
      have HH := Lib.hid h2
      clear h ok hp hr hns k1 k2 k3 HBAD1 hE HCA hkl HB h1 h2 hv
      obtain ⟨⟨who, n⟩, what, p, letter, seen⟩ := o
      unfold LOp.val at *
      unfold LOp.cells at hW0
      simp only at *
      obtain ⟨c0, c1, c2, c3, c4, d0, d1, d2, d3, d4, d5⟩ := HCEL.out _ HBR.out
      go_enter Tryz.func33, Tryz.ntmps33
      go_wp2_with fail
      rw [← hW0]
      clear hW0
      refine (HCK.out _ HBR.out).mono ?_
      rintro e w1 ⟨rfl, hb1⟩
      rw [HE.out]
      have HB1 := Lib.hid hb1
      clear hb1
      clear c0 c1 c2 c3 c4 d0 d1 d2 d3 d4 d5
      obtain ⟨c0, c1, c2, c3, c4, d0, d1, d2, d3, d4, d5⟩ := HCEL.out _ HB1.out
      go_wp2_with fail
      go_region_held3 (fun w' => w'.cell? ⟨b, 2, none⟩ = some (.slice D.a3 st.known.length D.c3) ∧ w'.cell? ⟨w.heap.size, 0, none⟩ = some (.int .i64 who) ∧ w'.cell? ⟨w.heap.size, 1, none⟩ = some (.int .i64 n))
        (first | go_keep | (refine ⟨?_, ?_, ?_⟩ <;> assumption))
        ((go_at_call 56; refine (HCH.out _ (by first | exact HB1.out | exact below_drewN HB1.out _ | exact HB1.out.drew)).mono ?_; rintro e w2 ⟨rfl, hb2⟩
          have HB2 : Hid (Below W0.heap.size W0 w2) := HB1.out.trans (Below.mono (by first | exact hb2 | exact below_of_drewN (n := 1) hb2) HB1.out.size)
          obtain ⟨e0, e1, e2, e3, e4, f0, f1, f2, f3, f4, f5⟩ := HCEL.out _ HB2.out
          clear hb2))
      rw [HV.out, HH.out]
      go_wp2_with fail
      go_ret2
      exact ⟨rfl, DocTo.same HDW.out (HBK.out _ HB2.out)⟩
    | false =>
      have HH := Lib.hid h2
      by_cases h3 : addErr st.known o.dot = 0
      · have hal : (addRes st.known o.dot).length = st.known.length := by simp [addRes]
        have HCA : Hid (∀ W, Below W0.heap.size W0 W → Calls Tryz.prog 57 #[.slice D.a3 st.known.length D.c3, .agg #[.int .i64 o.dot.who, .int .i64 o.dot.n]] W fun e w' => ∃ V c, e = .returned (.tuple #[.slice V (addRes st.known o.dot).length c, .nilIface]) ∧ Own w' (w.heap.size + 1) 3 1 V (addRes st.known o.dot).length c (ints (addRes st.known o.dot)) ∧ Below W.heap.size W w') :=
          fun W hb => (HCA.out W hb).mono fun e w' hh => by
            unfold AddPost at hh; rw [if_pos h3] at hh
            obtain ⟨V, c, h1, h2, h3⟩ := hh
            have hz := hb.size
            have hz2 := HB.out.size
            exact ⟨V, c, by rw [hal]; exact h1, by rw [hal]; exact h2.mono (by omega), h3⟩
        have HKB : Hid (w.heap.size + 1 ≤ w.heap.size + 1) := Nat.le_refl _
        have HBOX : Hid (∀ W W', Below W0.heap.size W0 W → Only S W W' → Blk W' w.heap.size 34 (o.cells A c)) := fun W W' hb ho => ho.blk (HB.out.box.below hb HB.out.box.lt) (fun hm => by have := (h.own _ hm).2; omega)
        have hol := ok.few
        by_cases h4 : 400 ≤ st.ops.length
        · obtain ⟨k1, k2, k3⟩ := LDoc.apply_full ok h1 h2 h3 h4
          rw [k1, k2, k3]
          generalize addRes st.known o.dot = kn at *
          have g4 : decide ((st.ops.length : Int) ≥ 400) = true := decide_eq_true (by omega)
          have g4' : (400 : Int) ≤ (st.ops.length : Int) := by omega
          clear h ok hp hr hns k1 k2 k3 HBAD1 hE hkl HB h1 h2 hv h3 hal h4
          obtain ⟨⟨who, n⟩, what, p, letter, seen⟩ := o
          unfold LOp.val at *
          unfold LOp.cells at hW0 HBOX
          simp only at *
          obtain ⟨c0, c1, c2, c3, c4, d0, d1, d2, d3, d4, d5⟩ := HCEL.out _ HBR.out
          go_enter Tryz.func33, Tryz.ntmps33
          go_wp2_with fail
          rw [← hW0]
          clear hW0
          refine (HCK.out _ HBR.out).mono ?_
          rintro e w1 ⟨rfl, hb1⟩
          rw [HE.out]
          have HB1 := Lib.hid hb1
          clear hb1
          clear c0 c1 c2 c3 c4 d0 d1 d2 d3 d4 d5
          obtain ⟨c0, c1, c2, c3, c4, d0, d1, d2, d3, d4, d5⟩ := HCEL.out _ HB1.out
          go_wp2_with fail
          go_region_held3 (fun w' => w'.cell? ⟨b, 2, none⟩ = some (.slice D.a3 st.known.length D.c3) ∧ w'.cell? ⟨w.heap.size, 0, none⟩ = some (.int .i64 who) ∧ w'.cell? ⟨w.heap.size, 1, none⟩ = some (.int .i64 n))
            (first | go_keep | (refine ⟨?_, ?_, ?_⟩ <;> assumption))
            ((go_at_call 56; refine (HCH.out _ (by first | exact HB1.out | exact below_drewN HB1.out _ | exact HB1.out.drew)).mono ?_; rintro e w2 ⟨rfl, hb2⟩
              have HB2 : Hid (Below W0.heap.size W0 w2) := HB1.out.trans (Below.mono (by first | exact hb2 | exact below_of_drewN (n := 1) hb2) HB1.out.size)
              obtain ⟨e0, e1, e2, e3, e4, f0, f1, f2, f3, f4, f5⟩ := HCEL.out _ HB2.out
              clear hb2))
          rw [HV.out, HH.out]
          go_wp2_with fail
          go_region_held3 (fun w' => w'.cell? ⟨b, 2, none⟩ = some (.slice D.a3 st.known.length D.c3) ∧ w'.cell? ⟨w.heap.size, 0, none⟩ = some (.int .i64 who) ∧ w'.cell? ⟨w.heap.size, 1, none⟩ = some (.int .i64 n))
            (first | go_keep | (refine ⟨?_, ?_, ?_⟩ <;> assumption))
            ((go_at_call 57; refine (HCA.out _ (by first | exact HB2.out | exact below_drewN HB2.out _ | exact HB2.out.drew)).mono ?_; rintro e w3 ⟨K, cK, rfl, hK, hb3⟩
              have HB3 : Hid (Below W0.heap.size W0 w3) := HB2.out.trans (Below.mono (by first | exact hb3 | exact below_of_drewN (n := 1) hb3) HB2.out.size)
              have HK3 : Hid (Own w3 (w.heap.size + 1) 3 1 K kn.length cK (ints kn)) := hK.mono HKB.out
              obtain ⟨g0, g1, g2, g3, g4, i0, i1, i2, i3, i4, i5⟩ := HCEL.out _ HB3.out
              clear hb3 hK c0 c1 c2 c3 c4 d0 d1 d2 d3 d4 d5 e0 e1 e2 e3 e4 f0 f1 f2 f3 f4 f5))
          go_wp2_with fail
          go_ret2
          exact ⟨rfl, DocTo.same HDW.out (HBK.out _ HB3.out)⟩
        · have g4' : ¬ (400 : Int) ≤ (st.ops.length : Int) := by omega
          have HCT := Lib.hid (fun W (hb : Below W0.heap.size W0 W) => turn_doc W B S b st D (HB.out.doc.below hb) ok o A c h1 ((HRS.out.below hb).more hb.size) hns)
          by_cases h5 : st.turnE o = 0
          · obtain ⟨k1, k2, k3⟩ := LDoc.apply_good ok h1 h2 h3 (by omega) h5
            have hto : (st.turn o).ops.length ≤ 400 := by rw [(LDoc.turn_rest st o).2]; exact hol
            have hsl := (op_ok h1).2.2.2.2.2.2.1
            have HSB : Hid (B ≤ w.heap.size) := h.size
            have HSO : Hid (∀ g ∈ S, g < w.heap.size) := fun g hg => (h.own g hg).2
            rw [k1, k2, k3]
            rw [h5] at HCT
            have HNS := Lib.hid hns
            generalize addRes st.known o.dot = kn at *
            generalize st.turn o = kt at *
            clear h ok hp hr hns k1 k2 k3 HBAD1 hE hkl HB h1 h2 hv h3 hal h4 h5 hol
            obtain ⟨⟨who, n⟩, what, p, letter, seen⟩ := o
            unfold LOp.val at *
            unfold LOp.cells at hW0 HBOX
            simp only at *
            obtain ⟨c0, c1, c2, c3, c4, d0, d1, d2, d3, d4, d5⟩ := HCEL.out _ HBR.out
            go_enter Tryz.func33, Tryz.ntmps33
            go_wp2_with fail
            rw [← hW0]
            clear hW0
            refine (HCK.out _ HBR.out).mono ?_
            rintro e w1 ⟨rfl, hb1⟩
            rw [HE.out]
            have HB1 := Lib.hid hb1
            clear hb1
            clear c0 c1 c2 c3 c4 d0 d1 d2 d3 d4 d5
            obtain ⟨c0, c1, c2, c3, c4, d0, d1, d2, d3, d4, d5⟩ := HCEL.out _ HB1.out
            go_wp2_with fail
            go_region_held3 (fun w' => w'.cell? ⟨b, 2, none⟩ = some (.slice D.a3 st.known.length D.c3) ∧ w'.cell? ⟨w.heap.size, 0, none⟩ = some (.int .i64 who) ∧ w'.cell? ⟨w.heap.size, 1, none⟩ = some (.int .i64 n))
              (first | go_keep | (refine ⟨?_, ?_, ?_⟩ <;> assumption))
              ((go_at_call 56; refine (HCH.out _ (by first | exact HB1.out | exact below_drewN HB1.out _ | exact HB1.out.drew)).mono ?_; rintro e w2 ⟨rfl, hb2⟩
                have HB2 : Hid (Below W0.heap.size W0 w2) := HB1.out.trans (Below.mono (by first | exact hb2 | exact below_of_drewN (n := 1) hb2) HB1.out.size)
                obtain ⟨e0, e1, e2, e3, e4, f0, f1, f2, f3, f4, f5⟩ := HCEL.out _ HB2.out
                clear hb2))
            rw [HV.out, HH.out]
            go_wp2_with fail
            go_region_held3 (fun w' => w'.cell? ⟨b, 2, none⟩ = some (.slice D.a3 st.known.length D.c3) ∧ w'.cell? ⟨w.heap.size, 0, none⟩ = some (.int .i64 who) ∧ w'.cell? ⟨w.heap.size, 1, none⟩ = some (.int .i64 n))
              (first | go_keep | (refine ⟨?_, ?_, ?_⟩ <;> assumption))
              ((go_at_call 57; refine (HCA.out _ (by first | exact HB2.out | exact below_drewN HB2.out _ | exact HB2.out.drew)).mono ?_; rintro e w3 ⟨K, cK, rfl, hK, hb3⟩
                have HB3 : Hid (Below W0.heap.size W0 w3) := HB2.out.trans (Below.mono (by first | exact hb3 | exact below_of_drewN (n := 1) hb3) HB2.out.size)
                have HK3 : Hid (Own w3 (w.heap.size + 1) 3 1 K kn.length cK (ints kn)) := hK.mono HKB.out
                obtain ⟨g0, g1, g2, g3, g4, i0, i1, i2, i3, i4, i5⟩ := HCEL.out _ HB3.out
                clear hb3 hK c0 c1 c2 c3 c4 d0 d1 d2 d3 d4 d5 e0 e1 e2 e3 e4 f0 f1 f2 f3 f4 f5))
            go_wp2_with fail
            refine (HCT.out _ HB3.out).mono ?_
            rintro e w5 ⟨rfl, S1, D1, hd5, ho5, hs5⟩
            rw [HE0]
            have hz3 := HB3.out.size
            have hz0 := HBW.out.size
            have HB5 := Lib.hid (HBOX.out _ _ HB3.out ho5)
            have hK5 : Own w5 (w.heap.size + 1) 3 1 K kn.length cK (ints kn) := HK3.out.only ho5 (fun g hg hm => by have := (HK3.out.lt g hg).1; have := HSO.out g hm; omega)
            have hO5 : Only S w w5 := (Only.of_below (HBK.out _ HB3.out)).trans ho5
            have hs5' : ∀ g ∈ S1, g ∈ S ∨ w.heap.size ≤ g := fun g hg => (hs5 g hg).imp id (fun h => by omega)
            have hbx : w.heap.size ∉ S1 := fun hm => by
              rcases hs5 _ hm with h | h
              · have := HSO.out _ h; omega
              · omega
            have hR5 : Reads w5 w5.heap.size 2 A seen.length (dcells seen) := Reads.only ((HRS.out.below HB3.out).more HB3.out.size) ho5 HNS.out
            have HCL := Lib.hid (cloneD w5 w5.heap.size A seen.length c (dcells seen) hR5 (oneCells_d seen) (Fits.of_small (by omega) (by decide)) (Nat.le_refl _))
            have i5' : w5.cell? ⟨w.heap.size, 5, none⟩ = some (.slice A seen.length c) := by rw [HB5.out.cell]; rfl
            have HD5 := Lib.hid hd5
            have HK5 := Lib.hid hK5
            have HO5 := Lib.hid hO5
            have HS5 := Lib.hid hs5'
            have HBX := Lib.hid hbx
            have hz5 := hO5.size
            have hbx5 := HB5.out.lt
            have hb1 := hd5.bS.2
            have hne : w.heap.size ≠ b := by omega
            clear hd5 hK5 hO5 hs5 hs5' hbx hR5 ho5 g0 g1 g2 g3 g4 i0 i1 i2 i3 i4 i5 HK3 HB3 HCEL HCK HCH HCA HCT HBOX
            go_wp2_with fail
            refine (HCL.out).mono ?_
            rintro e w6 ⟨V2, c2', rfl, hy, hb6⟩
            have HB6 := Lib.hid (HB5.out.below hb6 HB5.out.lt)
            have i5' : w6.cell? ⟨w.heap.size, 5, none⟩ = some (.slice A seen.length c) := by rw [HB6.out.cell]; rfl
            have fz5 := HB6.out.frozen 5
            have HY := Lib.hid hy
            have HB56 := Lib.hid hb6
            clear hy hb6
            go_wp2_with fail
            obtain ⟨W6, hW6⟩ : ∃ W6, W6 = w6.setCell ⟨w.heap.size, 5, none⟩ (.slice V2 seen.length c2') := ⟨_, rfl⟩
            rw [← hW6]
            have HB7 : Hid (Blk W6 w.heap.size 34 #[.int .i64 who, .int .i64 n, .int .i64 what, .string p, .int .i64 letter, .slice V2 seen.length c2']) := by
              show Blk _ _ _ _
              rw [hW6]; exact HB6.out.set_ 5 _
            have HD7 : Hid (DocIs W6 B S1 b kt D1) := by
              show DocIs _ _ _ _ _ _
              rw [hW6]
              exact (HD5.out.below HB56.out).only (T := [w.heap.size]) ((Only.refl _ _).setCell (.inl (by simp)) _) (fun g hg => by simp at hg; subst hg; exact HBX.out)
            have j0 : W6.cell? ⟨w.heap.size, 0, none⟩ = some (.int .i64 who) := by rw [HB7.out.cell]; rfl
            have j1 : W6.cell? ⟨w.heap.size, 1, none⟩ = some (.int .i64 n) := by rw [HB7.out.cell]; rfl
            have j2 : W6.cell? ⟨w.heap.size, 2, none⟩ = some (.int .i64 what) := by rw [HB7.out.cell]; rfl
            have j3 : W6.cell? ⟨w.heap.size, 3, none⟩ = some (.string p) := by rw [HB7.out.cell]; rfl
            have j4 : W6.cell? ⟨w.heap.size, 4, none⟩ = some (.int .i64 letter) := by rw [HB7.out.cell]; rfl
            have j5 : W6.cell? ⟨w.heap.size, 5, none⟩ = some (.slice V2 seen.length c2') := by rw [HB7.out.cell]; rfl
            have k3 : W6.cell? ⟨b, 3, none⟩ = some (.slice D1.a4 kt.ops.length D1.c4) := by rw [HD7.out.blk.cell]; rfl
            have k2 : W6.cell? ⟨b, 2, none⟩ = some (.slice D1.a3 kt.known.length D1.c3) := by rw [HD7.out.blk.cell]; rfl
            have HW6 := Lib.hid hW6
            have hB6 : B ≤ W6.heap.size := HD7.out.size
            have HONE : Hid (OneCells [Value.int .i64 who, .int .i64 n, .int .i64 what, .string p, .int .i64 letter, .slice V2 seen.length c2']) := by
              show OneCells _
              intro u hu
              simp only [List.mem_cons, List.not_mem_nil, or_false] at hu
              rcases hu with rfl | rfl | rfl | rfl | rfl | rfl <;> rfl
            have HFIT : Hid (Fits (kt.ops.length + 1) 72) := Fits.of_small (by omega) (by decide)
            have hb4 : b ∉ ob D1.a4 := HD7.out.ops.blk_ne HD7.out.blk (by decide)
            have k3a : (W6.alloc (.cells #[.int .i64 who, .int .i64 n, .int .i64 what, .string p, .int .i64 letter, .slice V2 seen.length c2'] 34)).cell? ⟨b, 3, none⟩ = some (.slice D1.a4 kt.ops.length D1.c4) := by rw [(HD7.out.blk.alloc _).cell]; rfl
            clear hW6
            go_region_law ((
              refine step_app _ (.tmp 70) (.tmp 72) rfl rfl elemO_ rfl rfl ((HD7.out.ops.drew).alloc _) (Reads.row W6.drew 34 #[.int .i64 who, .int .i64 n, .int .i64 what, .string p, .int .i64 letter, .slice V2 seen.length c2']) HONE.out HFIT.out (by simp; omega) ?_
              intro V cV w8 hO hL hg
              have hb8 := hL.blk ((HD7.out.blk.drew).alloc _) hb4
              have n2 : w8.cell? ⟨b, 2, none⟩ = some (.slice D1.a3 kt.known.length D1.c3) := by { rw [hb8.cell]; rfl }
              have n3 : w8.cell? ⟨b, 3, none⟩ = some (.slice D1.a4 kt.ops.length D1.c4) := by { rw [hb8.cell]; rfl }
              have m2 := hb8.frozen 2
              have m3 := hb8.frozen 3))
            all_goals
              go_wp2_with fail
              go_ret2
              exact ⟨rfl, apply_close (o := ⟨⟨who, n⟩, what, p, letter, seen⟩) HSB.out HO5.out HS5.out HD5.out HK5.out HB56.out HY.out hbx5 HW6.out hO hL hg HBX.out⟩
          · obtain ⟨k1, k2, k3⟩ := LDoc.apply_bad3 ok h1 h2 h3 (by omega) h5
            have hsame := LDoc.turn_same h5
            rw [k1, k2, k3]
            rw [hsame] at HCT
            have HET := Lib.hid (errV_ne h5)
            generalize addRes st.known o.dot = kn at *
            generalize st.turnE o = te at *
            clear h ok hp hr hns k1 k2 k3 HBAD1 hE hkl HB h1 h2 hv h3 hal h4 h5 hol hsame
            obtain ⟨⟨who, n⟩, what, p, letter, seen⟩ := o
            unfold LOp.val at *
            unfold LOp.cells at hW0 HBOX
            simp only at *
            obtain ⟨c0, c1, c2, c3, c4, d0, d1, d2, d3, d4, d5⟩ := HCEL.out _ HBR.out
            go_enter Tryz.func33, Tryz.ntmps33
            go_wp2_with fail
            rw [← hW0]
            clear hW0
            refine (HCK.out _ HBR.out).mono ?_
            rintro e w1 ⟨rfl, hb1⟩
            rw [HE.out]
            have HB1 := Lib.hid hb1
            clear hb1
            clear c0 c1 c2 c3 c4 d0 d1 d2 d3 d4 d5
            obtain ⟨c0, c1, c2, c3, c4, d0, d1, d2, d3, d4, d5⟩ := HCEL.out _ HB1.out
            go_wp2_with fail
            go_region_held3 (fun w' => w'.cell? ⟨b, 2, none⟩ = some (.slice D.a3 st.known.length D.c3) ∧ w'.cell? ⟨w.heap.size, 0, none⟩ = some (.int .i64 who) ∧ w'.cell? ⟨w.heap.size, 1, none⟩ = some (.int .i64 n))
              (first | go_keep | (refine ⟨?_, ?_, ?_⟩ <;> assumption))
              ((go_at_call 56; refine (HCH.out _ (by first | exact HB1.out | exact below_drewN HB1.out _ | exact HB1.out.drew)).mono ?_; rintro e w2 ⟨rfl, hb2⟩
                have HB2 : Hid (Below W0.heap.size W0 w2) := HB1.out.trans (Below.mono (by first | exact hb2 | exact below_of_drewN (n := 1) hb2) HB1.out.size)
                obtain ⟨e0, e1, e2, e3, e4, f0, f1, f2, f3, f4, f5⟩ := HCEL.out _ HB2.out
                clear hb2))
            rw [HV.out, HH.out]
            go_wp2_with fail
            go_region_held3 (fun w' => w'.cell? ⟨b, 2, none⟩ = some (.slice D.a3 st.known.length D.c3) ∧ w'.cell? ⟨w.heap.size, 0, none⟩ = some (.int .i64 who) ∧ w'.cell? ⟨w.heap.size, 1, none⟩ = some (.int .i64 n))
              (first | go_keep | (refine ⟨?_, ?_, ?_⟩ <;> assumption))
              ((go_at_call 57; refine (HCA.out _ (by first | exact HB2.out | exact below_drewN HB2.out _ | exact HB2.out.drew)).mono ?_; rintro e w3 ⟨K, cK, rfl, hK, hb3⟩
                have HB3 : Hid (Below W0.heap.size W0 w3) := HB2.out.trans (Below.mono (by first | exact hb3 | exact below_of_drewN (n := 1) hb3) HB2.out.size)
                have HK3 : Hid (Own w3 (w.heap.size + 1) 3 1 K kn.length cK (ints kn)) := hK.mono HKB.out
                obtain ⟨g0, g1, g2, g3, g4, i0, i1, i2, i3, i4, i5⟩ := HCEL.out _ HB3.out
                clear hb3 hK c0 c1 c2 c3 c4 d0 d1 d2 d3 d4 d5 e0 e1 e2 e3 e4 f0 f1 f2 f3 f4 f5))
            go_wp2_with fail
            refine (HCT.out _ HB3.out).mono ?_
            rintro e w5 ⟨rfl, hd5⟩
            rw [HET.out]
            have HD5 := Lib.hid (DocTo.back (Only.of_below (HBK.out _ HB3.out)) (fun g hg => .inl hg) hd5)
            clear hd5 HB3 HK3
            go_wp2_with fail
            go_ret2
            exact ⟨by rw [HET.out]; rfl, HD5.out⟩
      · obtain ⟨k1, k2, k3⟩ := LDoc.apply_bad2 ok h1 h2 h3
        rw [k1, k2, k3]
        have HEA := Lib.hid (errV_ne h3)
        have HCA : Hid (∀ W, Below W0.heap.size W0 W → Calls Tryz.prog 57 #[.slice D.a3 st.known.length D.c3, .agg #[.int .i64 o.dot.who, .int .i64 o.dot.n]] W fun e w' => e = .returned (.tuple #[.slice none 0 0, errV (addErr st.known o.dot)]) ∧ Below W.heap.size W w') :=
          fun W hb => (HCA.out W hb).mono fun e w' hh => by unfold AddPost at hh; rw [if_neg h3] at hh; exact hh
        clear h ok hp hr hns k1 k2 k3 HBAD1 hE hkl HB h1 h2 hv h3
        obtain ⟨⟨who, n⟩, what, p, letter, seen⟩ := o
        unfold LOp.val at *
        unfold LOp.cells at hW0
        simp only at *
        obtain ⟨c0, c1, c2, c3, c4, d0, d1, d2, d3, d4, d5⟩ := HCEL.out _ HBR.out
        go_enter Tryz.func33, Tryz.ntmps33
        go_wp2_with fail
        rw [← hW0]
        clear hW0
        refine (HCK.out _ HBR.out).mono ?_
        rintro e w1 ⟨rfl, hb1⟩
        rw [HE.out]
        have HB1 := Lib.hid hb1
        clear hb1
        clear c0 c1 c2 c3 c4 d0 d1 d2 d3 d4 d5
        obtain ⟨c0, c1, c2, c3, c4, d0, d1, d2, d3, d4, d5⟩ := HCEL.out _ HB1.out
        go_wp2_with fail
        go_region_held3 (fun w' => w'.cell? ⟨b, 2, none⟩ = some (.slice D.a3 st.known.length D.c3) ∧ w'.cell? ⟨w.heap.size, 0, none⟩ = some (.int .i64 who) ∧ w'.cell? ⟨w.heap.size, 1, none⟩ = some (.int .i64 n))
          (first | go_keep | (refine ⟨?_, ?_, ?_⟩ <;> assumption))
          ((go_at_call 56; refine (HCH.out _ (by first | exact HB1.out | exact below_drewN HB1.out _ | exact HB1.out.drew)).mono ?_; rintro e w2 ⟨rfl, hb2⟩
            have HB2 : Hid (Below W0.heap.size W0 w2) := HB1.out.trans (Below.mono (by first | exact hb2 | exact below_of_drewN (n := 1) hb2) HB1.out.size)
            obtain ⟨e0, e1, e2, e3, e4, f0, f1, f2, f3, f4, f5⟩ := HCEL.out _ HB2.out
            clear hb2))
        rw [HV.out, HH.out]
        go_wp2_with fail
        go_region_held3 (fun w' => w'.cell? ⟨b, 2, none⟩ = some (.slice D.a3 st.known.length D.c3) ∧ w'.cell? ⟨w.heap.size, 0, none⟩ = some (.int .i64 who) ∧ w'.cell? ⟨w.heap.size, 1, none⟩ = some (.int .i64 n))
          (first | go_keep | (refine ⟨?_, ?_, ?_⟩ <;> assumption))
          ((go_at_call 57; refine (HCA.out _ (by first | exact HB2.out | exact below_drewN HB2.out _ | exact HB2.out.drew)).mono ?_; rintro e w3 ⟨rfl, hb3⟩
            have HB3 : Hid (Below W0.heap.size W0 w3) := HB2.out.trans (Below.mono (by first | exact hb3 | exact below_of_drewN (n := 1) hb3) HB2.out.size)
            obtain ⟨g0, g1, g2, g3, g4, i0, i1, i2, i3, i4, i5⟩ := HCEL.out _ HB3.out
            clear hb3 c0 c1 c2 c3 c4 d0 d1 d2 d3 d4 d5 e0 e1 e2 e3 e4 f0 f1 f2 f3 f4 f5))
        rw [HEA.out]
        go_wp2_with fail
        go_ret2
        exact ⟨by rw [HEA.out]; rfl, DocTo.same HDW.out (HBK.out _ HB3.out)⟩
  · obtain ⟨k1, k2, k3⟩ := LDoc.apply_bad1 (d := st) h1
    rw [k1, k2, k3]
    have HE := Lib.hid (errV_ne h1)
    clear h ok hp hr hns k1 k2 k3 HBAD1 hE HCH HCA hkl HB h1
    obtain ⟨⟨who, n⟩, what, p, letter, seen⟩ := o
    unfold LOp.val at *
    unfold LOp.cells at hW0
    simp only at *
    obtain ⟨c0, c1, c2, c3, c4, d0, d1, d2, d3, d4, d5⟩ := HCEL.out _ HBR.out
    go_enter Tryz.func33, Tryz.ntmps33
    go_wp2_with fail
    rw [← hW0]
    clear hW0
    refine (HCK.out _ HBR.out).mono ?_
    rintro e w1 ⟨rfl, hb1⟩
    rw [HE.out]
    have HB1 := Lib.hid hb1
    clear hb1
    go_wp2_with fail
    go_ret2
    exact ⟨by rw [HE.out]; rfl, DocTo.same HDW.out (HBK.out _ HB1.out)⟩
end Go.Proofs.YtmpkgbkdndpnlaaGreatDoor
