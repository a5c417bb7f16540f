/- marks.PlacesOf, dir.all, walked. -/
import Derived.Test.YteiadcdaleckjaaDoorBookFind
import Derived.Test.YteiadcdaleckjaaDoorMarks
namespace Go.Proofs.YteiadcdaleckjaaDoor
open Go.RowKit
set_option linter.unusedVariables false

theorem elemT : Elem Tryd.prog 91 9 1 16 := Elem.mk_ (z := .string ⟨#[]⟩) Tryd.underlying91 (by kernel_rfl) rfl (by decide)
def txts (l : List ByteArray) : List Value := l.map Value.string
theorem oneCells_txts (l : List ByteArray) : OneCells (txts l) := by
  intro u hu
  simp only [txts, List.mem_map] at hu
  obtain ⟨b, _, rfl⟩ := hu
  rfl
theorem txts_len (l : List ByteArray) : (txts l).length = l.length := by simp [txts]
theorem txts_get {l : List ByteArray} {i : Nat} (h : i < l.length) : (txts l)[i]? = some (.string l[i]) := by simp [txts, h]
/-- Places of marks, each once. -/
def plStep (out : List ByteArray) (m : LMark) : List ByteArray := if out.getLast? = some m.place then out else out ++ [m.place]
def places (l : List LMark) : List ByteArray := l.foldl plStep []
theorem places_take {l : List LMark} {k : Nat} (h : k < l.length) : places (l.take (k + 1)) = plStep (places (l.take k)) l[k] := by
  unfold places
  rw [List.take_succ_eq_append_getElem h, List.foldl_append]
  rfl
theorem plStep_le (out : List ByteArray) (m : LMark) : (plStep out m).length ≤ out.length + 1 := by
  unfold plStep; split <;> simp
theorem places_le (l : List LMark) (k : Nat) (h : k ≤ l.length) : (places (l.take k)).length ≤ k := by
  induction k with
  | zero => simp [places]
  | succ k ih => rw [places_take (by omega)]; have := plStep_le (places (l.take k)) l[k]; have := ih (by omega); omega
def PlLoop (w : World) (l : List LMark) (v i : Value) (wr : World) : Prop :=
  ∃ (k cv : Nat) (V : Option Addr), k ≤ l.length ∧ i = .int .i64 k ∧ v = .slice V (places (l.take k)).length cv ∧ Hid (Own wr w.heap.size 9 1 V (places (l.take k)).length cv (txts (places (l.take k)))) ∧ Hid (Below w.heap.size w wr)
def PlPost (w : World) (ps : List ByteArray) (e : Ending) (w' : World) : Prop :=
  ∃ (V : Option Addr) (cv : Nat), e = .returned (.slice V ps.length cv) ∧ Own w' w.heap.size 9 1 V ps.length cv (txts ps) ∧ Below w.heap.size w w'
theorem reads_txt (W : World) (p : ByteArray) : Reads (W.alloc (.cells #[.string p] 9)) (W.alloc (.cells #[.string p] 9)).heap.size 1 (some ⟨W.heap.size, 0, none⟩) 1 (txts [p]) := by
  have h := Reads.row W 9 #[.string p]
  simpa [txts] using h
theorem base_app {B : Nat} {w W : World} (h : Below B w W) (hB : B ≤ w.heap.size) (k : Nat) (o : Obj) : B ≤ ((W.drewN k).alloc o).heap.size := by
  have h1 := ((below_drewN h k).alloc (Nat.le_trans hB h.size) o).size
  omega
theorem below_app {B k n c size : Nat} {e : TypeId} {xs : List Value} {w W W' : World} {o : Obj} {A : Option Addr} (h : Below B w W) (hB : B ≤ w.heap.size) (ho : Own W B e size A n c xs) (hl : Only (ob A) ((W.drewN k).alloc o) W') : Below B w W' :=
  ((below_drewN h k).alloc (Nat.le_trans hB h.size) o).trans (hl.below (base_app h hB k o) (fun g hg => (ho.lt g hg).1))
theorem reads_txt2 (w : World) (o : Obj) (k : Nat) (p : ByteArray) : Reads (((w.alloc o).drewN k).alloc (.cells #[.string p] 9)) (((w.alloc o).drewN k).alloc (.cells #[.string p] 9)).heap.size 1 (some ⟨w.heap.size + 1, 0, none⟩) 1 (txts [p]) := by
  have h := reads_txt ((w.alloc o).drewN k) p
  have e : ((w.alloc o).drewN k).heap.size = w.heap.size + 1 := by show (w.alloc o).heap.size = _; simp
  rwa [show (⟨((w.alloc o).drewN k).heap.size, 0, none⟩ : Addr) = ⟨w.heap.size + 1, 0, none⟩ by rw [e]] at h
theorem toList_inj {a b : ByteArray} (h : a.toList = b.toList) : a = b := by
  rw [toList_data, toList_data] at h
  exact ByteArray.ext (Array.ext' h)
set_option maxRecDepth 100000 in
set_option maxHeartbeats 2000000 in
theorem placesOf_any (w : World) (A : Option Addr) (c : Nat) (l : List LMark) (h : Reads w w.heap.size 3 A l.length (mcells l)) (hn : l.length ≤ 40) :
    Calls Tryd.prog 45 #[.slice A l.length c] w (PlPost w (places l)) := by
  have HR := Lib.hid h
  clear h
  go_enter Tryd.func45, Tryd.ntmps45
  go_wp2_with fail
  go_loopw [2, 8] (fun v i wr => PlLoop w l v i wr) (fun _ i _ => l.length - (intOf i).toNat)
  case atStart => exact ⟨0, 0, none, by omega, rfl, rfl, Own.nil _ _ _ _, Below.refl _ _⟩
  case round =>
    obtain ⟨k, cv, V, hk, rfl, rfl, HO, HB⟩ := hrel
    by_cases hkn : k < l.length
    · obtain ⟨ad, rfl, hb, c0, c1, c2⟩ := (HR.out.below HB.out).mark hkn
      have hlt : (k : Int) < (l.length : Int) := by omega
      have htk := places_take hkn
      have hle2 := places_le l k hk
      generalize l[k] = x at c0 c1 c2 htk
      generalize places (l.take k) = T at htk hle2 HO ⊢
      obtain ⟨p, ⟨d, n⟩⟩ := x
      simp only at c0 c1 c2
      have HBa := Lib.hid (HB.out.alloc HB.out.size (.cells #[.string p, .int .i64 d, .int .i64 n] 71))
      have HBox := Lib.hid (Blk.new wr 71 #[.string p, .int .i64 d, .int .i64 n])
      have HOa := Lib.hid (HO.out.alloc (.cells #[.string p, .int .i64 d, .int .i64 n] 71))
      have d0 : (wr.alloc (.cells #[.string p, .int .i64 d, .int .i64 n] 71)).cell? ⟨wr.heap.size, 0, none⟩ = some (.string p) := by rw [HBox.out.cell]; rfl
      have HTK := Lib.hid htk
      clear htk
      rcases T.eq_nil_or_concat with hT | ⟨L, q, hT⟩
      · subst hT
        have hF : Fits (([] : List ByteArray).length + 1) 16 := Fits.of_small (by decide) (by decide)
        have HT2 : Hid (places (l.take (k + 1)) = [p]) := by show _ = _; rw [HTK.out]; rfl
        obtain ⟨m, hm⟩ : ∃ m, m = ([] : List ByteArray).length := ⟨_, rfl⟩
        rw [← hm] at HO HOa ⊢
        have g0 : ((m : Int) == 0) = true := by subst hm; rfl
        rw [← hm] at hF
        have hm' := Lib.hid hm
        clear hm
        have hm := hm'
        clear hm'
        go_wp2_with fail
        go_quiet (fail)
        go_wp2_with (at_builtin; go_loud (refine wpList_app _ (.tmp 26) (.tmp 29) rfl rfl elemT rfl rfl ((HOa.out.drewN _).alloc _) (reads_txt2 wr _ _ p) (oneCells_txts _) hF (base_app HBa.out (Nat.le_refl _) _ _) ?_; intro V2 cv2 w2 HO2 HL2 HX2; have HOn := Lib.hid HO2; have HBn : Hid (Below w.heap.size w w2) := below_app HBa.out (Nat.le_refl _) HOa.out HL2; clear HO2 HL2 HX2))
        go_roundw
        case rel =>
          refine ⟨k + 1, cv2, V2, by omega, by go_num, by rw [HT2.out, show ([p] : List ByteArray).length = m + 1 by rw [hm.out]; rfl] <;> first | rfl | (rw [hm.out]; rfl), Lib.hid ?_, HBn⟩
          rw [HT2.out, show ([p] : List ByteArray).length = m + 1 by rw [hm.out]; rfl]
          exact HOn.out
        case measure => simp [intOf]; omega
      · try rw [List.concat_eq_append] at hT
        subst hT
        have hlen : (L ++ [q]).length = L.length + 1 := by simp
        rw [hlen] at hle2 HO HOa ⊢
        obtain ⟨g, rfl, hg1, hg2⟩ := HO.out.head (by omega)
        have e0 : (wr.alloc (.cells #[.string p, .int .i64 d, .int .i64 n] 71)).cell? ⟨g, L.length, none⟩ = some (.string q) := by
          rw [HOa.out.cellAt (by omega)]; simp [txts]
        have hj39 : L.length ≤ 39 := by omega
        generalize hj : L.length = j at *
        have hj := Lib.hid hj
        have hlen := Lib.hid hlen
        have q1 : IntKind.i64.wrap ((j : Int) + 1 - 1) = (j : Int) := by rw [IntWalk.i64_in _ (by omega)]; omega
        have q2 : IntKind.i64.wrap (((j + 1 : Nat) : Int) - 1) = (j : Int) := by rw [IntWalk.i64_in _ (by omega)]; omega
        have j0 : (0 : Int) ≤ (j : Int) := by omega
        have j1 : (j : Int) < (j : Int) + 1 := by omega
        have g0 : ((j : Int) + 1 == 0) = false := by simp; omega
        have g1 : ¬ ((j : Int) + 1 = 0) := by omega
        by_cases hq : q = p
        · subst hq
          go_wp2_with fail
          go_quiet (fail)
          have HT2 : Hid (places (l.take (k + 1)) = L ++ [q]) := by show _ = _; rw [HTK.out]; simp [plStep]
          go_wp2_with fail
          go_roundw
          case rel =>
            refine ⟨k + 1, cv, some ⟨g, 0, none⟩, by omega, by go_num, by rw [HT2.out, hlen.out], Lib.hid ?_, below_drewN HBa.out _⟩
            rw [HT2.out, hlen.out]
            exact HOa.out.drewN _
          case measure => simp [intOf]; omega
        · have HT2 : Hid (places (l.take (k + 1)) = L ++ [q] ++ [p]) := by
            show _ = _; rw [HTK.out]; unfold plStep; rw [if_neg (by simpa using hq)]
          have gq : (q.toList == p.toList) = false := by
            rw [beq_eq_false_iff_ne]; intro h; exact hq (toList_inj h)
          have hF : Fits (j + 1 + 1) 16 := Fits.of_small (by omega) (by decide)
          go_wp2_with fail
          go_quiet (fail)
          go_wp2_with (at_builtin; go_loud (refine wpList_app _ (.tmp 26) (.tmp 29) rfl rfl elemT rfl rfl ((HOa.out.drewN _).alloc _) (reads_txt2 wr _ _ p) (oneCells_txts _) hF (base_app HBa.out (Nat.le_refl _) _ _) ?_; intro V2 cv2 w2 HO2 HL2 HX2; have HOn := Lib.hid HO2; have HBn : Hid (Below w.heap.size w w2) := below_app HBa.out (Nat.le_refl _) HOa.out HL2; clear HO2 HL2 HX2))
          go_roundw
          case rel =>
            have hl2 : (L ++ [q] ++ [p]).length = j + 1 + 1 := by rw [List.length_append, hlen.out]; rfl
            refine ⟨k + 1, cv2, V2, by omega, by go_num, by rw [HT2.out, hl2], Lib.hid ?_, HBn⟩
            rw [HT2.out, hl2, show txts (L ++ [q] ++ [p]) = txts (L ++ [q]) ++ txts [p] by simp [txts]]
            exact HOn.out
          case measure => simp [intOf]; omega
    · have hd : decide ((k : Int) < (l.length : Int)) = false := by simp; omega
      have HT : Hid (places (l.take k) = places l) := by show _ = _; rw [List.take_of_length_le (by omega)]
      go_wp2_with fail
      go_ret
      rw [HT.out] at HO ⊢
      exact ⟨V, cv, rfl, HO.out, HB.out⟩
end Go.Proofs.YteiadcdaleckjaaDoor
