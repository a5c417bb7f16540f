/- The document's end of a line: (*leafref2.End).Hear, walked. -/
import Derived.Test.YtgninfpdomcobaaDoorRefOut
import Derived.Test.YtgninfpdomcobaaDoorLinkHear4
namespace Go.Proofs.YtgninfpdomcobaaDoor
open Go.RowKit
set_option linter.unusedVariables false
/-- The document's end, of another state now. -/
def REndTo (w : World) (B b : Nat) (A G : Option Addr) (st' : LEnd) (w' : World) : Prop :=
  ∃ A' ca' G' cg' gone', REndAt w' B b A' ca' G' cg' gone' st' ∧ Only (endBlocks b A G) w w' ∧ ∀ g ∈ endBlocks b A' G', g ∈ endBlocks b A G ∨ w.heap.size ≤ g
def RSendPost (w : World) (B b : Nat) (A G : Option Addr) (n : Int) (st' : LEnd) (e : Ending) (w' : World) : Prop := e = .returned (.int .i64 n) ∧ REndTo w B b A G st' w'
section
variable (w : World) (B b : Nat) (A G : Option Addr) (ca cg : Nat) (gone : List ByteArray) (st : LEnd)
theorem REndAt.lt {w : World} {B b ca cg : Nat} {A G : Option Addr} {st : LEnd} {gone : List ByteArray} (h : REndAt w B b A ca G cg gone st) : ∀ g ∈ endBlocks b A G, B ≤ g ∧ g < w.heap.size := by
  intro g hg
  simp only [endBlocks, List.mem_cons, List.mem_append] at hg
  rcases hg with rfl | hg | hg
  · exact ⟨h.base, h.blk.lt⟩
  · exact h.data.lt g hg
  · exact h.got.lt g hg
theorem REndAt.keep {w w' : World} {B b ca cg : Nat} {A G : Option Addr} {st : LEnd} {gone : List ByteArray} {S : List Nat} (h : REndAt w B b A ca G cg gone st) (ho : Only S w w') (hS : ∀ g ∈ endBlocks b A G, g ∉ S) : REndAt w' B b A ca G cg gone st :=
  ⟨ho.blk h.blk (hS b (by simp [endBlocks])), h.base, h.data.only ho (fun g hg => hS g (by simp [endBlocks, hg])), h.got.only ho (fun g hg => hS g (by simp [endBlocks, hg])), h.apart, h.past, h.said⟩
theorem REndAt.below {w w' : World} {B b ca cg : Nat} {A G : Option Addr} {st : LEnd} {gone : List ByteArray} (h : REndAt w B b A ca G cg gone st) (ho : Below w.heap.size w w') : REndAt w' B b A ca G cg gone st := h.keep (S := []) (Only.of_below ho) (by simp)
theorem rhear_same {w w' : World} {B b ca cg : Nat} {A G : Option Addr} {st : LEnd} {gone : List ByteArray} (h : REndAt w B b A ca G cg gone st) (ho : Below w.heap.size w w') : REndTo w B b A G st w' :=
  ⟨A, ca, G, cg, gone, h.below ho, Only.of_below ho, fun _ hg => .inl hg⟩
set_option maxRecDepth 100000 in
set_option maxHeartbeats 2000000 in
theorem rhear_ack (s : Int) (d : ByteArray) (h : REndAt w B b A ca G cg gone st) (ok : st.Ok) (hm : d.size ≤ 9223372036854775807) :
    Calls Tryd.prog 16 #[.pointer (some ⟨b, 0, none⟩), .agg #[.bool true, .int .i64 s, .string d]] w (RSendPost w B b A G (st.hearErr ⟨true, s, d⟩) (st.hear ⟨true, s, d⟩)) := by
  have hbel : Below w.heap.size w (w.alloc (.cells #[.bool true, .int .i64 s, .string d] 45)) := (Below.refl _ _).alloc (Nat.le_refl _) _
  have hE := h.below hbel
  have hc4 : (w.alloc (.cells #[.bool true, .int .i64 s, .string d] 45)).cell? ⟨b, 4, none⟩ = some (.int .i64 st.said) := by rw [hE.blk.cell]; rfl
  have hc3 : (w.alloc (.cells #[.bool true, .int .i64 s, .string d] 45)).cell? ⟨b, 3, none⟩ = some (.int .i64 st.acked) := by rw [hE.blk.cell]; rfl
  have f3 := hE.blk.frozen 3
  have h5 := ok.said
  by_cases h1 : s < 0 ∨ (st.said : Int) < s
  · have HEE : Hid (st.hearErr ⟨true, s, d⟩ = 1 ∧ st.hear ⟨true, s, d⟩ = st) := by
      have e1 : st.hearErr ⟨true, s, d⟩ = 1 := by unfold LEnd.hearErr; rw [if_pos rfl, if_pos h1]
      exact ⟨e1, by unfold LEnd.hear; rw [if_pos (by rw [e1]; decide)]⟩
    have HS := Lib.hid (fun k => rhear_same h (below_drewN hbel k))
    clear hE h hbel
    by_cases h0 : s < 0
    · have hd : decide (s < 0) = true := by simpa using h0
      go_enter Tryd.func16, Tryd.ntmps16
      go_wp2_with fail
      go_quiet (fail)
      go_wp2_with fail
      go_ret
      exact ⟨by rw [HEE.out.1]; rfl, by rw [HEE.out.2]; exact HS.out _⟩
    · have h2 : (st.said : Int) < s := by omega
      have hd : decide (s < 0) = false := by simpa using h0
      have hd2 : decide ((st.said : Int) < s) = true := by simpa using h2
      go_enter Tryd.func16, Tryd.ntmps16
      go_wp2_with fail
      go_quiet (fail)
      go_wp2_with fail
      go_ret
      exact ⟨by rw [HEE.out.1]; rfl, by rw [HEE.out.2]; exact HS.out _⟩
  · have hd' : decide (s < 0) = false := decide_eq_false (by omega)
    have hd2 : decide ((st.said : Int) < s) = false := decide_eq_false (by omega)
    have i1 : ¬ s < 0 := by omega
    have i2 : ¬ (st.said : Int) < s := by omega
    by_cases h2 : d.size ≠ 0
    · have HEE : Hid (st.hearErr ⟨true, s, d⟩ = 3 ∧ st.hear ⟨true, s, d⟩ = st) := by
        have e1 : st.hearErr ⟨true, s, d⟩ = 3 := by unfold LEnd.hearErr; rw [if_pos rfl, if_neg h1, if_pos h2]
        exact ⟨e1, by unfold LEnd.hear; rw [if_pos (by rw [e1]; decide)]⟩
      have HS := Lib.hid (fun k => rhear_same h (below_drewN hbel k))
      have hnm : d.toList.isEmpty = false := by
        cases hh : d.toList.isEmpty
        · rfl
        · exact absurd (size_of_toList (List.isEmpty_iff.1 hh)) h2
      clear hE h hbel h1 h2
      go_enter Tryd.func16, Tryd.ntmps16
      go_wp2_with fail
      go_quiet (fail)
      go_wp2_with fail
      go_ret
      exact ⟨by rw [HEE.out.1]; rfl, by rw [HEE.out.2]; exact HS.out _⟩
    · have e1 : st.hearErr ⟨true, s, d⟩ = 0 := by unfold LEnd.hearErr; rw [if_pos rfl, if_neg h1, if_neg h2]
      have hd : d = ⟨#[]⟩ := by
        refine ByteArray.ext (Array.eq_empty_of_size_eq_zero ?_)
        have : d.data.size = d.size := rfl
        omega
      subst hd
      by_cases h3 : (st.acked : Int) < s
      · obtain ⟨k, hk⟩ : ∃ k : Nat, s = (st.acked : Int) + k := ⟨s.toNat - st.acked, by omega⟩
        have e2 : st.hear ⟨true, s, ⟨#[]⟩⟩ = { st with data := st.data.drop k, acked := st.acked + k } := by
          unfold LEnd.hear
          rw [if_neg (by rw [e1]; decide), if_pos rfl, if_pos h3, show s.toNat = st.acked + k by omega, show st.acked + k - st.acked = k by omega]
        have hkn : k ≤ st.data.length := by omega
        have HEE := Lib.hid e1
        have HE2 := Lib.hid e2
        have HS : Hid (∀ n, REndTo w B b A G { st with data := st.data.drop k, acked := st.acked + k } (((w.alloc (.cells #[.bool true, .int .i64 s, .string ⟨#[]⟩] 45)).drewN n).setCell ⟨b, 3, none⟩ (.int .i64 s))) := fun n => by
          have hall : (gone ++ st.data.take k) ++ st.data.drop k = gone ++ st.data := by rw [List.append_assoc, List.take_append_drop]
          have ho : Only [b] w (((w.alloc (.cells #[.bool true, .int .i64 s, .string ⟨#[]⟩] 45)).drewN n).setCell ⟨b, 3, none⟩ (.int .i64 s)) := (((Only.refl [b] w).alloc _).drewN n).setCell (.inl (by simp)) _
          refine ⟨A, ca, G, cg, gone ++ st.data.take k, ⟨?_, h.base, ?_, ?_, h.apart, ?_, ?_⟩, ho.mono (fun i hi => .inl (by simp at hi; simp [endBlocks, hi])), fun _ hg => .inl hg⟩
          · show Blk _ _ _ (LEnd.rcells _ ((gone ++ st.data.take k) ++ st.data.drop k).length _ _ _ _)
            rw [hall]
            have hx := (hE.blk.drewN n).set_ 3 (.int .i64 s)
            simpa [LEnd.rcells, hk] using hx
          · show Own _ _ _ _ _ ((gone ++ st.data.take k) ++ st.data.drop k).length _ (strs ((gone ++ st.data.take k) ++ st.data.drop k))
            rw [hall]
            exact h.data.only ho (fun x hx hm => by simp at hm; subst hm; exact h.bA hx)
          · exact h.got.only ho (fun x hx hm => by simp at hm; subst hm; exact h.bG hx)
          · rw [List.length_append, List.length_take, h.past]; show _ = st.acked + k; omega
          · show st.acked + k ≤ st.said; omega
        clear hE h hbel h1 e1 e2 hk
        go_enter Tryd.func16, Tryd.ntmps16
        go_wp2_with fail
        go_quiet (fail)
        go_wp2_with fail
        go_quiet (fail)
        go_wp2_with fail
        go_ret
        exact ⟨by rw [HEE.out]; rfl, by rw [HE2.out]; exact HS.out _⟩
      · have HEE : Hid (st.hearErr ⟨true, s, ⟨#[]⟩⟩ = 0 ∧ st.hear ⟨true, s, ⟨#[]⟩⟩ = st) := ⟨e1, by unfold LEnd.hear; rw [if_neg (by rw [e1]; decide), if_pos rfl, if_neg h3]⟩
        have HS := Lib.hid (fun k k2 => rhear_same h (below_drewN (below_drewN hbel k) k2))
        clear hE h hbel h1 e1
        go_enter Tryd.func16, Tryd.ntmps16
        go_wp2_with fail
        go_quiet (fail)
        go_wp2_with fail
        go_quiet (fail)
        go_wp2_with fail
        go_ret
        exact ⟨by rw [HEE.out.1]; rfl, by rw [HEE.out.2]; exact HS.out _ _⟩
theorem rhear_close {w1 w0 : World} {c m : Nat} {V : Option Addr} {d : ByteArray} (h : REndAt w B b A ca G cg gone st)
    (hw0 : w0 = (((w.alloc (.cells #[.bool false, .int .i64 ((st.got.length : Int) + 1), .string d] 45)).drewN m).alloc (.cells #[.string d] 9)))
    (hb2 : Blk w1 b 40 (st.rcells (gone ++ st.data).length A ca G cg))
    (hO : Own w1 B 9 1 V (st.got.length + 1) c (strs st.got ++ strs [d])) (hL : Only (ob G) w0 w1) (hg : ∀ g ∈ ob V, g ∈ ob G ∨ g = w0.heap.size) :
    REndTo w B b A G { st with got := st.got ++ [d], owes := true } ((w1.setCell ⟨b, 6, none⟩ (.slice V (st.got.length + 1) c)).setCell ⟨b, 7, none⟩ (.bool true)) := by
  subst hw0
  have hbs := h.blk.lt
  have hg' : ∀ g ∈ ob V, g ∈ ob G ∨ w.heap.size ≤ g := fun g hx => (hg g hx).imp id (fun e => by rw [e]; simp; omega)
  have hL0 : Only (b :: ob G) w w1 := ((((Only.refl _ w).alloc _).drewN _).alloc _).trans_new hL (fun i hi => .inl (List.mem_cons_of_mem _ hi))
  have hL1 : Only (b :: ob G) w ((w1.setCell ⟨b, 6, none⟩ (.slice V (st.got.length + 1) c)).setCell ⟨b, 7, none⟩ (.bool true)) :=
    (hL0.setCell (.inl (by simp)) _).setCell (.inl (by simp)) _
  refine ⟨A, ca, V, c, gone, ⟨?_, h.base, h.data.only hL1 (fun x hx hm => ?_), ?_, fun x hx hm => ?_, h.past, h.said⟩, hL1.mono (fun i hi => .inl (by simp [endBlocks] at hi ⊢; rcases hi with hi | hi <;> simp [hi])), fun x hx => ?_⟩
  · have hx := (hb2.set_ 6 (.slice V (st.got.length + 1) c)).set_ 7 (.bool true)
    simpa [LEnd.rcells] using hx
  · simp at hm
    rcases hm with rfl | hm
    · exact h.bA hx
    · exact h.apart x hx hm
  · have hx := hO.only (S := [b]) (w' := (w1.setCell ⟨b, 6, none⟩ (.slice V (st.got.length + 1) c)).setCell ⟨b, 7, none⟩ (.bool true))
      (((Only.refl _ _).setCell (.inl (by simp)) _).setCell (.inl (by simp)) _) (fun x hx hm => by
        simp at hm; subst hm
        rcases hg' _ hx with h1 | h1
        · exact h.bG h1
        · omega)
    simpa [strs] using hx
  · rcases hg' x hm with h1 | h1
    · exact h.apart x hx h1
    · have := (h.data.lt x hx).2; omega
  · simp only [endBlocks, List.mem_cons, List.mem_append] at hx ⊢
    rcases hx with hx | hx | hx
    · exact .inl (.inl hx)
    · exact .inl (.inr (.inl hx))
    · rcases hg' x hx with h1 | h1
      · exact .inl (.inr (.inr h1))
      · exact .inr h1
set_option maxRecDepth 100000 in
set_option maxHeartbeats 2000000 in
theorem rhear_data (s : Int) (d : ByteArray) (h : REndAt w B b A ca G cg gone st) (ok : st.Ok) (hm : d.size ≤ 9223372036854775807) :
    Calls Tryd.prog 16 #[.pointer (some ⟨b, 0, none⟩), .agg #[.bool false, .int .i64 s, .string d]] w (RSendPost w B b A G (st.hearErr ⟨false, s, d⟩) (st.hear ⟨false, s, d⟩)) := by
  have hbel : Below w.heap.size w (w.alloc (.cells #[.bool false, .int .i64 s, .string d] 45)) := (Below.refl _ _).alloc (Nat.le_refl _) _
  by_cases h1 : s < 1
  · have HEE : Hid (st.hearErr ⟨false, s, d⟩ = 1 ∧ st.hear ⟨false, s, d⟩ = st) := by
      have e1 : st.hearErr ⟨false, s, d⟩ = 1 := by unfold LEnd.hearErr; rw [if_neg (show ¬ (false = true) by decide), if_pos h1]
      exact ⟨e1, by unfold LEnd.hear; rw [if_pos (by rw [e1]; decide)]⟩
    have HS := Lib.hid (rhear_same h hbel)
    clear h hbel
    go_enter Tryd.func16, Tryd.ntmps16
    go_wp2_with fail
    go_ret
    exact ⟨by rw [HEE.out.1]; rfl, by rw [HEE.out.2]; exact HS.out⟩
  · by_cases h2 : 200 < d.size
    · have HEE : Hid (st.hearErr ⟨false, s, d⟩ = 4 ∧ st.hear ⟨false, s, d⟩ = st) := by
        have e1 : st.hearErr ⟨false, s, d⟩ = 4 := by unfold LEnd.hearErr; rw [if_neg (show ¬ (false = true) by decide), if_neg h1, if_pos h2]
        exact ⟨e1, by unfold LEnd.hear; rw [if_pos (by rw [e1]; decide)]⟩
      have HS := Lib.hid (rhear_same h hbel)
      clear h hbel
      go_enter Tryd.func16, Tryd.ntmps16
      go_wp2_with fail
      go_ret
      exact ⟨by rw [HEE.out.1]; rfl, by rw [HEE.out.2]; exact HS.out⟩
    · have e1 : st.hearErr ⟨false, s, d⟩ = 0 := by unfold LEnd.hearErr; rw [if_neg (show ¬ (false = true) by decide), if_neg h1, if_neg h2]
      have HEE := Lib.hid e1
      have hE := h.below hbel
      have hgl := ok.got
      have hc6 : (w.alloc (.cells #[.bool false, .int .i64 s, .string d] 45)).cell? ⟨b, 6, none⟩ = some (.slice G st.got.length cg) := by rw [hE.blk.cell]; rfl
      have hc7 : (w.alloc (.cells #[.bool false, .int .i64 s, .string d] 45)).cell? ⟨b, 7, none⟩ = some (.bool st.owes) := by rw [hE.blk.cell]; rfl
      have hf7 := hE.blk.frozen 7
      have hw1 : IntKind.i64.wrap ((st.got.length : Int) + 1) = (st.got.length : Int) + 1 := IntWalk.i64_in _ (by omega)
      by_cases h3 : s = (st.got.length : Int) + 1
      · have e2 : st.hear ⟨false, s, d⟩ = { st with got := st.got ++ [d], owes := true } := by unfold LEnd.hear; rw [if_neg (by rw [e1]; decide), if_neg (show ¬ (false = true) by decide), if_pos h3]
        have HE2 := Lib.hid e2
        subst h3
        have HH := Lib.hid h
        have HEa := Lib.hid hE
        have hbG := hE.bG
        have HF : Fits (st.got.length + 1) 16 := Fits.of_small (by omega) (by decide)
        have hbs := h.blk.lt
        have hBs : B ≤ w.heap.size := by have := h.base; omega
        clear hE h hbel e1 e2 ok
        go_enter Tryd.func16, Tryd.ntmps16
        go_wp2_with fail
        go_quiet (fail)
        have HRR : Hid (∀ n, Reads (((w.alloc (.cells #[.bool false, .int .i64 ((st.got.length : Int) + 1), .string d] 45)).drewN n).alloc (.cells #[.string d] 9)) (w.heap.size + 1 + 1) 1 (some ⟨w.heap.size + 1, 0, none⟩) 1 (strs [d])) := fun n => by
          have := Reads.row ((w.alloc (.cells #[.bool false, .int .i64 ((st.got.length : Int) + 1), .string d] 45)).drewN n) 9 #[.string d]
          simpa [strs] using this
        go_wp2_with fail
        go_region_law ((
            refine step_app _ (.tmp 54) (.tmp 57) rfl rfl elemS rfl rfl ((HEa.out.got.drewN _).alloc _) (HRR.out _) (oneCells_strs [d]) HF (by simp; omega) ?_
            intro V c w1 hO hL hg
            have hb2 := hL.blk ((HEa.out.blk.drewN _).alloc _) hbG
            have n6 : w1.cell? ⟨b, 6, none⟩ = some (.slice G st.got.length cg) := by { rw [hb2.cell]; rfl }
            have n7 : w1.cell? ⟨b, 7, none⟩ = some (.bool st.owes) := by { rw [hb2.cell]; rfl }
            have f6 := hb2.frozen 6
            have f7 := hb2.frozen 7))
        all_goals
          go_wp2_with fail
          go_ret
          exact ⟨by rw [HEE.out]; rfl, by rw [HE2.out]; exact rhear_close w B b A G ca cg gone st HH.out rfl hb2 hO hL hg⟩
      · have e2 : st.hear ⟨false, s, d⟩ = { st with owes := true } := by unfold LEnd.hear; rw [if_neg (by rw [e1]; decide), if_neg (show ¬ (false = true) by decide), if_neg h3]
        have HE2 := Lib.hid e2
        have hb : (s == (st.got.length : Int) + 1) = false := by simpa using h3
        have HS : Hid (∀ n, REndTo w B b A G { st with owes := true } (((w.alloc (.cells #[.bool false, .int .i64 s, .string d] 45)).drewN n).setCell ⟨b, 7, none⟩ (.bool true))) := fun n => by
          have ho : Only [b] w (((w.alloc (.cells #[.bool false, .int .i64 s, .string d] 45)).drewN n).setCell ⟨b, 7, none⟩ (.bool true)) := (((Only.refl [b] w).alloc _).drewN n).setCell (.inl (by simp)) _
          refine ⟨A, ca, G, cg, gone, ⟨?_, h.base, h.data.only ho (fun x hx hm => by simp at hm; subst hm; exact h.bA hx), h.got.only ho (fun x hx hm => by simp at hm; subst hm; exact h.bG hx), h.apart, h.past, h.said⟩, ho.mono (fun i hi => .inl (by simp at hi; simp [endBlocks, hi])), fun _ hg => .inl hg⟩
          have hx := (hE.blk.drewN n).set_ 7 (.bool true)
          simpa [LEnd.rcells] using hx
        clear hE h hbel e1 e2
        go_enter Tryd.func16, Tryd.ntmps16
        go_wp2_with fail
        go_quiet (fail)
        go_wp2_with fail
        go_ret
        exact ⟨by rw [HEE.out]; rfl, by rw [HE2.out]; exact HS.out _⟩
theorem rhear_any (f : LFrame) (h : REndAt w B b A ca G cg gone st) (ok : st.Ok) (hm : f.data.size ≤ 9223372036854775807) :
    Calls Tryd.prog 16 #[.pointer (some ⟨b, 0, none⟩), .agg #[.bool f.ack, .int .i64 f.seq, .string f.data]] w (RSendPost w B b A G (st.hearErr f) (st.hear f)) := by
  obtain ⟨a, s, d⟩ := f
  cases a with
  | true => exact rhear_ack w B b A G ca cg gone st s d h ok hm
  | false => exact rhear_data w B b A G ca cg gone st s d h ok hm
end
end Go.Proofs.YtgninfpdomcobaaDoor
