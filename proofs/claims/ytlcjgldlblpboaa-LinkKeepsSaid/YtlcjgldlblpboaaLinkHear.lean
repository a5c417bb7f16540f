/- What an end of a line hears, sends, has: the other methods of link.End, walked. Conditions: what holds of each end (LEnd.Ok). -/
import Derived.Test.YtlcjgldlblpboaaLinkSpec
import Derived.Test.YtlcjgldlblpboaaPlaceSpec
namespace Go.Proofs.Ytlcjgldlblpboaa
open Go.RowKit
set_option linter.unusedVariables false


theorem cloneS (w : World) (B : Nat) (A : Option Addr) (n c : Nat) (xs : List Value) (hr : Reads w B 1 A n xs) (h1 : OneCells xs) (hf : Fits n 16) (hB : B ≤ w.heap.size) :
    Calls Try.prog 20 #[.slice A n c] w fun e w' => ∃ A' c', e = .returned (.slice A' n c') ∧ Own w' w.heap.size 9 1 A' n c' xs ∧ Below w.heap.size w w' := by
  have HF : Fits (0 + n) 16 := by simpa using hf
  have HR := hr.alloc hB (.cells #[] 9)
  cases A with
  | none =>
    have he := Lib.run_eql_slice_nil (P := Try.prog) w 22 9 none n c 0 0 Try.underlying22
    go_enter Try.func20, Try.ntmps20
    go_wp2
    go_ret
    have hn : n = 0 := by
      rcases Nat.eq_zero_or_pos n with h | h
      · exact h
      · obtain ⟨_, h, _⟩ := hr.2 h; cases h
    subst hn
    have hx : xs = [] := List.eq_nil_of_length_eq_zero (by simpa using hr.1)
    subst hx
    exact ⟨none, 0, rfl, Own.nil _ _ _ _, Below.refl _ _⟩
  | some ad =>
    have heS := Lib.run_eql_slice_nil (P := Try.prog) w 22 9 (some ad) n c 0 0 Try.underlying22
    go_enter Try.func20, Try.ntmps20
    go_wp2_with (at_builtin; refine wpList_app _ (.tmp 5) (.tmp 6) rfl rfl elemS rfl rfl (Own.made w 9 w.heap.size (Nat.le_refl _) 1) HR h1 HF (by simp) ?_; intro A' c' w1 HO HL HB)
    go_ret
    refine ⟨A', c', rfl, by simpa using HO, ?_⟩
    exact ((Below.refl _ _).alloc (Nat.le_refl _) _).trans (HL.below (by simp) (by simp [ob]))

/-- What became of an end: it lies as st' now, in blocks of its own. -/
def EndTo (w : World) (B b : Nat) (A G : Option Addr) (st' : LEnd) (w' : World) : Prop :=
  ∃ A' ca' G' cg', EndAt w' B b A' ca' G' cg' st' ∧ Only (endBlocks b A G) w w' ∧ ∀ g ∈ endBlocks b A' G', g ∈ endBlocks b A G ∨ w.heap.size ≤ g
def SendPost (w : World) (B b : Nat) (A G : Option Addr) (v : Value) (st' : LEnd) (e : Ending) (w' : World) : Prop := e = .returned v ∧ EndTo w B b A G st' w'

theorem EndTo.same {w : World} {B b ca cg : Nat} {A G : Option Addr} {st : LEnd} (h : EndAt w B b A ca G cg st) : EndTo w B b A G st w := ⟨A, ca, G, cg, h, Only.refl _ _, fun _ hg => .inl hg⟩
/-- The data's row is another one now. -/
theorem EndTo.data {w w1 : World} {B b ca cg c' : Nat} {A G A' : Option Addr} {st st' : LEnd} {u : Value} (h : EndAt w B b A ca G cg st) (h1 : Only (endBlocks b A G) w w1)
    (hb1 : Blk w1 b 58 (st'.cells A' c' G cg)) (ho : Own w1 B 9 1 A' st'.data.length c' (strs st'.data)) (hA' : ∀ g ∈ ob A', g ∈ ob A ∨ w.heap.size ≤ g) (hg : st'.got = st.got) (hG1 : ∀ g ∈ ob G, w1.heap[g]? = w.heap[g]?) :
    EndTo w B b A G st' w1 := by
  have hG : ∀ g ∈ ob G, g < w.heap.size := fun g hg => (h.got.lt g hg).2
  refine ⟨A', c', G, cg, ⟨hb1, h.base, ho, ?_, ?_⟩, h1, ?_⟩
  · rw [hg]
    obtain ⟨e1, e2⟩ := h.got
    refine ⟨e1, ?_⟩
    rcases e2 with e2 | ⟨g, cap, cur, hv, hb, hh, hr⟩
    · exact .inl e2
    · exact .inr ⟨g, cap, cur, hv, hb, (hG1 g (by injection hv with hv; rw [hv]; simp [ob])).trans hh, hr⟩
  · intro g hg hm
    rcases hA' g hg with hx | hx
    · exact h.apart g hx hm
    · have := hG g hm; omega
  · intro g hg
    simp only [endBlocks, List.mem_cons, List.mem_append] at hg ⊢
    rcases hg with rfl | hg | hg
    · simp
    · rcases hA' g hg with hx | hx
      · simp [hx]
      · exact .inr hx
    · simp [hg]
theorem EndTo.gotten {w w1 : World} {B b ca cg c' : Nat} {A G G' : Option Addr} {st st' : LEnd} (h : EndAt w B b A ca G cg st) (h1 : Only (endBlocks b A G) w w1)
    (hb1 : Blk w1 b 58 (st'.cells A ca G' c')) (ho : Own w1 B 9 1 G' st'.got.length c' (strs st'.got)) (hG' : ∀ g ∈ ob G', g ∈ ob G ∨ w.heap.size ≤ g) (hd : st'.data = st.data) (hA1 : ∀ g ∈ ob A, w1.heap[g]? = w.heap[g]?) :
    EndTo w B b A G st' w1 := by
  have hA : ∀ g ∈ ob A, g < w.heap.size := fun g hg => (h.data.lt g hg).2
  refine ⟨A, ca, G', c', ⟨hb1, h.base, ?_, ho, ?_⟩, h1, ?_⟩
  · rw [hd]
    obtain ⟨e1, e2⟩ := h.data
    refine ⟨e1, ?_⟩
    rcases e2 with e2 | ⟨g, cap, cur, hv, hb, hh, hr⟩
    · exact .inl e2
    · exact .inr ⟨g, cap, cur, hv, hb, (hA1 g (by injection hv with hv; rw [hv]; simp [ob])).trans hh, hr⟩
  · intro g hg hm
    rcases hG' g hm with hx | hx
    · exact h.apart g hg hx
    · have := hA g hg; omega
  · intro g hg
    simp only [endBlocks, List.mem_cons, List.mem_append] at hg ⊢
    rcases hg with rfl | hg | hg
    · simp
    · simp [hg]
    · rcases hG' g hg with hx | hx
      · simp [hx]
      · exact .inr hx

theorem send_full (w : World) (B b : Nat) (A G : Option Addr) (ca cg : Nat) (st : LEnd) (s : ByteArray) (h : EndAt w B b A ca G cg st) (hs : 200 < s.size ∨ 100 ≤ st.data.length) (hsz : s.size ≤ maxLen) (hd : st.data.length ≤ 1000) :
    Calls Try.prog 6 #[.pointer (some ⟨b, 0, none⟩), .string s] w (SendPost w B b A G (errV 4) st) := by
  have hc2 : w.cell? ⟨b, 2, none⟩ = some (.slice A st.data.length ca) := by rw [h.blk.cell]; rfl
  have HE := Lib.hid (EndTo.same h)
  clear h
  generalize st.data.length = n at *
  unfold maxLen at hsz
  by_cases h1 : 200 < s.size
  · go_enter Try.func6, Try.ntmps6
    go_wp2
    go_ret
    exact ⟨rfl, HE.out⟩
  · have h2 : 100 ≤ n := by omega
    go_enter Try.func6, Try.ntmps6
    go_wp2
    go_ret
    exact ⟨rfl, HE.out⟩

theorem send_ok (w : World) (B b : Nat) (A G : Option Addr) (ca cg : Nat) (st : LEnd) (s : ByteArray) (h : EndAt w B b A ca G cg st) (hs : s.size ≤ 200) (hd : st.data.length < 100) :
    Calls Try.prog 6 #[.pointer (some ⟨b, 0, none⟩), .string s] w (SendPost w B b A G .nilIface (st.send s)) := by
  have hc2 : w.cell? ⟨b, 2, none⟩ = some (.slice A st.data.length ca) := by rw [h.blk.cell]; rfl
  have hbA : b ∉ ob A := h.bA
  have HB1 := h.blk.alloc (.cells #[.string s] 9)
  have HO := h.data.alloc (.cells #[.string s] 9)
  have HF : Fits (st.data.length + 1) 16 := Fits.of_small (by omega) (by decide)
  have hlt := h.blk.lt
  have hBs : B ≤ (w.alloc (.cells #[.string s] 9)).heap.size := by have := h.base; simp; omega
  go_enter Try.func6, Try.ntmps6
  go_wp2_with (at_builtin; refine wpList_app _ (.tmp 21) (.tmp 23) rfl rfl elemS rfl rfl HO (Reads.row w 9 #[.string s]) (oneCells_strs [s]) HF hBs ?_; intro A' c' w1 HO' HL HB; have hb2 := HL.blk HB1 hbA; have hc3 : w1.cell? ⟨b, 2, none⟩ = some (.slice A st.data.length ca) := by { rw [hb2.cell]; rfl }; have hf3 : w1.frozen? ⟨b, 2, none⟩ = false := hb2.frozen 2)
  go_ret
  have hL : Only (b :: ob A) w (w1.setCell ⟨b, 2, none⟩ (.slice A' (st.data.length + 1) c')) :=
    ((((Only.refl _ w).alloc _).trans_new HL (fun i hi => .inl (List.mem_cons_of_mem _ hi))).setCell (.inl (by simp)) _)
  have hA' : ∀ g ∈ ob A', g ∈ ob A ∨ w.heap.size ≤ g := fun g hg => (HB g hg).imp id (fun e => by rw [e]; simp)
  refine ⟨rfl, EndTo.data (A' := A') (c' := c') (st := st) (u := .nilIface) h (hL.mono (fun i hi => .inl (by simp [endBlocks] at hi ⊢; rcases hi with hi | hi <;> simp [hi]))) ?_ ?_ hA' rfl (fun g hg => hL.block g (h.got.lt g hg).2 (fun hm => ?_))⟩
  · have := hb2.set_ 2 (.slice A' (st.data.length + 1) c')
    simpa [LEnd.cells, LEnd.send] using this
  · have := Own.only (S := [b]) (w' := w1.setCell ⟨b, 2, none⟩ (.slice A' (st.data.length + 1) c')) HO' ((Only.refl _ _).setCell (.inl (by simp)) _) (fun g hg hm => by
      simp at hm; subst hm
      rcases hA' _ hg with h1 | h1
      · exact hbA h1
      · omega)
    simpa [strs, LEnd.send] using this
  · simp at hm
    rcases hm with rfl | hm
    · exact h.bG hg
    · exact h.apart g hm hg

theorem left_any (w : World) (B b : Nat) (A G : Option Addr) (ca cg : Nat) (st : LEnd) (h : EndAt w B b A ca G cg st) (hd : st.data.length ≤ 1000) :
    Calls Try.prog 12 #[.pointer (some ⟨b, 0, none⟩)] w fun e w' => e = .returned (.int .i64 st.data.length) ∧ w' = w := by
  have hc2 : w.cell? ⟨b, 2, none⟩ = some (.slice A st.data.length ca) := by rw [h.blk.cell]; rfl
  go_enter Try.func12, Try.ntmps12
  go_wp2
  go_ret
  exact ⟨rfl, rfl⟩

def GotPost (w : World) (st : LEnd) (e : Ending) (w' : World) : Prop :=
  ∃ V c, e = .returned (.slice V st.got.length c) ∧ Own w' w.heap.size 9 1 V st.got.length c (strs st.got) ∧ Below w.heap.size w w'
theorem got_any (w : World) (B b : Nat) (A G : Option Addr) (ca cg : Nat) (st : LEnd) (h : EndAt w B b A ca G cg st) (hd : st.got.length ≤ 100000) :
    Calls Try.prog 10 #[.pointer (some ⟨b, 0, none⟩)] w (GotPost w st) := by
  have hc6 : w.cell? ⟨b, 6, none⟩ = some (.slice G st.got.length cg) := by rw [h.blk.cell]; rfl
  have HC := fun c => cloneS w w.heap.size G st.got.length c (strs st.got) h.got.reads (oneCells_strs _) (Fits.of_small (by omega) (by decide)) (Nat.le_refl _)
  have HC' := Lib.hid (HC cg)
  clear HC h
  go_enter Try.func10, Try.ntmps10
  go_wp2_with (go_at_call 20; refine HC'.out.mono ?_; rintro e w' ⟨V, c, rfl, hO, hb⟩)
  go_ret
  exact ⟨V, c, rfl, hO, hb⟩

def TickPost (w : World) (B b : Nat) (A : Option Addr) (ca : Nat) (G : Option Addr) (cg : Nat) (st : LEnd) (e : Ending) (w' : World) : Prop := e = .returned (.tuple #[]) ∧ EndAt w' B b A ca G cg st.tick ∧ Only [b] w w'
theorem tick_any (w : World) (B b : Nat) (A G : Option Addr) (ca cg : Nat) (st : LEnd) (h : EndAt w B b A ca G cg st) (ht : st.ticks ≤ 100000) :
    Calls Try.prog 8 #[.pointer (some ⟨b, 0, none⟩)] w (TickPost w B b A ca G cg st) := by
  have hc5 : w.cell? ⟨b, 5, none⟩ = some (.int .i64 st.ticks) := by rw [h.blk.cell]; rfl
  have hf5 := h.blk.frozen 5
  go_enter Try.func8, Try.ntmps8
  go_wp2
  go_end0
  have hL : Only [b] w (w.setCell ⟨b, 5, none⟩ (.int .i64 ((st.ticks : Int) + 1))) := (Only.refl _ _).setCell (.inl (by simp)) _
  refine ⟨rfl, h.turn hL (fun x hx hm => ?_) rfl rfl ?_, hL⟩
  · simp at hm; subst hm
    rcases List.mem_append.1 hx with hx | hx
    · exact h.bA hx
    · exact h.bG hx
  · have hx := h.blk.set_ 5 (.int .i64 ((st.ticks : Int) + 1))
    simpa [LEnd.cells, LEnd.tick] using hx

def NewPost (w : World) (win wait : Nat) (e : Ending) (w' : World) : Prop :=
  e = .returned (.tuple #[.pointer (some ⟨w.heap.size, 0, none⟩), .nilIface]) ∧ EndAt w' w.heap.size w.heap.size none 0 none 0 (LEnd.new win wait) ∧ Below w.heap.size w w'
theorem new_ok (w : World) (win wait : Nat) (h1 : 1 ≤ win) (h2 : win ≤ 16) (h3 : 1 ≤ wait) (h4 : wait ≤ 20) :
    Calls Try.prog 5 #[.int .i64 win, .int .i64 wait] w (NewPost w win wait) := by
  go_enter Try.func5, Try.ntmps5
  go_wp2
  go_ret2
  exact ⟨rfl, ⟨Blk.new _ _ _, Nat.le_refl _, Own.nil _ _ _ _, Own.nil _ _ _ _, by simp [ob]⟩, (Below.refl _ _).alloc (Nat.le_refl _) _⟩
theorem new_bad (w : World) (win wait : Int) (hw : win < 1 ∨ 16 < win ∨ wait < 1 ∨ 20 < wait) :
    Calls Try.prog 5 #[.int .i64 win, .int .i64 wait] w fun e w' => e = .returned (.tuple #[.pointer none, errV 1]) ∧ w' = w := by
  by_cases a1 : win < 1
  · go_enter Try.func5, Try.ntmps5
    go_wp2
    go_ret2
    exact ⟨rfl, rfl⟩
  · by_cases a2 : 16 < win
    · go_enter Try.func5, Try.ntmps5
      go_wp2
      go_ret2
      exact ⟨rfl, rfl⟩
    · by_cases a3 : wait < 1
      · go_enter Try.func5, Try.ntmps5
        go_wp2
        go_ret2
        exact ⟨rfl, rfl⟩
      · have a4 : 20 < wait := by omega
        go_enter Try.func5, Try.ntmps5
        go_wp2
        go_ret2
        exact ⟨rfl, rfl⟩
end Go.Proofs.Ytlcjgldlblpboaa
