/- cache.New, Load, Get, Places, Used, walked. Conditions: the numbers are small. -/
import Derived.Deep.LoopGhost
import Derived.Test.YtgjhkblnohcppaaDoorCacheOff
import Derived.Test.YtgjhkblnohcppaaDoorPlaceCheck
namespace Go.Proofs.YtgjhkblnohcppaaDoor
open Go.RowKit
set_option linter.unusedVariables false
def budE (bud : Int) : Int := if bud < 1 ∨ 10000 < bud then 1 else 0
def CNewPost (w : World) (bud : Int) (e : Ending) (w' : World) : Prop := (budE bud ≠ 0 ∧ e = .returned (.tuple #[.pointer none, errV 1]) ∧ w' = w) ∨
    (budE bud = 0 ∧ ∃ b S r A cap kvs, e = .returned (.tuple #[.pointer (some ⟨b, 0, none⟩), .nilIface]) ∧ CacheIs w' w.heap.size S b bud [] r A cap kvs ∧ Below w.heap.size w w')
def CGetPost (w : World) (B : Nat) (S : List Nat) (b : Nat) (bud : Int) (m : List Kept) (p : ByteArray) (e : Ending) (w' : World) : Prop :=
  ((get p m).isSome = true ∧ e = .returned (.tuple #[.string (valK p m), .nilIface]) ∧ CacheTo w B S b bud (onK p (valK p m) m) w') ∨ ((get p m).isSome = false ∧ e = .returned (.tuple #[.string ⟨#[]⟩, errV 5]) ∧ w' = w)
set_option maxRecDepth 100000 in
theorem cnew_any (w : World) (bud : Int) : Calls Tryd.prog 10 #[.int .i64 bud] w (CNewPost w bud) := by
  have hmm : ∀ t w, (Instr.makeMap t none).run Tryd.prog w = .ok (.map (some w.heap.size)) (w.alloc (.map #[] 0)) := fun _ _ => rfl
  have HE1 := errV_ne (show (1 : Int) ≠ 0 by decide)
  have HIS : Hid (CacheIs ((w.alloc (.map #[] 0)).alloc (.cells #[.int .i64 bud, .int .i64 0, .map (some w.heap.size), .slice none 0 0] 120)) w.heap.size [w.heap.size, w.heap.size + 1] (w.heap.size + 1) bud [] w.heap.size none 0 []) := by
    have hz : (w.alloc (.map #[] 0)).heap.size = w.heap.size + 1 := by simp
    refine ⟨?_, Own.nil _ _ _ _, ?_, by simp [Keys], fun p => rfl, by simp [Keys], by simp [ob], by simp, by simp, fun g hg => ?_⟩
    · have := Blk.new (w.alloc (.map #[] 0)) 120 #[.int .i64 bud, .int .i64 0, .map (some w.heap.size), .slice none 0 0]
      rw [hz] at this
      exact this
    · refine ⟨#[], 0, ?_, rfl⟩
      exact (Below.heap_alloc _ _ w.heap.size (by rw [hz]; omega)).trans (heap_alloc_new w _)
    · simp only [List.mem_cons, List.not_mem_nil, or_false] at hg
      simp
      omega
  have HB : Hid (Below w.heap.size w ((w.alloc (.map #[] 0)).alloc (.cells #[.int .i64 bud, .int .i64 0, .map (some w.heap.size), .slice none 0 0] 120))) := ((Below.refl _ _).alloc (Nat.le_refl _) _).alloc (by simp) _
  by_cases h1 : bud < 1
  · have HF : Hid (budE bud ≠ 0) := by show _ ≠ _; unfold budE; rw [if_pos (.inl h1)]; decide
    go_enter Tryd.func10, Tryd.ntmps10
    go_wp2_with fail
    go_ret2
    exact .inl ⟨HF.out, rfl, rfl⟩
  · by_cases h2 : 10000 < bud
    · have HF : Hid (budE bud ≠ 0) := by show _ ≠ _; unfold budE; rw [if_pos (.inr h2)]; decide
      have h3 : decide (bud > 10000) = true := decide_eq_true h2
      go_enter Tryd.func10, Tryd.ntmps10
      go_wp2_with fail
      go_ret2
      exact .inl ⟨HF.out, rfl, rfl⟩
    · have HF : Hid (budE bud = 0) := by show _ = _; unfold budE; rw [if_neg (by omega)]
      go_enter Tryd.func10, Tryd.ntmps10
      go_wp2_with fail
      go_ret2
      exact .inr ⟨HF.out, w.heap.size + 1, [w.heap.size, w.heap.size + 1], w.heap.size, none, 0, [], rfl, HIS.out, HB.out⟩
section
variable (w : World) (B : Nat) (S : List Nat) (b : Nat) (bud : Int) (m : List Kept) (r : Nat) (A : Option Addr) (cap : Nat) (kvs : List Kept) (h : CacheIs w B S b bud m r A cap kvs)
include h
set_option maxRecDepth 100000 in
theorem cused_any : Calls Tryd.prog 15 #[.pointer (some ⟨b, 0, none⟩)] w (fun e w' => e = .returned (.int .i64 (sumK m)) ∧ w' = w) := by
  have c1 : w.cell? ⟨b, 1, none⟩ = some (.int .i64 (sumK m)) := h.blk.cell 1
  clear h
  go_enter Tryd.func15, Tryd.ntmps15
  go_wp2_with fail
  go_ret
  exact ⟨rfl, rfl⟩
set_option maxRecDepth 100000 in
set_option maxHeartbeats 4000000 in
theorem cget_any (hs : sumK m ≤ 1000000) (hl : m.length ≤ 90000) (p : ByteArray) :
    Calls Tryd.prog 12 #[.pointer (some ⟨b, 0, none⟩), .string p] w (CGetPost w B S b bud m p) := by
  have c2 : w.cell? ⟨b, 2, none⟩ = some (.map (some r)) := h.blk.cell 2
  have hlk := h.look2 p
  have HE5 := errV_ne (show (5 : Int) ≠ 0 by decide)
  have hvl := val_le (p := p) (m := m)
  have HON := Lib.hid (on_any w B S b bud m r A cap kvs h hs hl p (valK p m) (by omega))
  have hnot : ∀ (x : Bool) (w : World), (Op.unary .not (.bool x)).run Tryd.prog w = .ok (.bool (!x)) w := fun _ _ => rfl
  clear h hvl
  cases hg : (get p m).isSome with
  | true =>
    rw [hg] at hlk
    have HG := Lib.hid hg
    clear hg
    go_enter Tryd.func12, Tryd.ntmps12
    go_wp2_with fail
    refine HON.out.mono ?_
    rintro e w1 ⟨rfl, ht⟩
    have HT := Lib.hid ht
    clear ht
    go_wp2_with fail
    go_ret2
    exact .inl ⟨HG.out, rfl, HT.out⟩
  | false =>
    rw [hg] at hlk
    have HG := Lib.hid hg
    clear hg
    go_enter Tryd.func12, Tryd.ntmps12
    go_wp2_with fail
    go_ret2
    exact .inr ⟨HG.out, rfl, rfl⟩
end
end Go.Proofs.YtgjhkblnohcppaaDoor
