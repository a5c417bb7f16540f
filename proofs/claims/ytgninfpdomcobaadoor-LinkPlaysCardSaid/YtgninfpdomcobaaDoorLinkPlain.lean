/- What holds of an end after i steps of a play: plain. -/
import Derived.Test.YtgninfpdomcobaaDoorLinkSpec
namespace Go.Proofs.YtgninfpdomcobaaDoor
set_option linter.unusedVariables false

structure LEnd.Upto (st : LEnd) (i : Nat) : Prop where
  win1 : 1 ≤ st.win
  win2 : st.win ≤ 16
  wait1 : 1 ≤ st.wait
  wait2 : st.wait ≤ 20
  data : st.data.length ≤ 100
  all : st.acked + st.data.length ≤ i
  said : st.said ≤ st.acked + st.data.length
  acked : st.acked ≤ st.said
  ticks : st.ticks ≤ i
  got : st.got.length ≤ i
theorem LEnd.Upto.ok {st : LEnd} {i : Nat} (h : st.Upto i) (hi : i ≤ 100000) : st.Ok :=
  ⟨h.win1, h.win2, h.wait1, h.wait2, h.data, by have := h.all; omega, h.said, by have := h.ticks; omega, by have := h.got; omega⟩
theorem LEnd.Upto.new {win wait : Nat} (h1 : 1 ≤ win) (h2 : win ≤ 16) (h3 : 1 ≤ wait) (h4 : wait ≤ 20) : (LEnd.new win wait).Upto 0 :=
  ⟨h1, h2, h3, h4, by simp [LEnd.new], by simp [LEnd.new], by simp [LEnd.new], by simp [LEnd.new], by simp [LEnd.new], by simp [LEnd.new]⟩
theorem LEnd.Upto.stay {st : LEnd} {i : Nat} (h : st.Upto i) : st.Upto (i + 1) :=
  ⟨h.win1, h.win2, h.wait1, h.wait2, h.data, by have := h.all; omega, h.said, h.acked, by have := h.ticks; omega, by have := h.got; omega⟩
theorem LEnd.Upto.send {st : LEnd} {i : Nat} (h : st.Upto i) (s : ByteArray) (hd : st.data.length < 100) : (st.send s).Upto (i + 1) :=
  ⟨h.win1, h.win2, h.wait1, h.wait2, by simp [LEnd.send]; omega, by have := h.all; simp [LEnd.send]; omega, by have := h.said; simp [LEnd.send]; omega, h.acked, by have := h.ticks; show st.ticks ≤ _; omega, by have := h.got; show st.got.length ≤ _; omega⟩
theorem LEnd.Upto.tick {st : LEnd} {i : Nat} (h : st.Upto i) : st.tick.Upto (i + 1) :=
  ⟨h.win1, h.win2, h.wait1, h.wait2, h.data, by have := h.all; show st.acked + st.data.length ≤ _; omega, h.said, h.acked, by have := h.ticks; show st.ticks + 1 ≤ _; omega, by have := h.got; show st.got.length ≤ _; omega⟩
theorem LEnd.Upto.out {st : LEnd} {i : Nat} (h : st.Upto i) : st.out.Upto (i + 1) :=
  ⟨h.win1, h.win2, h.wait1, h.wait2, h.data, by have := h.all; show st.acked + st.data.length ≤ _; omega,
    by have := h.said; show max st.said (st.acked + st.wide) ≤ st.acked + st.data.length; unfold LEnd.wide; omega,
    by have := h.acked; show st.acked ≤ max st.said (st.acked + st.wide); omega,
    by have := h.ticks; show (if st.skip < st.wide then 0 else st.ticks) ≤ _; split <;> omega, by have := h.got; show st.got.length ≤ _; omega⟩
theorem LEnd.Upto.hear {st : LEnd} {i : Nat} (h : st.Upto i) (f : LFrame) : (st.hear f).Upto (i + 1) := by
  obtain ⟨a, s, d⟩ := f
  by_cases he : st.hearErr ⟨a, s, d⟩ ≠ 0
  · have : st.hear ⟨a, s, d⟩ = st := by unfold LEnd.hear; rw [if_pos he]
    rw [this]; exact h.stay
  · have hz : st.hearErr ⟨a, s, d⟩ = 0 := by omega
    cases a with
    | true =>
      by_cases h1 : s < 0 ∨ (st.said : Int) < s
      · exfalso; unfold LEnd.hearErr at hz; rw [if_pos rfl, if_pos h1] at hz; omega
      · by_cases h3 : (st.acked : Int) < s
        · have e2 : st.hear ⟨true, s, d⟩ = { st with data := st.data.drop (s.toNat - st.acked), acked := s.toNat } := by unfold LEnd.hear; rw [if_neg he, if_pos rfl, if_pos h3]
          rw [e2]
          have h5 := h.all
          have h6 := h.said
          have h7 := h.data
          have hl : (st.data.drop (s.toNat - st.acked)).length = st.data.length - (s.toNat - st.acked) := List.length_drop
          exact ⟨h.win1, h.win2, h.wait1, h.wait2, by rw [hl]; omega, by show s.toNat + (st.data.drop (s.toNat - st.acked)).length ≤ _; rw [hl]; omega,
            by show st.said ≤ s.toNat + (st.data.drop (s.toNat - st.acked)).length; rw [hl]; omega, by show s.toNat ≤ st.said; omega, by have := h.ticks; show st.ticks ≤ _; omega, by have := h.got; show st.got.length ≤ _; omega⟩
        · have e2 : st.hear ⟨true, s, d⟩ = st := by unfold LEnd.hear; rw [if_neg he, if_pos rfl, if_neg h3]
          rw [e2]; exact h.stay
    | false =>
      have e2 : st.hear ⟨false, s, d⟩ = { st with got := if s = st.got.length + 1 then st.got ++ [d] else st.got, owes := true } := by unfold LEnd.hear; rw [if_neg he, if_neg (show ¬ (false = true) by decide)]
      rw [e2]
      exact ⟨h.win1, h.win2, h.wait1, h.wait2, h.data, by have := h.all; show st.acked + st.data.length ≤ _; omega, h.said, h.acked, by have := h.ticks; show st.ticks ≤ _; omega,
        by have := h.got; show (if s = st.got.length + 1 then st.got ++ [d] else st.got).length ≤ _; split <;> (try rw [List.length_append]) <;> (try simp only [List.length_cons, List.length_nil]) <;> omega⟩
end Go.Proofs.YtgninfpdomcobaaDoor
