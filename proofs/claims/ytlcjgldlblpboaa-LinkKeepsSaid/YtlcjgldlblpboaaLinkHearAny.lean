/- (*link.End).Hear of any frame, in one sentence. Conditions: what holds of each end. -/
import Derived.Test.YtlcjgldlblpboaaLinkHear3
import Derived.Test.YtlcjgldlblpboaaLinkHear4
namespace Go.Proofs.Ytlcjgldlblpboaa
open Go.RowKit
set_option linter.unusedVariables false
section
variable (w : World) (B b : Nat) (A G : Option Addr) (ca cg : Nat) (st : LEnd)
theorem hear_any (f : LFrame) (h : EndAt w B b A ca G cg st) (ok : st.Ok) (hm : f.data.size ≤ 9223372036854775807) :
    Calls Try.prog 9 #[.pointer (some ⟨b, 0, none⟩), .agg #[.bool f.ack, .int .i64 f.seq, .string f.data]] w (SendPost w B b A G (errV (st.hearErr f)) (st.hear f)) := by
  obtain ⟨a, s, d⟩ := f
  cases a with
  | true =>
    by_cases h1 : s < 0 ∨ (st.said : Int) < s
    · have e1 : st.hearErr ⟨true, s, d⟩ = 1 := by unfold LEnd.hearErr; rw [if_pos rfl, if_pos h1]
      have e2 : st.hear ⟨true, s, d⟩ = st := by unfold LEnd.hear; rw [if_pos (by rw [e1]; decide)]
      rw [e1, e2]; exact hear_ack_err1 w B b A G ca cg st s d h ok h1
    · by_cases h2 : d.size ≠ 0
      · have e1 : st.hearErr ⟨true, s, d⟩ = 3 := by unfold LEnd.hearErr; rw [if_pos rfl, if_neg h1, if_pos h2]
        have e2 : st.hear ⟨true, s, d⟩ = st := by unfold LEnd.hear; rw [if_pos (by rw [e1]; decide)]
        rw [e1, e2]; exact hear_ack_err3 w B b A G ca cg st s d h ok (by omega) (by omega) h2
      · have e1 : st.hearErr ⟨true, s, d⟩ = 0 := by unfold LEnd.hearErr; rw [if_pos rfl, if_neg h1, if_neg h2]
        have hd : d = ⟨#[]⟩ := by
          refine ByteArray.ext (Array.eq_empty_of_size_eq_zero ?_)
          have : d.data.size = d.size := rfl
          omega
        subst hd
        by_cases h3 : (st.acked : Int) < s
        · have e2 : st.hear ⟨true, s, ⟨#[]⟩⟩ = { st with data := st.data.drop (s.toNat - st.acked), acked := s.toNat } := by unfold LEnd.hear; rw [if_neg (by rw [e1]; decide), if_pos rfl, if_pos h3]
          obtain ⟨k, hk⟩ : ∃ k : Nat, s = (st.acked : Int) + k := ⟨s.toNat - st.acked, by omega⟩
          rw [e1, e2]
          subst hk
          rw [show ((st.acked : Int) + k).toNat = st.acked + k by omega, show st.acked + k - st.acked = k by omega]
          exact hear_ack_new w B b A G ca cg st k h ok (by omega) (by omega)
        · have e2 : st.hear ⟨true, s, ⟨#[]⟩⟩ = st := by unfold LEnd.hear; rw [if_neg (by rw [e1]; decide), if_pos rfl, if_neg h3]
          rw [e1, e2]; exact hear_ack_old w B b A G ca cg st s h ok (by omega) (by omega) (by omega)
  | false =>
    by_cases h1 : s < 1
    · have e1 : st.hearErr ⟨false, s, d⟩ = 1 := by unfold LEnd.hearErr; rw [if_neg (show ¬ (false = true) by decide), if_pos h1]
      have e2 : st.hear ⟨false, s, d⟩ = st := by unfold LEnd.hear; rw [if_pos (by rw [e1]; decide)]
      rw [e1, e2]; exact hear_data_err1 w B b A G ca cg st s d h h1
    · by_cases h2 : 200 < d.size
      · have e1 : st.hearErr ⟨false, s, d⟩ = 4 := by unfold LEnd.hearErr; rw [if_neg (show ¬ (false = true) by decide), if_neg h1, if_pos h2]
        have e2 : st.hear ⟨false, s, d⟩ = st := by unfold LEnd.hear; rw [if_pos (by rw [e1]; decide)]
        rw [e1, e2]; exact hear_data_err4 w B b A G ca cg st s d h (by omega) h2 hm
      · have e1 : st.hearErr ⟨false, s, d⟩ = 0 := by unfold LEnd.hearErr; rw [if_neg (show ¬ (false = true) by decide), if_neg h1, if_neg h2]
        by_cases h3 : s = (st.got.length : Int) + 1
        · have e2 : st.hear ⟨false, s, d⟩ = { st with got := st.got ++ [d], owes := true } := by unfold LEnd.hear; rw [if_neg (by rw [e1]; decide), if_neg (show ¬ (false = true) by decide), if_pos h3]
          rw [e1, e2]
          subst h3
          exact hear_data_next w B b A G ca cg st d h ok (by omega)
        · have e2 : st.hear ⟨false, s, d⟩ = { st with owes := true } := by unfold LEnd.hear; rw [if_neg (by rw [e1]; decide), if_neg (show ¬ (false = true) by decide), if_neg h3]
          rw [e1, e2]
          exact hear_data_other w B b A G ca cg st s d h ok (by omega) (by omega) h3
end
end Go.Proofs.Ytlcjgldlblpboaa
