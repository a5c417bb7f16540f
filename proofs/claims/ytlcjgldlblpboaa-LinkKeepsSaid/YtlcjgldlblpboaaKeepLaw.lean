/- Between two ends of a line: what came is the beginning of what was sent, and all comes in the end. Plain. Conditions: none. -/
import Derived.Test.YtlcjgldlblpboaaLinkSpec
namespace Go.Proofs.Ytlcjgldlblpboaa
open Go.RowKit
set_option linter.unusedVariables false
/-- The end that sends the texts T. -/
structure KA (win wait : Nat) (T : List ByteArray) (st : LEnd) : Prop where
  win : st.win = win
  wait : st.wait = wait
  data : st.data = T.drop st.acked
  le : st.acked ≤ st.said
  said : st.said ≤ T.length
  got : st.got = []
  owes : st.owes = false
/-- The end that hears: of a it knows that it said so many, and that it is told of so many. -/
structure KB (win wait : Nat) (T : List ByteArray) (p s : Nat) (st : LEnd) : Prop where
  win : st.win = win
  wait : st.wait = wait
  data : st.data = []
  acked : st.acked = 0
  said : st.said = 0
  ticks : st.ticks = 0
  got : st.got = T.take st.got.length
  low : p ≤ st.got.length
  high : st.got.length ≤ s
/-- A frame that a said. -/
structure KF (T : List ByteArray) (s : Nat) (f : LFrame) : Prop where
  ack : f.ack = false
  one : 1 ≤ f.seq
  le : f.seq ≤ (s : Int)
  data : T[f.seq.toNat - 1]? = some f.data
theorem KF.more {T : List ByteArray} {s s' : Nat} {f : LFrame} (h : KF T s f) (hs : s ≤ s') : KF T s' f := ⟨h.ack, h.one, by have := h.le; omega, h.data⟩
section
variable {win wait : Nat} {T : List ByteArray} {st b : LEnd} {p s : Nat}
theorem KA.new (win wait : Nat) : KA win wait [] (LEnd.new win wait) := ⟨rfl, rfl, rfl, Nat.le_refl _, Nat.le_refl _, rfl, rfl⟩
theorem KB.new (win wait : Nat) : KB win wait [] 0 0 (LEnd.new win wait) := ⟨rfl, rfl, rfl, rfl, rfl, rfl, rfl, Nat.le_refl _, Nat.le_refl _⟩
theorem KA.len (h : KA win wait T st) : st.data.length = T.length - st.acked := by rw [h.data, List.length_drop]
theorem KA.send (h : KA win wait T st) (x : ByteArray) : KA win wait (T ++ [x]) (st.send x) := by
  have h1 := h.le
  have h2 := h.said
  refine ⟨h.win, h.wait, ?_, h.le, by show st.said ≤ _; rw [List.length_append]; omega, h.got, h.owes⟩
  show st.data ++ [x] = (T ++ [x]).drop st.acked
  rw [List.drop_append_of_le_length (by omega), ← h.data]
theorem KA.tick (h : KA win wait T st) : KA win wait T st.tick := ⟨h.win, h.wait, h.data, h.le, h.said, h.got, h.owes⟩
theorem KA.out (h : KA win wait T st) : KA win wait T st.out := by
  have h1 := h.len
  have h2 := h.said
  have h3 := h.le
  refine ⟨h.win, h.wait, h.data, by show st.acked ≤ max st.said (st.acked + st.wide); omega, ?_, h.got, rfl⟩
  show max st.said (st.acked + st.wide) ≤ _
  unfold LEnd.wide
  omega
theorem KA.frames (h : KA win wait T st) : st.outFrames = (List.range' st.skip (st.wide - st.skip)).map st.frame := by
  unfold LEnd.outFrames LEnd.ackFrames
  rw [h.owes]
  simp
theorem KA.frame (h : KA win wait T st) {j : Nat} (hj : j < st.wide) : KF T st.out.said (st.frame j) := by
  have h1 := h.len
  have h2 : st.wide ≤ st.data.length := by unfold LEnd.wide; omega
  refine ⟨rfl, by show (1 : Int) ≤ st.acked + j + 1; omega, ?_, ?_⟩
  · show (st.acked : Int) + j + 1 ≤ ((max st.said (st.acked + st.wide) : Nat) : Int)
    omega
  · show T[((st.acked : Int) + j + 1).toNat - 1]? = some (st.data.getD j ⟨#[]⟩)
    rw [show ((st.acked : Int) + j + 1).toNat - 1 = st.acked + j by omega, List.getD_eq_getElem?_getD, h.data, List.getElem?_drop, List.getElem?_eq_getElem (by omega)]
    rfl
theorem KA.said_all (h : KA win wait T st) : ∀ f ∈ st.outFrames, KF T st.out.said f := by
  rw [h.frames]
  intro f hf
  obtain ⟨j, hj, rfl⟩ := List.mem_map.1 hf
  rw [List.mem_range'_1] at hj
  exact h.frame (by omega)
/-- b hears a frame that a said. -/
theorem KB.hear (h : KB win wait T p s b) (hs : s ≤ T.length) (hT : ∀ x ∈ T, x.size ≤ 200) {f : LFrame} (hf : KF T s f) :
    b.hearErr f = 0 ∧ KB win wait T p s (b.hear f) ∧ (b.hear f).owes = true ∧ (b.hear f).got.length = if f.seq = b.got.length + 1 then b.got.length + 1 else b.got.length := by
  obtain ⟨a, n, d⟩ := f
  obtain rfl := hf.ack
  have h1 := hf.one
  have h2 := hf.le
  have h3 := hf.data
  simp only at h1 h2 h3
  have hd : d.size ≤ 200 := hT d (List.mem_of_getElem? h3)
  have he : b.hearErr ⟨false, n, d⟩ = 0 := by unfold LEnd.hearErr; rw [if_neg (show ¬ (false = true) by decide), if_neg (show ¬ n < 1 by omega), if_neg (show ¬ 200 < d.size by omega)]
  have hr : b.hear ⟨false, n, d⟩ = { b with got := if n = b.got.length + 1 then b.got ++ [d] else b.got, owes := true } := by
    unfold LEnd.hear
    rw [if_neg (by rw [he]; decide), if_neg (show ¬ (false = true) by decide)]
  refine ⟨he, ?_, by rw [hr], by rw [hr]; simp only; split <;> simp⟩
  rw [hr]
  by_cases hn : n = b.got.length + 1
  · simp only [if_pos hn]
    have h5 := h.low
    have h6 := h.high
    refine ⟨h.win, h.wait, h.data, h.acked, h.said, h.ticks, ?_, by simp; omega, by simp; omega⟩
    rw [show n.toNat - 1 = b.got.length by omega] at h3
    simp only [List.length_append, List.length_cons, List.length_nil]
    obtain ⟨hlt, h7⟩ := List.getElem?_eq_some_iff.1 h3
    rw [List.take_succ_eq_append_getElem hlt, h7, ← h.got]
  · simp only [if_neg hn]
    exact ⟨h.win, h.wait, h.data, h.acked, h.said, h.ticks, h.got, h.low, h.high⟩
theorem KB.out (h : KB win wait T p s b) : KB win wait T p s b.out ∧ b.out.owes = false ∧ b.outFrames = (if b.owes = true then [⟨true, b.got.length, ⟨#[]⟩⟩] else []) ∧ b.out.got = b.got := by
  have hw : b.wide = 0 := by unfold LEnd.wide; rw [h.data]; simp
  refine ⟨⟨h.win, h.wait, h.data, h.acked, ?_, ?_, h.got, h.low, h.high⟩, rfl, ?_, rfl⟩
  · show max b.said (b.acked + b.wide) = 0
    rw [h.said, h.acked, hw]; rfl
  · show (if b.skip < b.wide then 0 else b.ticks) = 0
    rw [h.ticks]; simp
  · unfold LEnd.outFrames LEnd.ackFrames
    rw [hw]
    simp
theorem KB.more {p' s' : Nat} (h : KB win wait T p s b) (hp : p' ≤ p) (hs : s ≤ s') : KB win wait T p' s' b := ⟨h.win, h.wait, h.data, h.acked, h.said, h.ticks, h.got, by have := h.low; omega, by have := h.high; omega⟩
/-- a hears how many came. -/
theorem KA.hear (h : KA win wait T st) (hb : KB win wait T st.acked st.said b) : st.hearErr ⟨true, b.got.length, ⟨#[]⟩⟩ = 0 ∧ KA win wait T (st.hear ⟨true, b.got.length, ⟨#[]⟩⟩) ∧
    (st.hear ⟨true, b.got.length, ⟨#[]⟩⟩).said = st.said ∧ (st.hear ⟨true, b.got.length, ⟨#[]⟩⟩).acked = b.got.length ∧ (st.hear ⟨true, b.got.length, ⟨#[]⟩⟩).ticks = st.ticks := by
  have h1 := hb.low
  have h2 := hb.high
  have he : st.hearErr ⟨true, b.got.length, ⟨#[]⟩⟩ = 0 := by
    unfold LEnd.hearErr
    rw [if_pos rfl, if_neg (by simp only; omega), if_neg (by show ¬ (0 ≠ 0); omega)]
  refine ⟨he, ?_⟩
  by_cases hq : (st.acked : Int) < (b.got.length : Int)
  · have hr : st.hear ⟨true, b.got.length, ⟨#[]⟩⟩ = { st with data := st.data.drop (b.got.length - st.acked), acked := b.got.length } := by
      unfold LEnd.hear
      rw [if_neg (by rw [he]; decide), if_pos rfl, if_pos hq]
      rfl
    rw [hr]
    refine ⟨⟨h.win, h.wait, ?_, h2, h.said, h.got, h.owes⟩, rfl, rfl, rfl⟩
    show st.data.drop (b.got.length - st.acked) = T.drop b.got.length
    rw [h.data, List.drop_drop, show st.acked + (b.got.length - st.acked) = b.got.length by omega]
  · have hr : st.hear ⟨true, b.got.length, ⟨#[]⟩⟩ = st := by
      unfold LEnd.hear
      rw [if_neg (by rw [he]; decide), if_pos rfl, if_neg hq]
    rw [hr]
    exact ⟨h, rfl, by omega, rfl⟩
/-- All that is said, heard in its order. -/
theorem KB.hear_row (h : KB win wait T p s b) (hs : s ≤ T.length) (hT : ∀ x ∈ T, x.size ≤ 200) (z : LEnd) (i : Nat) (hz : KA win wait T z) (hi : i ≤ z.wide) (hzs : z.out.said ≤ s) : ∀ k, i + k ≤ z.wide →
    KB win wait T p s (((List.range' i k).map z.frame).foldl LEnd.hear b) ∧ (((List.range' i k).map z.frame).foldl LEnd.hear b).owes = (b.owes || decide (0 < k)) ∧
      (z.acked + i ≤ b.got.length → (((List.range' i k).map z.frame).foldl LEnd.hear b).got.length = max b.got.length (z.acked + i + k)) ∧
      (b.got.length < z.acked + i → (((List.range' i k).map z.frame).foldl LEnd.hear b).got.length = b.got.length)
  | 0 => fun _ => by
    refine ⟨h, by simp, fun hh => ?_, fun _ => rfl⟩
    show b.got.length = _
    omega
  | k + 1 => fun hk => by
    obtain ⟨h1, h2, h3, h4⟩ := KB.hear_row h hs hT z i hz hi hzs k (by omega)
    rw [List.range'_concat, List.map_append, List.foldl_append]
    simp only [Nat.one_mul, List.map_cons, List.map_nil, List.foldl_cons, List.foldl_nil]
    generalize ((List.range' i k).map z.frame).foldl LEnd.hear b = x at *
    have hf := (hz.frame (show i + k < z.wide by omega)).more hzs
    obtain ⟨_, g1, g2, g3⟩ := h1.hear hs hT hf
    have hseq : (z.frame (i + k)).seq = (z.acked : Int) + (i + k : Nat) + 1 := rfl
    rw [hseq] at g3
    refine ⟨g1, by rw [g2]; simp, fun hh => ?_, fun hh => ?_⟩
    · have := h3 hh
      rw [g3]
      split <;> omega
    · have := h4 hh
      rw [g3, this]
      split <;> omega
end
/-- How many rounds more, at most. -/
def rest (st : LEnd) : Nat := if st.data.length = 0 then 0 else (st.data.length - 1) * (st.wait + 1) + (if st.said < st.acked + st.wide then st.wait + 1 else (st.wait - st.ticks) + 1)
theorem rest_le (st : LEnd) : rest st ≤ st.data.length * (st.wait + 1) := by
  unfold rest
  by_cases h : st.data.length = 0
  · rw [if_pos h]; exact Nat.zero_le _
  · rw [if_neg h]
    obtain ⟨m, hm⟩ : ∃ m, st.data.length = m + 1 := ⟨st.data.length - 1, by omega⟩
    rw [hm, Nat.add_sub_cancel, Nat.add_mul, Nat.one_mul]
    split <;> omega
/-- A round in which nothing is lost. -/
theorem rest_round {win wait : Nat} {T : List ByteArray} {st b : LEnd} (hw : 1 ≤ win) (h : KA win wait T st) (hb : KB win wait T st.acked st.said b) (hT : ∀ x ∈ T, x.size ≤ 200) (hd : 0 < st.data.length)
    {b1 : LEnd} (hb1 : b1 = st.outFrames.foldl LEnd.hear b) {a1 : LEnd} (ha1 : a1 = b1.outFrames.foldl LEnd.hear st.out) :
    KA win wait T a1.tick ∧ KB win wait T a1.tick.acked a1.tick.said b1.out ∧ rest a1.tick < rest st := by
  have ho := h.out
  have hlo : st.out.acked = st.acked := rfl
  have hso : st.out.said = max st.said (st.acked + st.wide) := rfl
  have hto : st.out.ticks = if st.skip < st.wide then 0 else st.ticks := rfl
  have hwd : 1 ≤ st.wide := by unfold LEnd.wide; rw [h.win]; omega
  have hwd2 : st.wide ≤ st.data.length := by unfold LEnd.wide; omega
  have hsk : st.skip = if st.wait ≤ st.ticks then 0 else max st.said st.acked - st.acked := rfl
  have hbs : KB win wait T st.acked st.out.said b := hb.more (Nat.le_refl _) (by rw [hso]; omega)
  have hsT := ho.said
  have h1 := h.le
  have h2 := h.said
  have hlen := h.len
  have q1 := hb.low
  have q2 := hb.high
  have hfold : KB win wait T st.acked st.out.said b1 ∧ b1.owes = (b.owes || decide (st.skip < st.wide)) ∧ (st.skip < st.wide → st.acked + st.skip ≤ b.got.length → b1.got.length = max b.got.length (st.acked + st.wide)) ∧ b.got.length ≤ b1.got.length := by
    rw [hb1, h.frames]
    rcases Nat.lt_or_ge st.skip st.wide with hlt | hge
    · obtain ⟨g1, g2, g3, g4⟩ := hbs.hear_row hsT hT st st.skip h (by omega) (Nat.le_refl _) (st.wide - st.skip) (by omega)
      refine ⟨g1, by rw [g2]; congr 1; simp; omega, fun _ hh => by rw [g3 hh]; omega, ?_⟩
      rcases Nat.lt_or_ge b.got.length (st.acked + st.skip) with hh | hh
      · rw [g4 hh]; exact Nat.le_refl _
      · rw [g3 hh]; omega
    · rw [show st.wide - st.skip = 0 by omega]
      refine ⟨hbs, ?_, fun hh => by omega, Nat.le_refl _⟩
      rw [decide_eq_false (by omega)]
      simp
  obtain ⟨f1, f2, f3, f4⟩ := hfold
  obtain ⟨k1, k2, k3, k4⟩ := f1.out
  have hk4 : b1.out.got.length = b1.got.length := by rw [k4]
  rw [k3] at ha1
  -- where a stands then
  have hfin : KA win wait T a1 ∧ a1.said = st.out.said ∧ a1.ticks = st.out.ticks ∧ a1.acked ≤ b1.got.length ∧ st.acked ≤ a1.acked ∧ (b1.owes = true → a1.acked = b1.got.length) := by
    cases hbo : b1.owes with
    | false =>
      rw [hbo] at ha1
      simp only [Bool.false_eq_true, if_false, List.foldl_nil] at ha1
      subst ha1
      exact ⟨ho, rfl, rfl, by rw [hlo]; omega, Nat.le_refl _, fun hh => by cases hh⟩
    | true =>
      rw [hbo] at ha1
      simp only [if_true, List.foldl_cons, List.foldl_nil] at ha1
      obtain ⟨m1, m2, m3, m4, m5⟩ := ho.hear (b := b1) (by rw [hlo]; exact f1)
      rw [← ha1] at m2 m3 m4 m5
      exact ⟨m2, m3, m5, by omega, by omega, fun _ => m4⟩
  obtain ⟨n1, n2, n3, n4, n5, n6⟩ := hfin
  have hT1 : a1.tick.acked = a1.acked := rfl
  have hT2 : a1.tick.said = a1.said := rfl
  have hT3 : a1.tick.ticks = a1.ticks + 1 := rfl
  have hT4 : a1.tick.data = a1.data := rfl
  have hT5 : a1.tick.wait = wait := n1.wait
  refine ⟨n1.tick, ⟨k1.win, k1.wait, k1.data, k1.acked, k1.said, k1.ticks, k1.got, by rw [hT1, hk4]; exact n4, by rw [hT2, n2]; exact k1.high⟩, ?_⟩
  have hl1 := n1.len
  have hwait := h.wait
  rcases Nat.lt_or_ge st.acked a1.acked with hlt | hge
  · -- something came through
    have h3 := rest_le a1.tick
    rw [hT4, hT5] at h3
    have h4 : a1.data.length + 1 ≤ st.data.length := by omega
    have h5 : a1.data.length * (wait + 1) + 1 ≤ rest st := by
      unfold rest
      rw [if_neg (by omega), hwait]
      have h6 := Nat.mul_le_mul_right (wait + 1) (show a1.data.length ≤ st.data.length - 1 by omega)
      split <;> omega
    omega
  · have hacc : a1.acked = st.acked := by omega
    have hdl : a1.data.length = st.data.length := by omega
    have hww : a1.tick.wide = st.wide := by
      show min a1.win a1.data.length = min st.win st.data.length
      rw [n1.win, h.win, hdl]
    have hsd : ¬ a1.said < a1.acked + st.wide := by rw [n2, hso, hacc]; omega
    have hnot : ¬ (st.wait ≤ st.ticks) := fun hh => by
      rw [if_pos hh] at hsk
      have g1 : st.skip < st.wide := by omega
      have g2 := f3 g1 (by omega)
      have g3 : b1.owes = true := by rw [f2, decide_eq_true g1]; simp
      have := n6 g3
      omega
    rw [if_neg hnot] at hsk
    have hr1 : rest st = (st.data.length - 1) * (wait + 1) + (if st.said < st.acked + st.wide then wait + 1 else (wait - st.ticks) + 1) := by unfold rest; rw [if_neg (by omega), hwait]
    have hr2 : rest a1.tick = (st.data.length - 1) * (wait + 1) + ((wait - (a1.ticks + 1)) + 1) := by
      unfold rest
      rw [hT4, if_neg (by omega), hww, hT1, hT2, hT3, hT5, if_neg hsd, hdl]
    rw [hr1, hr2]
    by_cases hnew : st.said < st.acked + st.wide
    · rw [if_pos hnew]
      have : a1.ticks = 0 := by rw [n3, hto, if_pos (by omega)]
      omega
    · rw [if_neg hnew]
      have : a1.ticks = st.ticks := by rw [n3, hto, if_neg (by omega)]
      omega
end Go.Proofs.Ytlcjgldlblpboaa
