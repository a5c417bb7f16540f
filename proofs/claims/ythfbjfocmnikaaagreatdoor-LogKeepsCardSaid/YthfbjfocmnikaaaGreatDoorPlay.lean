/- The program's document and the reference's, played beside each other: the round of such a loop. By the contracts of both. Conditions: the ops can be read. -/
import Derived.Test.YthfbjfocmnikaaaGreatDoorRefApply
import Derived.Test.YthfbjfocmnikaaaGreatDoorRefIn
namespace Go.Proofs.YthfbjfocmnikaaaGreatDoor
open Go.RowKit
set_option linter.unusedVariables false
/-- The two documents, to which the same ops were applied. -/
def PlayAt (w : World) (B b1 b2 n : Nat) (wr : World) : Prop := ∃ st S1 S2 D1 D2, Twin w B b1 b2 st st wr S1 S2 D1 D2 ∧ st.Ok ∧ Says st.ops st ∧ st.ops.length ≤ n
theorem PlayAt.more {w wr : World} {B b1 b2 n m : Nat} (h : PlayAt w B b1 b2 n wr) (hm : n ≤ m) : PlayAt w B b1 b2 m wr := by
  obtain ⟨st, S1, S2, D1, D2, h1, h2, h3, h4⟩ := h
  exact ⟨st, S1, S2, D1, D2, h1, h2, h3, by omega⟩
theorem PlayAt.below {w wr : World} {B b1 b2 n : Nat} (h : PlayAt w B b1 b2 n wr) : Below w.heap.size w wr := by
  obtain ⟨st, S1, S2, D1, D2, h1, _⟩ := h
  exact h1.below
theorem Seat.of_arg {w wr : World} {B : Nat} {S T : List Nat} {size n : Nat} {A : Option Addr} {xs : List Value} (h : Reads w w.heap.size size A n xs) (hb : Below w.heap.size w wr) (hB : w.heap.size ≤ B) (hT : ∀ g ∈ T, B ≤ g) : Seat wr B S T size A n xs := by
  refine ⟨(h.below hb).more hb.size, fun hn g hg => ?_, fun hn g hg hm => ?_⟩
  · obtain ⟨ad, e, hlt, _⟩ := h.2 hn
    rw [e] at hg; simp [ob] at hg; exact .inl (by omega)
  · obtain ⟨ad, e, hlt, _⟩ := h.2 hn
    rw [e] at hg; simp [ob] at hg
    have := hT g hm; omega
theorem PlayAt.round {w wr : World} {B b1 b2 n : Nat} (h : PlayAt w B b1 b2 n wr) {A : Option Addr} {ys : List OpAt} (hr : Reads w w.heap.size 6 A ys.length (ocells ys)) (hg : ∀ y ∈ ys, y.Good w) {k : Nat} (hk : k < ys.length) :
    ∃ ad who nn what p letter seen ya yc, A = some ad ∧ Below w.heap.size w wr ∧ Hid (∀ W, Below w.heap.size w W → W.cell? (ad.add (k * 6)) = some (.int .i64 who) ∧ W.cell? ⟨(ad.add (k * 6)).block, (ad.add (k * 6)).off + 1, none⟩ = some (.int .i64 nn) ∧ W.cell? ⟨(ad.add (k * 6)).block, (ad.add (k * 6)).off + 2, none⟩ = some (.int .i64 what) ∧
      W.cell? ⟨(ad.add (k * 6)).block, (ad.add (k * 6)).off + 3, none⟩ = some (.string p) ∧ W.cell? ⟨(ad.add (k * 6)).block, (ad.add (k * 6)).off + 4, none⟩ = some (.int .i64 letter) ∧ W.cell? ⟨(ad.add (k * 6)).block, (ad.add (k * 6)).off + 5, none⟩ = some (.slice ya seen yc)) ∧
      Hid (Calls Tryz.prog 20 #[.pointer (some ⟨b2, 0, none⟩), .agg #[.int .i64 who, .int .i64 nn, .int .i64 what, .string p, .int .i64 letter, .slice ya seen yc]] wr (fun e w1 => ∃ (is : Bool) (ke : Int), e = .returned (.tuple #[.bool is, .int .i64 ke]) ∧ Below w.heap.size w w1 ∧
        Calls Tryz.prog 36 #[.pointer (some ⟨b1, 0, none⟩), .agg #[.int .i64 who, .int .i64 nn, .int .i64 what, .string p, .int .i64 letter, .slice ya seen yc]] w1 (fun e w2 => e = .returned (.tuple #[.bool is, errV ke]) ∧ PlayAt w B b1 b2 (n + 1) w2))) := by
  obtain ⟨st, S1, S2, D1, D2, hd, hok, hs, hl⟩ := h
  obtain ⟨ad, rfl, hcel⟩ : ∃ ad, A = some ad ∧ ∀ W, Below w.heap.size w W → W.cell? (ad.add (k * 6)) = some (.int .i64 ys[k].op.dot.who) ∧ W.cell? ⟨(ad.add (k * 6)).block, (ad.add (k * 6)).off + 1, none⟩ = some (.int .i64 ys[k].op.dot.n) ∧ W.cell? ⟨(ad.add (k * 6)).block, (ad.add (k * 6)).off + 2, none⟩ = some (.int .i64 ys[k].op.what) ∧
      W.cell? ⟨(ad.add (k * 6)).block, (ad.add (k * 6)).off + 3, none⟩ = some (.string ys[k].op.place) ∧ W.cell? ⟨(ad.add (k * 6)).block, (ad.add (k * 6)).off + 4, none⟩ = some (.int .i64 ys[k].op.letter) ∧ W.cell? ⟨(ad.add (k * 6)).block, (ad.add (k * 6)).off + 5, none⟩ = some (.slice ys[k].at_ ys[k].op.seen.length ys[k].cap) := by
    obtain ⟨ad, e, _⟩ := hr.op hk
    refine ⟨ad, e, fun W hW => ?_⟩
    obtain ⟨ad', e', _, hh⟩ := (hr.below hW).op hk
    rw [e] at e'
    injection e' with e'
    subst e'
    exact hh
  have hgood := fun W (hW : Below w.heap.size w W) => (hg _ (List.getElem_mem hk)).below hW
  have hps := (hgood wr hd.below).2.1
  have hbase := hd.base
  have HA := rapply_doc wr _ _ _ _ _ hd.two hok hs ys[k].op ys[k].at_ ys[k].cap (by unfold maxLen at hps; omega) (Seat.of_arg (hg _ (List.getElem_mem hk)).1 hd.below hd.base (fun g hg => (hd.two.own g (hd.two.sub g hg)).1))
  refine ⟨ad, _, _, _, _, _, _, _, _, rfl, hd.below, hcel, HA.mono ?_⟩
  rintro e w1 ⟨rfl, ht⟩
  obtain ⟨S', D', hd', ho', _⟩ := hd.right ht
  refine ⟨_, _, rfl, hd'.below, ?_⟩
  have HA2 := apply_doc w1 _ _ _ _ _ hd'.one hok ys[k].op ys[k].at_ ys[k].cap (by unfold maxLen at hps; omega) (hgood w1 hd'.below).1 (fun hn g hgg hm => by
    obtain ⟨ad2, e2, hlt, _⟩ := (hg _ (List.getElem_mem hk)).1.2 hn
    rw [e2] at hgg; simp [ob] at hgg
    have := (hd'.one.own g hm).1; omega)
  refine HA2.mono ?_
  rintro e w2 ⟨rfl, ht2⟩
  obtain ⟨S'', D'', hd'', _, _⟩ := hd'.left ht2
  refine ⟨rfl, _, S'', S', D'', D', hd'', LDoc.apply_ok hok _, LDoc.apply_says hok hs _, ?_⟩
  rcases LDoc.apply_three (d := st) ys[k].op with ⟨_, _, q⟩ | ⟨_, _, q⟩ | ⟨_, _, q⟩
  · rw [q]; simp; omega
  · rw [q]; omega
  · rw [q]; omega
end Go.Proofs.YthfbjfocmnikaaaGreatDoor
