/- A net in memory, and what its steps turn: plain lemmas. Conditions: none. -/
import Derived.Test.YthfbjfocmnikaaaGreatDoorNetSpec
import Derived.Test.YthfbjfocmnikaaaGreatDoorUnpack
namespace Go.Proofs.YthfbjfocmnikaaaGreatDoor
open Go.RowKit
set_option linter.unusedVariables false
/-- A node's document: its block, all its blocks, how it is laid. -/
structure NodeAt where
  b : Nat
  S : List Nat
  D : DLay
def ptrs (l : List NodeAt) : List Value := l.map fun d => .pointer (some ⟨d.b, 0, none⟩)
def ucells (l : List (Int × ByteArray)) : List Value := l.flatMap fun p => [.int .i64 p.1, .string p.2]
theorem ucells_len (l : List (Int × ByteArray)) : (ucells l).length = l.length * 2 := by
  induction l with
  | nil => rfl
  | cons p l ih => show ([_, _] ++ ucells l).length = _; rw [List.length_append, ih, List.length_cons]; simp; omega
theorem ucells_app (a b : List (Int × ByteArray)) : ucells (a ++ b) = ucells a ++ ucells b := by simp [ucells]
theorem ucells_at (l : List (Int × ByteArray)) (i : Nat) (h : i < l.length) : (ucells l)[i * 2]? = some (.int .i64 l[i].1) ∧ (ucells l)[i * 2 + 1]? = some (.string l[i].2) := by
  induction l generalizing i with
  | nil => simp at h
  | cons p l ih =>
    cases i with
    | zero => exact ⟨rfl, rfl⟩
    | succ i =>
      have e : ucells (p :: l) = [.int .i64 p.1, .string p.2] ++ ucells l := rfl
      obtain ⟨h1, h2⟩ := ih i (by simpa using h)
      rw [e]
      constructor
      · rw [List.getElem?_append_right (by simp; omega)]
        simp only [List.length_cons, List.length_nil, List.getElem_cons_succ]
        rw [← h1]; congr 1; omega
      · rw [List.getElem?_append_right (by simp; omega)]
        simp only [List.length_cons, List.length_nil, List.getElem_cons_succ]
        rw [← h2]; congr 1; omega
structure NetAt (w : World) (B : Nat) (S : List Nat) (b : Nat) (N : LNet) (ds : List NodeAt) (A1 : Option Addr) (c1 : Nat) (A2 : Option Addr) (c2 : Nat) : Prop where
  blk : Blk w b 179 #[.slice A1 ds.length c1, .slice A2 N.under.length c2]
  len : ds.length = N.docs.length
  row : Own w B 37 1 A1 ds.length c1 (ptrs ds)
  urow : Own w B 244 2 A2 N.under.length c2 (ucells N.under)
  nodes : ∀ i (h : i < ds.length), DocIs w B ds[i].S ds[i].b (N.doc i) ds[i].D
  apart : ∀ i j (hi : i < ds.length) (hj : j < ds.length), i ≠ j → ∀ g ∈ ds[i].S, g ∉ ds[j].S
  far : ∀ d ∈ ds, ∀ g ∈ d.S, g ≠ b ∧ g ∉ ob A1 ∧ g ∉ ob A2
  subb : b ∈ S
  sub1 : ∀ g ∈ ob A1, g ∈ S
  sub2 : ∀ g ∈ ob A2, g ∈ S
  subs : ∀ d ∈ ds, ∀ g ∈ d.S, g ∈ S
  own : ∀ g ∈ S, B ≤ g ∧ g < w.heap.size
def NetIs (w : World) (B : Nat) (S : List Nat) (b : Nat) (N : LNet) : Prop := ∃ ds A1 c1 A2 c2, NetAt w B S b N ds A1 c1 A2 c2
/-- What a step leaves. -/
def NetTo (w : World) (B : Nat) (S : List Nat) (b : Nat) (N : LNet) (w' : World) : Prop := ∃ S', NetIs w' B S' b N ∧ Only S w w' ∧ ∀ g ∈ S', g ∈ S ∨ w.heap.size ≤ g
namespace NetAt
variable {w w' : World} {B : Nat} {S T : List Nat} {b : Nat} {N : LNet} {ds : List NodeAt} {A1 A2 : Option Addr} {c1 c2 : Nat}
theorem only (h : NetAt w B S b N ds A1 c1 A2 c2) (ho : Only T w w') (hT : ∀ g ∈ T, g ∉ S) : NetAt w' B S b N ds A1 c1 A2 c2 where
  blk := ho.blk h.blk (fun hm => hT _ hm h.subb)
  len := h.len
  row := h.row.only ho (fun g hg hm => hT g hm (h.sub1 g hg))
  urow := h.urow.only ho (fun g hg hm => hT g hm (h.sub2 g hg))
  nodes := fun i hi => (h.nodes i hi).only ho (fun g hg hm => hT g hg (h.subs _ (List.getElem_mem hi) g hm))
  apart := h.apart
  far := h.far
  subb := h.subb
  sub1 := h.sub1
  sub2 := h.sub2
  subs := h.subs
  own := fun g hg => ⟨(h.own g hg).1, Nat.lt_of_lt_of_le (h.own g hg).2 ho.size⟩
theorem below (h : NetAt w B S b N ds A1 c1 A2 c2) (hb : Below w.heap.size w w') : NetAt w' B S b N ds A1 c1 A2 c2 := h.only (T := []) (Only.of_below hb) (by simp)
theorem size (h : NetAt w B S b N ds A1 c1 A2 c2) : B ≤ w.heap.size := by have := h.own b h.subb; omega
theorem b1 (h : NetAt w B S b N ds A1 c1 A2 c2) : b ∉ ob A1 := h.row.blk_ne h.blk (by decide)
theorem b2 (h : NetAt w B S b N ds A1 c1 A2 c2) : b ∉ ob A2 := h.urow.blk_ne h.blk (by decide)
theorem b12 (h : NetAt w B S b N ds A1 c1 A2 c2) : ∀ g ∈ ob A1, g ∉ ob A2 := Own.ne2 h.row h.urow (by decide)
/-- A node's document has gone on. -/
theorem turn (h : NetAt w B S b N ds A1 c1 A2 c2) {i : Nat} (hi : i < ds.length) {st : LDoc} (ht : DocTo w B ds[i].S ds[i].b st w') :
    ∃ S' ds', NetAt w' B S' b ⟨N.docs.set i st, N.under⟩ ds' A1 c1 A2 c2 ∧ Only ds[i].S w w' ∧ (∀ g ∈ S', g ∈ S ∨ w.heap.size ≤ g) := by
  obtain ⟨Si, Di, h1, h2, h3⟩ := ht
  have hfar := h.far _ (List.getElem_mem hi)
  have hin := h.subs _ (List.getElem_mem hi)
  have hold : ∀ g ∈ S, g < w.heap.size := fun g hg => (h.own g hg).2
  refine ⟨S ++ Si, ds.set i ⟨ds[i].b, Si, Di⟩, ⟨?_, ?_, ?_, ?_, ?_, ?_, ?_, ?_, ?_, ?_, ?_, ?_⟩, h2, ?_⟩
  · rw [List.length_set]; exact h2.blk h.blk (fun hm => (hfar b hm).1 rfl)
  · rw [List.length_set]; simp only [List.length_set]; exact h.len
  · have e : ptrs (ds.set i ⟨ds[i].b, Si, Di⟩) = ptrs ds := by
      unfold ptrs
      rw [List.map_set]
      apply List.ext_getElem? 
      intro k
      by_cases hk : k = i
      · subst hk; rw [List.getElem?_set_self (by rw [List.length_map]; exact hi), List.getElem?_map, List.getElem?_eq_getElem hi]; rfl
      · rw [List.getElem?_set_ne (by omega)]
    rw [e, List.length_set]
    exact h.row.only h2 (fun g hg hm => (hfar g hm).2.1 hg)
  · exact h.urow.only h2 (fun g hg hm => (hfar g hm).2.2 hg)
  · intro k hk
    have hk2 : k < ds.length := by rw [List.length_set] at hk; exact hk
    by_cases hki : k = i
    · subst hki
      simp only [List.getElem_set_self]
      have e : LNet.doc ⟨N.docs.set k st, N.under⟩ k = st := by
        unfold LNet.doc
        rw [List.getD, List.getElem?_set_self (by rw [← h.len]; exact hk2)]; rfl
      rw [e]
      exact h1
    · rw [List.getElem_set_ne (by omega)]
      have e : LNet.doc ⟨N.docs.set i st, N.under⟩ k = N.doc k := by
        unfold LNet.doc
        simp only
        rw [List.getD, List.getD, List.getElem?_set_ne (by omega)]
      rw [e]
      exact (h.nodes k hk2).only h2 (fun g hg hm => h.apart i k hi hk2 (by omega) g hg hm)
  · intro k j hk hj hkj g hg hm
    have hk2 : k < ds.length := by rw [List.length_set] at hk; exact hk
    have hj2 : j < ds.length := by rw [List.length_set] at hj; exact hj
    by_cases hki : k = i
    · subst hki
      rw [List.getElem_set_self] at hg
      rw [List.getElem_set_ne (by omega)] at hm
      rcases h3 g hg with h4 | h4
      · exact h.apart k j hk2 hj2 hkj g h4 hm
      · have := hold g (h.subs _ (List.getElem_mem hj2) g hm); omega
    · rw [List.getElem_set_ne (by omega)] at hg
      by_cases hji : j = i
      · subst hji
        rw [List.getElem_set_self] at hm
        rcases h3 g hm with h4 | h4
        · exact h.apart k j hk2 hj2 hkj g hg h4
        · have := hold g (h.subs _ (List.getElem_mem hk2) g hg); omega
      · rw [List.getElem_set_ne (by omega)] at hm
        exact h.apart k j hk2 hj2 hkj g hg hm
  · intro d hd g hg
    rcases List.mem_or_eq_of_mem_set hd with hd | rfl
    · exact h.far d hd g hg
    · rcases h3 g hg with h4 | h4
      · exact hfar g h4
      · refine ⟨fun e => ?_, fun hm => ?_, fun hm => ?_⟩
        · subst e; have := hold _ h.subb; omega
        · have := hold _ (h.sub1 g hm); omega
        · have := hold _ (h.sub2 g hm); omega
  · simp [h.subb]
  · intro g hg; simp [h.sub1 g hg]
  · intro g hg; simp [h.sub2 g hg]
  · intro d hd g hg
    rcases List.mem_or_eq_of_mem_set hd with hd | rfl
    · simp [h.subs d hd g hg]
    · simp only [List.mem_append]; exact .inr hg
  · intro g hg
    rcases List.mem_append.1 hg with hg | hg
    · exact ⟨(h.own g hg).1, Nat.lt_of_lt_of_le (h.own g hg).2 h2.size⟩
    · exact h1.own g hg
  · intro g hg
    rcases List.mem_append.1 hg with hg | hg
    · exact .inl hg
    · rcases h3 g hg with h4 | h4
      · exact .inl (hin g h4)
      · exact .inr h4
/-- The row of what is under way has turned, and the net's own cells. -/
theorem mailsAt (h : NetAt w B S b N ds A1 c1 A2 c2) {u : List (Int × ByteArray)} {A3 : Option Addr} {c3 : Nat} (ho : Only (b :: ob A2) w w')
    (hb : Blk w' b 179 #[.slice A1 ds.length c1, .slice A3 u.length c3]) (hu : Own w' B 244 2 A3 u.length c3 (ucells u)) (hA : ∀ g ∈ ob A3, g ∈ ob A2 ∨ w.heap.size ≤ g) :
    ∃ S', NetAt w' B S' b ⟨N.docs, u⟩ ds A1 c1 A3 c3 ∧ Only S w w' ∧ ∀ g ∈ S', g ∈ S ∨ w.heap.size ≤ g := by
  have hold : ∀ g ∈ S, g < w.heap.size := fun g hg => (h.own g hg).2
  have hmin : ∀ g ∈ b :: ob A2, g ∈ S := fun g hg => by
    rcases List.mem_cons.1 hg with rfl | hg
    · exact h.subb
    · exact h.sub2 g hg
  refine ⟨S ++ ob A3, ⟨hb, h.len, h.row.only ho (fun g hg hm => ?_), hu, fun i hi => (h.nodes i hi).only ho (fun g hg hm => ?_), h.apart, fun d hd g hg => ?_, ?_, ?_, ?_, ?_, ?_⟩, ho.mono (fun g hg => .inl (hmin g hg)), ?_⟩
  · rcases List.mem_cons.1 hm with rfl | hm
    · exact h.b1 hg
    · exact h.b12 g hg hm
  · have hf := h.far _ (List.getElem_mem hi) g hm
    rcases List.mem_cons.1 hg with rfl | hg
    · exact hf.1 rfl
    · exact hf.2.2 hg
  · have hf := h.far d hd g hg
    refine ⟨hf.1, hf.2.1, fun hm => ?_⟩
    rcases hA g hm with h4 | h4
    · exact hf.2.2 h4
    · have := hold g (h.subs d hd g hg); omega
  · simp [h.subb]
  · intro g hg; simp [h.sub1 g hg]
  · intro g hg; simp [hg]
  · intro d hd g hg; simp [h.subs d hd g hg]
  · intro g hg
    rcases List.mem_append.1 hg with hg | hg
    · exact ⟨(h.own g hg).1, Nat.lt_of_lt_of_le (h.own g hg).2 ho.size⟩
    · exact hu.lt g hg
  · intro g hg
    rcases List.mem_append.1 hg with hg | hg
    · exact .inl hg
    · rcases hA g hg with h4 | h4
      · exact .inl (h.sub2 g h4)
      · exact .inr h4
theorem mails (h : NetAt w B S b N ds A1 c1 A2 c2) {u : List (Int × ByteArray)} {A3 : Option Addr} {c3 : Nat} (ho : Only (b :: ob A2) w w')
    (hb : Blk w' b 179 #[.slice A1 ds.length c1, .slice A3 u.length c3]) (hu : Own w' B 244 2 A3 u.length c3 (ucells u)) (hA : ∀ g ∈ ob A3, g ∈ ob A2 ∨ w.heap.size ≤ g) :
    NetTo w B S b ⟨N.docs, u⟩ w' := by
  obtain ⟨S', h1, h2, h3⟩ := h.mailsAt ho hb hu hA
  exact ⟨S', ⟨_, _, _, _, _, h1⟩, h2, h3⟩
theorem base_ (h : NetAt w B S b N ds A1 c1 A2 c2) : ∀ g ∈ S, B ≤ g := fun g hg => (h.own g hg).1
theorem lt4 (h : NetAt w B S b N ds A1 c1 A2 c2) (ok : N.Ok) : 1 ≤ ds.length ∧ ds.length ≤ 4 := by rw [h.len]; exact ok.some
/-- What can be read of it. -/
theorem cells (h : NetAt w B S b N ds A1 c1 A2 c2) : w.cell? ⟨b, 0, none⟩ = some (.slice A1 ds.length c1) ∧ w.cell? ⟨b, 1, none⟩ = some (.slice A2 N.under.length c2) := ⟨by rw [h.blk.cell]; rfl, by rw [h.blk.cell]; rfl⟩
theorem ptr (h : NetAt w B S b N ds A1 c1 A2 c2) {i : Nat} (hi : i < ds.length) : ∃ g, A1 = some ⟨g, 0, none⟩ ∧ w.cell? ⟨g, i, none⟩ = some (.pointer (some ⟨ds[i].b, 0, none⟩)) := by
  obtain ⟨g, rfl, _⟩ := h.row.head (by omega)
  refine ⟨g, rfl, ?_⟩
  rw [h.row.cellAt (by omega)]
  unfold ptrs
  rw [List.getElem?_map, List.getElem?_eq_getElem hi]; rfl
theorem mail (h : NetAt w B S b N ds A1 c1 A2 c2) {i : Nat} (hi : i < N.under.length) : ∃ g, A2 = some ⟨g, 0, none⟩ ∧ w.cell? ⟨g, i * 2, none⟩ = some (.int .i64 N.under[i].1) ∧ w.cell? ⟨g, i * 2 + 1, none⟩ = some (.string N.under[i].2) := by
  obtain ⟨g, rfl, _⟩ := h.urow.head (by omega)
  obtain ⟨h1, h2⟩ := ucells_at N.under i hi
  exact ⟨g, rfl, by rw [h.urow.cellAt (by omega)]; exact h1, by rw [h.urow.cellAt (by omega)]; exact h2⟩
theorem self_ (h : NetAt w B S b N ds A1 c1 A2 c2) (hb : Below w.heap.size w w') : NetTo w B S b N w' := ⟨S, ⟨ds, A1, c1, A2, c2, h.below hb⟩, Only.of_below hb, fun g hg => .inl hg⟩
end NetAt
theorem NetIs.below {w w' : World} {B : Nat} {S : List Nat} {b : Nat} {N : LNet} (h : NetIs w B S b N) (hb : Below w.heap.size w w') : NetIs w' B S b N := by
  obtain ⟨ds, A1, c1, A2, c2, h⟩ := h
  exact ⟨ds, A1, c1, A2, c2, h.below hb⟩
theorem NetTo.back {w w1 w' : World} {B : Nat} {S S1 : List Nat} {b : Nat} {N : LNet} (ho : Only S w w1) (hs : ∀ g ∈ S1, g ∈ S ∨ w.heap.size ≤ g) (h : NetTo w1 B S1 b N w') : NetTo w B S b N w' := by
  obtain ⟨S', h1, h2, h3⟩ := h
  refine ⟨S', h1, ho.trans_new h2 hs, fun g hg => ?_⟩
  have := ho.size
  rcases h3 g hg with h4 | h4
  · exact hs g h4
  · exact .inr (by omega)
/-- One document more, newly made, at the end of the row. -/
theorem NetAt.add {w w1 W w8 : World} {B : Nat} {S : List Nat} {b : Nat} {N : LNet} {ds : List NodeAt} {A1 A2 A3 : Option Addr} {c1 c2 c3 : Nat} (h : NetAt w B S b N ds A1 c1 A2 c2) {b' : Nat} {S' : List Nat} {D' : DLay}
    (hd : DocIs w1 w.heap.size S' b' LDoc.new D') (hb : Below w.heap.size w w1) (hW : Below w1.heap.size w1 W) (hO : Own w8 B 37 1 A3 (ds.length + 1) c3 (ptrs ds ++ [.pointer (some ⟨b', 0, none⟩)]))
    (hL : Only (ob A1) W w8) (hg : ∀ g ∈ ob A3, g ∈ ob A1 ∨ g = W.heap.size) :
    ∃ S2, NetAt (w8.setCell ⟨b, 0, none⟩ (.slice A3 (ds.length + 1) c3)) B S2 b ⟨N.docs ++ [LDoc.new], N.under⟩ (ds ++ [⟨b', S', D'⟩]) A3 c3 A2 c2 ∧ (∀ g ∈ S2, g ∈ S ∨ w.heap.size ≤ g) ∧ Only S w (w8.setCell ⟨b, 0, none⟩ (.slice A3 (ds.length + 1) c3)) := by
  have hz1 := hb.size
  have hz2 := hW.size
  have hz3 := hL.size
  have hB := h.size
  have hWW : Below w.heap.size w W := hb.trans (hW.mono hz1)
  have hW1 : NetAt W B S b N ds A1 c1 A2 c2 := h.below hWW
  have hdW : DocIs W w.heap.size S' b' LDoc.new D' := hd.only (T := []) (Only.of_below hW) (by simp)
  have hold : ∀ g ∈ S, g < w.heap.size := fun g hg => (h.own g hg).2
  have hnew : ∀ g ∈ S', w.heap.size ≤ g ∧ g < w1.heap.size := fun g hg => hd.own g hg
  have hb8 := hL.blk hW1.blk h.b1
  have hset : Only [b] w8 (w8.setCell ⟨b, 0, none⟩ (.slice A3 (ds.length + 1) c3)) := (Only.refl _ _).setCell (.inl (by simp)) _
  have hb3 : b ∉ ob A3 := hO.blk_ne hb8 (by decide)
  have hTT : Only (b :: ob A1) W (w8.setCell ⟨b, 0, none⟩ (.slice A3 (ds.length + 1) c3)) := (hL.mono (fun i hi => .inl (by simp [hi]))).trans (hset.mono (fun i hi => by simp at hi; exact .inl (by simp [hi])))
  have hmin : ∀ g ∈ b :: ob A1, g ∈ S := fun g hg => by
    rcases List.mem_cons.1 hg with rfl | hg
    · exact h.subb
    · exact h.sub1 g hg
  have hall : Only S w (w8.setCell ⟨b, 0, none⟩ (.slice A3 (ds.length + 1) c3)) := (Only.of_below hWW).trans (hTT.mono (fun g hg => .inl (hmin g hg)))
  have hlen : (ds ++ [(⟨b', S', D'⟩ : NodeAt)]).length = ds.length + 1 := by simp
  have hA3 : ∀ g ∈ ob A3, g ∈ S ∨ w1.heap.size ≤ g := fun g hm => by
    rcases hg g hm with h4 | h4
    · exact .inl (h.sub1 g h4)
    · exact .inr (by omega)
  refine ⟨(S ++ S') ++ ob A3, ⟨?_, ?_, ?_, ?_, ?_, ?_, ?_, ?_, ?_, ?_, ?_, ?_⟩, ?_, hall⟩
  · rw [hlen]; exact hb8.set_ 0 _
  · rw [hlen, h.len]; simp
  · rw [hlen]
    have e : ptrs (ds ++ [(⟨b', S', D'⟩ : NodeAt)]) = ptrs ds ++ [.pointer (some ⟨b', 0, none⟩)] := by simp [ptrs]
    rw [e]
    exact hO.only hset (fun g hg hm => by simp at hm; subst hm; exact hb3 hg)
  · exact h.urow.only (w' := W) (S := []) (Only.of_below hWW) (by simp) |>.only hTT (fun g hg hm => by
      rcases List.mem_cons.1 hm with rfl | hm
      · exact h.b2 hg
      · exact h.b12 g hm hg)
  · intro i hi
    rw [hlen] at hi
    by_cases hin : i < ds.length
    · have e1 : (ds ++ [(⟨b', S', D'⟩ : NodeAt)])[i]'(by rw [hlen]; exact hi) = ds[i] := List.getElem_append_left hin
      have e2 : LNet.doc ⟨N.docs ++ [LDoc.new], N.under⟩ i = N.doc i := by
        unfold LNet.doc
        simp only
        rw [List.getD, List.getD, List.getElem?_append_left (by rw [← h.len]; exact hin)]
      rw [e1, e2]
      exact (hW1.nodes i hin).only hTT (fun g hg hm => by
        have hf := h.far _ (List.getElem_mem hin) g hm
        rcases List.mem_cons.1 hg with rfl | hg
        · exact hf.1 rfl
        · exact hf.2.1 hg)
    · have hie : i = ds.length := by omega
      subst hie
      have e1 : (ds ++ [(⟨b', S', D'⟩ : NodeAt)])[ds.length]'(by rw [hlen]; omega) = ⟨b', S', D'⟩ := by simp
      have e2 : LNet.doc ⟨N.docs ++ [LDoc.new], N.under⟩ ds.length = LDoc.new := by
        unfold LNet.doc
        simp only
        rw [List.getD, List.getElem?_append_right (by rw [h.len]; exact Nat.le_refl _), h.len, Nat.sub_self]; rfl
      rw [e1, e2]
      have hk := hdW.only hTT (fun g hg hm => by have := hold g (hmin g hg); have := (hnew g hm).1; omega)
      exact { hk with book := hk.book.mono hB, marks := hk.marks.mono hB, known := hk.known.mono hB, ops := hk.ops.mono hB, seen := fun y hy => (hk.seen y hy).mono hB, own := fun g hg => by have := hk.own g hg; omega }
  · intro i j hi hj hij g hg hm
    rw [hlen] at hi hj
    have at_ : ∀ k (hk : k < ds.length + 1), (k < ds.length ∧ ∃ hk2 : k < ds.length, (ds ++ [(⟨b', S', D'⟩ : NodeAt)])[k]'(by rw [hlen]; exact hk) = ds[k]) ∨ (k = ds.length ∧ (ds ++ [(⟨b', S', D'⟩ : NodeAt)])[k]'(by rw [hlen]; exact hk) = ⟨b', S', D'⟩) := fun k hk => by
      by_cases hin : k < ds.length
      · exact .inl ⟨hin, hin, List.getElem_append_left hin⟩
      · have : k = ds.length := by omega
        subst this
        exact .inr ⟨rfl, by simp⟩
    rcases at_ i hi with ⟨hi2, hi3, ei⟩ | ⟨hi2, ei⟩ <;> rcases at_ j hj with ⟨hj2, hj3, ej⟩ | ⟨hj2, ej⟩
    · rw [ei] at hg; rw [ej] at hm
      exact h.apart i j hi2 hj2 hij g hg hm
    · rw [ei] at hg; rw [ej] at hm
      have := hold g (h.subs _ (List.getElem_mem hi2) g hg)
      have := (hnew g hm).1
      omega
    · rw [ei] at hg; rw [ej] at hm
      have := hold g (h.subs _ (List.getElem_mem hj2) g hm)
      have := (hnew g hg).1
      omega
    · omega
  · intro d hd2 g hg2
    rcases List.mem_append.1 hd2 with hd2 | hd2
    · have hf := h.far d hd2 g hg2
      refine ⟨hf.1, fun hm => ?_, hf.2.2⟩
      rcases hg g hm with h4 | h4
      · exact hf.2.1 h4
      · have := hold g (h.subs d hd2 g hg2); omega
    · simp at hd2
      subst hd2
      have hn := hnew g hg2
      refine ⟨fun e => ?_, fun hm => ?_, fun hm => ?_⟩
      · subst e; have := hold _ h.subb; omega
      · rcases hg g hm with h4 | h4
        · have := hold g (h.sub1 g h4); omega
        · omega
      · have := hold g (h.sub2 g hm); omega
  · simp [h.subb]
  · intro g hg2; simp [hg2]
  · intro g hg2; simp [h.sub2 g hg2]
  · intro d hd2 g hg2
    rcases List.mem_append.1 hd2 with hd2 | hd2
    · simp [h.subs d hd2 g hg2]
    · simp at hd2; subst hd2; simp only [List.mem_append]; exact .inl (.inr hg2)
  · intro g hg2
    have hsz : W.heap.size ≤ (w8.setCell ⟨b, 0, none⟩ (.slice A3 (ds.length + 1) c3)).heap.size := hTT.size
    rcases List.mem_append.1 hg2 with hg2 | hg2
    · rcases List.mem_append.1 hg2 with hg2 | hg2
      · have := h.own g hg2; omega
      · have := hnew g hg2; omega
    · have h5 := (hO.only hset (fun g hg hm => by simp at hm; subst hm; exact hb3 hg)).lt g hg2
      exact h5
  · intro g hg2
    rcases List.mem_append.1 hg2 with hg2 | hg2
    · rcases List.mem_append.1 hg2 with hg2 | hg2
      · exact .inl hg2
      · exact .inr (hnew g hg2).1
    · rcases hA3 g hg2 with h4 | h4
      · exact .inl h4
      · exact .inr (by omega)
/-- A net without documents, newly laid. -/
theorem NetAt.bare (w : World) : NetAt (w.alloc (.cells #[.slice none 0 0, .slice none 0 0] 179)) w.heap.size [w.heap.size] w.heap.size ⟨[], []⟩ [] none 0 none 0 where
  blk := Blk.new w _ _
  len := rfl
  row := Own.nil _ _ _ _
  urow := Own.nil _ _ _ _
  nodes := fun i hi => by simp at hi
  apart := fun i j hi => by simp at hi
  far := by simp
  subb := by simp
  sub1 := by simp [ob]
  sub2 := by simp [ob]
  subs := by simp
  own := by simp
/-- One parcel more under way. -/
theorem NetAt.push {w1 W w8 : World} {B : Nat} {S : List Nat} {b : Nat} {N : LNet} {ds : List NodeAt} {A1 A2 A3 : Option Addr} {c1 c2 c3 : Nat} (h : NetAt w1 B S b N ds A1 c1 A2 c2) (hW : Below w1.heap.size w1 W) {j : Int} {s : ByteArray}
    (hO : Own w8 B 244 2 A3 (N.under.length + 1) c3 (ucells N.under ++ [.int .i64 j, .string s])) (hL : Only (ob A2) W w8) (hg : ∀ g ∈ ob A3, g ∈ ob A2 ∨ g = W.heap.size) :
    NetTo w1 B S b ⟨N.docs, N.under ++ [(j, s)]⟩ (w8.setCell ⟨b, 1, none⟩ (.slice A3 (N.under.length + 1) c3)) := by
  have hz1 := hW.size
  have hW1 := h.below hW
  have hb8 := hL.blk hW1.blk h.b2
  have hset : Only [b] w8 (w8.setCell ⟨b, 1, none⟩ (.slice A3 (N.under.length + 1) c3)) := (Only.refl _ _).setCell (.inl (by simp)) _
  have hb3 : b ∉ ob A3 := hO.blk_ne hb8 (by decide)
  have hTT : Only (b :: ob A2) W (w8.setCell ⟨b, 1, none⟩ (.slice A3 (N.under.length + 1) c3)) := (hL.mono (fun i hi => .inl (by simp [hi]))).trans (hset.mono (fun i hi => by simp at hi; exact .inl (by simp [hi])))
  have hlen : (N.under ++ [(j, s)]).length = N.under.length + 1 := by simp
  refine h.mails ((Only.of_below hW).trans hTT) (u := N.under ++ [(j, s)]) (A3 := A3) (c3 := c3) ?_ ?_ (fun g hg2 => ?_)
  · rw [hlen]; exact hb8.set_ 1 _
  · rw [hlen]
    have e : ucells (N.under ++ [(j, s)]) = ucells N.under ++ [.int .i64 j, .string s] := by rw [ucells_app]; rfl
    rw [e]
    exact hO.only hset (fun g hg hm => by simp at hm; subst hm; exact hb3 hg)
  · rcases hg g hg2 with h4 | h4
    · exact .inl h4
    · exact .inr (by omega)
end Go.Proofs.YthfbjfocmnikaaaGreatDoor
