/- Maps as lists of pairs: looked up, written. Plain lemmas. Conditions: none. -/
import Derived.ChangeMaps4
import Derived.MapKept
import Derived.WideKeyRuns
import Derived.Test.YtngalkmmpjegkaaGreatDoorMem
namespace Go.Proofs.YtngalkmmpjegkaaGreatDoor
open Go.RowKit
set_option linter.unusedVariables false
def setBlk (w : World) (b : Nat) (o : Obj) : World := { w with heap := w.heap.setIfInBounds b o }
theorem setBlk_same {w : World} {r : Nat} {o o' : Obj} (h : w.heap[r]? = some o) : (setBlk w r o').heap[r]? = some o' := by
  have hlt : r < w.heap.size := by
    rcases Nat.lt_or_ge r w.heap.size with h1 | h1
    · exact h1
    · rw [Array.getElem?_eq_none h1] at h; cases h
  simp [setBlk, hlt]
theorem only_setBlk {w : World} {r : Nat} (o : Obj) : Only [r] w (setBlk w r o) :=
  ⟨rfl, rfl, rfl, by simp [setBlk], fun k _ hn => by simp at hn; simp [setBlk, Ne.symm hn]⟩
section
variable {K V : Type}
def Pairs (f : K → Value) (g : V → Value) (es : List MapEntry) (kvs : List (K × V)) : Prop := es.map (fun e => (e.key, e.val)) = kvs.map (fun x => (f x.1, g x.2))
/-- The block of a map, its pairs. -/
def MapAt (w : World) (r : Nat) (f : K → Value) (g : V → Value) (kvs : List (K × V)) : Prop := ∃ es clock, w.heap[r]? = some (.map es clock) ∧ Pairs f g es.toList kvs
end
section
variable {P : Program} {K V : Type} [DecidableEq K]
def seek (g : V → Value) (a : K) : List (K × V) → Nat → Option (Nat × Value)
  | [], _ => none
  | (k, v) :: l, i => if a = k then some (i, g v) else seek g a l (i + 1)
def get (a : K) : List (K × V) → Option V
  | [] => none
  | (k, v) :: l => if a = k then some v else get a l
def ins (a : K) (v : V) : List (K × V) → List (K × V)
  | [] => [(a, v)]
  | (k, u) :: l => if a = k then (a, v) :: l else (k, u) :: ins a v l
structure KeyOk (P : Program) (t : TypeId) (f : K → Value) : Prop where
  find : ∀ (V : Type) (g : V → Value) (W : World) (a : K) (es : List MapEntry) (kvs : List (K × V)), Pairs f g es kvs → (Instr.findKey t (f a) es).run P W = .ok (seek g a kvs 0) W
  chk : ∀ (W : World) (em : Bool) (a : K), (Instr.checkKey em 10000 t (f a)).run P W = .ok () W
  bits : ∀ a, Instr.sameBits 10000 (f a) (f a) = true
theorem seek_get (g : V → Value) (a : K) : ∀ (kvs : List (K × V)) (i : Nat), (seek g a kvs i).map (·.2) = (get a kvs).map g := by
  intro kvs
  induction kvs with
  | nil => intro i; rfl
  | cons x l ih =>
    intro i
    obtain ⟨k, v⟩ := x
    unfold seek get
    by_cases h : a = k
    · simp [h]
    · rw [if_neg h, if_neg h]; exact ih (i + 1)
theorem findAsking_run {t : TypeId} {f : K → Value} (heq : ∀ W a b, (Op.equal t (f a) (f b)).run P W = .ok (decide (a = b)) W) (g : V → Value) (W : World) (a : K) : ∀ (es : List MapEntry) (kvs : List (K × V)) (i : Nat), Pairs f g es kvs → (Instr.findAsking t (f a) es i).run P W = .ok (seek g a kvs i) W := by
  intro es
  induction es with
  | nil =>
    intro kvs i h
    cases kvs with
    | nil => simp [Instr.findAsking, seek]
    | cons x l => simp [Pairs] at h
  | cons e es ih =>
    intro kvs i h
    cases kvs with
    | nil => simp [Pairs] at h
    | cons x l =>
      obtain ⟨k, v⟩ := x
      simp only [Pairs, List.map_cons, List.cons.injEq, Prod.mk.injEq] at h
      obtain ⟨⟨h1, h2⟩, h3⟩ := h
      unfold Instr.findAsking seek
      rw [h1, h2]
      simp only [Sem.run_bind, heq, Result.andThen_ok]
      by_cases hk : a = k
      · simp [hk]
      · simp only [decide_eq_false hk, Bool.false_eq_true, if_false, if_neg hk]
        exact ih l (i + 1) h3
theorem KeyOk.of_wide {t : TypeId} {f : K → Value} (hw : (match P.underlying t with | some (.array _ _) | some (.struct _) => true | _ => false) = true)
    (heq : ∀ W a b, (Op.equal t (f a) (f b)).run P W = .ok (decide (a = b)) W) (hc : ∀ (W : World) (em : Bool) (a : K), (Instr.checkKey em 10000 t (f a)).run P W = .ok () W) (hb : ∀ a, Instr.sameBits 10000 (f a) (f a) = true) : KeyOk P t f :=
  ⟨fun V g W a es kvs h => by rw [run_findKey_eq W hw]; exact findAsking_run heq g W a es kvs 0 h, hc, hb⟩
theorem lookup_run {m t e : TypeId} {f : K → Value} {g : V → Value} (ok : KeyOk P t f) (hm : P.underlying m = some (.map t e)) {z : Value} (hz : ∀ w, (zeroValue e).run P w = .ok z w) {w : World} {r : Nat} {kvs : List (K × V)} (h : MapAt w r f g kvs) (a : K) :
    (Instr.lookup m (.map (some r)) (f a) false).run P w = .ok (match get a kvs with | some v => g v | none => z) w := by
  obtain ⟨es, clock, hb, hp⟩ := h
  have h1 := ok.find V g w a es.toList kvs hp
  have h2 := seek_get g a kvs 0
  simp only [Instr.lookup, Sem.run_bind, run_underlying hm, Result.andThen_ok, MapKept.run_getObj_map hb, Sem.run_pure, ok.chk, h1]
  cases hs : seek g a kvs 0 with
  | none =>
    rw [hs] at h2
    cases hg : get a kvs with
    | none => simp [hz]
    | some v => rw [hg] at h2; cases h2
  | some x =>
    obtain ⟨i, v⟩ := x
    rw [hs] at h2
    cases hg : get a kvs with
    | none => rw [hg] at h2; cases h2
    | some u =>
      rw [hg] at h2
      simp at h2
      simp [h2]
theorem lookup_ok_run {m t e : TypeId} {f : K → Value} {g : V → Value} (ok : KeyOk P t f) (hm : P.underlying m = some (.map t e)) {z : Value} (hz : ∀ w, (zeroValue e).run P w = .ok z w) {w : World} {r : Nat} {kvs : List (K × V)} (h : MapAt w r f g kvs) (a : K) :
    (Instr.lookup m (.map (some r)) (f a) true).run P w = .ok (match get a kvs with | some v => .tuple #[g v, .bool true] | none => .tuple #[z, .bool false]) w := by
  obtain ⟨es, clock, hb, hp⟩ := h
  have h1 := ok.find V g w a es.toList kvs hp
  have h2 := seek_get g a kvs 0
  simp only [Instr.lookup, Sem.run_bind, run_underlying hm, Result.andThen_ok, MapKept.run_getObj_map hb, Sem.run_pure, ok.chk, h1]
  cases hs : seek g a kvs 0 with
  | none =>
    rw [hs] at h2
    cases hg : get a kvs with
    | none => simp [hz]
    | some v => rw [hg] at h2; cases h2
  | some x =>
    obtain ⟨i, v⟩ := x
    rw [hs] at h2
    cases hg : get a kvs with
    | none => rw [hg] at h2; cases h2
    | some u =>
      rw [hg] at h2
      simp at h2
      simp [h2]
theorem seek_ge (g : V → Value) (a : K) : ∀ (kvs : List (K × V)) (i j : Nat) (u : Value), seek g a kvs i = some (j, u) → i ≤ j ∧ j - i < kvs.length := by
  intro kvs
  induction kvs with
  | nil => intro i j u h; simp [seek] at h
  | cons x l ih =>
    intro i j u h
    obtain ⟨k, v⟩ := x
    unfold seek at h
    by_cases hk : a = k
    · rw [if_pos hk] at h; cases h; simp
    · rw [if_neg hk] at h
      have := ih (i + 1) j u h
      simp only [List.length_cons]
      omega
theorem ins_none (g : V → Value) (a : K) (v : V) : ∀ (kvs : List (K × V)) (i : Nat), seek g a kvs i = none → ins a v kvs = kvs ++ [(a, v)] := by
  intro kvs
  induction kvs with
  | nil => intro i _; rfl
  | cons x l ih =>
    intro i h
    obtain ⟨k, u⟩ := x
    unfold seek at h
    by_cases hk : a = k
    · rw [if_pos hk] at h; cases h
    · rw [if_neg hk] at h
      unfold ins
      rw [if_neg hk, ih (i + 1) h]; rfl
theorem seek_at (f : K → Value) (g : V → Value) (a : K) (v : V) : ∀ (es : List MapEntry) (kvs : List (K × V)) (i j : Nat) (u : Value), Pairs f g es kvs → seek g a kvs i = some (j, u) →
    (∃ e, es[j - i]? = some e ∧ e.key = f a) ∧ Pairs f g (es.modify (j - i) fun e => { e with key := f a, val := g v }) (ins a v kvs) := by
  intro es
  induction es with
  | nil =>
    intro kvs i j u hp h
    cases kvs with
    | nil => simp [seek] at h
    | cons x l => simp [Pairs] at hp
  | cons e es ih =>
    intro kvs i j u hp h
    cases kvs with
    | nil => simp [Pairs] at hp
    | cons x l =>
      obtain ⟨k, w⟩ := x
      simp only [Pairs, List.map_cons, List.cons.injEq, Prod.mk.injEq] at hp
      obtain ⟨⟨h1, h2⟩, h3⟩ := hp
      unfold seek at h
      unfold ins
      by_cases hk : a = k
      · rw [if_pos hk] at h
        cases h
        rw [if_pos hk, Nat.sub_self]
        refine ⟨⟨e, rfl, by rw [h1, hk]⟩, ?_⟩
        simp only [Pairs, List.modify_zero_cons, List.map_cons, List.cons.injEq, true_and]
        exact h3
      · rw [if_neg hk] at h
        rw [if_neg hk]
        have hg := seek_ge g a l (i + 1) j u h
        obtain ⟨⟨e', he, hke⟩, hp'⟩ := ih l (i + 1) j u h3 h
        have e1 : j - i = (j - (i + 1)) + 1 := by omega
        rw [e1]
        refine ⟨⟨e', by simpa using he, hke⟩, ?_⟩
        simp only [Pairs, List.modify_succ_cons, List.map_cons, List.cons.injEq, Prod.mk.injEq]
        exact ⟨⟨h1, h2⟩, hp'⟩
theorem update_run {m t e : TypeId} {f : K → Value} {g : V → Value} (ok : KeyOk P t f) (hm : P.underlying m = some (.map t e)) {w : World} {r : Nat} {kvs : List (K × V)} (h : MapAt w r f g kvs) (a : K) (v : V) :
    ∃ w', (Instr.mapUpdate m (.map (some r)) (f a) (g v)).run P w = .ok () w' ∧ MapAt w' r f g (ins a v kvs) ∧ Only [r] w w' := by
  obtain ⟨es, clock, hb, hp⟩ := h
  have h1 := ok.find V g w a es.toList kvs hp
  cases hs : seek g a kvs 0 with
  | none =>
    refine ⟨setBlk w r (.map (es.push { key := f a, val := g v, born := clock }) (clock + 1)), ?_, ⟨_, _, setBlk_same hb, ?_⟩, only_setBlk _⟩
    · simp [Instr.mapUpdate, run_underlying hm, MapKept.run_getObj_map hb, ok.chk, h1, hs, MapKept.run_setObj_map _ hb, setBlk]
    · rw [ins_none g a v kvs 0 hs]
      unfold Pairs at hp ⊢
      simp [hp]
  | some x =>
    obtain ⟨j, u⟩ := x
    obtain ⟨⟨e', he, hke⟩, hp'⟩ := seek_at f g a v es.toList kvs 0 j u hp hs
    rw [Nat.sub_zero] at he hp'
    have he2 : es[j]? = some e' := by rw [← he]; simp
    refine ⟨setBlk w r (.map (es.modify j fun e => { e with key := f a, val := g v }) clock), ?_, ⟨_, _, setBlk_same hb, ?_⟩, only_setBlk _⟩
    · simp [Instr.mapUpdate, run_underlying hm, MapKept.run_getObj_map hb, ok.chk, h1, hs, he2, hke, Instr.keyThatStays, ok.bits, MapKept.run_setObj_map _ hb, setBlk]
    · rw [Array.toList_modify]
      exact hp'
theorem get_ins (a b : K) (v : V) : ∀ kvs : List (K × V), get b (ins a v kvs) = if b = a then some v else get b kvs := by
  intro kvs
  induction kvs with
  | nil => unfold ins get; by_cases h : b = a <;> simp [h, get]
  | cons x l ih =>
    obtain ⟨k, u⟩ := x
    unfold ins
    by_cases hk : a = k
    · rw [if_pos hk]
      subst hk
      by_cases hb : b = a
      · simp [get, hb]
      · simp [get, hb]
    · rw [if_neg hk]
      unfold get
      by_cases hb : b = k
      · subst hb
        rw [if_pos rfl, if_neg (fun h => hk h.symm), if_pos rfl]
      · rw [if_neg hb, if_neg hb]; exact ih
end
section
variable {K V : Type}
theorem MapAt.only {S : List Nat} {w w' : World} {r : Nat} {f : K → Value} {g : V → Value} {kvs : List (K × V)} (h : MapAt w r f g kvs) (ho : Only S w w') (hr : r ∉ S) : MapAt w' r f g kvs := by
  obtain ⟨es, clock, hb, hp⟩ := h
  have hlt : r < w.heap.size := by
    rcases Nat.lt_or_ge r w.heap.size with h1 | h1
    · exact h1
    · rw [Array.getElem?_eq_none h1] at hb; cases hb
  exact ⟨es, clock, (ho.block r hlt hr).trans hb, hp⟩
theorem MapAt.lt {w : World} {r : Nat} {f : K → Value} {g : V → Value} {kvs : List (K × V)} (h : MapAt w r f g kvs) : r < w.heap.size := by
  obtain ⟨es, clock, hb, hp⟩ := h
  rcases Nat.lt_or_ge r w.heap.size with h1 | h1
  · exact h1
  · rw [Array.getElem?_eq_none h1] at hb; cases hb
theorem MapAt.below {w w' : World} {r : Nat} {f : K → Value} {g : V → Value} {kvs : List (K × V)} (h : MapAt w r f g kvs) (hb : Below w.heap.size w w') : MapAt w' r f g kvs := h.only (S := []) (Only.of_below hb) (by simp)
theorem MapAt.not_blk {w : World} {r g' : Nat} {f : K → Value} {g : V → Value} {kvs : List (K × V)} {t : TypeId} {cs : Array Value} (h : MapAt w r f g kvs) (hb : Blk w g' t cs) : r ≠ g' := by
  rintro rfl
  obtain ⟨es, clock, h1, _⟩ := h
  unfold Blk at hb
  rw [h1] at hb; cases hb
theorem MapAt.not_own {w : World} {r B n c size : Nat} {f : K → Value} {g : V → Value} {kvs : List (K × V)} {e : TypeId} {A : Option Addr} {xs : List Value} (h : MapAt w r f g kvs) (ho : Own w B e size A n c xs) : r ∉ ob A := by
  intro hm
  rcases ho.2 with ⟨h2, _⟩ | ⟨g', cap, cur, he, _, hh, _⟩
  · injection h2 with h2; subst h2; simp [ob] at hm
  · injection he with he
    subst he
    simp [ob] at hm
    exact h.not_blk (show Blk w g' e cur from hh) hm
end
end Go.Proofs.YtngalkmmpjegkaaGreatDoor
