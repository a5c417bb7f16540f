/- 3 texts in one: each says ahead of itself what is proved, and its conditions. -/
import Derived.ChangeMaps4
import Derived.MapKept
import Derived.WideKeyRuns
import Derived.Test.YtgmdnmdniidngaaBookWrite
import Derived.Test.YtgmdnmdniidngaaMarkDel
import Derived.Test.YtgmdnmdniidngaaMem
import Derived.Test.YtgmdnmdniidngaaOpenOp
import Derived.Test.YtgmdnmdniidngaaVec
/- Maps as lists of pairs: looked up, written. Plain lemmas. Conditions: none. -/
namespace Go.Proofs.Ytgmdnmdniidngaa
open Go.RowKit
set_option linter.unusedVariables false
def setBlk (w : World) (b : Nat) (o : Obj) : World := { w with heap := w.heap.setIfInBounds b o }
theorem setBlk_same {w : World} {r : Nat} {o o' : Obj} (h : w.heap[r]? = some o) : (setBlk w r o').heap[r]? = some o' := by
  have hlt : r < w.heap.size := by
    rcases Nat.lt_or_ge r w.heap.size with h1 | h1
    · exact h1
    · rw [Array.getElem?_eq_none h1] at h; cases h
  simp [setBlk, hlt]
theorem only_setBlk {w : World} {r : Nat} (o : Obj) : Only [r] w (setBlk w r o) :=
  ⟨rfl, rfl, rfl, by simp [setBlk], fun k _ hn => by simp at hn; simp [setBlk, Ne.symm hn]⟩
section
variable {K V : Type}
def Pairs (f : K → Value) (g : V → Value) (es : List MapEntry) (kvs : List (K × V)) : Prop := es.map (fun e => (e.key, e.val)) = kvs.map (fun x => (f x.1, g x.2))
/-- The block of a map, its pairs. -/
def MapAt (w : World) (r : Nat) (f : K → Value) (g : V → Value) (kvs : List (K × V)) : Prop := ∃ es clock, w.heap[r]? = some (.map es clock) ∧ Pairs f g es.toList kvs
end
section
variable {P : Program} {K V : Type} [DecidableEq K]
def seek (g : V → Value) (a : K) : List (K × V) → Nat → Option (Nat × Value)
  | [], _ => none
  | (k, v) :: l, i => if a = k then some (i, g v) else seek g a l (i + 1)
def get (a : K) : List (K × V) → Option V
  | [] => none
  | (k, v) :: l => if a = k then some v else get a l
def ins (a : K) (v : V) : List (K × V) → List (K × V)
  | [] => [(a, v)]
  | (k, u) :: l => if a = k then (a, v) :: l else (k, u) :: ins a v l
structure KeyOk (P : Program) (t : TypeId) (f : K → Value) : Prop where
  find : ∀ (V : Type) (g : V → Value) (W : World) (a : K) (es : List MapEntry) (kvs : List (K × V)), Pairs f g es kvs → (Instr.findKey t (f a) es).run P W = .ok (seek g a kvs 0) W
  chk : ∀ (W : World) (em : Bool) (a : K), (Instr.checkKey em 10000 t (f a)).run P W = .ok () W
  bits : ∀ a, Instr.sameBits 10000 (f a) (f a) = true
theorem seek_get (g : V → Value) (a : K) : ∀ (kvs : List (K × V)) (i : Nat), (seek g a kvs i).map (·.2) = (get a kvs).map g := by
  intro kvs
  induction kvs with
  | nil => intro i; rfl
  | cons x l ih =>
    intro i
    obtain ⟨k, v⟩ := x
    unfold seek get
    by_cases h : a = k
    · simp [h]
    · rw [if_neg h, if_neg h]; exact ih (i + 1)
theorem findAsking_run {t : TypeId} {f : K → Value} (heq : ∀ W a b, (Op.equal t (f a) (f b)).run P W = .ok (decide (a = b)) W) (g : V → Value) (W : World) (a : K) : ∀ (es : List MapEntry) (kvs : List (K × V)) (i : Nat), Pairs f g es kvs → (Instr.findAsking t (f a) es i).run P W = .ok (seek g a kvs i) W := by
  intro es
  induction es with
  | nil =>
    intro kvs i h
    cases kvs with
    | nil => simp [Instr.findAsking, seek]
    | cons x l => simp [Pairs] at h
  | cons e es ih =>
    intro kvs i h
    cases kvs with
    | nil => simp [Pairs] at h
    | cons x l =>
      obtain ⟨k, v⟩ := x
      simp only [Pairs, List.map_cons, List.cons.injEq, Prod.mk.injEq] at h
      obtain ⟨⟨h1, h2⟩, h3⟩ := h
      unfold Instr.findAsking seek
      rw [h1, h2]
      simp only [Sem.run_bind, heq, Result.andThen_ok]
      by_cases hk : a = k
      · simp [hk]
      · simp only [decide_eq_false hk, Bool.false_eq_true, if_false, if_neg hk]
        exact ih l (i + 1) h3
theorem KeyOk.of_wide {t : TypeId} {f : K → Value} (hw : (match P.underlying t with | some (.array _ _) | some (.struct _) => true | _ => false) = true)
    (heq : ∀ W a b, (Op.equal t (f a) (f b)).run P W = .ok (decide (a = b)) W) (hc : ∀ (W : World) (em : Bool) (a : K), (Instr.checkKey em 10000 t (f a)).run P W = .ok () W) (hb : ∀ a, Instr.sameBits 10000 (f a) (f a) = true) : KeyOk P t f :=
  ⟨fun V g W a es kvs h => by rw [run_findKey_eq W hw]; exact findAsking_run heq g W a es kvs 0 h, hc, hb⟩
theorem lookup_run {m t e : TypeId} {f : K → Value} {g : V → Value} (ok : KeyOk P t f) (hm : P.underlying m = some (.map t e)) {z : Value} (hz : ∀ w, (zeroValue e).run P w = .ok z w) {w : World} {r : Nat} {kvs : List (K × V)} (h : MapAt w r f g kvs) (a : K) :
    (Instr.lookup m (.map (some r)) (f a) false).run P w = .ok (match get a kvs with | some v => g v | none => z) w := by
  obtain ⟨es, clock, hb, hp⟩ := h
  have h1 := ok.find V g w a es.toList kvs hp
  have h2 := seek_get g a kvs 0
  simp only [Instr.lookup, Sem.run_bind, run_underlying hm, Result.andThen_ok, MapKept.run_getObj_map hb, Sem.run_pure, ok.chk, h1]
  cases hs : seek g a kvs 0 with
  | none =>
    rw [hs] at h2
    cases hg : get a kvs with
    | none => simp [hz]
    | some v => rw [hg] at h2; cases h2
  | some x =>
    obtain ⟨i, v⟩ := x
    rw [hs] at h2
    cases hg : get a kvs with
    | none => rw [hg] at h2; cases h2
    | some u =>
      rw [hg] at h2
      simp at h2
      simp [h2]
theorem lookup_ok_run {m t e : TypeId} {f : K → Value} {g : V → Value} (ok : KeyOk P t f) (hm : P.underlying m = some (.map t e)) {z : Value} (hz : ∀ w, (zeroValue e).run P w = .ok z w) {w : World} {r : Nat} {kvs : List (K × V)} (h : MapAt w r f g kvs) (a : K) :
    (Instr.lookup m (.map (some r)) (f a) true).run P w = .ok (match get a kvs with | some v => .tuple #[g v, .bool true] | none => .tuple #[z, .bool false]) w := by
  obtain ⟨es, clock, hb, hp⟩ := h
  have h1 := ok.find V g w a es.toList kvs hp
  have h2 := seek_get g a kvs 0
  simp only [Instr.lookup, Sem.run_bind, run_underlying hm, Result.andThen_ok, MapKept.run_getObj_map hb, Sem.run_pure, ok.chk, h1]
  cases hs : seek g a kvs 0 with
  | none =>
    rw [hs] at h2
    cases hg : get a kvs with
    | none => simp [hz]
    | some v => rw [hg] at h2; cases h2
  | some x =>
    obtain ⟨i, v⟩ := x
    rw [hs] at h2
    cases hg : get a kvs with
    | none => rw [hg] at h2; cases h2
    | some u =>
      rw [hg] at h2
      simp at h2
      simp [h2]
theorem seek_ge (g : V → Value) (a : K) : ∀ (kvs : List (K × V)) (i j : Nat) (u : Value), seek g a kvs i = some (j, u) → i ≤ j ∧ j - i < kvs.length := by
  intro kvs
  induction kvs with
  | nil => intro i j u h; simp [seek] at h
  | cons x l ih =>
    intro i j u h
    obtain ⟨k, v⟩ := x
    unfold seek at h
    by_cases hk : a = k
    · rw [if_pos hk] at h; cases h; simp
    · rw [if_neg hk] at h
      have := ih (i + 1) j u h
      simp only [List.length_cons]
      omega
theorem ins_none (g : V → Value) (a : K) (v : V) : ∀ (kvs : List (K × V)) (i : Nat), seek g a kvs i = none → ins a v kvs = kvs ++ [(a, v)] := by
  intro kvs
  induction kvs with
  | nil => intro i _; rfl
  | cons x l ih =>
    intro i h
    obtain ⟨k, u⟩ := x
    unfold seek at h
    by_cases hk : a = k
    · rw [if_pos hk] at h; cases h
    · rw [if_neg hk] at h
      unfold ins
      rw [if_neg hk, ih (i + 1) h]; rfl
theorem seek_at (f : K → Value) (g : V → Value) (a : K) (v : V) : ∀ (es : List MapEntry) (kvs : List (K × V)) (i j : Nat) (u : Value), Pairs f g es kvs → seek g a kvs i = some (j, u) →
    (∃ e, es[j - i]? = some e ∧ e.key = f a) ∧ Pairs f g (es.modify (j - i) fun e => { e with key := f a, val := g v }) (ins a v kvs) := by
  intro es
  induction es with
  | nil =>
    intro kvs i j u hp h
    cases kvs with
    | nil => simp [seek] at h
    | cons x l => simp [Pairs] at hp
  | cons e es ih =>
    intro kvs i j u hp h
    cases kvs with
    | nil => simp [Pairs] at hp
    | cons x l =>
      obtain ⟨k, w⟩ := x
      simp only [Pairs, List.map_cons, List.cons.injEq, Prod.mk.injEq] at hp
      obtain ⟨⟨h1, h2⟩, h3⟩ := hp
      unfold seek at h
      unfold ins
      by_cases hk : a = k
      · rw [if_pos hk] at h
        cases h
        rw [if_pos hk, Nat.sub_self]
        refine ⟨⟨e, rfl, by rw [h1, hk]⟩, ?_⟩
        simp only [Pairs, List.modify_zero_cons, List.map_cons, List.cons.injEq, true_and]
        exact h3
      · rw [if_neg hk] at h
        rw [if_neg hk]
        have hg := seek_ge g a l (i + 1) j u h
        obtain ⟨⟨e', he, hke⟩, hp'⟩ := ih l (i + 1) j u h3 h
        have e1 : j - i = (j - (i + 1)) + 1 := by omega
        rw [e1]
        refine ⟨⟨e', by simpa using he, hke⟩, ?_⟩
        simp only [Pairs, List.modify_succ_cons, List.map_cons, List.cons.injEq, Prod.mk.injEq]
        exact ⟨⟨h1, h2⟩, hp'⟩
theorem update_run {m t e : TypeId} {f : K → Value} {g : V → Value} (ok : KeyOk P t f) (hm : P.underlying m = some (.map t e)) {w : World} {r : Nat} {kvs : List (K × V)} (h : MapAt w r f g kvs) (a : K) (v : V) :
    ∃ w', (Instr.mapUpdate m (.map (some r)) (f a) (g v)).run P w = .ok () w' ∧ MapAt w' r f g (ins a v kvs) ∧ Only [r] w w' := by
  obtain ⟨es, clock, hb, hp⟩ := h
  have h1 := ok.find V g w a es.toList kvs hp
  cases hs : seek g a kvs 0 with
  | none =>
    refine ⟨setBlk w r (.map (es.push { key := f a, val := g v, born := clock }) (clock + 1)), ?_, ⟨_, _, setBlk_same hb, ?_⟩, only_setBlk _⟩
    · simp [Instr.mapUpdate, run_underlying hm, MapKept.run_getObj_map hb, ok.chk, h1, hs, MapKept.run_setObj_map _ hb, setBlk]
    · rw [ins_none g a v kvs 0 hs]
      unfold Pairs at hp ⊢
      simp [hp]
  | some x =>
    obtain ⟨j, u⟩ := x
    obtain ⟨⟨e', he, hke⟩, hp'⟩ := seek_at f g a v es.toList kvs 0 j u hp hs
    rw [Nat.sub_zero] at he hp'
    have he2 : es[j]? = some e' := by rw [← he]; simp
    refine ⟨setBlk w r (.map (es.modify j fun e => { e with key := f a, val := g v }) clock), ?_, ⟨_, _, setBlk_same hb, ?_⟩, only_setBlk _⟩
    · simp [Instr.mapUpdate, run_underlying hm, MapKept.run_getObj_map hb, ok.chk, h1, hs, he2, hke, Instr.keyThatStays, ok.bits, MapKept.run_setObj_map _ hb, setBlk]
    · rw [Array.toList_modify]
      exact hp'
theorem get_ins (a b : K) (v : V) : ∀ kvs : List (K × V), get b (ins a v kvs) = if b = a then some v else get b kvs := by
  intro kvs
  induction kvs with
  | nil => unfold ins get; by_cases h : b = a <;> simp [h, get]
  | cons x l ih =>
    obtain ⟨k, u⟩ := x
    unfold ins
    by_cases hk : a = k
    · rw [if_pos hk]
      subst hk
      by_cases hb : b = a
      · simp [get, hb]
      · simp [get, hb]
    · rw [if_neg hk]
      unfold get
      by_cases hb : b = k
      · subst hb
        rw [if_pos rfl, if_neg (fun h => hk h.symm), if_pos rfl]
      · rw [if_neg hb, if_neg hb]; exact ih
end
section
variable {K V : Type}
theorem MapAt.only {S : List Nat} {w w' : World} {r : Nat} {f : K → Value} {g : V → Value} {kvs : List (K × V)} (h : MapAt w r f g kvs) (ho : Only S w w') (hr : r ∉ S) : MapAt w' r f g kvs := by
  obtain ⟨es, clock, hb, hp⟩ := h
  have hlt : r < w.heap.size := by
    rcases Nat.lt_or_ge r w.heap.size with h1 | h1
    · exact h1
    · rw [Array.getElem?_eq_none h1] at hb; cases hb
  exact ⟨es, clock, (ho.block r hlt hr).trans hb, hp⟩
theorem MapAt.lt {w : World} {r : Nat} {f : K → Value} {g : V → Value} {kvs : List (K × V)} (h : MapAt w r f g kvs) : r < w.heap.size := by
  obtain ⟨es, clock, hb, hp⟩ := h
  rcases Nat.lt_or_ge r w.heap.size with h1 | h1
  · exact h1
  · rw [Array.getElem?_eq_none h1] at hb; cases hb
theorem MapAt.below {w w' : World} {r : Nat} {f : K → Value} {g : V → Value} {kvs : List (K × V)} (h : MapAt w r f g kvs) (hb : Below w.heap.size w w') : MapAt w' r f g kvs := h.only (S := []) (Only.of_below hb) (by simp)
theorem MapAt.not_blk {w : World} {r g' : Nat} {f : K → Value} {g : V → Value} {kvs : List (K × V)} {t : TypeId} {cs : Array Value} (h : MapAt w r f g kvs) (hb : Blk w g' t cs) : r ≠ g' := by
  rintro rfl
  obtain ⟨es, clock, h1, _⟩ := h
  unfold Blk at hb
  rw [h1] at hb; cases hb
theorem MapAt.not_own {w : World} {r B n c size : Nat} {f : K → Value} {g : V → Value} {kvs : List (K × V)} {e : TypeId} {A : Option Addr} {xs : List Value} (h : MapAt w r f g kvs) (ho : Own w B e size A n c xs) : r ∉ ob A := by
  intro hm
  rcases ho.2 with ⟨h2, _⟩ | ⟨g', cap, cur, he, _, hh, _⟩
  · injection h2 with h2; subst h2; simp [ob] at hm
  · injection he with he
    subst he
    simp [ob] at hm
    exact h.not_blk (show Blk w g' e cur from hh) hm
end
end Go.Proofs.Ytgmdnmdniidngaa
/- dot.Has, dot.Add, walked. Conditions: stated with each. -/
namespace Go.Proofs.Ytgmdnmdniidngaa
open Go.RowKit
set_option linter.unusedVariables false

theorem elemI : Elem Try.prog 23 3 1 8 := Elem.mk_ (z := .int .i64 0) Try.underlying23 (by kernel_rfl) rfl (by decide)
theorem cloneI (w : World) (A : Option Addr) (n c : Nat) (xs : List Value) (hr : Reads w w.heap.size 1 A n xs) (h1 : OneCells xs) (hf : Fits n 8) :
    Calls Try.prog 83 #[.slice A n c] w fun e w' => ∃ A' c', e = .returned (.slice A' n c') ∧ Own w' w.heap.size 3 1 A' n c' xs ∧ Below w.heap.size w w' := by
  have HF : Fits (0 + n) 8 := by simpa using hf
  have HR := hr.alloc (Nat.le_refl _) (.cells #[] 3)
  cases A with
  | none =>
    have he := Lib.run_eql_slice_nil (P := Try.prog) w 23 3 none n c 0 0 Try.underlying23
    go_enter Try.func83, Try.ntmps83
    go_wp2
    go_ret
    have hn : n = 0 := by
      rcases Nat.eq_zero_or_pos n with h | h
      · exact h
      · obtain ⟨_, h, _⟩ := hr.2 h; cases h
    subst hn
    have hx : xs = [] := List.eq_nil_of_length_eq_zero (by simpa using hr.1)
    subst hx
    exact ⟨none, 0, rfl, Own.nil _ _ _ _, Below.refl _ _⟩
  | some ad =>
    have heS := Lib.run_eql_slice_nil (P := Try.prog) w 23 3 (some ad) n c 0 0 Try.underlying23
    go_enter Try.func83, Try.ntmps83
    go_wp2_with (at_builtin; refine wpList_app _ (.tmp 5) (.tmp 6) rfl rfl elemI rfl rfl (Own.made w 3 w.heap.size (Nat.le_refl _) 1) HR h1 HF (by simp) ?_; intro A' c' w1 HO HL HB)
    go_ret
    refine ⟨A', c', rfl, by simpa using HO, ?_⟩
    exact ((Below.refl _ _).alloc (Nat.le_refl _) _).trans (HL.below (by simp) (by simp [ob]))

theorem vd_ok {l : List Int} {d : LDot} (h : vdErr l d = 0) : vecErr l = 0 ∧ dotErr d = 0 := by
  unfold vdErr at h
  by_cases h1 : vecErr l ≠ 0
  · rw [if_pos h1] at h; exact absurd h h1
  · rw [if_neg h1] at h; exact ⟨by omega, h⟩
theorem dot_in {d : LDot} (h : dotErr d = 0) : ∃ k : Nat, k < 8 ∧ d.who = (k : Int) + 1 ∧ 1 ≤ d.n ∧ d.n ≤ 9999 := by
  unfold dotErr at h
  split at h
  · rename_i hh; exact ⟨(d.who - 1).toNat, by omega, by omega, hh.2.2⟩
  · omega
/-- The number that a vector has of a dot's author. -/
def nOf (l : List Int) (d : LDot) : Int := l.getD (d.who - 1).toNat 0
theorem nOf_at {l : List Int} {k : Nat} {n : Int} (h : k < l.length) : nOf l ⟨(k : Int) + 1, n⟩ = l[k] := by
  unfold nOf
  simp only
  rw [show ((k : Int) + 1 - 1).toNat = k by omega]
  simp [List.getD, List.getElem?_eq_getElem h]
def hasRes (l : List Int) (d : LDot) : Bool := decide (vdErr l d = 0) && decide (d.n ≤ nOf l d)
def HasPost (w : World) (l : List Int) (d : LDot) (e : Ending) (w' : World) : Prop := e = .returned (.tuple #[.bool (hasRes l d), errV (vdErr l d)]) ∧ Below w.heap.size w w'
set_option maxRecDepth 100000 in
set_option maxHeartbeats 1000000 in
theorem has_any (w : World) (A : Option Addr) (c : Nat) (l : List Int) (d : LDot) (h : Reads w w.heap.size 1 A l.length (ints l)) (hn : l.length ≤ 9223372036854775807) :
    Calls Try.prog 56 #[.slice A l.length c, .agg #[.int .i64 d.who, .int .i64 d.n]] w (HasPost w l d) := by
  obtain ⟨who, n⟩ := d
  have HBk := Lib.hid (Blk.new w 40 #[.int .i64 who, .int .i64 n])
  have hb : Below w.heap.size w (w.alloc (.cells #[.int .i64 who, .int .i64 n] 40)) := (Below.refl _ _).alloc (Nat.le_refl _) _
  have HV := Lib.hid (vready_any (w.alloc (.cells #[.int .i64 who, .int .i64 n] 40)) A c l ⟨who, n⟩ ((h.alloc (Nat.le_refl _) _).more (by simp)) hn)
  have HB := Lib.hid hb
  have HR := Lib.hid h
  clear h hb
  by_cases hv : vdErr l ⟨who, n⟩ = 0
  · obtain ⟨v1, v2⟩ := vd_ok hv
    obtain ⟨k, hk, hw, n1, n2⟩ := dot_in v2
    simp only at hw n1 n2
    subst hw
    have hl8 := (vec_ok v1).1
    have hkl : k < l.length := by omega
    have HN := Lib.hid (nOf_at (n := n) hkl)
    have HV0 := Lib.hid hv
    clear hv v1 v2 hl8
    go_enter Try.func56, Try.ntmps56
    go_wp2_with fail
    refine HV.out.mono ?_
    rintro e w2 ⟨rfl, hb2⟩
    rw [HV0.out, show errV 0 = .nilIface from rfl]
    have HB2 : Hid (Below w.heap.size w w2) := HB.out.trans (hb2.mono (by simp))
    have hlt2 : w.heap.size < (w.alloc (.cells #[.int .i64 ((k : Int) + 1), .int .i64 n] 40)).heap.size := by simp
    obtain ⟨ad, rfl, hbk, c0⟩ := (HR.out.below HB2.out).int hkl
    have d0 : w2.cell? ⟨w.heap.size, 0, none⟩ = some (.int .i64 ((k : Int) + 1)) := by rw [(HBk.out.below hb2 hlt2).cell]; rfl
    have d1 : w2.cell? ⟨w.heap.size, 1, none⟩ = some (.int .i64 n) := by rw [(HBk.out.below hb2 hlt2).cell]; rfl
    have k0 : (0 : Int) ≤ (k : Int) := by omega
    have k1 : (k : Int) < (l.length : Int) := by omega
    have q1 : IntKind.i64.wrap ((k : Int) + 1 - 1) = (k : Int) := by rw [IntWalk.i64_in _ (by omega)]; omega
    clear hb2 hlt2
    go_wp2_with fail
    go_quiet (fail)
    go_wp2_with fail
    go_ret2
    refine ⟨?_, below_drewN HB2.out _⟩
    unfold hasRes
    rw [HV0.out, HN.out]
    simp [errV]
  · have HN := Lib.hid (errV_ne hv)
    have HH : Hid (hasRes l ⟨who, n⟩ = false) := by show _ = _; unfold hasRes; simp [hv]
    clear hv
    go_enter Try.func56, Try.ntmps56
    go_wp2_with fail
    refine HV.out.mono ?_
    rintro e w2 ⟨rfl, hb2⟩
    rw [HN.out]
    go_wp2_with fail
    go_ret2
    exact ⟨by rw [HH.out, HN.out]; rfl, HB.out.trans (hb2.mono (by simp))⟩
def addErr (l : List Int) (d : LDot) : Int := if vdErr l d ≠ 0 then vdErr l d else if d.n ≤ nOf l d then 7 else if nOf l d < d.n - 1 then 6 else 0
def addRes (l : List Int) (d : LDot) : List Int := l.set (d.who - 1).toNat d.n
def AddPost (w : World) (l : List Int) (d : LDot) (e : Ending) (w' : World) : Prop :=
  if addErr l d = 0 then ∃ V c, e = .returned (.tuple #[.slice V l.length c, .nilIface]) ∧ Own w' w.heap.size 3 1 V l.length c (ints (addRes l d)) ∧ Below w.heap.size w w'
  else e = .returned (.tuple #[.slice none 0 0, errV (addErr l d)]) ∧ Below w.heap.size w w'
theorem Own.store {w : World} {B : Nat} {e : TypeId} {g n c : Nat} {xs : List Value} (h : Own w B e 1 (some ⟨g, 0, none⟩) n c xs) {k : Nat} (hk : k < n) (u : Value) : Own (w.setCell ⟨g, k, none⟩ u) B e 1 (some ⟨g, 0, none⟩) n c (xs.set k u) := by
  obtain ⟨h1, h2⟩ := h
  refine ⟨by rw [List.length_set]; exact h1, ?_⟩
  rcases h2 with ⟨h2, _⟩ | ⟨g', cap, cur, e1, e2, e3, e4, e5, e6, e7⟩
  · cases h2
  · injection e1 with e1 _ ec
    injection e1 with e1
    injection e1 with e1
    subst e1 ec
    refine .inr ⟨g, c, cur.setIfInBounds k u, rfl, e2, Blk.set_ (t := e) e3 k u, e4, e5, by simpa using e6, ?_⟩
    rw [Array.toList_setIfInBounds, ← e7, List.take_set]
theorem ints_set (l : List Int) (k : Nat) (n : Int) : (ints l).set k (.int .i64 n) = ints (l.set k n) := by simp [ints, List.map_set]

set_option maxRecDepth 100000 in
set_option maxHeartbeats 2000000 in
theorem add_any (w : World) (A : Option Addr) (c : Nat) (l : List Int) (d : LDot) (h : Reads w w.heap.size 1 A l.length (ints l)) (hn : l.length ≤ 9223372036854775807) :
    Calls Try.prog 57 #[.slice A l.length c, .agg #[.int .i64 d.who, .int .i64 d.n]] w (AddPost w l d) := by
  obtain ⟨who, n⟩ := d
  have HBk := Lib.hid (Blk.new w 40 #[.int .i64 who, .int .i64 n])
  have hb : Below w.heap.size w (w.alloc (.cells #[.int .i64 who, .int .i64 n] 40)) := (Below.refl _ _).alloc (Nat.le_refl _) _
  have HV := Lib.hid (vready_any (w.alloc (.cells #[.int .i64 who, .int .i64 n] 40)) A c l ⟨who, n⟩ ((h.alloc (Nat.le_refl _) _).more (by simp)) hn)
  have HB := Lib.hid hb
  have HR := Lib.hid h
  clear h hb
  by_cases hv : vdErr l ⟨who, n⟩ = 0
  · obtain ⟨v1, v2⟩ := vd_ok hv
    obtain ⟨k, hk, hw, n1, n2⟩ := dot_in v2
    simp only at hw n1 n2
    subst hw
    have hl8 := (vec_ok v1).1
    have hkl : k < l.length := by omega
    have hlk := (vec_ok v1).2 l[k] (List.getElem_mem hkl)
    have HN := Lib.hid (nOf_at (n := n) hkl)
    have HV0 := Lib.hid hv
    have HL8 := Lib.hid hl8
    clear hv v1 v2
    have k0 : (0 : Int) ≤ (k : Int) := by omega
    have k1 : (k : Int) < (l.length : Int) := by omega
    have q1 : IntKind.i64.wrap ((k : Int) + 1 - 1) = (k : Int) := by rw [IntWalk.i64_in _ (by omega)]; omega
    have hF : Fits l.length 8 := Fits.of_small (by omega) (by decide)
    clear hl8
    go_enter Try.func57, Try.ntmps57
    go_wp2_with fail
    refine HV.out.mono ?_
    rintro e w2 ⟨rfl, hb2⟩
    rw [HV0.out, show errV 0 = .nilIface from rfl]
    have HB2 : Hid (Below w.heap.size w w2) := HB.out.trans (hb2.mono (by simp))
    have hlt2 : w.heap.size < (w.alloc (.cells #[.int .i64 ((k : Int) + 1), .int .i64 n] 40)).heap.size := by simp
    have HR2 := Lib.hid (HR.out.below HB2.out)
    have HD2 := Lib.hid (HBk.out.below hb2 hlt2)
    obtain ⟨ad, rfl, hbk, c0⟩ := HR2.out.int hkl
    have d0 : w2.cell? ⟨w.heap.size, 0, none⟩ = some (.int .i64 ((k : Int) + 1)) := by rw [HD2.out.cell]; rfl
    have d1 : w2.cell? ⟨w.heap.size, 1, none⟩ = some (.int .i64 n) := by rw [HD2.out.cell]; rfl
    clear hb2 hlt2
    generalize hV : l[k] = v at *
    have HVk := Lib.hid hV
    clear hV
    by_cases h7 : n ≤ v
    · have HE : Hid (addErr l ⟨(k : Int) + 1, n⟩ = 7) := by
        show _ = _
        unfold addErr
        rw [if_neg (fun h => h HV0.out), if_pos (by rw [HN.out]; exact h7)]
      go_wp2_with fail
      go_ret2
      unfold AddPost
      rw [HE.out, if_neg (by decide)]
      exact ⟨rfl, HB2.out⟩
    · by_cases h6 : v < n - 1
      · have HE : Hid (addErr l ⟨(k : Int) + 1, n⟩ = 6) := by
          show _ = _
          unfold addErr
          rw [if_neg (fun h => h HV0.out), if_neg (by rw [HN.out]; exact h7), if_pos (by rw [HN.out]; exact h6)]
        go_wp2_with fail
        go_ret2
        unfold AddPost
        rw [HE.out, if_neg (by decide)]
        exact ⟨rfl, HB2.out⟩
      · have HE : Hid (addErr l ⟨(k : Int) + 1, n⟩ = 0) := by
          show _ = _
          unfold addErr
          rw [if_neg (fun h => h HV0.out), if_neg (by rw [HN.out]; exact h7), if_neg (by rw [HN.out]; exact h6)]
        have HC := Lib.hid (cloneI w2 (some ad) l.length c (ints l) (HR2.out.more HB2.out.size) (oneCells_ints l) hF)
        go_wp2_with fail
        refine HC.out.mono ?_
        rintro e w3 ⟨V, cv, rfl, hO, hb3⟩
        obtain ⟨g, rfl, hg1, hg2⟩ := hO.head (by omega)
        have HO := Lib.hid hO
        have HD3 := Lib.hid (HD2.out.below hb3 HD2.out.lt)
        have HB3 : Hid (Below w.heap.size w w3) := HB2.out.trans (hb3.mono HB2.out.size)
        have hbd : w.heap.size < w2.heap.size := HD2.out.lt
        clear hO hb3 c0 d0 d1
        have d0 : w3.cell? ⟨w.heap.size, 0, none⟩ = some (.int .i64 ((k : Int) + 1)) := by rw [HD3.out.cell]; rfl
        have d1 : w3.cell? ⟨w.heap.size, 1, none⟩ = some (.int .i64 n) := by rw [HD3.out.cell]; rfl
        have e0 : w3.cell? ⟨g, k, none⟩ = some (.int .i64 v) := by rw [HO.out.cellAt (by omega), ints_at (by omega), HVk.out]
        have f0 : w3.frozen? ⟨g, k, none⟩ = false := HO.out.frozenAt k
        go_wp2_with fail
        go_ret2
        unfold AddPost
        rw [HE.out, if_pos rfl]
        refine ⟨_, cv, rfl, ?_, HB3.out.setCell (by show w.heap.size ≤ g; omega) _⟩
        have := (HO.out.store (by omega : k < l.length) (.int .i64 n)).mono (B' := w.heap.size) HB2.out.size
        rw [ints_set] at this
        unfold addRes
        simp only
        rw [show ((k : Int) + 1 - 1).toNat = k by omega]
        exact this
  · have HN := Lib.hid (errV_ne hv)
    have HE : Hid (addErr l ⟨who, n⟩ = vdErr l ⟨who, n⟩ ∧ addErr l ⟨who, n⟩ ≠ 0) := by
      have : addErr l ⟨who, n⟩ = vdErr l ⟨who, n⟩ := if_pos hv
      exact ⟨this, by rw [this]; exact hv⟩
    clear hv
    go_enter Try.func57, Try.ntmps57
    go_wp2_with fail
    refine HV.out.mono ?_
    rintro e w2 ⟨rfl, hb2⟩
    rw [HN.out]
    go_wp2_with fail
    go_ret2
    unfold AddPost
    rw [if_neg HE.out.2, HE.out.1, HN.out]
    exact ⟨rfl, HB.out.trans (hb2.mono (by simp))⟩
end Go.Proofs.Ytgmdnmdniidngaa
/- A document, as it is changed by ops: plain. Conditions: none. -/
namespace Go.Proofs.Ytgmdnmdniidngaa
open Go.RowKit
set_option linter.unusedVariables false
/-- A key of the cuts that were seen by joins. -/
structure JKey where
  place : ByteArray
  dot : LDot
  deriving DecidableEq
def JKey.val (k : JKey) : Value := .agg #[.string k.place, .int .i64 k.dot.who, .int .i64 k.dot.n]
def boolV (b : Bool) : Value := .bool b
structure LDoc where
  book : List LLeaf
  marks : List LMark
  known : List Int
  ops : List LOp
  joined : List (JKey × Bool)
namespace LDoc
def new : LDoc := ⟨[], [], [0, 0, 0, 0, 0, 0, 0, 0], [], []⟩
def gone (d : LDoc) (o : LOp) : Bool := (get (⟨o.place, o.dot⟩ : JKey) d.joined).getD false
def cutE (d : LDoc) (o : LOp) : Int := if d.gone o = true then 0 else cutErr d.marks ⟨o.place, o.dot⟩
def cut (d : LDoc) (o : LOp) : LDoc := if d.gone o = true then d else if cutErr d.marks ⟨o.place, o.dot⟩ = 0 then { d with marks := cutRes d.marks ⟨o.place, o.dot⟩ } else d
def insAll (p : ByteArray) (j : List (JKey × Bool)) (l : List LDot) : List (JKey × Bool) := l.foldl (fun j x => ins ⟨p, x⟩ true j) j
def joinE (d : LDoc) (o : LOp) : Int := joinErr d.marks o.place o.seen
def join (d : LDoc) (o : LOp) : LDoc := if d.joinE o = 0 then { d with marks := joinRes d.marks o.place o.seen, joined := insAll o.place d.joined o.seen } else d
def turnE (d : LDoc) (o : LOp) : Int :=
  if o.what = 1 then writeErr d.book o.place o.letter else if o.what = 2 then strikeErr d.book o.place else if o.what = 3 then d.cutE o else if o.what = 4 then d.joinE o else 0
def turn (d : LDoc) (o : LOp) : LDoc :=
  if o.what = 1 then (if writeErr d.book o.place o.letter = 0 then { d with book := writeRes d.book o.place o.letter } else d)
  else if o.what = 2 then (if strikeErr d.book o.place = 0 then { d with book := strikeRes d.book o.place } else d)
  else if o.what = 3 then d.cut o else if o.what = 4 then d.join o else { d with book := [] }
def applyE (d : LDoc) (o : LOp) : Int :=
  if opErr o ≠ 0 then opErr o else if vdErr d.known o.dot ≠ 0 then vdErr d.known o.dot else if hasRes d.known o.dot = true then 0
  else if addErr d.known o.dot ≠ 0 then addErr d.known o.dot else if 400 ≤ d.ops.length then 4 else d.turnE o
def applyB (d : LDoc) (o : LOp) : Bool := decide (d.applyE o = 0) && !(decide (opErr o = 0) && hasRes d.known o.dot)
def apply (d : LDoc) (o : LOp) : LDoc := if d.applyB o = true then { d.turn o with known := addRes d.known o.dot, ops := d.ops ++ [o] } else d
end LDoc
end Go.Proofs.Ytgmdnmdniidngaa
