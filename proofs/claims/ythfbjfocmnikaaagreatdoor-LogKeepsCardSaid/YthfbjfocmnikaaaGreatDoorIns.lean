/- copy onto a row known whole, elements of any size; append of a make, of any size. Plain lemmas. Conditions: none. -/
import Derived.Deep.RegionLaw
import Derived.Laws.CopyOwn
import Derived.Laws.Externs
import Derived.Lib.AppendZerosOnto
import Derived.Lib.Overlaps
import Derived.Test.YthfbjfocmnikaaaGreatDoorMem
namespace Go.Proofs.YthfbjfocmnikaaaGreatDoor
open Go.RowKit
set_option linter.unusedVariables false
section
variable {P : Program} (w : World)
theorem only_setRow {g : Nat} {cur : Array Value} {e : TypeId} (hg : Blk w g e cur) (cs : Array Value) : Only [g] w (w.setRow g cs) :=
  ⟨rfl, rfl, rfl, by simp [World.setRow], fun k _ hn => setRow_other w g k cs (by simp at hn; exact hn)⟩
theorem blk_setRow {g : Nat} {cur : Array Value} {e : TypeId} (hg : Blk w g e cur) (cs : Array Value) : Blk (w.setRow g cs) g e cs := setRow_heap w g cur cs e _ hg
theorem run_copy_blk {dT sT ty e : TypeId} {size bytes : Nat} (hE : Elem P dT e size bytes) (g o dLen dCap : Nat) (a : Addr) (sLen sCap : Nat) (cur cs : List Value)
    (hg : Blk w g e cur.toArray) (hn : cs.length = Nat.min sLen dLen * size) (hsrc : ∀ j v, cs[j]? = some v → w.cell? (a.add j) = some v) (hfit : o + cs.length ≤ cur.length) (h1 : OneCells cs) :
    (Builtin.copy_ #[dT, sT] ty #[.slice (some ⟨g, o, none⟩) dLen dCap, .slice (some a) sLen sCap]).run P w = .ok (goInt (Nat.min sLen dLen)) (w.setRow g (splice cur o cs).toArray) := by
  obtain ⟨ht, ⟨i, z, hi, hz, hsize, hby, hzs⟩, hsz⟩ := hE
  have hl := run_loadCells_list (P := P) w a cs hsrc
  have hst := run_storeCells_at P g o e cs 0 cur.toArray w hg (by simpa using hfit) h1
  rw [hn] at hl
  simp only [splice]
  simp [Builtin.copy_, run_underlying ht, Builtin.lenOf, Builtin.firstCells, sizeOf, typeInfo, hi, hsize, hl, hst]
theorem wp_copy_blk {o : Oper} {a : Act} {K : Act → World → Prop} {Q : Exit → Act → World → Prop} (d s : Operand) {dT sT e : TypeId} {size bytes : Nat} (hE : Elem P dT e size bytes)
    (ho : o.op = .call { callee := .builtin .copy, args := #[d, s], argTypes := #[dT, sT] }) (g off dLen dCap : Nat) (ad : Addr) (sLen sCap : Nat) (hd : a.eval d = .slice (some ⟨g, off, none⟩) dLen dCap) (hs : a.eval s = .slice (some ad) sLen sCap)
    (cur cs : List Value) (hg : Blk w g e cur.toArray) (hn : cs.length = Nat.min sLen dLen * size) (hsrc : ∀ j v, cs[j]? = some v → w.cell? (ad.add j) = some v) (hfit : off + cs.length ≤ cur.length) (h1 : OneCells cs)
    (h : ∀ w', Hid (Blk w' g e (splice cur off cs).toArray) → Hid (Only [g] w w') → K (a.put o.dst (goInt (Nat.min sLen dLen))) w') : o.wp P a w K Q := by
  have hrun := run_copy_blk (P := P) (ty := o.type) w hE (sT := sT) g off dLen dCap ad sLen sCap cur cs hg hn hsrc hfit h1
  unfold Oper.wp execOp
  simp only [ho, resolve, invoke, builtin, Sem.run_bind, Sem.run_pure, Result.andThen_ok, List.map_toArray, List.map_cons, List.map_nil, hd, hs, hrun]
  exact h _ (blk_setRow w hg _) (only_setRow w hg _)
theorem wpList_copy_blk {ops : Array Oper} {rest : List Oper} {o : Oper} {a : Act} {Q : Exit → Act → World → Prop} (d s : Operand) {dT sT e : TypeId} {size bytes : Nat} (hgd : o.guard = none) (hE : Elem P dT e size bytes)
    (ho : o.op = .call { callee := .builtin .copy, args := #[d, s], argTypes := #[dT, sT] }) (g off dLen dCap : Nat) (ad : Addr) (sLen sCap : Nat) (hd : a.eval d = .slice (some ⟨g, off, none⟩) dLen dCap) (hs : a.eval s = .slice (some ad) sLen sCap)
    (cur cs : List Value) (hg : Blk w g e cur.toArray) (hn : cs.length = Nat.min sLen dLen * size) (hsrc : ∀ j v, cs[j]? = some v → w.cell? (ad.add j) = some v) (hfit : off + cs.length ≤ cur.length) (h1 : OneCells cs)
    (h : ∀ w', Hid (Blk w' g e (splice cur off cs).toArray) → Hid (Only [g] w w') → wpList P ops Q rest (a.put o.dst (goInt (Nat.min sLen dLen))) w') : wpList P ops Q (o :: rest) a w :=
  wpList_plain hgd fun _ hK => wp_copy_blk w d s hE ho g off dLen dCap ad sLen sCap hd hs cur cs hg hn hsrc hfit h1 fun w' h2 h3 => hK _ _ (h w' h2 h3)
theorem step_copy_blk {ops : Array Oper} {o : Oper} {a : Act} {K : Act → World → Prop} {Q : Exit → Act → World → Prop} {E : Prop} (d s : Operand) {dT sT e : TypeId} {size bytes : Nat} (hgd : o.guard = none) (hE : Elem P dT e size bytes)
    (ho : o.op = .call { callee := .builtin .copy, args := #[d, s], argTypes := #[dT, sT] }) (g off dLen dCap : Nat) (ad : Addr) (sLen sCap : Nat) (hd : a.eval d = .slice (some ⟨g, off, none⟩) dLen dCap) (hs : a.eval s = .slice (some ad) sLen sCap)
    (cur cs : List Value) (hg : Blk w g e cur.toArray) (hn : cs.length = Nat.min sLen dLen * size) (hsrc : ∀ j v, cs[j]? = some v → w.cell? (ad.add j) = some v) (hfit : off + cs.length ≤ cur.length) (h1 : OneCells cs)
    (h : ∀ w', Hid (Blk w' g e (splice cur off cs).toArray) → Hid (Only [g] w w') → K (a.put o.dst (goInt (Nat.min sLen dLen))) w') :
    if Region.wanted o (yielded ops a.tmps) = true then Oper.wp P o a w K Q else E := by
  have hw : Region.wanted o (yielded ops a.tmps) = true := by simp [Region.wanted, hgd]
  rw [if_pos hw]
  exact wp_copy_blk w d s hE ho g off dLen dCap ad sLen sCap hd hs cur cs hg hn hsrc hfit h1 h
/-- append(s[:i], make(S, k)...): no room. -/
theorem append_make {t tn e : TypeId} {size bytes : Nat} (hE : Elem P t e size bytes) (hby : 0 < bytes) (htn : P.underlying tn = some (.int .i64)) (a : Addr) (i c k : Nat) (olds : List Value) (ho : olds.length = i * size)
    (hr : ∀ j v, olds[j]? = some v → w.cell? (a.add j) = some v) (hk : 0 < k) (hroom : c < i + k) (hc : i ≤ c) (hf : Fits (i + k) bytes) :
    ∃ (G : Nat) (row : List Value) (w1 : World), (∀ ty, (Builtin.append_ #[t, tn] ty #[.slice (some a) i c, .int .i64 k]).run P w = .ok (.slice (some ⟨w.heap.size, 0, none⟩) (i + k) G) w1) ∧ Blk w1 w.heap.size e (olds ++ row).toArray ∧
      (olds ++ row).length = G * size ∧ i + k ≤ G ∧ G ≤ maxLen ∧ Below w.heap.size w w1 := by
  obtain ⟨ht, ⟨inf, z, hi, hz, hsize, hb, hzs⟩, hsz⟩ := hE
  have h64 : i + k ≤ maxLen := hf.1
  have hold : (Builtin.firstCells inf.size i (.slice (some a) i c)).run P w.drew = .ok olds.toArray w.drew := by
    rw [hsize]; exact run_firstCells_some w.drew size i a i c olds ho hr
  have hfit : Builtin.nextslicecap (i + k) c * inf.bytes ≤ 281474976710656 := by rw [hb]; exact growslice_fits hroom hf.2
  refine ⟨grownCap w (i + k) c e, (Builtin.zeroCells z.cells k ++ Builtin.zeroCells z.cells (grownCap w (i + k) c e - (i + k))).toList, w.drew.alloc (.cells (olds.toArray ++ Builtin.zeroCells z.cells k ++ Builtin.zeroCells z.cells (grownCap w (i + k) c e - (i + k))) e), fun ty => ?_, ?_, ?_, grownCap_ge w _ _ _, grownCap_le_maxLen w _ _ _ h64, ?_⟩
  · exact Lib.run_append_grow_zeros w t tn ty e inf z .i64 .i64 ht htn hi hz (some a) i c olds hold k hk (by omega) hroom (by unfold maxLen at h64; omega) (by rw [hb]; have := hf.2; have := Nat.mul_le_mul_right bytes (show k ≤ i + k by omega); omega) hfit
  · have := Blk.new w.drew e (olds.toArray ++ Builtin.zeroCells z.cells k ++ Builtin.zeroCells z.cells (grownCap w (i + k) c e - (i + k)))
    have e1 : (olds ++ (Builtin.zeroCells z.cells k ++ Builtin.zeroCells z.cells (grownCap w (i + k) c e - (i + k))).toList).toArray = olds.toArray ++ Builtin.zeroCells z.cells k ++ Builtin.zeroCells z.cells (grownCap w (i + k) c e - (i + k)) := by
      simp
    rw [e1]; exact this
  · have hge := grownCap_ge w (i + k) c e
    simp only [List.length_append, Array.length_toList, Array.size_append, size_zeroCells, hzs, ho]
    rw [← Nat.add_mul, ← Nat.add_mul]; congr 1; omega
  · exact ((Below.refl _ _).drew.alloc (Nat.le_refl _) _)
end
/-- An own row that is not empty, its block known whole. -/
theorem Own.whole {w : World} {B size n c g : Nat} {e : TypeId} {xs : List Value} (h : Own w B e size (some ⟨g, 0, none⟩) n c xs) : ∃ spare, Blk w g e (xs ++ spare).toArray ∧ (xs ++ spare).length = c * size ∧ B ≤ g ∧ c ≤ maxLen ∧ n ≤ c := by
  obtain ⟨h1, h2⟩ := h
  rcases h2 with ⟨h2, _⟩ | ⟨g', cap, cur, hv, hb, hh, hn, hm, hs, ht⟩
  · cases h2
  · injection hv with hv _ hc
    injection hv with hv
    injection hv with hv _ _
    subst hv hc
    refine ⟨cur.toList.drop (n * size), ?_, ?_, hb, hm, hn⟩
    · rw [← ht, List.take_append_drop]; simpa [Blk] using hh
    · rw [← ht, List.take_append_drop]; simpa using hs
theorem Own.of_blk {w : World} {B size n c g : Nat} {e : TypeId} {xs spare : List Value} (hb : Blk w g e (xs ++ spare).toArray) (hl : xs.length = n * size) (hc : (xs ++ spare).length = c * size) (hB : B ≤ g) (hm : c ≤ maxLen) (hn : n ≤ c) :
    Own w B e size (some ⟨g, 0, none⟩) n c xs :=
  ⟨hl, .inr ⟨g, c, (xs ++ spare).toArray, rfl, hB, hb, hn, hm, by simpa using hc, by simp [← hl]⟩⟩
/-- Where s[i:] lies. -/
def tailA (A : Option Addr) (c i size : Nat) : Option Addr := if c = i then A else A.map (·.add (i * size))
theorem run_tail {P : Program} {t e : TypeId} {size bytes : Nat} (hE : Elem P t e size bytes) (A : Option Addr) (n c i : Nat) (h : i ≤ n) (W : World) :
    (Instr.slice t (.slice A n c) (some (.int .i64 i)) none none).run P W = .ok (.slice (tailA A c i size) (n - i) (c - i)) W := by
  obtain ⟨ht, ⟨inf, z, hi, hz, hsize, hby, hzs⟩, hsz⟩ := hE
  simp [Instr.slice, run_underlying ht, Instr.sliceBounds, run_sliceBound, sizeOf, typeInfo, hi, hsize, tailA, h]
theorem run_tailAt {P : Program} {t e : TypeId} {size bytes : Nat} (hE : Elem P t e size bytes) (A : Option Addr) (n c i : Nat) (h : i ≤ n) (W : World) :
    (Instr.sliceAt t (.slice A n c) (some (.int .i64 i)) none none).run P W = .ok (.slice (tailA A c i size) (n - i) (c - i)) W := by
  rw [← run_tail hE A n c i h W]
  simp [Instr.sliceAt, run_underlying hE.ht]
theorem Reads.tail {w : World} {B size n i c : Nat} {A : Option Addr} {xs : List Value} (h : Reads w B size A n xs) (hi : i ≤ n) (hc : n ≤ c) : Reads w B size (tailA A c i size) (n - i) (xs.drop (i * size)) := h.cut hi hc
theorem Reads.head {w : World} {B size n i : Nat} {A : Option Addr} {xs : List Value} (h : Reads w B size A n xs) (hi : i ≤ n) : Reads w B size A i (xs.take (i * size)) := by
  have hl := Nat.mul_le_mul_right size hi
  refine ⟨by rw [List.length_take, h.1]; omega, fun hn => ?_⟩
  obtain ⟨ad, e, hb, hc⟩ := h.2 (by omega)
  refine ⟨ad, e, hb, fun j u hj => hc j u ?_⟩
  rw [List.getElem?_take] at hj
  split at hj
  · exact hj
  · cases hj
/-- A cell of an own row is stored. -/
theorem Own.storeK {w : World} {B : Nat} {e : TypeId} {g n c size : Nat} {xs : List Value} (h : Own w B e size (some ⟨g, 0, none⟩) n c xs) {k : Nat} (hk : k < n * size) (u : Value) : Own (w.setCell ⟨g, k, none⟩ u) B e size (some ⟨g, 0, none⟩) n c (xs.set k u) := by
  obtain ⟨h1, h2⟩ := h
  refine ⟨by rw [List.length_set]; exact h1, ?_⟩
  rcases h2 with ⟨h2, _⟩ | ⟨g', cap, cur, e1, e2, e3, e4, e5, e6, e7⟩
  · cases h2
  · injection e1 with e1 _ ec
    injection e1 with e1
    injection e1 with e1
    subst e1 ec
    refine .inr ⟨g, c, cur.setIfInBounds k u, rfl, e2, Blk.set_ (t := e) e3 k u, e4, e5, by simpa using e6, ?_⟩
    rw [Array.toList_setIfInBounds, ← e7, List.take_set]
theorem run_nilslice {P : Program} {t e : TypeId} {size bytes : Nat} (hE : Elem P t e size bytes) (A : Option Addr) (n c i : Nat) (h : i ≤ c) (W : World) :
    (Instr.sliceAt t (.slice A n c) none (some (.int .i64 i)) none).run P W = .ok (.slice A i c) W := by
  obtain ⟨ht, ⟨inf, z, hi, hz, hsize, hby, hzs⟩, hsz⟩ := hE
  simp [Instr.sliceAt, Instr.slice, run_underlying ht, Instr.sliceBounds, run_sliceBound, sizeOf, typeInfo, hi, h]
  cases A <;> simp [Addr.add]
end Go.Proofs.YthfbjfocmnikaaaGreatDoor
