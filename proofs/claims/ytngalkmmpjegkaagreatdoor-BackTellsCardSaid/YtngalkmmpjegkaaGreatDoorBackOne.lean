/- 6 texts in one: each says ahead of itself what is proved, and its conditions. -/
import Derived.BigRegion
import Derived.Deep.CutBlock
import Derived.Deep.RegionHeld3
import Derived.Test.YtngalkmmpjegkaaGreatDoorBookWrite
import Derived.Test.YtngalkmmpjegkaaGreatDoorEditAdd
import Derived.Test.YtngalkmmpjegkaaGreatDoorEditIns
import Derived.Test.YtngalkmmpjegkaaGreatDoorMapLaw
import Derived.Test.YtngalkmmpjegkaaGreatDoorNthSeen
import Derived.Test.YtngalkmmpjegkaaGreatDoorSame0
/- Maps whose keys are texts; what is deleted of a map. Plain lemmas. Conditions: none. -/
namespace Go.Proofs.YtngalkmmpjegkaaGreatDoor
open Go.RowKit
set_option linter.unusedVariables false
theorem bytes_beq (a b : ByteArray) : (a == b) = decide (a = b) := by
  rcases a with ⟨⟨x⟩⟩
  rcases b with ⟨⟨y⟩⟩
  have h1 : ((⟨⟨x⟩⟩ : ByteArray) == ⟨⟨y⟩⟩) = ((⟨x⟩ : Array UInt8) == ⟨y⟩) := rfl
  rw [h1, Bool.eq_iff_iff, beq_iff_eq, decide_eq_true_iff]
  constructor
  · intro h; rw [h]
  · intro h; injection h
section
variable {P : Program} {V : Type}
theorem findNow_str (g : V → Value) (a : ByteArray) : ∀ (es : List MapEntry) (kvs : List (ByteArray × V)) (i : Nat), Pairs Value.string g es kvs → Instr.findNow .string (.string a) es i = some (seek g a kvs i)
  | [], kvs, i => fun h => by
    cases kvs with
    | nil => rfl
    | cons x l => simp [Pairs] at h
  | e :: es, kvs, i => fun h => by
    cases kvs with
    | nil => simp [Pairs] at h
    | cons x l =>
      obtain ⟨k, v⟩ := x
      simp only [Pairs, List.map_cons, List.cons.injEq, Prod.mk.injEq] at h
      obtain ⟨⟨h1, h2⟩, h3⟩ := h
      unfold Instr.findNow seek
      rw [h1]
      simp only [Instr.sameNow, bytes_beq]
      by_cases hk : a = k
      · simp [hk, h2]
      · simp only [decide_eq_false hk, if_neg hk]
        exact findNow_str g a es l (i + 1) h3
theorem strKey {t : TypeId} (ht : P.underlying t = some .string) : KeyOk P t Value.string where
  find := fun V g W a es kvs h => MapKept.run_findKey ht (findNow_str g a es kvs 0 h)
  chk := fun W em a => by
    have key : ∀ n : Nat, (Instr.checkKey em (n + 1) t (.string a)).run P W = .ok () W := fun n => by simp [Instr.checkKey, run_underlying ht]
    exact key 9999
  bits := fun a => by
    have key : ∀ n : Nat, Instr.sameBits (n + 1) (.string a) (.string a) = true := fun n => by simp [Instr.sameBits, bytes_beq]
    exact key 9999
end
section
variable {P : Program} {K V : Type} [DecidableEq K]
def delK (a : K) : List (K × V) → List (K × V)
  | [] => []
  | (k, v) :: l => if a = k then l else (k, v) :: delK a l
def Keys (kvs : List (K × V)) : Prop := (kvs.map Prod.fst).Nodup
theorem get_none {a : K} : ∀ {kvs : List (K × V)}, a ∉ kvs.map Prod.fst → get a kvs = none
  | [], _ => rfl
  | (k, v) :: l, h => by
    simp only [List.map_cons, List.mem_cons, not_or] at h
    unfold get
    rw [if_neg h.1]
    exact get_none h.2
theorem get_some {a : K} : ∀ {kvs : List (K × V)}, a ∈ kvs.map Prod.fst → ∃ v, get a kvs = some v
  | [], h => by simp at h
  | (k, v) :: l, h => by
    unfold get
    by_cases hk : a = k
    · exact ⟨v, if_pos hk⟩
    · rw [if_neg hk]
      simp only [List.map_cons, List.mem_cons] at h
      exact get_some (h.resolve_left hk)
theorem delK_sub (a : K) : ∀ (kvs : List (K × V)), ∀ b ∈ (delK a kvs).map Prod.fst, b ∈ kvs.map Prod.fst
  | [] => by simp [delK]
  | (k, v) :: l => fun b hb => by
    unfold delK at hb
    by_cases hk : a = k
    · rw [if_pos hk] at hb; simp only [List.map_cons, List.mem_cons]; exact .inr hb
    · rw [if_neg hk] at hb
      simp only [List.map_cons, List.mem_cons] at hb ⊢
      exact hb.imp id (delK_sub a l b)
theorem Keys.del {a : K} : ∀ {kvs : List (K × V)}, Keys kvs → Keys (delK a kvs)
  | [], h => h
  | (k, v) :: l, h => by
    unfold Keys at h ⊢
    simp only [List.map_cons, List.nodup_cons] at h
    unfold delK
    by_cases hk : a = k
    · rw [if_pos hk]; exact h.2
    · rw [if_neg hk]
      simp only [List.map_cons, List.nodup_cons]
      exact ⟨fun hm => h.1 (delK_sub a l k hm), Keys.del h.2⟩
theorem get_del {a b : K} : ∀ {kvs : List (K × V)}, Keys kvs → get b (delK a kvs) = if b = a then none else get b kvs
  | [], _ => by simp [delK, get]
  | (k, v) :: l, h => by
    unfold Keys at h
    simp only [List.map_cons, List.nodup_cons] at h
    unfold delK
    by_cases hk : a = k
    · rw [if_pos hk]
      by_cases hb : b = a
      · rw [if_pos hb]; exact get_none (by rw [hb, hk]; exact h.1)
      · rw [if_neg hb]
        conv => rhs; unfold get
        rw [if_neg (by rw [← hk]; exact hb)]
    · rw [if_neg hk]
      unfold get
      by_cases hb : b = k
      · rw [if_pos hb, if_neg (by rw [hb]; exact fun h => hk h.symm), if_pos hb]
      · rw [if_neg hb, if_neg hb]; exact get_del h.2
theorem ins_mem {a : K} {v : V} : ∀ {kvs : List (K × V)} {b : K}, b ∈ (ins a v kvs).map Prod.fst → b = a ∨ b ∈ kvs.map Prod.fst
  | [], b, h => by simp [ins] at h; exact .inl h
  | (k, u) :: l, b, h => by
    unfold ins at h
    by_cases hk : a = k
    · rw [if_pos hk] at h
      simp only [List.map_cons, List.mem_cons] at h ⊢
      exact h.imp id .inr
    · rw [if_neg hk] at h
      simp only [List.map_cons, List.mem_cons] at h ⊢
      rcases h with h | h
      · exact .inr (.inl h)
      · exact (ins_mem h).imp id .inr
theorem Keys.ins {a : K} {v : V} : ∀ {kvs : List (K × V)}, Keys kvs → Keys (ins a v kvs)
  | [], h => by simp [Keys, Go.Proofs.YtngalkmmpjegkaaGreatDoor.ins]
  | (k, u) :: l, h => by
    unfold Keys at h ⊢
    simp only [List.map_cons, List.nodup_cons] at h
    unfold Go.Proofs.YtngalkmmpjegkaaGreatDoor.ins
    by_cases hk : a = k
    · rw [if_pos hk]; simp only [List.map_cons, List.nodup_cons]; rw [hk]; exact h
    · rw [if_neg hk]
      simp only [List.map_cons, List.nodup_cons]
      refine ⟨fun hm => ?_, Keys.ins h.2⟩
      rcases ins_mem hm with h1 | h1
      · exact hk h1.symm
      · exact h.1 h1
theorem seek_del (f : K → Value) (g : V → Value) (a : K) : ∀ (es : List MapEntry) (kvs : List (K × V)) (i j : Nat) (u : Value), Pairs f g es kvs → seek g a kvs i = some (j, u) → j - i < es.length ∧ Pairs f g (es.eraseIdx (j - i)) (delK a kvs)
  | [], kvs, i, j, u => fun hp h => by
    cases kvs with
    | nil => simp [seek] at h
    | cons x l => simp [Pairs] at hp
  | e :: es, kvs, i, j, u => fun hp h => by
    cases kvs with
    | nil => simp [Pairs] at hp
    | cons x l =>
      obtain ⟨k, w⟩ := x
      have hp0 := hp
      simp only [Pairs, List.map_cons, List.cons.injEq, Prod.mk.injEq] at hp
      obtain ⟨⟨h1, h2⟩, h3⟩ := hp
      unfold seek at h
      unfold delK
      by_cases hk : a = k
      · rw [if_pos hk] at h
        cases h
        rw [if_pos hk, Nat.sub_self]
        exact ⟨by simp, h3⟩
      · rw [if_neg hk] at h
        rw [if_neg hk]
        have hg := seek_ge g a l (i + 1) j u h
        obtain ⟨q1, q2⟩ := seek_del f g a es l (i + 1) j u h3 h
        have e1 : j - i = (j - (i + 1)) + 1 := by omega
        rw [e1]
        refine ⟨by simp; omega, ?_⟩
        simp only [Pairs, List.eraseIdx_cons_succ, List.map_cons, List.cons.injEq, Prod.mk.injEq]
        exact ⟨⟨h1, h2⟩, q2⟩
theorem del_none (g : V → Value) (a : K) : ∀ (kvs : List (K × V)) (i : Nat), seek g a kvs i = none → delK a kvs = kvs
  | [], _, _ => rfl
  | (k, v) :: l, i, h => by
    unfold seek at h
    unfold delK
    by_cases hk : a = k
    · rw [if_pos hk] at h; cases h
    · rw [if_neg hk] at h ⊢
      rw [del_none g a l (i + 1) h]
theorem delete_run {m t t2 e : TypeId} {f : K → Value} {g : V → Value} (ok : KeyOk P t f) (hm : P.underlying m = some (.map t e)) {w : World} {r : Nat} {kvs : List (K × V)} (h : MapAt w r f g kvs) (a : K) :
    ∃ w', (∀ ty, (Builtin.delete_ #[m, t2] ty #[.map (some r), f a]).run P w = .ok (.tuple #[]) w') ∧ MapAt w' r f g (delK a kvs) ∧ Only [r] w w' := by
  obtain ⟨es, clock, hb, hp⟩ := h
  have h1 := ok.find V g w a es.toList kvs hp
  cases hs : seek g a kvs 0 with
  | none =>
    refine ⟨setBlk w r (.map es clock), fun ty => ?_, ⟨_, _, setBlk_same hb, ?_⟩, only_setBlk _⟩
    · simp [Builtin.delete_, run_underlying hm, MapKept.run_getObj_map hb, ok.chk, h1, hs, MapKept.run_setObj_map _ hb, setBlk]
    · rw [del_none g a kvs 0 hs]; exact hp
  | some x =>
    obtain ⟨j, u⟩ := x
    obtain ⟨q1, q2⟩ := seek_del f g a es.toList kvs 0 j u hp hs
    rw [Nat.sub_zero] at q1 q2
    refine ⟨setBlk w r (.map (es.eraseIdxIfInBounds j) clock), fun ty => ?_, ⟨_, _, setBlk_same hb, ?_⟩, only_setBlk _⟩
    · simp [Builtin.delete_, run_underlying hm, MapKept.run_getObj_map hb, ok.chk, h1, hs, MapKept.run_setObj_map _ hb, setBlk]
    · have : (es.eraseIdxIfInBounds j).toList = es.toList.eraseIdx j := by
        simp [Array.eraseIdxIfInBounds]
        rw [dif_pos (by simpa using q1)]
        simp
      rw [this]
      exact q2
end
end Go.Proofs.YtngalkmmpjegkaaGreatDoor
/- What is taken back: which ops that is. Plain. Conditions: none. -/
namespace Go.Proofs.YtngalkmmpjegkaaGreatDoor
open Go.RowKit
set_option linter.unusedVariables false
/-- How many of these ops strike a place. -/
def strk (l : List LOp) (p : ByteArray) : Nat := (l.filter fun o => decide (o.what = 2) && decide (o.place = p)).length
theorem strk_app (a b : List LOp) (p : ByteArray) : strk (a ++ b) p = strk a p + strk b p := by simp [strk]
structure LU where
  book : List LLeaf
  mak : LMk
namespace LDoc
/-- The letter of a leaf that is struck, written anew behind it. -/
def unNew (u : LU) (p : ByteArray) : LU × Int :=
  if betweenErr p (rightOf u.book (ahead u.book p + 1)) u.mak.who ≠ 0 then (u, betweenErr p (rightOf u.book (ahead u.book p + 1)) u.mak.who)
  else (⟨if writeErr u.book (u.mak.next p (rightOf u.book (ahead u.book p + 1))) (old u.book p).letter = 0 then writeRes u.book (u.mak.next p (rightOf u.book (ahead u.book p + 1))) (old u.book p).letter else u.book,
      u.mak.wr (u.mak.next p (rightOf u.book (ahead u.book p + 1))) (old u.book p).letter⟩, writeErr u.book (u.mak.next p (rightOf u.book (ahead u.book p + 1))) (old u.book p).letter)
/-- One op is taken back: what there is then, whether it showed, what is wrong. -/
def unOne (d : LDoc) (u : LU) (o : LOp) : LU × Bool × Int :=
  if hasAt u.book o.place = false ∨ (old u.book o.place).letter = 0 then (u, false, 0)
  else if o.what = 1 ∧ seenB (old u.book o.place) = true then (⟨strikeRes u.book o.place, u.mak.st o.place⟩, true, 0)
  else if o.what = 2 ∧ (old u.book o.place).struck = true ∧ strk d.ops o.place + strk u.mak.ops o.place = 1 then ((unNew u o.place).1, true, (unNew u o.place).2)
  else (u, false, 0)
/-- Ops, the last one first. -/
def unGo (d : LDoc) : List LOp → Int → LU → LU × Int
  | [], _, u => (u, 0)
  | o :: t, n, u =>
    if n = 0 then (u, 0) else if o.dot.who ≠ u.mak.who then unGo d t n u
    else if (unOne d u o).2.2 ≠ 0 then ((unOne d u o).1, (unOne d u o).2.2)
    else unGo d t (if (unOne d u o).2.1 = true then n - 1 else n) (unOne d u o).1
def undE (d : LDoc) (who n : Int) : Int := if whoE who ≠ 0 then 1 else if n < 0 ∨ 200 < n then 1 else (unGo d d.ops.reverse n ⟨d.book, d.maker who⟩).2
def undR (d : LDoc) (who n : Int) : List LOp := if d.undE who n = 0 then (unGo d d.ops.reverse n ⟨d.book, d.maker who⟩).1.mak.ops else []
end LDoc
def LLeaf.gone (x : LLeaf) : LLeaf := ⟨x.place, x.letter, true⟩
namespace LMk
def stAll (m : LMk) (ps : List ByteArray) : LMk := ps.foldl (fun m p => m.st p) m
theorem stAll_who (ps : List ByteArray) (m : LMk) : (m.stAll ps).who = m.who := by
  induction ps generalizing m with
  | nil => rfl
  | cons p ps ih => show ((m.st p).stAll ps).who = _; rw [ih]; rfl
end LMk
/-- The place of a leaf in the middle is there. -/
theorem mid_at {a b : List LLeaf} {y : LLeaf} (hr : Rising (a ++ y :: b)) : hasAt (a ++ y :: b) y.place = true ∧ old (a ++ y :: b) y.place = y := ⟨(hasAt_iff hr _).2 ⟨y, by simp, rfl⟩, old_mem hr (by simp)⟩
theorem strike_mid {a b : List LLeaf} {y : LLeaf} (hr : Rising (a ++ y :: b)) : strikeRes (a ++ y :: b) y.place = a ++ y.gone :: b := by
  rw [strike_upd, (mid_at hr).2]
  exact upd_mid (x := y.strike) hr rfl
theorem gone_rising {a b c : List LLeaf} {y : LLeaf} (hr : Rising (a ++ y :: b)) : Rising (a ++ y.gone :: b) := by
  rw [← strike_mid hr, strike_upd]
  exact upd_rising hr _
/-- The last k of what one has typed, taken back. -/
theorem LDoc.unGo_typed (d : LDoc) (a c : List LLeaf) : ∀ (k : Nat) (Y : List LOp) (Z : List LLeaf) (R : List LOp) (r : Nat) (m : LMk), k ≤ Y.length → (∀ o ∈ Y, o.dot.who = m.who ∧ o.what = 1 ∧ letterB o.letter = true) → Rising (a ++ Y.map leafOf ++ Z ++ c) →
    unGo d (Y.reverse ++ R) ((k + r : Nat) : Int) ⟨a ++ Y.map leafOf ++ Z ++ c, m⟩ =
      unGo d ((Y.take (Y.length - k)).reverse ++ R) (r : Int) ⟨a ++ (Y.take (Y.length - k)).map leafOf ++ ((Y.drop (Y.length - k)).map (fun o => (leafOf o).gone) ++ Z) ++ c, m.stAll ((Y.drop (Y.length - k)).map LOp.place).reverse⟩
  | 0, Y, Z, R, r, m => fun hk hY hr => by simp [LMk.stAll]
  | k + 1, Y, Z, R, r, m => fun hk hY hr => by
    obtain ⟨Y', o, rfl⟩ : ∃ Y' o, Y = Y' ++ [o] := ⟨Y.dropLast, Y.getLast (by intro h; subst h; simp at hk), (List.dropLast_concat_getLast _).symm⟩
    simp only [List.length_append, List.length_cons, List.length_nil, Nat.zero_add] at hk
    obtain ⟨h1, h2, h3⟩ := hY o (by simp)
    have e0 : a ++ (Y' ++ [o]).map leafOf ++ Z ++ c = (a ++ Y'.map leafOf) ++ leafOf o :: (Z ++ c) := by simp
    have hr' : Rising ((a ++ Y'.map leafOf) ++ leafOf o :: (Z ++ c)) := by rw [← e0]; exact hr
    obtain ⟨m1, m2⟩ := mid_at hr'
    have hl := letterB_range h3
    have hone : unOne d ⟨a ++ (Y' ++ [o]).map leafOf ++ Z ++ c, m⟩ o = (⟨(a ++ Y'.map leafOf) ++ (leafOf o).gone :: (Z ++ c), m.st o.place⟩, true, 0) := by
      unfold unOne
      simp only [e0]
      have m1' : hasAt (a ++ Y'.map leafOf ++ leafOf o :: (Z ++ c)) o.place = true := m1
      have m2' : old (a ++ Y'.map leafOf ++ leafOf o :: (Z ++ c)) o.place = leafOf o := m2
      have m3 : strikeRes (a ++ Y'.map leafOf ++ leafOf o :: (Z ++ c)) o.place = _ := strike_mid hr'
      rw [m1', m2', m3, if_neg (by rintro (h | h); cases h; exact absurd h (by show ¬ o.letter = 0; omega)), if_pos ⟨h2, by unfold seenB leafOf; simp; omega⟩]
    have e1 : (Y' ++ [o]).reverse ++ R = o :: (Y'.reverse ++ R) := by simp
    rw [e1]
    show unGo d (o :: (Y'.reverse ++ R)) _ _ = _
    rw [unGo, if_neg (by omega), if_neg (by rw [h1]; simp), hone, if_neg (by simp), if_pos rfl]
    have e2 : (a ++ Y'.map leafOf) ++ (leafOf o).gone :: (Z ++ c) = a ++ Y'.map leafOf ++ ((leafOf o).gone :: Z) ++ c := by simp
    have hr2 : Rising (a ++ Y'.map leafOf ++ ((leafOf o).gone :: Z) ++ c) := by rw [← e2]; exact gone_rising (c := c) hr'
    have ih := LDoc.unGo_typed d a c k Y' ((leafOf o).gone :: Z) R r (m.st o.place) (by omega) (fun x hx => hY x (by simp [hx])) hr2
    have e3 : (((k + 1 + r : Nat) : Int) - 1) = ((k + r : Nat) : Int) := by omega
    simp only []
    rw [e3, e2, ih]
    have e4 : (Y' ++ [o]).length - (k + 1) = Y'.length - k := by rw [List.length_append, List.length_cons, List.length_nil]; omega
    have e5 : (Y' ++ [o]).take (Y'.length - k) = Y'.take (Y'.length - k) := List.take_append_of_le_length (by omega)
    have e6 : (Y' ++ [o]).drop (Y'.length - k) = Y'.drop (Y'.length - k) ++ [o] := List.drop_append_of_le_length (by omega)
    rw [e4, e5, e6]
    simp [LMk.stAll]
end Go.Proofs.YtngalkmmpjegkaaGreatDoor
/- back's undoer in memory: its cells, its book, its maker, its map of strikes. Conditions: none. -/
namespace Go.Proofs.YtngalkmmpjegkaaGreatDoor
open Go.RowKit
set_option linter.unusedVariables false
def natV (n : Nat) : Value := .int .i64 (n : Int)
structure UnIs (w : World) (B u bm r : Nat) (bk : List LLeaf) (m : LMk) (V : Option Addr) (c : Nat) (ys : List OpAt) (A : Option Addr) (cl : Nat) (kvs : List (ByteArray × Nat)) : Prop where
  blk : Blk w u 143 #[.slice A bk.length cl, .map (some r), .pointer (some ⟨bm, 0, none⟩)]
  book : Own w B 112 3 A bk.length cl (lcells bk)
  mkis : MkIs w B bm m V c ys
  map : MapAt w r Value.string natV kvs
  bu : B ≤ u
  br : B ≤ r
/-- What the map counts. -/
def Cnt (d : List LOp) (kvs : List (ByteArray × Nat)) (mo : List LOp) : Prop := ∀ p, (get p kvs).getD 0 = strk d p + strk mo p
theorem Cnt.plain {d mo : List LOp} {kvs : List (ByteArray × Nat)} (h : Cnt d kvs mo) {o : LOp} (ho : o.what ≠ 2) : Cnt d kvs (mo ++ [o]) := fun p => by
  rw [h p, strk_app]
  simp [strk, ho]
theorem Cnt.strike {d mo : List LOp} {kvs : List (ByteArray × Nat)} (h : Cnt d kvs mo) {o : LOp} (ho : o.what = 2) : Cnt d (ins o.place ((get o.place kvs).getD 0 + 1) kvs) (mo ++ [o]) := fun p => by
  rw [get_ins, strk_app]
  by_cases hp : p = o.place
  · rw [if_pos hp, hp]
    have := h o.place
    simp only [Option.getD_some]
    have e : strk [o] o.place = 1 := by simp [strk, ho]
    omega
  · rw [if_neg hp, h p]
    have e : strk [o] p = 0 := by simp [strk, Ne.symm hp]
    omega
namespace UnIs
variable {w w' : World} {B u bm r : Nat} {bk : List LLeaf} {m : LMk} {V : Option Addr} {c : Nat} {ys : List OpAt} {A : Option Addr} {cl : Nat} {kvs : List (ByteArray × Nat)}
theorem only {T : List Nat} (h : UnIs w B u bm r bk m V c ys A cl kvs) (ho : Only T w w') (hT : ∀ g ∈ T, g < B ∨ w.heap.size ≤ g) : UnIs w' B u bm r bk m V c ys A cl kvs :=
  ⟨ho.blk h.blk (fun hm => by have := hT _ hm; have := h.bu; have := h.blk.lt; omega), h.book.only ho (fun g hg hm => by have := hT _ hm; have := h.book.lt g hg; omega), h.mkis.only ho hT,
    h.map.only ho (fun hm => by have := hT _ hm; have := h.br; have := h.map.lt; omega), h.bu, h.br⟩
theorem below (h : UnIs w B u bm r bk m V c ys A cl kvs) (hb : Below w.heap.size w w') : UnIs w' B u bm r bk m V c ys A cl kvs := h.only (T := []) (Only.of_below hb) (by simp)
theorem u_ne (h : UnIs w B u bm r bk m V c ys A cl kvs) : u ≠ bm := fun e => by
  have h1 := h.blk
  have h2 := h.mkis.blk
  unfold Blk at h1 h2
  rw [e, h2] at h1
  injection h1 with h1
  injection h1 with _ h1
  exact absurd h1 (by decide)
theorem u_row (h : UnIs w B u bm r bk m V c ys A cl kvs) : u ∉ ob V := h.mkis.ops.row.blk_ne h.blk (by decide)
theorem u_book (h : UnIs w B u bm r bk m V c ys A cl kvs) : u ∉ ob A := h.book.blk_ne h.blk (by decide)
theorem m_book (h : UnIs w B u bm r bk m V c ys A cl kvs) : bm ∉ ob A := h.book.blk_ne h.mkis.blk (by decide)
theorem r_u (h : UnIs w B u bm r bk m V c ys A cl kvs) : r ≠ u := h.map.not_blk h.blk
theorem r_m (h : UnIs w B u bm r bk m V c ys A cl kvs) : r ≠ bm := h.map.not_blk h.mkis.blk
theorem r_row (h : UnIs w B u bm r bk m V c ys A cl kvs) : r ∉ ob V := h.map.not_own h.mkis.ops.row
theorem r_book (h : UnIs w B u bm r bk m V c ys A cl kvs) : r ∉ ob A := h.map.not_own h.book
/-- A row of leaves and one of ops have no block in common. -/
theorem book_row (h : UnIs w B u bm r bk m V c ys A cl kvs) : ∀ g ∈ ob A, g ∉ ob V := fun g hg hm => by
  rcases h.mkis.ops.row.2 with ⟨h2, _⟩ | ⟨g', cap, cur, he, _, hh, _⟩
  · injection h2 with h2
    rw [h2] at hm; simp [ob] at hm
  · injection he with he
    rw [he] at hm; simp [ob] at hm; subst hm
    exact h.book.blk_ne (t := 30) (cs := cur) hh (by decide) hg
theorem add {m' : LMk} (h : UnIs w B u bm r bk m V c ys A cl kvs) (ht : MkTo w B bm V m' w') :
    ∃ V' c' ys', UnIs w' B u bm r bk m' V' c' ys' A cl kvs ∧ Only (bm :: ob V) w w' ∧ ∀ g ∈ ob V', g ∈ ob V ∨ w.heap.size ≤ g := by
  obtain ⟨V', c', ys', i1, ho, hn⟩ := ht
  refine ⟨V', c', ys', ⟨ho.blk h.blk (fun hm => ?_), h.book.only ho (fun g hg hm => ?_), i1, h.map.only ho (fun hm => ?_), h.bu, h.br⟩, ho, hn⟩
  · rcases List.mem_cons.1 hm with e | hm
    · exact h.u_ne e
    · exact h.u_row hm
  · rcases List.mem_cons.1 hm with rfl | hm
    · exact h.m_book hg
    · exact h.book_row g hg hm
  · rcases List.mem_cons.1 hm with e | hm
    · exact h.r_m e
    · exact h.r_row hm
theorem put {bk' : List LLeaf} {A' : Option Addr} {cl' : Nat} (h : UnIs w B u bm r bk m V c ys A cl kvs) (hA : Own w B 112 3 A' bk'.length cl' (lcells bk')) :
    UnIs (w.setCell ⟨u, 0, none⟩ (.slice A' bk'.length cl')) B u bm r bk' m V c ys A' cl' kvs ∧ Only [u] w (w.setCell ⟨u, 0, none⟩ (.slice A' bk'.length cl')) := by
  have ho : Only [u] w (w.setCell ⟨u, 0, none⟩ (.slice A' bk'.length cl')) := (Only.refl _ _).setCell (.inl (by simp)) _
  have hu2 : u ∉ ob A' := hA.blk_ne h.blk (by decide)
  refine ⟨⟨h.blk.set_ 0 _, hA.only ho (fun g hg hm => by simp at hm; subst hm; exact hu2 hg), ⟨ho.blk h.mkis.blk (by simpa using h.u_ne.symm), ⟨h.mkis.ops.row.only ho (fun g hg hm => by simp at hm; subst hm; exact h.u_row hg), fun y hy => (h.mkis.ops.seen y hy).only ho (fun g hg hm => by simp at hm; subst hm; exact (h.mkis.ops.seen y hy).blk_ne h.blk (by decide) hg)⟩, h.mkis.same, h.mkis.base⟩, h.map.only ho (by simpa using h.r_u), h.bu, h.br⟩, ho⟩
theorem count {kvs' : List (ByteArray × Nat)} (h : UnIs w B u bm r bk m V c ys A cl kvs) (ho : Only [r] w w') (hm : MapAt w' r Value.string natV kvs') : UnIs w' B u bm r bk m V c ys A cl kvs' := by
  refine ⟨ho.blk h.blk (by simpa using h.r_u.symm), h.book.only ho (fun g hg hm => by simp at hm; subst hm; exact h.r_book hg), ⟨ho.blk h.mkis.blk (by simpa using h.r_m.symm), ⟨h.mkis.ops.row.only ho (fun g hg hm => by simp at hm; subst hm; exact h.r_row hg), fun y hy => (h.mkis.ops.seen y hy).only ho (fun g hg hm => by simp at hm; subst hm; exact h.map.not_own (h.mkis.ops.seen y hy) hg)⟩, h.mkis.same, h.mkis.base⟩, hm, h.bu, h.br⟩
end UnIs
/-- The undoer goes on. -/
def UnTo (w : World) (B u bm r : Nat) (V : Option Addr) (d : List LOp) (U : LU) (w' : World) : Prop :=
  ∃ V' c' ys' A' cl' kvs', UnIs w' B u bm r U.book U.mak V' c' ys' A' cl' kvs' ∧ Cnt d kvs' U.mak.ops ∧ Only (u :: bm :: r :: ob V) w w' ∧ ∀ g ∈ ob V', g ∈ ob V ∨ w.heap.size ≤ g
theorem keyS : KeyOk Tryz.prog 9 Value.string := strKey Tryz.underlying9
theorem zero_int (w : World) : (zeroValue 3).run Tryz.prog w = .ok (.int .i64 0) w := by kernel_rfl
theorem UnIs.look {w : World} {B u bm r : Nat} {bk : List LLeaf} {m : LMk} {V : Option Addr} {c : Nat} {ys : List OpAt} {A : Option Addr} {cl : Nat} {kvs : List (ByteArray × Nat)} (h : UnIs w B u bm r bk m V c ys A cl kvs) (p : ByteArray) :
    (Instr.lookup 141 (.map (some r)) (.string p) false).run Tryz.prog w = .ok (.int .i64 ((get p kvs).getD 0 : Nat)) w := by
  have := lookup_run keyS Tryz.underlying141 zero_int h.map p
  cases hg : get p kvs with
  | none => rw [hg] at this; exact this
  | some v => rw [hg] at this; exact this
end Go.Proofs.YtngalkmmpjegkaaGreatDoor
/- (*undoer).anew, walked. Conditions: the book is right; the maker's number is small. -/
namespace Go.Proofs.YtngalkmmpjegkaaGreatDoor
open Go.RowKit
set_option linter.unusedVariables false
set_option maxRecDepth 100000 in
set_option maxHeartbeats 400000 in
theorem mkWho_any (w : World) (b : Nat) (who : Int) (h : w.cell? ⟨b, 0, none⟩ = some (.int .i64 who)) :
    Calls Tryz.prog 141 #[.pointer (some ⟨b, 0, none⟩)] w (CheckPost w (.int .i64 who)) := by
  go_enter Tryz.func141, Tryz.ntmps141
  go_wp2_with fail
  go_ret
  exact ⟨rfl, by first | exact Below.refl _ _ | exact (Below.refl _ _).drew⟩
def UnPost (w : World) (B u bm r : Nat) (V : Option Addr) (d : List LOp) (x : LU × Int) (e : Ending) (w' : World) : Prop := e = .returned (errV x.2) ∧ UnTo w B u bm r V d x.1 w'
/-- What stays, while only the maker and its row turn. -/
structure NewMid (w : World) (B u bm r : Nat) (V : Option Addr) (d : List LOp) (bk : List LLeaf) (m : LMk) (A : Option Addr) (cl : Nat) (w1 : World) : Prop where
  un : ∃ V' c' ys' kvs', UnIs w1 B u bm r bk m V' c' ys' A cl kvs' ∧ Cnt d kvs' m.ops ∧ Only (u :: bm :: r :: ob V) w w1 ∧ (∀ g ∈ ob V', g ∈ ob V ∨ w.heap.size ≤ g)
theorem NewMid.below {w w1 w2 : World} {B u bm r : Nat} {V : Option Addr} {d : List LOp} {bk : List LLeaf} {m : LMk} {A : Option Addr} {cl : Nat} (h : NewMid w B u bm r V d bk m A cl w1) (hb : Below w1.heap.size w1 w2) : NewMid w B u bm r V d bk m A cl w2 := by
  obtain ⟨V', c', ys', kvs', h1, h2, h3, h4⟩ := h.un
  exact ⟨V', c', ys', kvs', h1.below hb, h2, h3.below_step hb, h4⟩
theorem NewMid.drewN {w w1 : World} {B u bm r : Nat} {V : Option Addr} {d : List LOp} {bk : List LLeaf} {m : LMk} {A : Option Addr} {cl : Nat} (h : NewMid w B u bm r V d bk m A cl w1) (n : Nat) : NewMid w B u bm r V d bk m A cl (w1.drewN n) := h.below (below_drewN (Below.refl _ _) n)
theorem NewMid.cells {w w1 : World} {B u bm r : Nat} {V : Option Addr} {d : List LOp} {bk : List LLeaf} {m : LMk} {A : Option Addr} {cl : Nat} (h : NewMid w B u bm r V d bk m A cl w1) :
    w1.cell? ⟨u, 0, none⟩ = some (.slice A bk.length cl) ∧ w1.cell? ⟨u, 1, none⟩ = some (.map (some r)) ∧ w1.cell? ⟨u, 2, none⟩ = some (.pointer (some ⟨bm, 0, none⟩)) ∧ w1.frozen? ⟨u, 0, none⟩ = false := by
  obtain ⟨V', c', ys', kvs', h1, _⟩ := h.un
  exact ⟨by rw [h1.blk.cell]; rfl, by rw [h1.blk.cell]; rfl, by rw [h1.blk.cell]; rfl, h1.blk.frozen 0⟩
theorem NewMid.reads {w w1 : World} {B u bm r : Nat} {V : Option Addr} {d : List LOp} {bk : List LLeaf} {m : LMk} {A : Option Addr} {cl : Nat} (h : NewMid w B u bm r V d bk m A cl w1) : Reads w1 w1.heap.size 3 A bk.length (lcells bk) := by
  obtain ⟨V', c', ys', kvs', h1, _⟩ := h.un
  exact h1.book.reads
theorem NewMid.to {w w1 : World} {B u bm r : Nat} {V : Option Addr} {d : List LOp} {bk : List LLeaf} {m : LMk} {A : Option Addr} {cl : Nat} (h : NewMid w B u bm r V d bk m A cl w1) : UnTo w B u bm r V d ⟨bk, m⟩ w1 := by
  obtain ⟨V', c', ys', kvs', h1, h2, h3, h4⟩ := h.un
  exact ⟨V', c', ys', A, cl, kvs', h1, h2, h3, h4⟩
theorem NewMid.put {w w1 : World} {B u bm r : Nat} {V : Option Addr} {d : List LOp} {bk bk' : List LLeaf} {m : LMk} {A A' : Option Addr} {cl cl' : Nat} (h : NewMid w B u bm r V d bk m A cl w1) (hA : Own w1 B 112 3 A' bk'.length cl' (lcells bk')) :
    NewMid w B u bm r V d bk' m A' cl' (w1.setCell ⟨u, 0, none⟩ (.slice A' bk'.length cl')) := by
  obtain ⟨V', c', ys', kvs', h1, h2, h3, h4⟩ := h.un
  obtain ⟨p1, p2⟩ := h1.put hA
  exact ⟨V', c', ys', kvs', p1, h2, h3.trans (p2.mono (fun i hi => by simp at hi; subst hi; exact .inl (by simp))), h4⟩
theorem NewMid.size {w w1 : World} {B u bm r : Nat} {V : Option Addr} {d : List LOp} {bk : List LLeaf} {m : LMk} {A : Option Addr} {cl : Nat} (h : NewMid w B u bm r V d bk m A cl w1) : w.heap.size ≤ w1.heap.size := by
  obtain ⟨V', c', ys', kvs', h1, h2, h3, h4⟩ := h.un
  exact h3.size
/-- An op is put into the maker: the contract from here. -/
theorem NewMid.adds {w w1 : World} {B u bm r : Nat} {V : Option Addr} {d : List LOp} {bk : List LLeaf} {m : LMk} {A : Option Addr} {cl : Nat} (h : NewMid w B u bm r V d bk m A cl w1) (hB : B ≤ w.heap.size) (o : LOp) (hs : o.seen = []) (hw : o.what ≠ 2)
    (hn0 : -1000000 ≤ m.n) (hn : m.n ≤ 1000000) (hl : m.ops.length ≤ 100000) :
    Calls Tryz.prog 110 #[.pointer (some ⟨bm, 0, none⟩), o.val none 0] w1 (fun e w' => e = .returned (.tuple #[]) ∧ NewMid w B u bm r V d bk (m.add o) A cl w') := by
  obtain ⟨V', c', ys', kvs', h1, h2, h3, h4⟩ := h.un
  have hsz := h3.size
  refine (mkAdd_any w1 B bm m V' c' ys' h1.mkis (by omega) o none 0 (by rw [hs]; exact Own.nil _ _ _ _) hn0 hn (by have := h1.mkis.len; omega)).mono ?_
  rintro e w' ⟨rfl, ht⟩
  obtain ⟨V2, c2, ys2, u2, o2, n2⟩ := h1.add ht
  refine ⟨rfl, V2, c2, ys2, kvs', u2, h2.plain (o := m.put o) hw, h3.trans_new o2 (fun i hi => ?_), fun g hg => ?_⟩
  · rcases List.mem_cons.1 hi with rfl | hi
    · exact .inl (by simp)
    · rcases h4 i hi with h | h
      · exact .inl (by simp [h])
      · exact .inr (by omega)
  · rcases n2 g hg with h | h
    · exact h4 g h
    · exact .inr (by omega)
end Go.Proofs.YtngalkmmpjegkaaGreatDoor
/- (*undoer).anew, walked (the walk). Conditions: the book is right; the maker's number is small. -/
namespace Go.Proofs.YtngalkmmpjegkaaGreatDoor
open Go.RowKit
set_option linter.unusedVariables false
theorem right_small {l : List LLeaf} (ok : BookOk l) (i : Nat) : (rightOf l i).size ≤ 9223372036854775807 := by
  unfold rightOf
  split
  · rename_i h
    rw [List.getD, List.getElem?_eq_getElem h]
    have := place_small ((ok.leafs _ (List.getElem_mem h)).place)
    simp; omega
  · exact Nat.zero_le _
theorem bk_sized {l : List LLeaf} (ok : BookOk l) : Sized l := fun x hx => by
  have := place_small ((ok.leafs x hx).place)
  omega
theorem next_small (m : LMk) (a b : ByteArray) : (m.next a b).size ≤ 9223372036854775807 := by
  unfold LMk.next
  rw [strOf_size]
  unfold betweenRes
  split
  · have := quarter_le a b
    simp; omega
  · simp
theorem at_old {l : List LLeaf} {p : ByteArray} (h : hasAt l p = true) : ∃ hi : ahead l p < l.length, l[ahead l p] = old l p ∧ (old l p).place = p := by
  refine ⟨hasAt_lt h, ?_, old_place l p⟩
  unfold old leafAt
  rw [if_pos h]
  simp [List.getD, hasAt_lt h]
set_option maxRecDepth 100000 in
set_option maxHeartbeats 8000000 in
theorem anew_any (W0 w : World) (B u bm r : Nat) (V : Option Addr) (d : List LOp) (bk : List LLeaf) (m : LMk) (A : Option Addr) (cl : Nat) (h : NewMid W0 B u bm r V d bk m A cl w) (hB : B ≤ W0.heap.size) (ok : BookOk bk) (p : ByteArray) (hp : hasAt bk p = true)
    (hn0 : 0 ≤ m.n) (hn : m.n ≤ 900000) (hl : m.ops.length ≤ 90000) :
    Calls Tryz.prog 111 #[.pointer (some ⟨u, 0, none⟩), .int .i64 (ahead bk p : Int)] w (UnPost W0 B u bm r V d (LDoc.unNew ⟨bk, m⟩ p)) := by
  have HH := Lib.hid h
  have HOK := Lib.hid ok
  have hll := ok.few
  obtain ⟨hi, e1, e2⟩ := at_old hp
  have HC := Lib.hid (fun W (hW : NewMid W0 B u bm r V d bk m A cl W) => hW.cells)
  have HL := Lib.hid (fun W (hW : NewMid W0 B u bm r V d bk m A cl W) j (hj : j < bk.length) => hW.reads.leaf hj)
  have HC' := Lib.hid (fun m' W (hW : NewMid W0 B u bm r V d bk m' A cl W) => hW.cells)
  have HL' := Lib.hid (fun m' W (hW : NewMid W0 B u bm r V d bk m' A cl W) j (hj : j < bk.length) => hW.reads.leaf hj)
  have HPS : Hid (p.size ≤ 9223372036854775807) := by
    show _ ≤ _
    have h3 := (ok.leafs _ (List.getElem_mem hi)).place
    rw [e1, e2] at h3
    have := place_small h3
    omega
  have HRS := Lib.hid (right_small ok (ahead bk p + 1))
  have HNS := Lib.hid (next_small m p (rightOf bk (ahead bk p + 1)))
  have HBE := Lib.hid (fun W => between_any W p (rightOf bk (ahead bk p + 1)) m.who HPS.out HRS.out)
  have HWHO : Hid (∀ W, NewMid W0 B u bm r V d bk m A cl W → Calls Tryz.prog 141 #[.pointer (some ⟨bm, 0, none⟩)] W (CheckPost W (.int .i64 m.who))) := fun W hW => mkWho_any W bm m.who (by obtain ⟨V', c', ys', kvs', h1, _⟩ := hW.un; rw [h1.mkis.blk.cell]; rfl)
  have HADD := Lib.hid (fun W (hW : NewMid W0 B u bm r V d bk m A cl W) lt => hW.adds hB ⟨⟨0, 0⟩, 1, m.next p (rightOf bk (ahead bk p + 1)), lt, []⟩ rfl (show (1 : Int) ≠ 2 by decide) (by omega) (by omega) (by omega))
  have HWR := Lib.hid (fun m' W (hW : NewMid W0 B u bm r V d bk m' A cl W) lt => write_any W A cl bk (m.next p (rightOf bk (ahead bk p + 1))) lt hW.reads (bk_sized ok) (by omega) HNS.out)
  have HUB : Hid (betweenErr p (rightOf bk (ahead bk p + 1)) m.who ≠ 0 → LDoc.unNew ⟨bk, m⟩ p = (⟨bk, m⟩, betweenErr p (rightOf bk (ahead bk p + 1)) m.who)) := fun h => if_pos h
  have HUG : Hid (betweenErr p (rightOf bk (ahead bk p + 1)) m.who = 0 → LDoc.unNew ⟨bk, m⟩ p =
      (⟨if writeErr bk (m.next p (rightOf bk (ahead bk p + 1))) (old bk p).letter = 0 then writeRes bk (m.next p (rightOf bk (ahead bk p + 1))) (old bk p).letter else bk, m.wr (m.next p (rightOf bk (ahead bk p + 1))) (old bk p).letter⟩, writeErr bk (m.next p (rightOf bk (ahead bk p + 1))) (old bk p).letter)) := fun h => if_neg (by simp [h])
  obtain ⟨i, hie⟩ : ∃ i, i = ahead bk p := ⟨_, rfl⟩
  have HRO : Hid (∀ (h : i + 1 < bk.length), rightOf bk (i + 1) = bk[i + 1].place) := fun h => by unfold rightOf; rw [if_pos h]; simp [List.getD, h]
  have HRN : Hid (¬ i + 1 < bk.length → rightOf bk (i + 1) = ⟨#[]⟩) := fun h => by unfold rightOf; rw [if_neg h]
  rw [← hie] at HUB HUG HWR HADD HBE HRS HNS ⊢
  have hi2 : i < bk.length := by rw [hie]; exact hi
  have HE : Hid (bk[i] = old bk p) := by show _ = _; subst hie; exact e1
  have HE2 := Lib.hid e2
  clear hie hi e1 e2 h ok
  generalize hright : rightOf bk (i + 1) = right at *
  clear hright
  obtain ⟨⟨px, lt, st⟩, hx⟩ : ∃ x, x = old bk p := ⟨_, rfl⟩
  rw [← hx] at HE HE2 HUG
  clear hx
  have HE2' : Hid (px = p) := HE2.out
  have hpx := HE2'.out
  subst hpx
  clear HE2 HE2'
  generalize hnx : m.next px right = nx at *
  have HNX : Hid (strOf (betweenRes px right m.who) = nx) := hnx
  clear hnx
  have i0 : (0 : Int) ≤ (i : Int) := by omega
  have i1 : (i : Int) < (bk.length : Int) := by omega
  have q1 : IntKind.i64.wrap ((i : Int) + 1) = ((i + 1 : Nat) : Int) := by rw [IntWalk.i64_in _ (by omega)]; omega
  obtain ⟨c0, c1, c2, f0⟩ := HC.out _ HH.out
  go_enter Tryz.func111, Tryz.ntmps111
  go_upto_if 16 with (fail)
  go_cut [5] (fun a wx => a = .string right ∧ wx = w)
  case first =>
    by_cases h1 : i + 1 < bk.length
    · obtain ⟨ad, rfl, _, d0, _, _⟩ := HL.out _ HH.out _ h1
      have n0 : (0 : Int) ≤ ((i + 1 : Nat) : Int) := by omega
      have n1 : ((i + 1 : Nat) : Int) < (bk.length : Int) := by omega
      rw [← HRO.out h1] at d0
      go_wp2_with fail
      go_meet
      case rel => exact ⟨rfl, rfl⟩
    · have n1 : ¬ ((i + 1 : Nat) : Int) < (bk.length : Int) := by omega
      have HE0 := Lib.hid (HRN.out h1)
      go_wp2_with fail
      go_meet
      case rel => exact ⟨by rw [HE0.out], rfl⟩
  case rest =>
    obtain ⟨rfl, hwc⟩ := hcut
    obtain rfl := hwc.symm
    clear HRO HRN q1
    obtain ⟨ad, rfl, _, d0, d1, d2⟩ := HL.out _ HH.out _ hi2
    rw [HE.out] at d0 d1 d2
    have HLX : Hid (∀ m' W, NewMid W0 B u bm r V d bk m' (some ad) cl W → W.cell? (ad.add (i * 3)) = some (.string px) ∧ W.cell? ⟨(ad.add (i * 3)).block, (ad.add (i * 3)).off + 1, none⟩ = some (.int .i64 lt)) := fun m' W hW => by
      obtain ⟨ad', e, _, k0, k1, _⟩ := HL'.out m' W hW _ hi2
      rw [HE.out] at k0 k1
      cases e
      exact ⟨k0, k1⟩
    clear HL HL' HE
    go_upto_region 4 with (fail)
    go_cut [6, 7] (fun a b wx => a = .string (strOf (betweenRes px right m.who)) ∧ b = errV (betweenErr px right m.who) ∧ Hid (NewMid W0 B u bm r V d bk m (some ad) cl wx))
    case first =>
      go_region_held3 (fun w' => w'.cell? ⟨u, 0, none⟩ = some (.slice (some ad) bk.length cl) ∧ w'.cell? ⟨u, 2, none⟩ = some (.pointer (some ⟨bm, 0, none⟩)) ∧ w'.cell? (ad.add (i * 3)) = some (.string px))
        (first | go_keep | (refine ⟨?_, ?_, ?_⟩ <;> assumption))
        (first
          | (go_at_call 141; refine (HWHO.out _ (by first | exact HH.out | exact HH.out.drewN _)).mono ?_; rintro e w1 ⟨rfl, hb1⟩
             have HM1 := Lib.hid (HH.out.below (by first | exact hb1 | exact below_of_drewN (n := 1) hb1))
             obtain ⟨t0, t1, t2, t3⟩ := HC.out _ HM1.out
             obtain ⟨t4, t5⟩ := HLX.out _ _ HM1.out
             clear hb1 c0 c1 c2 f0 d0 d1 d2)
          | (go_at_call 124; refine (HBE.out _).mono ?_; rintro e w2 ⟨rfl, hb2⟩
             have HM2 := Lib.hid (HM1.out.below (by first | exact hb2 | exact below_of_drewN (n := 1) hb2))
             obtain ⟨s0, s1, s2, s3⟩ := HC.out _ HM2.out
             obtain ⟨s4, s5⟩ := HLX.out _ _ HM2.out
             clear hb2 t0 t1 t2 t3 t4 t5))
      all_goals
        go_wp2_with fail
        go_meet
        case rel => exact ⟨rfl, rfl, HM2⟩
    case rest =>
      obtain ⟨rfl, rfl, HM⟩ := hcut
      clear HWHO HBE HC d0 d1 d2 c0 c1 c2 f0
      by_cases he : betweenErr px right m.who ≠ 0
      · have HV := Lib.hid (errV_ne he)
        have HF := Lib.hid (HUB.out he)
        clear he HUB HUG HNX
        generalize strOf (betweenRes px right m.who) = nn at *
        generalize betweenErr px right m.who = ke at *
        rw [HV.out]
        go_wp2_with fail
        go_ret
        exact ⟨by rw [HF.out, HV.out]; rfl, by rw [HF.out]; exact HM.out.to⟩
      · have he0 : betweenErr px right m.who = 0 := by omega
        have HF := Lib.hid (HUG.out he0)
        have HE0 : errV 0 = .nilIface := rfl
        rw [he0, HE0, HNX.out]
        clear he he0 HUB HUG HNX
        obtain ⟨c0, c1, c2, f0⟩ := HC'.out _ _ HM.out
        obtain ⟨d0, d1⟩ := HLX.out _ _ HM.out
        have HA := Lib.hid (HADD.out _ HM.out lt)
        unfold LOp.val at HA
        have HAX : Hid (∀ W, NewMid W0 B u bm r V d bk m (some ad) cl W → Calls _ _ _ _ _) := fun W hW => HADD.out W hW lt
        unfold LOp.val at HAX
        clear HA
        go_upto_region 7 with (fail)
        go_cut [] (fun wx => Hid (NewMid W0 B u bm r V d bk (m.wr nx lt) (some ad) cl wx))
        case first =>
          go_region_held3 (fun w' => w'.cell? ⟨u, 0, none⟩ = some (.slice (some ad) bk.length cl) ∧ w'.cell? ⟨u, 2, none⟩ = some (.pointer (some ⟨bm, 0, none⟩)) ∧ w'.cell? ⟨(ad.add (i * 3)).block, (ad.add (i * 3)).off + 1, none⟩ = some (.int .i64 lt))
            (first | go_keep | (refine ⟨?_, ?_, ?_⟩ <;> assumption))
            ((go_at_call 110; refine (HAX.out _ (by first | exact HM.out | exact HM.out.drewN _)).mono ?_; rintro e w3 ⟨rfl, hm⟩
              have HM3 := Lib.hid hm
              obtain ⟨t0, t1, t2, t3⟩ := HC'.out _ _ HM3.out
              obtain ⟨t4, t5⟩ := HLX.out _ _ HM3.out
              clear hm c0 c1 c2 f0 d0 d1))
          all_goals
            go_wp2_with fail
            go_meet
            case rel => first | exact HM3 | exact Lib.hid (HM3.out.drewN _)
        case rest =>
        have HM3 := Lib.hid hcut
        obtain ⟨w3, hw3⟩ : ∃ x : World, x = wc := ⟨_, rfl⟩
        rw [← hw3] at HM3 ⊢
        clear hcut hw3 HADD HAX c0 c1 c2 f0 d0 d1 HM
        obtain ⟨c0, c1, c2, f0⟩ := HC'.out _ _ HM3.out
        obtain ⟨d0, d1⟩ := HLX.out _ _ HM3.out
        have HW := Lib.hid (HWR.out _ w3 HM3.out lt)
        have HWY := Lib.hid (fun W (hW : NewMid W0 B u bm r V d bk (m.wr nx lt) (some ad) cl W) => HWR.out _ W hW lt)
        clear HWR HW
        go_upto_region 8 with (fail)
        go_cut [7, 8] (fun a b wx => ∃ V4 c4, a = errV (writeErr bk nx lt) ∧ b = .slice V4 (giveL (writeErr bk nx lt) (writeRes bk nx lt)).length c4 ∧ Hid (NewMid W0 B u bm r V d bk (m.wr nx lt) (some ad) cl wx) ∧ Hid (Own wx B 112 3 V4 (giveL (writeErr bk nx lt) (writeRes bk nx lt)).length c4 (lcells (giveL (writeErr bk nx lt) (writeRes bk nx lt)))))
        case first =>
          go_region_held3 (fun w' => w'.cell? ⟨u, 0, none⟩ = some (.slice (some ad) bk.length cl) ∧ w'.cell? ⟨(ad.add (i * 3)).block, (ad.add (i * 3)).off + 1, none⟩ = some (.int .i64 lt))
            (first | go_keep | (refine ⟨?_, ?_⟩ <;> assumption))
            ((go_at_call 103; refine (HWY.out _ (by first | exact HM3.out | exact HM3.out.drewN _)).mono ?_; rintro e w4 ⟨V4, c4, rfl, hO, hb4⟩
              have HM4 := Lib.hid (NewMid.below (by first | exact HM3.out | exact HM3.out.drewN _) hb4)
              have HO := Lib.hid (hO.mono (show B ≤ _ by have := HM3.out.size; simp; omega))
              obtain ⟨t0, t1, t2, t3⟩ := HC'.out _ _ HM4.out
              obtain ⟨t4, t5⟩ := HLX.out _ _ HM4.out
              clear hb4 hO c0 c1 c2 f0 d0 d1))
          all_goals
            go_wp2_with fail
            go_meet
            case rel => exact ⟨_, _, rfl, rfl, HM4, HO⟩
        case rest =>
        obtain ⟨V4, c4, rfl, rfl, HM4, HO⟩ := hcut
        obtain ⟨w4, hw4⟩ : ∃ x : World, x = wc := ⟨_, rfl⟩
        rw [← hw4] at HM4 HO ⊢
        clear hw4 HWY HM3 c0 c1 c2 f0 d0 d1
        obtain ⟨c0, c1, c2, f0⟩ := HC'.out _ _ HM4.out
        by_cases hw : writeErr bk nx lt = 0
        · rw [hw] at HF HO ⊢
          rw [if_pos rfl] at HF
          have HG : Hid (giveL 0 (writeRes bk nx lt) = writeRes bk nx lt) := if_pos rfl
          rw [HG.out] at HO ⊢
          rw [HE0]
          have HP := Lib.hid (HM4.out.put HO.out)
          clear hw HG HO
          generalize writeRes bk nx lt = bk2 at *
          go_wp2_with fail
          go_ret
          exact ⟨by rw [HF.out]; rfl, by rw [HF.out]; exact HP.out.to⟩
        · have HV := Lib.hid (errV_ne hw)
          have HF2 : Hid (LDoc.unNew ⟨bk, m⟩ px = (⟨bk, m.wr nx lt⟩, writeErr bk nx lt)) := by show _ = _; rw [HF.out, if_neg hw]
          have HG : Hid (giveL (writeErr bk nx lt) (writeRes bk nx lt) = []) := if_neg hw
          rw [HG.out]
          clear hw HF HO HG
          generalize writeErr bk nx lt = ke at *
          rw [HV.out]
          go_wp2_with fail
          go_ret
          exact ⟨by rw [HF2.out, HV.out]; rfl, by rw [HF2.out]; exact HM4.out.to⟩
end Go.Proofs.YtngalkmmpjegkaaGreatDoor
/- (*undoer).one, walked. Conditions: the book is right; the maker's number is small; so are the ops many. -/
namespace Go.Proofs.YtngalkmmpjegkaaGreatDoor
open Go.RowKit
set_option linter.unusedVariables false
theorem strk_le (l : List LOp) (p : ByteArray) : strk l p ≤ l.length := List.length_filter_le _ _
theorem UnTo.base {w WX w' : World} {B u bm r : Nat} {V : Option Addr} {d : List LOp} {U : LU} (hb : Below w.heap.size w WX) (h : UnTo WX B u bm r V d U w') : UnTo w B u bm r V d U w' := by
  obtain ⟨V', c', ys', A', cl', kvs', h1, h2, h3, h4⟩ := h
  have := hb.size
  exact ⟨V', c', ys', A', cl', kvs', h1, h2, (Only.of_below hb).trans h3, fun g hg => by
    rcases h4 g hg with h | h
    · exact .inl h
    · exact .inr (by omega)⟩
/-- The strike is said, and not counted yet. -/
structure StMid (w : World) (B u bm r : Nat) (V : Option Addr) (d : List LOp) (bk : List LLeaf) (m m' : LMk) (A : Option Addr) (cl : Nat) (w1 : World) : Prop where
  un : ∃ V' c' ys' kvs', UnIs w1 B u bm r bk m' V' c' ys' A cl kvs' ∧ Cnt d kvs' m.ops ∧ Only (u :: bm :: r :: ob V) w w1 ∧ (∀ g ∈ ob V', g ∈ ob V ∨ w.heap.size ≤ g)
namespace StMid
variable {w w1 w2 : World} {B u bm r : Nat} {V : Option Addr} {d : List LOp} {bk : List LLeaf} {m m' : LMk} {A : Option Addr} {cl : Nat}
theorem below (h : StMid w B u bm r V d bk m m' A cl w1) (hb : Below w1.heap.size w1 w2) : StMid w B u bm r V d bk m m' A cl w2 := by
  obtain ⟨V', c', ys', kvs', h1, h2, h3, h4⟩ := h.un
  exact ⟨V', c', ys', kvs', h1.below hb, h2, h3.below_step hb, h4⟩
theorem drewN (h : StMid w B u bm r V d bk m m' A cl w1) (n : Nat) : StMid w B u bm r V d bk m m' A cl (w1.drewN n) := h.below (below_drewN (Below.refl _ _) n)
theorem cells (h : StMid w B u bm r V d bk m m' A cl w1) : w1.cell? ⟨u, 0, none⟩ = some (.slice A bk.length cl) ∧ w1.cell? ⟨u, 1, none⟩ = some (.map (some r)) ∧ w1.cell? ⟨u, 2, none⟩ = some (.pointer (some ⟨bm, 0, none⟩)) := by
  obtain ⟨V', c', ys', kvs', h1, _⟩ := h.un
  exact ⟨by rw [h1.blk.cell]; rfl, by rw [h1.blk.cell]; rfl, by rw [h1.blk.cell]; rfl⟩
theorem box {k : Nat} {t : TypeId} {cs : Array Value} (h : StMid w B u bm r V d bk m m' A cl w1) (hb : Blk w k t cs) (hk : k ∉ u :: bm :: r :: ob V) : Blk w1 k t cs := by
  obtain ⟨V', c', ys', kvs', h1, h2, h3, h4⟩ := h.un
  exact h3.blk hb hk
/-- The strike is counted. -/
theorem count {p : ByteArray} (h : StMid w B u bm r V d bk m (m.st p) A cl w1) (hd : d.length ≤ 100000) (hm : m.ops.length ≤ 100000) : ∃ n : Nat, ∃ w2, n ≤ 200000 ∧
    (Instr.lookup 141 (.map (some r)) (.string p) false).run Tryz.prog w1 = .ok (.int .i64 (n : Int)) w1 ∧
    (Instr.mapUpdate 141 (.map (some r)) (.string p) (.int .i64 ((n + 1 : Nat) : Int))).run Tryz.prog w1 = .ok () w2 ∧ NewMid w B u bm r V d bk (m.st p) A cl w2 := by
  obtain ⟨V', c', ys', kvs', h1, h2, h3, h4⟩ := h.un
  obtain ⟨w2, hu, hmp, ho⟩ := update_run keyS Tryz.underlying141 h1.map p ((get p kvs').getD 0 + 1)
  refine ⟨(get p kvs').getD 0, w2, ?_, h1.look p, hu, V', c', ys', ins p ((get p kvs').getD 0 + 1) kvs', h1.count ho hmp, ?_, ?_, h4⟩
  · rw [h2 p]
    have := strk_le d p
    have := strk_le m.ops p
    omega
  · exact h2.strike (o := m.put ⟨⟨0, 0⟩, 2, p, 0, []⟩) rfl
  · exact h3.trans (ho.mono (fun i hi => by simp at hi; subst hi; exact .inl (by simp)))
end StMid
theorem NewMid.box {w w1 : World} {B u bm r : Nat} {V : Option Addr} {d : List LOp} {bk : List LLeaf} {m : LMk} {A : Option Addr} {cl : Nat} {k : Nat} {t : TypeId} {cs : Array Value} (h : NewMid w B u bm r V d bk m A cl w1) (hb : Blk w k t cs) (hk : k ∉ u :: bm :: r :: ob V) : Blk w1 k t cs := by
  obtain ⟨V', c', ys', kvs', h1, h2, h3, h4⟩ := h.un
  exact h3.blk hb hk
theorem NewMid.looks {w w1 : World} {B u bm r : Nat} {V : Option Addr} {d : List LOp} {bk : List LLeaf} {m : LMk} {A : Option Addr} {cl : Nat} (h : NewMid w B u bm r V d bk m A cl w1) (p : ByteArray) :
    (Instr.lookup 141 (.map (some r)) (.string p) false).run Tryz.prog w1 = .ok (.int .i64 ((strk d p + strk m.ops p : Nat) : Int)) w1 := by
  obtain ⟨V', c', ys', kvs', h1, h2, h3, h4⟩ := h.un
  rw [← h2 p]
  exact h1.look p
theorem NewMid.strikes {w w1 : World} {B u bm r : Nat} {V : Option Addr} {d : List LOp} {bk : List LLeaf} {m : LMk} {A : Option Addr} {cl : Nat} (h : NewMid w B u bm r V d bk m A cl w1) (hB : B ≤ w.heap.size) (p : ByteArray)
    (hn0 : -1000000 ≤ m.n) (hn : m.n ≤ 1000000) (hl : m.ops.length ≤ 100000) :
    Calls Tryz.prog 110 #[.pointer (some ⟨bm, 0, none⟩), LOp.val ⟨⟨0, 0⟩, 2, p, 0, []⟩ none 0] w1 (fun e w' => e = .returned (.tuple #[]) ∧ StMid w B u bm r V d bk m (m.st p) A cl w') := by
  obtain ⟨V', c', ys', kvs', h1, h2, h3, h4⟩ := h.un
  have hsz := h3.size
  refine (mkAdd_any w1 B bm m V' c' ys' h1.mkis (by omega) ⟨⟨0, 0⟩, 2, p, 0, []⟩ none 0 (Own.nil _ _ _ _) hn0 hn (by have := h1.mkis.len; omega)).mono ?_
  rintro e w' ⟨rfl, ht⟩
  obtain ⟨V2, c2, ys2, u2, o2, n2⟩ := h1.add ht
  refine ⟨rfl, V2, c2, ys2, kvs', u2, h2, h3.trans_new o2 (fun i hi => ?_), fun g hg => ?_⟩
  · rcases List.mem_cons.1 hi with rfl | hi
    · exact .inl (by simp)
    · rcases h4 i hi with h | h
      · exact .inl (by simp [h])
      · exact .inr (by omega)
  · rcases n2 g hg with h | h
    · exact h4 g h
    · exact .inr (by omega)
theorem NewMid.start {w : World} {B u bm r : Nat} {V : Option Addr} {d : List LOp} {bk : List LLeaf} {m : LMk} {A : Option Addr} {c cl : Nat} {ys : List OpAt} {kvs : List (ByteArray × Nat)} (h : UnIs w B u bm r bk m V c ys A cl kvs) (hc : Cnt d kvs m.ops) : NewMid w B u bm r V d bk m A cl w :=
  ⟨V, c, ys, kvs, h, hc, Only.refl _ _, fun g hg => .inl hg⟩
theorem UnIs.small {w : World} {B u bm r : Nat} {bk : List LLeaf} {m : LMk} {V : Option Addr} {c : Nat} {ys : List OpAt} {A : Option Addr} {cl : Nat} {kvs : List (ByteArray × Nat)} (h : UnIs w B u bm r bk m V c ys A cl kvs) : w.heap.size ∉ u :: bm :: r :: ob V := fun hm => by
  have h1 := h.blk.lt
  have h2 := h.mkis.blk.lt
  have h3 := h.map.lt
  rcases List.mem_cons.1 hm with e | hm
  · omega
  · rcases List.mem_cons.1 hm with e | hm
    · omega
    · rcases List.mem_cons.1 hm with e | hm
      · omega
      · have := (h.mkis.ops.row.lt _ hm).2
        omega
def OnePost (w : World) (B u bm r : Nat) (V : Option Addr) (d : List LOp) (x : LU × Bool × Int) (e : Ending) (w' : World) : Prop := e = .returned (.tuple #[.bool x.2.1, errV x.2.2]) ∧ UnTo w B u bm r V d x.1 w'
end Go.Proofs.YtngalkmmpjegkaaGreatDoor
