/- A cache of texts: what it holds, from the one that was asked for the longest time ago. Plain, and how it lies in memory. Conditions: none. -/
import Derived.Test.YtgjhkblnohcppaaDoorStrDel
import Derived.Test.YtgjhkblnohcppaaDoorStrMap
namespace Go.Proofs.YtgjhkblnohcppaaDoor
open Go.RowKit
set_option linter.unusedVariables false
abbrev Kept := ByteArray × ByteArray
def sumK (m : List Kept) : Int := (m.map fun x => (x.2.size : Int)).sum
def offK (p : ByteArray) (m : List Kept) : List Kept := m.filter fun x => StrDel.keepB p x.1
def onK (p t : ByteArray) (m : List Kept) : List Kept := offK p m ++ [(p, t)]
def valK (p : ByteArray) (m : List Kept) : ByteArray := (get p m).getD ⟨#[]⟩
/-- Those that stay: as many as have room. -/
def fitK (bud : Int) : List Kept → List Kept
  | [] => []
  | x :: m => if bud < sumK (x :: m) then fitK bud m else x :: m
theorem inK {p q : ByteArray} (h : q.toList = p.toList) : q = p := by
  rw [ByteArray.toList_eq, ByteArray.toList_eq] at h
  rcases p with ⟨⟨p⟩⟩
  rcases q with ⟨⟨q⟩⟩
  simp at h
  rw [h]
theorem keepB_iff {p q : ByteArray} : StrDel.keepB p q = true ↔ q ≠ p := by
  unfold StrDel.keepB StrDel.isB
  rw [Bool.not_eq_true', beq_eq_false_iff_ne]
  constructor
  · intro h e; exact h (by rw [e])
  · intro h e; exact h (inK e)
theorem sumK_cons (x : Kept) (m : List Kept) : sumK (x :: m) = (x.2.size : Int) + sumK m := by simp [sumK]
theorem sumK_app (a b : List Kept) : sumK (a ++ b) = sumK a + sumK b := by simp [sumK]
theorem sumK_nonneg : ∀ m : List Kept, 0 ≤ sumK m
  | [] => by simp [sumK]
  | x :: m => by rw [sumK_cons]; have := sumK_nonneg m; omega
theorem offK_none {p : ByteArray} {m : List Kept} (h : p ∉ m.map Prod.fst) : offK p m = m := by
  refine List.filter_eq_self.2 fun x hx => keepB_iff.2 fun e => h ?_
  rw [← e]
  exact List.mem_map.2 ⟨x, hx, rfl⟩
theorem offK_cons (p : ByteArray) (x : Kept) (m : List Kept) : offK p (x :: m) = if x.1 = p then offK p m else x :: offK p m := by
  unfold offK
  rw [List.filter_cons]
  by_cases h : x.1 = p
  · rw [if_pos h, if_neg]; intro h2; exact keepB_iff.1 h2 h
  · rw [if_neg h, if_pos (keepB_iff.2 h)]
theorem offK_keys (p : ByteArray) (m : List Kept) : (offK p m).map Prod.fst = (m.map Prod.fst).filter (StrDel.keepB p) := by
  unfold offK
  rw [List.filter_map]
  rfl
theorem Keys.tail {x : Kept} {m : List Kept} (h : Keys (x :: m)) : x.1 ∉ m.map Prod.fst ∧ Keys m := by
  unfold Keys at h
  rw [List.map_cons, List.nodup_cons] at h
  exact h
theorem sumK_off {p : ByteArray} : ∀ {m : List Kept}, Keys m → sumK (offK p m) = sumK m - (valK p m).size
  | [], _ => rfl
  | x :: m, h => by
    obtain ⟨h1, h2⟩ := h.tail
    rw [offK_cons, sumK_cons]
    obtain ⟨k, t⟩ := x
    by_cases hk : k = p
    · rw [if_pos hk, offK_none (by rw [← hk]; exact h1)]
      have : valK p ((k, t) :: m) = t := by unfold valK get; rw [if_pos hk.symm]; rfl
      rw [this]; simp only; omega
    · rw [if_neg hk, sumK_cons, sumK_off h2]
      have : valK p ((k, t) :: m) = valK p m := by unfold valK; conv => lhs; unfold get
                                                   rw [if_neg (fun e => hk e.symm)]
      rw [this]; simp only; omega
theorem Keys.off {p : ByteArray} {m : List Kept} (h : Keys m) : Keys (offK p m) := by
  unfold Keys at h ⊢
  rw [offK_keys]
  exact h.filter _
theorem off_not (p : ByteArray) (m : List Kept) : p ∉ (offK p m).map Prod.fst := by
  rw [offK_keys]
  intro h
  exact keepB_iff.1 (List.mem_filter.1 h).2 rfl
theorem Keys.on {p t : ByteArray} {m : List Kept} (h : Keys m) : Keys (onK p t m) := by
  unfold Keys onK
  rw [List.map_append, List.nodup_append]
  refine ⟨h.off, by simp, fun a ha b hb => ?_⟩
  simp at hb
  subst hb
  intro e
  subst e
  exact off_not _ _ ha
theorem get_off {p q : ByteArray} : ∀ {m : List Kept}, get q (offK p m) = if q = p then none else get q m
  | [] => by simp [offK, get]
  | x :: m => by
    obtain ⟨k, t⟩ := x
    rw [offK_cons]
    by_cases hk : k = p
    · rw [if_pos hk, get_off]
      by_cases hq : q = p
      · rw [if_pos hq, if_pos hq]
      · rw [if_neg hq, if_neg hq]
        conv => rhs; unfold get
        rw [if_neg (by rw [hk]; exact hq)]
    · rw [if_neg hk]
      unfold get
      by_cases hq : q = k
      · rw [if_pos hq, if_neg (by rw [hq]; exact hk), if_pos hq]
      · rw [if_neg hq, if_neg hq]; exact get_off
theorem get_appl {q : ByteArray} : ∀ {a b : List Kept}, q ∈ a.map Prod.fst → get q (a ++ b) = get q a
  | [], b => fun h => by simp at h
  | (k, t) :: a, b => fun h => by
    rw [List.cons_append]
    unfold get
    by_cases hq : q = k
    · rw [if_pos hq, if_pos hq]
    · rw [if_neg hq, if_neg hq]
      rw [List.map_cons, List.mem_cons] at h
      exact get_appl (h.resolve_left hq)
theorem get_appr {q : ByteArray} : ∀ {a b : List Kept}, q ∉ a.map Prod.fst → get q (a ++ b) = get q b
  | [], b => fun h => rfl
  | (k, t) :: a, b => fun h => by
    rw [List.cons_append]
    rw [List.map_cons, List.mem_cons, not_or] at h
    conv => lhs; unfold get
    rw [if_neg h.1]
    exact get_appr h.2
theorem get_on {p t q : ByteArray} {m : List Kept} : get q (onK p t m) = if q = p then some t else get q m := by
  unfold onK
  by_cases hq : q = p
  · subst hq
    rw [if_pos rfl, get_appr (off_not _ _)]
    unfold get
    rw [if_pos rfl]
  · rw [if_neg hq]
    by_cases hm : q ∈ (offK p m).map Prod.fst
    · rw [get_appl hm, get_off, if_neg hq]
    · rw [get_appr hm]
      have h1 : get q (offK p m) = none := get_none hm
      rw [get_off, if_neg hq] at h1
      rw [h1]
      unfold get
      rw [if_neg hq]
      rfl
theorem sumK_on {p t : ByteArray} {m : List Kept} (h : Keys m) : sumK (onK p t m) = sumK m - (valK p m).size + t.size := by
  unfold onK
  rw [sumK_app, sumK_off h, sumK_cons]
  simp [sumK]
theorem val_le {p : ByteArray} : ∀ {m : List Kept}, ((valK p m).size : Int) ≤ sumK m
  | [] => by show ((0 : Nat) : Int) ≤ 0; omega
  | x :: m => by
    obtain ⟨k, t⟩ := x
    rw [sumK_cons]
    by_cases hq : p = k
    · have : valK p ((k, t) :: m) = t := by unfold valK get; rw [if_pos hq]; rfl
      rw [this]
      have := sumK_nonneg m
      simp only; omega
    · have : valK p ((k, t) :: m) = valK p m := by unfold valK; conv => lhs; unfold get
                                                   rw [if_neg hq]
      rw [this]
      have := val_le (p := p) (m := m)
      omega
theorem off_len (p : ByteArray) (m : List Kept) : (offK p m).length ≤ m.length := List.length_filter_le _ _
/-- The first of some is taken off. -/
theorem off_head {x : Kept} {m : List Kept} (h : Keys (x :: m)) : offK x.1 (x :: m) = m := by
  rw [offK_cons, if_pos rfl, offK_none h.tail.1]
structure CacheIs (w : World) (B : Nat) (S : List Nat) (b : Nat) (bud : Int) (m : List Kept) (r : Nat) (A : Option Addr) (cap : Nat) (kvs : List Kept) : Prop where
  blk : Blk w b 120 #[.int .i64 bud, .int .i64 (sumK m), .map (some r), .slice A m.length cap]
  ord : Own w B 9 1 A m.length cap (strs (m.map Prod.fst))
  map : MapAt w r Value.string Value.string kvs
  keys : Keys kvs
  same : ∀ p, get p kvs = get p m
  nodup : Keys m
  suba : ∀ g ∈ ob A, g ∈ S
  subb : b ∈ S
  subr : r ∈ S
  own : ∀ g ∈ S, B ≤ g ∧ g < w.heap.size
def CacheTo (w : World) (B : Nat) (S : List Nat) (b : Nat) (bud : Int) (m : List Kept) (w' : World) : Prop :=
  ∃ S' r A cap kvs, CacheIs w' B S' b bud m r A cap kvs ∧ Only S w w' ∧ ∀ g ∈ S', g ∈ S ∨ w.heap.size ≤ g
theorem CacheIs.only {w w' : World} {B : Nat} {S T : List Nat} {b : Nat} {bud : Int} {m : List Kept} {r : Nat} {A : Option Addr} {cap : Nat} {kvs : List Kept} (h : CacheIs w B S b bud m r A cap kvs) (ho : Only T w w') (hT : ∀ g ∈ T, g ∉ S) : CacheIs w' B S b bud m r A cap kvs where
  blk := ho.blk h.blk (fun hm => hT _ hm h.subb)
  ord := h.ord.only ho (fun g hg hm => hT g hm (h.suba g hg))
  map := h.map.only ho (fun hm => hT _ hm h.subr)
  keys := h.keys
  same := h.same
  nodup := h.nodup
  suba := h.suba
  subb := h.subb
  subr := h.subr
  own := fun g hg => ⟨(h.own g hg).1, Nat.lt_of_lt_of_le (h.own g hg).2 ho.size⟩
theorem CacheIs.below {w w' : World} {B : Nat} {S : List Nat} {b : Nat} {bud : Int} {m : List Kept} {r : Nat} {A : Option Addr} {cap : Nat} {kvs : List Kept} (h : CacheIs w B S b bud m r A cap kvs) (hb : Below w.heap.size w w') : CacheIs w' B S b bud m r A cap kvs :=
  h.only (T := []) (Only.of_below hb) (by simp)
theorem CacheTo.back {w w1 w' : World} {B : Nat} {S S1 : List Nat} {b : Nat} {bud : Int} {m : List Kept} (ho : Only S w w1) (hs : ∀ g ∈ S1, g ∈ S ∨ w.heap.size ≤ g) (h : CacheTo w1 B S1 b bud m w') : CacheTo w B S b bud m w' := by
  obtain ⟨S', r, A, cap, kvs, h1, h2, h3⟩ := h
  refine ⟨S', r, A, cap, kvs, h1, ho.trans_new h2 hs, fun g hg => ?_⟩
  have := ho.size
  rcases h3 g hg with h4 | h4
  · exact hs g h4
  · exact .inr (by omega)
end Go.Proofs.YtgjhkblnohcppaaDoor
