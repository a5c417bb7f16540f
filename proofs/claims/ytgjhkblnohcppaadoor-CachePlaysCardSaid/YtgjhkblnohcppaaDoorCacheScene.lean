/- A cache and some rows of texts beside it: the steps of a law. Conditions: the numbers are small. -/
import Derived.Test.YtgjhkblnohcppaaDoorCacheLoad
namespace Go.Proofs.YtgjhkblnohcppaaDoor
open Go.RowKit
set_option linter.unusedVariables false
/-! Plain -/
theorem fit_len (bud : Int) : ∀ m : List Kept, (fitK bud m).length ≤ m.length
  | [] => Nat.le_refl _
  | x :: m => by
    unfold fitK
    split
    · have := fit_len bud m; simp; omega
    · exact Nat.le_refl _
theorem fit_sum {bud : Int} (hb : 0 ≤ bud) : ∀ m : List Kept, sumK (fitK bud m) ≤ bud
  | [] => hb
  | x :: m => by
    unfold fitK
    split
    · exact fit_sum hb m
    · omega
theorem fit_keys {bud : Int} : ∀ {m : List Kept}, Keys m → Keys (fitK bud m)
  | [], h => h
  | x :: m, h => by
    unfold fitK
    split
    · exact fit_keys h.tail.2
    · exact h
theorem fit_last {bud : Int} {p t : ByteArray} (h : (t.size : Int) ≤ bud) : ∀ m : List Kept, ∃ m', fitK bud (m ++ [(p, t)]) = m' ++ [(p, t)]
  | [] => ⟨[], by
    have : sumK [(p, t)] = (t.size : Int) := by simp [sumK]
    show fitK bud [(p, t)] = _
    unfold fitK
    rw [if_neg (by omega)]
    rfl⟩
  | x :: m => by
    rw [List.cons_append]
    unfold fitK
    split
    · exact fit_last h m
    · exact ⟨x :: m, rfl⟩
theorem load_sum {bud : Int} {p t : ByteArray} {m : List Kept} (hb : 0 ≤ bud) (h : sumK m ≤ bud) : sumK (loadR bud p t m) ≤ bud := by
  unfold loadR
  split
  · exact fit_sum hb _
  · exact h
theorem load_keys {bud : Int} {p t : ByteArray} {m : List Kept} (h : Keys m) : Keys (loadR bud p t m) := by
  unfold loadR
  split
  · exact fit_keys h.on
  · exact h
theorem load_len {bud : Int} {p t : ByteArray} {m : List Kept} : (loadR bud p t m).length ≤ m.length + 1 := by
  unfold loadR
  split
  · have h1 := fit_len bud (onK p t m)
    have h2 := off_len p m
    have h3 : (onK p t m).length = (offK p m).length + 1 := by unfold onK; simp
    omega
  · omega
theorem load_last {bud : Int} {p t : ByteArray} {m : List Kept} (he : loadE bud p t = 0) : ∃ m', loadR bud p t m = m' ++ [(p, t)] := by
  unfold loadR
  rw [if_pos he]
  refine fit_last ?_ _
  unfold loadE at he
  split at he
  · exact absurd he (by decide)
  · split at he
    · exact absurd he (by decide)
    · omega
theorem keys_last {m : List Kept} {x : Kept} (h : Keys (m ++ [x])) : x.1 ∉ m.map Prod.fst := by
  unfold Keys at h
  rw [List.map_append, List.nodup_append] at h
  intro hm
  exact h.2.2 _ hm x.1 (by simp) rfl
theorem get_last {m : List Kept} {p t : ByteArray} (h : Keys (m ++ [(p, t)])) : get p (m ++ [(p, t)]) = some t := by
  rw [get_appr (keys_last h)]
  unfold get
  rw [if_pos rfl]
theorem off_app (p : ByteArray) (a b : List Kept) : offK p (a ++ b) = offK p a ++ offK p b := List.filter_append _ _
theorem on_last {m : List Kept} {p t : ByteArray} (h : Keys (m ++ [(p, t)])) : onK p t (m ++ [(p, t)]) = m ++ [(p, t)] := by
  unfold onK
  rw [off_app, offK_none (keys_last h), offK_cons, if_pos rfl]
  simp [offK]
def rotK (k : Nat) (m : List Kept) : List Kept := m.drop k ++ m.take k
theorem rot_zero (m : List Kept) : rotK 0 m = m := by simp [rotK]
theorem rot_all (m : List Kept) : rotK m.length m = m := by simp [rotK]
theorem rot_perm (k : Nat) (m : List Kept) : List.Perm (rotK k m) m := by
  unfold rotK
  refine List.perm_append_comm.trans ?_
  rw [List.take_append_drop]
theorem rot_keys {k : Nat} {m : List Kept} (h : Keys m) : Keys (rotK k m) := by
  unfold Keys at *
  exact ((rot_perm k m).map Prod.fst).nodup_iff.2 h
theorem rot_sum (k : Nat) (m : List Kept) : sumK (rotK k m) = sumK m := by
  unfold rotK
  rw [sumK_app, Int.add_comm, ← sumK_app, List.take_append_drop]
theorem rot_len (k : Nat) (m : List Kept) : (rotK k m).length = m.length := (rot_perm k m).length_eq
theorem rot_cons {k : Nat} {m : List Kept} (hk : k < m.length) : rotK k m = m[k] :: (m.drop (k + 1) ++ m.take k) := by
  unfold rotK
  rw [List.drop_eq_getElem_cons hk, List.cons_append]
theorem rot_get {k : Nat} {m : List Kept} (hk : k < m.length) : get m[k].1 (rotK k m) = some m[k].2 := by
  rw [rot_cons hk]
  generalize m[k] = x
  obtain ⟨p, t⟩ := x
  unfold get
  rw [if_pos rfl]
theorem rot_on {k : Nat} {m : List Kept} (h : Keys m) (hk : k < m.length) : onK m[k].1 m[k].2 (rotK k m) = rotK (k + 1) m := by
  have h1 := rot_keys (k := k) h
  rw [rot_cons hk] at h1 ⊢
  unfold onK
  rw [off_head h1]
  unfold rotK
  rw [List.append_assoc, List.take_succ_eq_append_getElem hk]
theorem sum_take {k : Nat} {m : List Kept} (hk : k < m.length) : sumK (m.take (k + 1)) = sumK (m.take k) + (m[k].2.size : Int) := by
  rw [List.take_succ_eq_append_getElem hk, sumK_app, sumK_cons]
  simp [sumK]
theorem sum_take_le (k : Nat) (m : List Kept) : sumK (m.take k) ≤ sumK m := by
  have h := sumK_app (m.take k) (m.drop k)
  rw [List.take_append_drop] at h
  have := sumK_nonneg (m.drop k)
  omega
theorem val_of {p t : ByteArray} {m : List Kept} (h : get p m = some t) : valK p m = t := by unfold valK; rw [h]; rfl
/-! The scene -/
def CRows (S : List Nat) (rows : List (Option Addr × List ByteArray)) (wr : World) : Prop := ∀ x ∈ rows, Reads wr wr.heap.size 1 x.1 x.2.length (strs x.2) ∧ (0 < x.2.length → ∀ g ∈ ob x.1, g ∉ S)
def CScene (w : World) (b : Nat) (bud : Int) (m : List Kept) (rows : List (Option Addr × List ByteArray)) (wr : World) : Prop :=
  ∃ B S r A cap kvs, CacheIs wr B S b bud m r A cap kvs ∧ Below w.heap.size w wr ∧ w.heap.size ≤ B ∧ CRows S rows wr
theorem CRows.go {S S' : List Nat} {rows : List (Option Addr × List ByteArray)} {w w' : World} (h : CRows S rows w) (ho : Only S w w') (hs : ∀ g ∈ S', g ∈ S ∨ w.heap.size ≤ g) : CRows S' rows w' := fun x hx => by
  obtain ⟨h1, h2⟩ := h x hx
  refine ⟨⟨h1.1, fun hn => ?_⟩, fun hn g hg hm => ?_⟩
  · obtain ⟨ad, e, hb, hc⟩ := h1.2 hn
    refine ⟨ad, e, Nat.lt_of_lt_of_le hb ho.size, fun j u hu => ?_⟩
    rw [← hc j u hu]
    exact ho.cell (by rw [block_of_add]; exact hb) (by rw [block_of_add]; exact h2 hn _ (by rw [e]; simp [ob]))
  · obtain ⟨ad, e, hb, hc⟩ := h1.2 hn
    rcases hs g hm with h3 | h3
    · exact h2 hn g hg h3
    · rw [e] at hg; simp [ob] at hg; omega
section
variable {w wr : World} {b : Nat} {bud : Int} {m : List Kept} {rows : List (Option Addr × List ByteArray)} (h : CScene w b bud m rows wr)
include h
theorem CScene.to_ {w' : World} {m' : List Kept} (hh : ∀ B S r A cap kvs, CacheIs wr B S b bud m r A cap kvs → CacheTo wr B S b bud m' w') : CScene w b bud m' rows w' := by
  obtain ⟨B, S, r, A, cap, kvs, h1, h2, h3, h4⟩ := h
  obtain ⟨S', r', A', cap', kvs', g1, g2, g3⟩ := hh _ _ _ _ _ _ h1
  refine ⟨B, S', r', A', cap', kvs', g1, h2.trans (g2.below h2.size fun i hi => by have := (h1.own i hi).1; omega), h3, h4.go g2 g3⟩
theorem CScene.stay {w' : World} (hb : Below wr.heap.size wr w') : CScene w b bud m rows w' :=
  h.to_ fun B S r A cap kvs hc => ⟨S, r, A, cap, kvs, hc.below hb, Only.of_below hb, fun g hg => .inl hg⟩
theorem CScene.drewN (n : Nat) : CScene w b bud m rows (wr.drewN n) := h.stay (below_drewN (Below.refl _ _) n)
theorem CScene.below : Below w.heap.size w wr := by
  obtain ⟨B, S, r, A, cap, kvs, h1, h2, h3, h4⟩ := h
  exact h2
theorem CScene.nodup : Keys m := by
  obtain ⟨B, S, r, A, cap, kvs, h1, h2, h3, h4⟩ := h
  exact h1.nodup
theorem CScene.row {x : Option Addr × List ByteArray} (hx : x ∈ rows) : Reads wr wr.heap.size 1 x.1 x.2.length (strs x.2) := by
  obtain ⟨B, S, r, A, cap, kvs, h1, h2, h3, h4⟩ := h
  exact (h4 x hx).1
theorem CScene.load (hb0 : 1 ≤ bud) (hb1 : bud ≤ 10000) (hs : sumK m ≤ 500000) (hl : m.length ≤ 80000) (p t : ByteArray) (hp : p.size ≤ 9223372036854775807) (ht : t.size ≤ 9223372036854775807) :
    Calls Tryd.prog 11 #[.pointer (some ⟨b, 0, none⟩), .string p, .string t] wr (fun e w' => e = .returned (errV (loadE bud p t)) ∧ CScene w b bud (loadR bud p t m) rows w') := by
  obtain ⟨B, S, r, A, cap, kvs, h1, h2, h3, h4⟩ := id h
  refine (cload_any wr B S b bud m r A cap kvs h1 hb0 hb1 hs hl p t hp ht).mono ?_
  rintro e w' ⟨rfl, ht⟩
  refine ⟨rfl, ?_⟩
  obtain ⟨S', r', A', cap', kvs', g1, g2, g3⟩ := ht
  exact ⟨B, S', r', A', cap', kvs', g1, h2.trans (g2.below h2.size fun i hi => by have := (h1.own i hi).1; omega), h3, h4.go g2 g3⟩
theorem CScene.used : Calls Tryd.prog 15 #[.pointer (some ⟨b, 0, none⟩)] wr (fun e w' => e = .returned (.int .i64 (sumK m)) ∧ w' = wr) := by
  obtain ⟨B, S, r, A, cap, kvs, h1, h2, h3, h4⟩ := id h
  exact cused_any wr B S b bud m r A cap kvs h1
theorem CScene.places (hl : m.length ≤ 100000) : Calls Tryd.prog 13 #[.pointer (some ⟨b, 0, none⟩)] wr (fun e w' => ∃ V c, e = .returned (.slice V m.length c) ∧ CScene w b bud m ((V, m.map Prod.fst) :: rows) w') := by
  obtain ⟨B, S, r, A, cap, kvs, h1, h2, h3, h4⟩ := id h
  refine (cplaces_any wr B S b bud m r A cap kvs h1 hl).mono ?_
  rintro e w' ⟨V, c, rfl, hO, hb⟩
  refine ⟨V, c, rfl, B, S, r, A, cap, kvs, h1.below hb, h2.trans (hb.mono h2.size), h3, fun x hx => ?_⟩
  rcases List.mem_cons.1 hx with rfl | hx
  · refine ⟨by simpa using hO.reads, fun _ g hg hm => ?_⟩
    have h5 := (hO.lt g hg).1
    have h6 := (h1.own g hm).2
    omega
  · exact (h4.go (Only.of_below hb) (fun g hg => .inl hg)) x hx
theorem CScene.found (hs : sumK m ≤ 1000000) (hl : m.length ≤ 90000) {p t : ByteArray} (hg : get p m = some t) :
    Calls Tryd.prog 12 #[.pointer (some ⟨b, 0, none⟩), .string p] wr (fun e w' => e = .returned (.tuple #[.string t, .nilIface]) ∧ CScene w b bud (onK p t m) rows w') := by
  obtain ⟨B, S, r, A, cap, kvs, h1, h2, h3, h4⟩ := id h
  refine (cget_any wr B S b bud m r A cap kvs h1 hs hl p).mono ?_
  rintro e w' (⟨_, rfl, ht⟩ | ⟨hno, _⟩)
  · rw [val_of hg] at ht ⊢
    obtain ⟨S', r', A', cap', kvs', g1, g2, g3⟩ := ht
    exact ⟨rfl, B, S', r', A', cap', kvs', g1, h2.trans (g2.below h2.size fun i hi => by have := (h1.own i hi).1; omega), h3, h4.go g2 g3⟩
  · rw [hg] at hno; cases hno
theorem CScene.lost (hs : sumK m ≤ 1000000) (hl : m.length ≤ 90000) {p : ByteArray} (hg : get p m = none) :
    Calls Tryd.prog 12 #[.pointer (some ⟨b, 0, none⟩), .string p] wr (fun e w' => e = .returned (.tuple #[.string ⟨#[]⟩, errV 5]) ∧ w' = wr) := by
  obtain ⟨B, S, r, A, cap, kvs, h1, h2, h3, h4⟩ := id h
  refine (cget_any wr B S b bud m r A cap kvs h1 hs hl p).mono ?_
  rintro e w' (⟨hno, _⟩ | ⟨_, rfl, rfl⟩)
  · rw [hg] at hno; cases hno
  · exact ⟨rfl, rfl⟩
end
theorem cnew_scene (w wr : World) (hb : Below w.heap.size w wr) (bud : Int) (h0 : 1 ≤ bud) (h1 : bud ≤ 10000) : Calls Tryd.prog 10 #[.int .i64 bud] wr (fun e w' => ∃ b, e = .returned (.tuple #[.pointer (some ⟨b, 0, none⟩), .nilIface]) ∧ CScene w b bud [] [] w') := by
  refine (cnew_any wr bud).mono ?_
  rintro e w' (⟨hno, _⟩ | ⟨_, b, S, r, A, cap, kvs, rfl, hc, hbb⟩)
  · unfold budE at hno; rw [if_neg (by omega)] at hno; exact absurd rfl hno
  · exact ⟨b, rfl, wr.heap.size, S, r, A, cap, kvs, hc, hb.trans (hbb.mono hb.size), hb.size, by intro x hx; cases hx⟩
theorem cnew_none (wr : World) (bud : Int) (h : bud < 1 ∨ 10000 < bud) : Calls Tryd.prog 10 #[.int .i64 bud] wr (fun e w' => e = .returned (.tuple #[.pointer none, errV 1]) ∧ w' = wr) := by
  refine (cnew_any wr bud).mono ?_
  rintro e w' (⟨_, rfl, rfl⟩ | ⟨hno, _⟩)
  · exact ⟨rfl, rfl⟩
  · unfold budE at hno; rw [if_pos h] at hno; exact absurd hno (by decide)
end Go.Proofs.YtgjhkblnohcppaaDoor
