/- Drop, walked; a cache beside the document's: the steps of the law CachePlays. Conditions: the numbers are small. -/
import Derived.Test.YtgjhkblnohcppaaDoorRefKept
import Derived.Test.YtgjhkblnohcppaaDoorTold
namespace Go.Proofs.YtgjhkblnohcppaaDoor
open Go.RowKit
set_option linter.unusedVariables false
def CDropPost (w : World) (B : Nat) (S : List Nat) (b : Nat) (bud : Int) (m : List Kept) (p : ByteArray) (e : Ending) (w' : World) : Prop :=
  ((get p m).isSome = true ∧ e = .returned .nilIface ∧ CacheTo w B S b bud (offK p m) w') ∨ ((get p m).isSome = false ∧ e = .returned (errV 5) ∧ w' = w)
set_option maxRecDepth 100000 in
set_option maxHeartbeats 4000000 in
theorem cdrop_any (w : World) (B : Nat) (S : List Nat) (b : Nat) (bud : Int) (m : List Kept) (r : Nat) (A : Option Addr) (cap : Nat) (kvs : List Kept) (h : CacheIs w B S b bud m r A cap kvs) (hs : sumK m ≤ 1000000) (hl : m.length ≤ 90000) (p : ByteArray) :
    Calls Tryd.prog 20 #[.pointer (some ⟨b, 0, none⟩), .string p] w (CDropPost w B S b bud m p) := by
  have c2 : w.cell? ⟨b, 2, none⟩ = some (.map (some r)) := h.blk.cell 2
  have hlk := h.look2 p
  have HE5 := errV_ne (show (5 : Int) ≠ 0 by decide)
  have HOF := Lib.hid (off_any w B S b bud m r A cap kvs h hs (by omega) p)
  have hnot : ∀ (x : Bool) (w : World), (Op.unary .not (.bool x)).run Tryd.prog w = .ok (.bool (!x)) w := fun _ _ => rfl
  clear h
  cases hg : (get p m).isSome with
  | true =>
    rw [hg] at hlk
    have HG := Lib.hid hg
    clear hg
    go_enter Tryd.func20, Tryd.ntmps20
    go_wp2_with fail
    refine HOF.out.mono ?_
    rintro e w1 ⟨rfl, ht⟩
    have HT := Lib.hid ht
    clear ht
    go_wp2_with fail
    go_ret
    exact .inl ⟨HG.out, rfl, HT.out⟩
  | false =>
    rw [hg] at hlk
    have HG := Lib.hid hg
    clear hg
    go_enter Tryd.func20, Tryd.ntmps20
    go_wp2_with fail
    go_ret
    exact .inr ⟨HG.out, rfl, rfl⟩
theorem fit_id {bud : Int} {m : List Kept} (h : sumK m ≤ bud) : fitK bud m = m := by
  cases m with
  | nil => rfl
  | cons x m => exact if_neg (by omega)
def KScene (w : World) (b : Nat) (bud : Int) (m k : List Kept) (A : Option Addr) (c : Nat) (wr : World) : Prop :=
  ∃ B S r C cap kvs, CacheIs wr B S b bud m r C cap kvs ∧ Below w.heap.size w wr ∧ w.heap.size ≤ B ∧ Reads wr wr.heap.size 2 A k.length (kcells k) ∧ (0 < k.length → ∀ g ∈ ob A, g ∉ S) ∧ k.length ≤ c ∧ c ≤ maxLen
theorem KScene.start {w wr : World} {b : Nat} {bud : Int} {m : List Kept} {rows : List (Option Addr × List ByteArray)} (h : CScene w b bud m rows wr) : KScene w b bud m [] none 0 wr := by
  obtain ⟨B, S, r, A, cap, kvs, h1, h2, h3, h4⟩ := h
  exact ⟨B, S, r, A, cap, kvs, h1, h2, h3, Reads.none_, fun h => absurd h (by simp), by simp, by simp⟩
theorem KScene.by_ {w wr w' : World} {b B : Nat} {S : List Nat} {bud : Int} {m m' k : List Kept} {A : Option Addr} {c r : Nat} {C : Option Addr} {cap : Nat} {kvs : List Kept} (h1 : CacheIs wr B S b bud m r C cap kvs) (h2 : Below w.heap.size w wr) (h3 : w.heap.size ≤ B)
    (h4 : Reads wr wr.heap.size 2 A k.length (kcells k) ∧ (0 < k.length → ∀ g ∈ ob A, g ∉ S) ∧ k.length ≤ c ∧ c ≤ maxLen) (ht : CacheTo wr B S b bud m' w') : KScene w b bud m' k A c w' := by
  obtain ⟨h4, h5, h6⟩ := h4
  obtain ⟨S', r', C', cap', kvs', g1, g2, g3⟩ := ht
  refine ⟨B, S', r', C', cap', kvs', g1, h2.trans (g2.below h2.size fun i hi => by have := (h1.own i hi).1; omega), h3, ⟨h4.1, fun hn => ?_⟩, fun hn g hg hm => ?_, h6⟩
  · obtain ⟨ad, e, hb, hc⟩ := h4.2 hn
    refine ⟨ad, e, Nat.lt_of_lt_of_le hb g2.size, fun j u hu => ?_⟩
    rw [← hc j u hu]
    exact g2.cell (by rw [block_of_add]; exact hb) (by rw [block_of_add]; exact h5 hn _ (by rw [e]; simp [ob]))
  · obtain ⟨ad, e, hb, hc⟩ := h4.2 hn
    rcases g3 g hm with h7 | h7
    · exact h5 hn g hg h7
    · rw [e] at hg; simp [ob] at hg; omega
section
variable {w wr : World} {b : Nat} {bud : Int} {m k : List Kept} {A : Option Addr} {c : Nat} (h : KScene w b bud m k A c wr)
include h
theorem KScene.one : CScene w b bud m [] wr := by
  obtain ⟨B, S, r, C, cap, kvs, h1, h2, h3, _⟩ := h
  exact ⟨B, S, r, C, cap, kvs, h1, h2, h3, by intro x hx; cases hx⟩
theorem KScene.below : Below w.heap.size w wr := h.one.below
theorem KScene.nodup : Keys m := h.one.nodup
theorem KScene.row : Reads wr wr.heap.size 2 A k.length (kcells k) := by
  obtain ⟨B, S, r, C, cap, kvs, h1, h2, h3, h4, _⟩ := h
  exact h4
theorem KScene.cap : k.length ≤ c ∧ c ≤ maxLen := by
  obtain ⟨B, S, r, C, cap, kvs, h1, h2, h3, h4, _, h5⟩ := h
  exact h5
theorem KScene.stay {w' : World} (hb : Below wr.heap.size wr w') : KScene w b bud m k A c w' := by
  obtain ⟨B, S, r, C, cap, kvs, h1, h2, h3, h4⟩ := h
  exact KScene.by_ h1 h2 h3 h4 ⟨S, r, C, cap, kvs, h1.below hb, Only.of_below hb, fun g hg => .inl hg⟩
theorem KScene.load (hb0 : 1 ≤ bud) (hb1 : bud ≤ 10000) (hs : sumK m ≤ 500000) (hl : m.length ≤ 80000) (p t : ByteArray) (hp : p.size ≤ 9223372036854775807) (ht : t.size ≤ 9223372036854775807) :
    Calls Tryd.prog 11 #[.pointer (some ⟨b, 0, none⟩), .string p, .string t] wr (fun e w' => e = .returned (errV (loadE bud p t)) ∧ KScene w b bud (loadR bud p t m) k A c w') := by
  obtain ⟨B, S, r, C, cap, kvs, h1, h2, h3, h4⟩ := h
  refine (cload_any wr B S b bud m r C cap kvs h1 hb0 hb1 hs hl p t hp ht).mono ?_
  rintro e w' ⟨rfl, ht⟩
  exact ⟨rfl, KScene.by_ h1 h2 h3 h4 ht⟩
theorem KScene.found (hs : sumK m ≤ 1000000) (hl : m.length ≤ 90000) {p t : ByteArray} (hg : get p m = some t) :
    Calls Tryd.prog 12 #[.pointer (some ⟨b, 0, none⟩), .string p] wr (fun e w' => e = .returned (.tuple #[.string t, .nilIface]) ∧ KScene w b bud (onK p t m) k A c w') := by
  obtain ⟨B, S, r, C, cap, kvs, h1, h2, h3, h4⟩ := h
  refine (cget_any wr B S b bud m r C cap kvs h1 hs hl p).mono ?_
  rintro e w' (⟨_, rfl, ht⟩ | ⟨hno, _⟩)
  · rw [val_of hg] at ht ⊢
    exact ⟨rfl, KScene.by_ h1 h2 h3 h4 ht⟩
  · rw [hg] at hno; cases hno
theorem KScene.lost (hs : sumK m ≤ 1000000) (hl : m.length ≤ 90000) {p : ByteArray} (hg : get p m = none) :
    Calls Tryd.prog 12 #[.pointer (some ⟨b, 0, none⟩), .string p] wr (fun e w' => e = .returned (.tuple #[.string ⟨#[]⟩, errV 5]) ∧ w' = wr) := h.one.lost hs hl hg
theorem KScene.dropped (hs : sumK m ≤ 1000000) (hl : m.length ≤ 90000) {p t : ByteArray} (hg : get p m = some t) :
    Calls Tryd.prog 20 #[.pointer (some ⟨b, 0, none⟩), .string p] wr (fun e w' => e = .returned .nilIface ∧ KScene w b bud (offK p m) k A c w') := by
  obtain ⟨B, S, r, C, cap, kvs, h1, h2, h3, h4⟩ := h
  refine (cdrop_any wr B S b bud m r C cap kvs h1 hs hl p).mono ?_
  rintro e w' (⟨_, rfl, ht⟩ | ⟨hno, _⟩)
  · exact ⟨rfl, KScene.by_ h1 h2 h3 h4 ht⟩
  · rw [hg] at hno; cases hno
theorem KScene.undropped (hs : sumK m ≤ 1000000) (hl : m.length ≤ 90000) {p : ByteArray} (hg : get p m = none) :
    Calls Tryd.prog 20 #[.pointer (some ⟨b, 0, none⟩), .string p] wr (fun e w' => e = .returned (errV 5) ∧ w' = wr) := by
  obtain ⟨B, S, r, C, cap, kvs, h1, h2, h3, h4⟩ := h
  refine (cdrop_any wr B S b bud m r C cap kvs h1 hs hl p).mono ?_
  rintro e w' (⟨hno, _⟩ | ⟨_, rfl, rfl⟩)
  · rw [hg] at hno; cases hno
  · exact ⟨rfl, rfl⟩
theorem KScene.places (hl : m.length ≤ 100000) : Calls Tryd.prog 13 #[.pointer (some ⟨b, 0, none⟩)] wr (fun e w' => ∃ V cc, e = .returned (.slice V m.length cc) ∧ Reads w' w'.heap.size 1 V m.length (strs (m.map Prod.fst)) ∧ Below wr.heap.size wr w') := by
  obtain ⟨B, S, r, C, cap, kvs, h1, h2, h3, h4⟩ := h
  refine (cplaces_any wr B S b bud m r C cap kvs h1 hl).mono ?_
  rintro e w' ⟨V, cc, rfl, hO, hb⟩
  exact ⟨V, cc, rfl, hO.reads, hb⟩
theorem KScene.new_ {w' : World} {l : List Kept} {v : Value} (hb : Below wr.heap.size wr w') (hr : KRow wr wr.heap.size l v w') : ∃ A' c', v = .slice A' l.length c' ∧ KScene w b bud m l A' c' w' := by
  obtain ⟨V, cv, rfl, g1, g2, g3, g4⟩ := hr
  obtain ⟨B, S, r, C, cap, kvs, h1, h2, h3, h4⟩ := h
  refine ⟨V, cv, rfl, B, S, r, C, cap, kvs, h1.below hb, h2.trans (hb.mono h2.size), h3, g1, fun hn g hg hm => ?_, g3, g4⟩
  have := g2 hn g hg
  have := (h1.own g hm).2
  omega
theorem KScene.rfind (hn : k.length ≤ 100000) (p : ByteArray) : Calls Tryd.prog 16 #[.slice A k.length c, .string p] wr (fun e w' => e = .returned (.int .i64 (findV p k)) ∧ w' = wr) := rfindK_any wr A c k p h.row hn
theorem KScene.rused (hn : k.length ≤ 100000) (hs : sumK k ≤ 1000000) : Calls Tryd.prog 22 #[.slice A k.length c] wr (fun e w' => e = .returned (.int .i64 (sumK k)) ∧ w' = wr) := rusedK_any wr A c k h.row (by omega) hs
theorem KScene.rload (hky : Keys k) (hn : k.length ≤ 90000) (hs : sumK k ≤ 500000) (hb : 0 ≤ bud) (p t : ByteArray) (ht : (t.size : Int) ≤ 100000) :
    Calls Tryd.prog 18 #[.slice A k.length c, .string p, .string t, .int .i64 bud] wr (fun e w' => ∃ A' c', e = .returned (.slice A' (fitK bud (onK p t k)).length c') ∧ KScene w b bud m (fitK bud (onK p t k)) A' c' w') := by
  have hc := h.cap
  refine (rloadK_any wr A c k p t bud h.row hky hn hs ht hb hc.1 (by have := hc.2; unfold maxLen at this; omega)).mono ?_
  rintro e w' ⟨⟨v, rfl, hr⟩, hbb⟩
  obtain ⟨A', c', rfl, hk⟩ := h.new_ hbb hr
  exact ⟨A', c', rfl, hk⟩
theorem KScene.roff (hky : Keys k) (hn : k.length ≤ 90000) {p : ByteArray} (hp : posK p k < k.length) :
    Calls Tryd.prog 19 #[.slice A k.length c, .int .i64 (posK p k)] wr (fun e w' => ∃ A' c', e = .returned (.slice A' (offK p k).length c') ∧ KScene w b bud m (offK p k) A' c' w') := by
  have hc := h.cap
  refine (roffK_any wr A c k (posK p k) h.row (by omega) hc.1 (by have := hc.2; unfold maxLen at this; omega) hp).mono ?_
  rw [← pos_off hky hp]
  rintro e w' ⟨⟨v, rfl, hr⟩, hbb⟩
  obtain ⟨A', c', rfl, hk⟩ := h.new_ hbb hr
  exact ⟨A', c', rfl, hk⟩
end
end Go.Proofs.YtgjhkblnohcppaaDoor
