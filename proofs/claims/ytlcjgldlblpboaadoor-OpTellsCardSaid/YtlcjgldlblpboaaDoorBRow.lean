/- A row of bytes that a text was turned into: bytes appended to it. Plain lemmas. Conditions: none. -/
import Derived.Deep.Upon
import Derived.Test.YtlcjgldlblpboaaDoorBookText
namespace Go.Proofs.YtlcjgldlblpboaaDoor
open Go.RowKit
set_option linter.unusedVariables false
theorem bs_at' {l : List UInt8} {k : Nat} (h : k < l.length) : (bs l)[k]? = some (.int .u8 l[k].toNat) := by simp [bs, h]
/-- A row of bytes in a block of the call's own, its spare free. -/
structure BRow (w : World) (B g n c : Nat) (l : List UInt8) : Prop where
  base : B ≤ g
  lt : g < w.heap.size
  len : l.length = n
  le : n ≤ c
  max : c ≤ maxLen
  cells : ∀ j (hj : j < l.length), w.cell? ⟨g, j, none⟩ = some (.int .u8 (l[j].toNat : Int))
  there : ∀ j, j < c → (w.cell? ⟨g, j, none⟩).isSome = true ∧ w.frozen? ⟨g, j, none⟩ = false
namespace BRow
variable {w w' : World} {B g n c : Nat} {l : List UInt8}
theorem below (h : BRow w B g n c l) (hb : Below w.heap.size w w') : BRow w' B g n c l :=
  ⟨h.base, Nat.lt_of_lt_of_le h.lt hb.size, h.len, h.le, h.max, fun j hj => (hb.cell h.lt).trans (h.cells j hj), fun j hj => ⟨by rw [hb.cell (p := ⟨g, j, none⟩) h.lt]; exact (h.there j hj).1, by rw [hb.frozen (p := ⟨g, j, none⟩) h.lt]; exact (h.there j hj).2⟩⟩
theorem mono {B' : Nat} (h : BRow w B g n c l) (hB : B' ≤ B) : BRow w B' g n c l := { h with base := Nat.le_trans hB h.base }
theorem came (h : BRow w B g n c l) : Came w 1 (some ⟨g, 0, none⟩) g 0 n c (bs l) := by
  refine ⟨h.le, fun _ => rfl, fun _ => h.lt, by rw [bs_len, h.len]; omega, fun j u hu => ?_, fun j hj => ?_⟩
  · by_cases hj : j < l.length
    · rw [bs_at' hj] at hu
      obtain rfl := Option.some.inj hu
      rw [Nat.zero_add]
      exact h.cells j hj
    · rw [List.getElem?_eq_none (by rw [bs_len]; omega)] at hu; cases hu
  · have := h.there (0 + n * 1 + j) (by omega)
    exact this
theorem reads (h : BRow w B g n c l) : Reads w w.heap.size 1 (some ⟨g, 0, none⟩) n (bs l) := by
  refine ⟨by rw [bs_len, h.len]; omega, fun _ => ⟨_, rfl, h.lt, fun j u hu => ?_⟩⟩
  by_cases hj : j < l.length
  · rw [bs_at' hj] at hu
    obtain rfl := Option.some.inj hu
    have e1 : (⟨g, 0, none⟩ : Addr).add j = ⟨g, j, none⟩ := by
      unfold Addr.add
      by_cases hj : j = 0 <;> simp [hj]
    rw [e1]
    exact h.cells j hj
  · rw [List.getElem?_eq_none (by rw [bs_len]; omega)] at hu; cases hu
/-- The row as a text. -/
theorem text (h : BRow w B g n c l) : (convert 58 9 (.slice (some ⟨g, 0, none⟩) n c)).run Tryd.prog w = .ok (.string (strOf l)) w := by
  have := h.len
  subst this
  refine run_convert_bytes_back (P := Tryd.prog) w 58 9 5 ⟨g, 0, none⟩ c l Tryd.underlying58 Tryd.underlying5 Tryd.underlying9 (fun j hj => ?_)
  have e1 : (⟨g, 0, none⟩ : Addr).add j = ⟨g, j, none⟩ := by
    unfold Addr.add
    by_cases hj : j = 0 <;> simp [hj]
  rw [e1]
  exact h.cells j hj
end BRow
/-- A text turned into bytes. -/
theorem conv_row (w : World) (s : ByteArray) (hs : s.size ≤ 1000000) : ∃ C w', (convert 9 58 (.string s)).run Tryd.prog w = .ok (.slice (some ⟨w.heap.size, 0, none⟩) s.size C) w' ∧ BRow w' w.heap.size w.heap.size s.size C s.toList ∧ Below w.heap.size w w' := by
  have hr := run_bytes_of_string (P := Tryd.prog) w 9 58 5 s Tryd.underlying9 Tryd.underlying58 Tryd.underlying5
  refine ⟨_, _, hr, ?_, (Below.refl _ _).drew.alloc (Nat.le_refl _) _⟩
  have hge := grownCap_ge w s.size 0 5
  have hcm := grownCap_le_maxLen w s.size 0 5 (by unfold maxLen; omega)
  have hb : (w.drew.alloc (.cells (bytesRow s (grownCap w s.size 0 5)) 5 ((bytesRow s (grownCap w s.size 0 5)).size, (bytesRow s (grownCap w s.size 0 5)).size + 1))).heap[w.heap.size]? = some (.cells (bytesRow s (grownCap w s.size 0 5)) 5 ((bytesRow s (grownCap w s.size 0 5)).size, (bytesRow s (grownCap w s.size 0 5)).size + 1)) := heap_alloc_new w.drew _
  have hsz : (bytesRow s (grownCap w s.size 0 5)).size = grownCap w s.size 0 5 := by
    unfold bytesRow
    rw [Array.size_append, Array.size_map, Array.size_replicate]
    have : s.data.size = s.size := rfl
    omega
  refine ⟨Nat.le_refl _, by simp, toList_len s, hge, hcm, fun j hj => ?_, fun j hj => ⟨?_, ?_⟩⟩
  · have hj' : j < s.size := by rw [toList_len] at hj; exact hj
    rw [cell_of_row _ w.heap.size j _ _ _ hb, bytesRow_at s _ j hj']
    have e2 : s.toList[j] = s[j] := by simp [ByteArray.toList_eq]; rfl
    rw [e2]
    rfl
  · rw [cell_of_row _ w.heap.size j _ _ _ hb, Array.getElem?_eq_getElem (by rw [hsz]; exact hj)]
    rfl
  · unfold World.frozen?
    rw [hb]
    simp only [hsz]
    rw [Bool.and_eq_false_iff]
    exact .inl (decide_eq_false (by omega))
theorem setCells_tape (w : World) (g : Nat) : ∀ (o : Nat) (vs : List Value), (w.setCells g o vs).tape = w.tape := by
  intro o vs
  induction vs generalizing w o with
  | nil => rfl
  | cons v vs ih => exact (ih _ _).trans rfl
set_option maxRecDepth 100000 in
/-- Bytes appended to such a row. -/
theorem run_bytes {w : World} {B g n c : Nat} {l : List UInt8} (h : BRow w B g n c l) (hB : B ≤ w.heap.size) (ty : TypeId) {B' : Nat} {A : Option Addr} {m cm : Nat} {news : List UInt8} (hr : Reads w B' 1 A m (bs news)) (hm : 0 < m) (hn : n + m ≤ 1000000) :
    ∃ g' c' w', (Builtin.append_ #[58, 58] ty #[.slice (some ⟨g, 0, none⟩) n c, .slice A m cm]).run Tryd.prog w = .ok (.slice (some ⟨g', 0, none⟩) (n + m) c') w' ∧ BRow w' B g' (n + m) c' (l ++ news) ∧ Only [g] w w' ∧ (g' = g ∨ w.heap.size ≤ g') := by
  obtain ⟨ht, ⟨i, z, hi, hz, hsize, hby, hzs⟩, hsz⟩ := elemB
  obtain ⟨ad, rfl, hab, hac⟩ := hr.2 hm
  have hsrc : Src Tryd.prog 1 58 (.slice (some ad) m cm) m (bs news) w := Src.ofSlice w ht ad m cm (bs news) hr.1 hac (oneCells_bs news)
  have hlen : n + 0 + m ≤ maxLen := by unfold maxLen; omega
  obtain ⟨v', w', hrun, hu⟩ := run_append_upon (P := Tryd.prog) h.came 58 58 ty i z 1 ht hi hz hsize hby hzs (Upon.start h.came) (.slice (some ad) m cm) m (bs news) hsrc hlen (by omega)
  rw [Nat.zero_add, List.nil_append] at hu
  have hnl : news.length = m := by have := hr.1; rw [bs_len] at this; omega
  have happ : bs l ++ bs news = bs (l ++ news) := bs_append l news
  have htape : w'.tape = w.tape := by
    have hsrc' : Src Tryd.prog i.size 58 (.slice (some ad) m cm) m (bs news) w := by rw [hsize]; exact hsrc
    by_cases hroom : n + m ≤ c
    · have h2 := run_append_room_src (P := Tryd.prog) (w := w) 58 58 ty 5 i ht hi g 0 n c (.slice (some ad) m cm) m (bs news) hsrc' hroom (fun j hj => by
        rw [bs_len, hnl] at hj
        exact (h.there (0 + n * i.size + j) (by rw [hsize]; omega)).1) (fun j hj => by
        rw [bs_len, hnl] at hj
        exact (h.there (0 + n * i.size + j) (by rw [hsize]; omega)).2)
      rw [hrun] at h2
      injection h2 with _ hw
      rw [hw]
      exact setCells_tape _ _ _ _
    · have hold := run_firstCells_some (P := Tryd.prog) w.drew i.size n ⟨g, 0, none⟩ n c (bs l) (by rw [bs_len, h.len, hsize]; omega) (fun j u hu => by
        have hrd := h.reads.2 (by
          rcases Nat.eq_zero_or_pos n with h0 | h0
          · rw [List.eq_nil_of_length_eq_zero (l := bs l) (by rw [bs_len, h.len, h0])] at hu; simp at hu
          · exact h0)
        obtain ⟨ad', e, _, hc⟩ := hrd
        injection e with e
        subst e
        exact hc j u hu)
      have h2 := run_append_grow_src (P := Tryd.prog) w 58 58 ty 5 i z ht hi hz (some ⟨g, 0, none⟩) n c (bs l) hold (.slice (some ad) m cm) m (bs news) hsrc' (by omega) (by omega) (growslice_fits (by omega) (by rw [hby]; omega))
      rw [hrun] at h2
      injection h2 with _ hw
      rw [hw]
      rfl
  have honly : Only [g] w w' := ⟨hu.kept.1, htape, hu.kept.2.1, hu.kept.size, fun k hk hne => hu.kept.block hk (fun p ⟨j, _, e⟩ hp => hne (by rw [e] at hp; exact List.mem_singleton.2 (show k = g from hp.symm)))⟩
  rcases hu.val with ⟨h1, rfl, h3⟩ | ⟨h1, g', c', rfl, ho⟩
  · refine ⟨g, c, w', hrun, ⟨h.base, Nat.lt_of_lt_of_le h.lt hu.kept.size, by rw [List.length_append, h.len, hnl], by omega, h.max, fun j hj => ?_, fun j hj => ⟨?_, ?_⟩⟩, honly, .inl rfl⟩
    · have := hu.inArray h.came (by omega) h3 j (by rw [List.length_append, h.len, hnl] at hj; omega)
      rw [Nat.zero_add, happ, bs_at' hj] at this
      exact this
    · by_cases hj2 : j < (n + m) * 1
      · have := hu.inArray h.came (by omega) h3 j hj2
        rw [Nat.zero_add] at this
        rw [this, happ, bs_at' (by rw [List.length_append, h.len, hnl]; omega)]
        rfl
      · rw [hu.old h.lt (fun j' hj' ⟨_, e⟩ => by have := hu.rLe; rw [bs_len] at this; omega)]
        exact (h.there j hj).1
    · rw [hu.frozen ⟨g, j, none⟩ h.lt]
      exact (h.there j hj).2
  · refine ⟨g', c', w', hrun, ⟨Nat.le_trans hB ho.new, ?_, by rw [List.length_append, h.len, hnl], ho.le, ho.max, fun j hj => ?_, fun j hj => ?_⟩, honly, .inr ho.new⟩
    · have := (ho.there 0 (by have := ho.le; omega)).1
      obtain ⟨u, hu2⟩ := Option.isSome_iff_exists.1 this
      exact World.block_lt_of_cell? _ _ hu2
    · have := ho.holds j (by rw [List.length_append, h.len, hnl] at hj; omega)
      rw [happ, bs_at' hj] at this
      exact this
    · exact ho.there j (by omega)
theorem wpList_bytes {ops : Array Oper} {rest : List Oper} {o : Oper} {a : Act} {Q : Exit → Act → World → Prop} {w : World} (s x : Operand) (hgd : o.guard = none)
    (ho : o.op = .call { callee := .builtin .append, args := #[s, x], argTypes := #[58, 58] })
    {B g n c : Nat} {l : List UInt8} (hs : a.eval s = .slice (some ⟨g, 0, none⟩) n c) {B' : Nat} {A : Option Addr} {m cm : Nat} {news : List UInt8} (hx : a.eval x = .slice A m cm)
    (h : BRow w B g n c l) (hB : B ≤ w.heap.size) (hr : Reads w B' 1 A m (bs news)) (hm : 0 < m) (hn : n + m ≤ 1000000)
    (hK : ∀ g' c' w', BRow w' B g' (n + m) c' (l ++ news) → Only [g] w w' → (g' = g ∨ w.heap.size ≤ g') → wpList Tryd.prog ops Q rest (a.put o.dst (.slice (some ⟨g', 0, none⟩) (n + m) c')) w') : wpList Tryd.prog ops Q (o :: rest) a w := by
  refine wpList_plain hgd fun K hK' => ?_
  obtain ⟨g', c', w', hrun, h1, h2, h3⟩ := run_bytes h hB o.type hr (cm := cm) hm hn
  unfold Oper.wp execOp
  simp only [ho, resolve, invoke, builtin, Sem.run_bind, Sem.run_pure, Result.andThen_ok, List.map_toArray, List.map_cons, List.map_nil, hs, hx, hrun]
  exact hK' _ _ (hK g' c' w' h1 h2 h3)
end Go.Proofs.YtlcjgldlblpboaaDoor
