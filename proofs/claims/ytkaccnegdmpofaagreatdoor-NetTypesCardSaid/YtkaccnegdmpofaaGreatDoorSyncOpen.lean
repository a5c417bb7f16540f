/- 12 texts in one: each says ahead of itself what is proved, and its conditions. -/
import Derived.BigQuiet
import Derived.Deep.Upon
import Derived.Laws.ResultCell
import Derived.Test.YtkaccnegdmpofaaGreatDoorBookAt
import Derived.Test.YtkaccnegdmpofaaGreatDoorDecode
import Derived.Test.YtkaccnegdmpofaaGreatDoorDocKnown
import Derived.Test.YtkaccnegdmpofaaGreatDoorDocs2
import Derived.Test.YtkaccnegdmpofaaGreatDoorReadSpec
import Derived.Test.YtkaccnegdmpofaaGreatDoorRefApply
import Derived.Test.YtkaccnegdmpofaaGreatDoorRefOp
import Derived.Test.YtkaccnegdmpofaaGreatDoorSyncLaw
import Derived.Test.YtkaccnegdmpofaaGreatDoorUnpack
/- Parcels, as plain laws: what is packed is unpacked; what is unpacked is packed so. Conditions: none of our own. -/
namespace Go.Proofs.YtkaccnegdmpofaaGreatDoor
open Go.RowKit
set_option linter.unusedVariables false
theorem twoB_nat {n : Nat} (h : n ≤ 65535) : ∃ c d : UInt8, twoB n = [c, d] ∧ c.toNat * 256 + d.toNat = n := by
  refine ⟨_, _, rfl, ?_⟩
  have h1 := u8_val (show (0 : Int) ≤ (n : Int) / 256 by omega) (show (n : Int) / 256 ≤ 255 by omega)
  have h2 := u8_val (show (0 : Int) ≤ (n : Int) % 256 by omega) (show (n : Int) % 256 ≤ 255 by omega)
  omega
theorem twoB_of (c d : UInt8) : twoB (c.toNat * 256 + d.toNat) = [c, d] := by
  have hc := UInt8.toNat_lt c
  have hd := UInt8.toNat_lt d
  unfold twoB u8
  have e1 : (((c.toNat * 256 + d.toNat : Nat) : Int) / 256).toNat = c.toNat := by omega
  have e2 : (((c.toNat * 256 + d.toNat : Nat) : Int) % 256).toNat = d.toNat := by omega
  rw [e1, e2]
  simp
theorem unpackN_pack {l : List LOp} (h : opsErr l = 0) : unpackN l.length (packBody l) = some l := by
  induction l with
  | nil => rfl
  | cons a l ih =>
    unfold opsErr at h
    by_cases ha : opErr a = 0
    · rw [if_pos ha] at h
      have h2 := opBytes_len ha
      obtain ⟨c, d, e1, e2⟩ := twoB_nat (n := (opBytes a).length) (by omega)
      have e : packBody (a :: l) = c :: d :: (opBytes a ++ packBody l) := by
        unfold packBody
        rw [List.flatMap_cons, e1]
        simp
      rw [e, List.length_cons, unpackN, e2, if_neg (by rw [List.length_append]; omega), List.take_left' rfl, List.drop_left' rfl, dec_enc ha, ih h]
      rfl
    · rw [if_neg ha] at h; exact absurd h ha
theorem unpack_pack {l : List LOp} (h : packErr l = 0) : unpackOf (packBytes l) = some l := by
  unfold packErr at h
  by_cases h4 : 400 < l.length
  · rw [if_pos h4] at h; omega
  · rw [if_neg h4] at h
    obtain ⟨c, d, e1, e2⟩ := twoB_nat (n := l.length) (by omega)
    have e : packBytes l = c :: d :: packBody l := by unfold packBytes; rw [e1]; rfl
    rw [e, unpackOf, e2, if_neg h4, unpackN_pack h]
theorem pack_unpackN {n : Nat} {t : List UInt8} {l : List LOp} (h : unpackN n t = some l) : opsErr l = 0 ∧ l.length = n ∧ packBody l = t := by
  induction n generalizing t l with
  | zero =>
    unfold unpackN at h
    by_cases ht : t = []
    · rw [if_pos ht] at h
      injection h with h
      subst h
      exact ⟨rfl, rfl, ht.symm⟩
    · rw [if_neg ht] at h; cases h
  | succ n ih =>
    match t, h with
    | c :: d :: t, h =>
      rw [unpackN] at h
      by_cases hq : t.length < c.toNat * 256 + d.toNat
      · rw [if_pos hq] at h; cases h
      · rw [if_neg hq] at h
        cases hd : decOf (strOf (t.take (c.toNat * 256 + d.toNat))) with
        | none => rw [hd] at h; cases h
        | some o =>
          rw [hd] at h
          simp only at h
          cases hu : unpackN n (t.drop (c.toNat * 256 + d.toNat)) with
          | none => rw [hu] at h; cases h
          | some l' =>
            rw [hu] at h
            injection h with h
            subst h
            obtain ⟨i1, i2, i3⟩ := ih hu
            obtain ⟨d1, d2⟩ := dec_some hd
            have d2' : opBytes o = t.take (c.toNat * 256 + d.toNat) := d2
            refine ⟨by rw [opsErr, if_pos d1]; exact i1, by rw [List.length_cons, i2], ?_⟩
            have hl : (opBytes o).length = c.toNat * 256 + d.toNat := by rw [d2', List.length_take]; omega
            have e : packBody (o :: l') = twoB (opBytes o).length ++ opBytes o ++ packBody l' := by unfold packBody; rw [List.flatMap_cons]
            rw [e, hl, twoB_of, d2', i3, List.append_assoc, List.take_append_drop]
            rfl
    | [], h => rw [unpackN] at h; cases h; simp
    | [a], h => rw [unpackN] at h; cases h; simp
theorem pack_unpack {t : List UInt8} {l : List LOp} (h : unpackOf t = some l) : packErr l = 0 ∧ packBytes l = t := by
  match t, h with
  | c :: d :: t, h =>
    rw [unpackOf] at h
    by_cases h4 : 400 < c.toNat * 256 + d.toNat
    · rw [if_pos h4] at h; cases h
    · rw [if_neg h4] at h
      obtain ⟨i1, i2, i3⟩ := pack_unpackN h
      refine ⟨by rw [packErr, i2, if_neg h4]; exact i1, ?_⟩
      rw [packBytes, i2, twoB_of, i3]
      rfl
  | [], h => cases h
  | [a], h => cases h
end Go.Proofs.YtkaccnegdmpofaaGreatDoor
/- A row of bytes that a text was turned into: bytes appended to it. Plain lemmas. Conditions: none. -/
namespace Go.Proofs.YtkaccnegdmpofaaGreatDoor
open Go.RowKit
set_option linter.unusedVariables false
theorem bs_at' {l : List UInt8} {k : Nat} (h : k < l.length) : (bs l)[k]? = some (.int .u8 l[k].toNat) := by simp [bs, h]
/-- A row of bytes in a block of the call's own, its spare free. -/
structure BRow (w : World) (B g n c : Nat) (l : List UInt8) : Prop where
  base : B ≤ g
  lt : g < w.heap.size
  len : l.length = n
  le : n ≤ c
  max : c ≤ maxLen
  cells : ∀ j (hj : j < l.length), w.cell? ⟨g, j, none⟩ = some (.int .u8 (l[j].toNat : Int))
  there : ∀ j, j < c → (w.cell? ⟨g, j, none⟩).isSome = true ∧ w.frozen? ⟨g, j, none⟩ = false
namespace BRow
variable {w w' : World} {B g n c : Nat} {l : List UInt8}
theorem below (h : BRow w B g n c l) (hb : Below w.heap.size w w') : BRow w' B g n c l :=
  ⟨h.base, Nat.lt_of_lt_of_le h.lt hb.size, h.len, h.le, h.max, fun j hj => (hb.cell h.lt).trans (h.cells j hj), fun j hj => ⟨by rw [hb.cell (p := ⟨g, j, none⟩) h.lt]; exact (h.there j hj).1, by rw [hb.frozen (p := ⟨g, j, none⟩) h.lt]; exact (h.there j hj).2⟩⟩
theorem mono {B' : Nat} (h : BRow w B g n c l) (hB : B' ≤ B) : BRow w B' g n c l := { h with base := Nat.le_trans hB h.base }
theorem came (h : BRow w B g n c l) : Came w 1 (some ⟨g, 0, none⟩) g 0 n c (bs l) := by
  refine ⟨h.le, fun _ => rfl, fun _ => h.lt, by rw [bs_len, h.len]; omega, fun j u hu => ?_, fun j hj => ?_⟩
  · by_cases hj : j < l.length
    · rw [bs_at' hj] at hu
      obtain rfl := Option.some.inj hu
      rw [Nat.zero_add]
      exact h.cells j hj
    · rw [List.getElem?_eq_none (by rw [bs_len]; omega)] at hu; cases hu
  · have := h.there (0 + n * 1 + j) (by omega)
    exact this
theorem reads (h : BRow w B g n c l) : Reads w w.heap.size 1 (some ⟨g, 0, none⟩) n (bs l) := by
  refine ⟨by rw [bs_len, h.len]; omega, fun _ => ⟨_, rfl, h.lt, fun j u hu => ?_⟩⟩
  by_cases hj : j < l.length
  · rw [bs_at' hj] at hu
    obtain rfl := Option.some.inj hu
    have e1 : (⟨g, 0, none⟩ : Addr).add j = ⟨g, j, none⟩ := by
      unfold Addr.add
      by_cases hj : j = 0 <;> simp [hj]
    rw [e1]
    exact h.cells j hj
  · rw [List.getElem?_eq_none (by rw [bs_len]; omega)] at hu; cases hu
/-- The row as a text. -/
theorem text (h : BRow w B g n c l) : (convert 154 9 (.slice (some ⟨g, 0, none⟩) n c)).run Tryz.prog w = .ok (.string (strOf l)) w := by
  have := h.len
  subst this
  refine run_convert_bytes_back (P := Tryz.prog) w 154 9 5 ⟨g, 0, none⟩ c l Tryz.underlying154 Tryz.underlying5 Tryz.underlying9 (fun j hj => ?_)
  have e1 : (⟨g, 0, none⟩ : Addr).add j = ⟨g, j, none⟩ := by
    unfold Addr.add
    by_cases hj : j = 0 <;> simp [hj]
  rw [e1]
  exact h.cells j hj
end BRow
/-- A text turned into bytes. -/
theorem conv_row (w : World) (s : ByteArray) (hs : s.size ≤ 1000000) : ∃ C w', (convert 9 154 (.string s)).run Tryz.prog w = .ok (.slice (some ⟨w.heap.size, 0, none⟩) s.size C) w' ∧ BRow w' w.heap.size w.heap.size s.size C s.toList ∧ Below w.heap.size w w' := by
  have hr := run_bytes_of_string (P := Tryz.prog) w 9 154 5 s Tryz.underlying9 Tryz.underlying154 Tryz.underlying5
  refine ⟨_, _, hr, ?_, (Below.refl _ _).drew.alloc (Nat.le_refl _) _⟩
  have hge := grownCap_ge w s.size 0 5
  have hcm := grownCap_le_maxLen w s.size 0 5 (by unfold maxLen; omega)
  have hb : (w.drew.alloc (.cells (bytesRow s (grownCap w s.size 0 5)) 5 ((bytesRow s (grownCap w s.size 0 5)).size, (bytesRow s (grownCap w s.size 0 5)).size + 1))).heap[w.heap.size]? = some (.cells (bytesRow s (grownCap w s.size 0 5)) 5 ((bytesRow s (grownCap w s.size 0 5)).size, (bytesRow s (grownCap w s.size 0 5)).size + 1)) := heap_alloc_new w.drew _
  have hsz : (bytesRow s (grownCap w s.size 0 5)).size = grownCap w s.size 0 5 := by
    unfold bytesRow
    rw [Array.size_append, Array.size_map, Array.size_replicate]
    have : s.data.size = s.size := rfl
    omega
  refine ⟨Nat.le_refl _, by simp, toList_len s, hge, hcm, fun j hj => ?_, fun j hj => ⟨?_, ?_⟩⟩
  · have hj' : j < s.size := by rw [toList_len] at hj; exact hj
    rw [cell_of_row _ w.heap.size j _ _ _ hb, bytesRow_at s _ j hj']
    have e2 : s.toList[j] = s[j] := by simp [ByteArray.toList_eq]; rfl
    rw [e2]
    rfl
  · rw [cell_of_row _ w.heap.size j _ _ _ hb, Array.getElem?_eq_getElem (by rw [hsz]; exact hj)]
    rfl
  · unfold World.frozen?
    rw [hb]
    simp only [hsz]
    rw [Bool.and_eq_false_iff]
    exact .inl (decide_eq_false (by omega))
theorem setCells_tape (w : World) (g : Nat) : ∀ (o : Nat) (vs : List Value), (w.setCells g o vs).tape = w.tape := by
  intro o vs
  induction vs generalizing w o with
  | nil => rfl
  | cons v vs ih => exact (ih _ _).trans rfl
set_option maxRecDepth 100000 in
/-- Bytes appended to such a row. -/
theorem run_bytes {w : World} {B g n c : Nat} {l : List UInt8} (h : BRow w B g n c l) (hB : B ≤ w.heap.size) (ty : TypeId) {B' : Nat} {A : Option Addr} {m cm : Nat} {news : List UInt8} (hr : Reads w B' 1 A m (bs news)) (hm : 0 < m) (hn : n + m ≤ 1000000) :
    ∃ g' c' w', (Builtin.append_ #[154, 154] ty #[.slice (some ⟨g, 0, none⟩) n c, .slice A m cm]).run Tryz.prog w = .ok (.slice (some ⟨g', 0, none⟩) (n + m) c') w' ∧ BRow w' B g' (n + m) c' (l ++ news) ∧ Only [g] w w' ∧ (g' = g ∨ w.heap.size ≤ g') := by
  obtain ⟨ht, ⟨i, z, hi, hz, hsize, hby, hzs⟩, hsz⟩ := elemB
  obtain ⟨ad, rfl, hab, hac⟩ := hr.2 hm
  have hsrc : Src Tryz.prog 1 154 (.slice (some ad) m cm) m (bs news) w := Src.ofSlice w ht ad m cm (bs news) hr.1 hac (oneCells_bs news)
  have hlen : n + 0 + m ≤ maxLen := by unfold maxLen; omega
  obtain ⟨v', w', hrun, hu⟩ := run_append_upon (P := Tryz.prog) h.came 154 154 ty i z 1 ht hi hz hsize hby hzs (Upon.start h.came) (.slice (some ad) m cm) m (bs news) hsrc hlen (by omega)
  rw [Nat.zero_add, List.nil_append] at hu
  have hnl : news.length = m := by have := hr.1; rw [bs_len] at this; omega
  have happ : bs l ++ bs news = bs (l ++ news) := bs_append l news
  have htape : w'.tape = w.tape := by
    have hsrc' : Src Tryz.prog i.size 154 (.slice (some ad) m cm) m (bs news) w := by rw [hsize]; exact hsrc
    by_cases hroom : n + m ≤ c
    · have h2 := run_append_room_src (P := Tryz.prog) (w := w) 154 154 ty 5 i ht hi g 0 n c (.slice (some ad) m cm) m (bs news) hsrc' hroom (fun j hj => by
        rw [bs_len, hnl] at hj
        exact (h.there (0 + n * i.size + j) (by rw [hsize]; omega)).1) (fun j hj => by
        rw [bs_len, hnl] at hj
        exact (h.there (0 + n * i.size + j) (by rw [hsize]; omega)).2)
      rw [hrun] at h2
      injection h2 with _ hw
      rw [hw]
      exact setCells_tape _ _ _ _
    · have hold := run_firstCells_some (P := Tryz.prog) w.drew i.size n ⟨g, 0, none⟩ n c (bs l) (by rw [bs_len, h.len, hsize]; omega) (fun j u hu => by
        have hrd := h.reads.2 (by
          rcases Nat.eq_zero_or_pos n with h0 | h0
          · rw [List.eq_nil_of_length_eq_zero (l := bs l) (by rw [bs_len, h.len, h0])] at hu; simp at hu
          · exact h0)
        obtain ⟨ad', e, _, hc⟩ := hrd
        injection e with e
        subst e
        exact hc j u hu)
      have h2 := run_append_grow_src (P := Tryz.prog) w 154 154 ty 5 i z ht hi hz (some ⟨g, 0, none⟩) n c (bs l) hold (.slice (some ad) m cm) m (bs news) hsrc' (by omega) (by omega) (growslice_fits (by omega) (by rw [hby]; omega))
      rw [hrun] at h2
      injection h2 with _ hw
      rw [hw]
      rfl
  have honly : Only [g] w w' := ⟨hu.kept.1, htape, hu.kept.2.1, hu.kept.size, fun k hk hne => hu.kept.block hk (fun p ⟨j, _, e⟩ hp => hne (by rw [e] at hp; exact List.mem_singleton.2 (show k = g from hp.symm)))⟩
  rcases hu.val with ⟨h1, rfl, h3⟩ | ⟨h1, g', c', rfl, ho⟩
  · refine ⟨g, c, w', hrun, ⟨h.base, Nat.lt_of_lt_of_le h.lt hu.kept.size, by rw [List.length_append, h.len, hnl], by omega, h.max, fun j hj => ?_, fun j hj => ⟨?_, ?_⟩⟩, honly, .inl rfl⟩
    · have := hu.inArray h.came (by omega) h3 j (by rw [List.length_append, h.len, hnl] at hj; omega)
      rw [Nat.zero_add, happ, bs_at' hj] at this
      exact this
    · by_cases hj2 : j < (n + m) * 1
      · have := hu.inArray h.came (by omega) h3 j hj2
        rw [Nat.zero_add] at this
        rw [this, happ, bs_at' (by rw [List.length_append, h.len, hnl]; omega)]
        rfl
      · rw [hu.old h.lt (fun j' hj' ⟨_, e⟩ => by have := hu.rLe; rw [bs_len] at this; omega)]
        exact (h.there j hj).1
    · rw [hu.frozen ⟨g, j, none⟩ h.lt]
      exact (h.there j hj).2
  · refine ⟨g', c', w', hrun, ⟨Nat.le_trans hB ho.new, ?_, by rw [List.length_append, h.len, hnl], ho.le, ho.max, fun j hj => ?_, fun j hj => ?_⟩, honly, .inr ho.new⟩
    · have := (ho.there 0 (by have := ho.le; omega)).1
      obtain ⟨u, hu2⟩ := Option.isSome_iff_exists.1 this
      exact World.block_lt_of_cell? _ _ hu2
    · have := ho.holds j (by rw [List.length_append, h.len, hnl] at hj; omega)
      rw [happ, bs_at' hj] at this
      exact this
    · exact ho.there j (by omega)
theorem wpList_bytes {ops : Array Oper} {rest : List Oper} {o : Oper} {a : Act} {Q : Exit → Act → World → Prop} {w : World} (s x : Operand) (hgd : o.guard = none)
    (ho : o.op = .call { callee := .builtin .append, args := #[s, x], argTypes := #[154, 154] })
    {B g n c : Nat} {l : List UInt8} (hs : a.eval s = .slice (some ⟨g, 0, none⟩) n c) {B' : Nat} {A : Option Addr} {m cm : Nat} {news : List UInt8} (hx : a.eval x = .slice A m cm)
    (h : BRow w B g n c l) (hB : B ≤ w.heap.size) (hr : Reads w B' 1 A m (bs news)) (hm : 0 < m) (hn : n + m ≤ 1000000)
    (hK : ∀ g' c' w', BRow w' B g' (n + m) c' (l ++ news) → Only [g] w w' → (g' = g ∨ w.heap.size ≤ g') → wpList Tryz.prog ops Q rest (a.put o.dst (.slice (some ⟨g', 0, none⟩) (n + m) c')) w') : wpList Tryz.prog ops Q (o :: rest) a w := by
  refine wpList_plain hgd fun K hK' => ?_
  obtain ⟨g', c', w', hrun, h1, h2, h3⟩ := run_bytes h hB o.type hr (cm := cm) hm hn
  unfold Oper.wp execOp
  simp only [ho, resolve, invoke, builtin, Sem.run_bind, Sem.run_pure, Result.andThen_ok, List.map_toArray, List.map_cons, List.map_nil, hs, hx, hrun]
  exact hK' _ _ (hK g' c' w' h1 h2 h3)
end Go.Proofs.YtkaccnegdmpofaaGreatDoor
/- leafref1.two, number, Bytes, walked: the bytes of an op without fault. Conditions: stated. -/
namespace Go.Proofs.YtkaccnegdmpofaaGreatDoor
open Go.RowKit
set_option linter.unusedVariables false
def RTwoPost (w : World) (B : Nat) (V : Option Addr) (n : Nat) (l : List UInt8) (k : Nat) (e : Ending) (w' : World) : Prop :=
  ∃ V' cv', e = .returned (.slice V' (n + 1 + 1) cv') ∧ Own w' B 5 1 V' (n + 1 + 1) cv' (bs (l ++ twoB k)) ∧ Only (ob V) w w'
set_option maxRecDepth 100000 in
set_option maxHeartbeats 2000000 in
theorem r2_any (w : World) (B : Nat) (hB : B ≤ w.heap.size) (V : Option Addr) (n cv : Nat) (l : List UInt8) (h : Own w B 5 1 V n cv (bs l)) (k : Nat) (hk : k ≤ 65535) (hn : n ≤ 100000) :
    Calls Tryz.prog 137 #[.slice V n cv, .int .i64 (k : Nat)] w (RTwoPost w B V n l k) := by
  have HO := Lib.hid h
  have a0 : (0 : Int) ≤ (k : Int) / 256 := by omega
  have a1 : (k : Int) / 256 ≤ 255 := by omega
  have a2 : (0 : Int) ≤ (k : Int) % 256 := by omega
  have a3 : (k : Int) % 256 ≤ 255 := by omega
  have E1 := u8_val a0 a1
  have E2 := u8_val a2 a3
  have R1 := Lib.hid (fun W : World => reads_new W [u8 ((k : Int) / 256)] (by simp) #[.int .u8 ((k : Int) / 256)] (by simp [bs, E1]))
  have R2 := Lib.hid (fun W : World => reads_new W [u8 ((k : Int) % 256)] (by simp) #[.int .u8 ((k : Int) % 256)] (by simp [bs, E2]))
  have hF1 : Fits (n + 1) 1 := Fits.of_small (by omega) (by decide)
  have hF2 : Fits (n + 1 + 1) 1 := Fits.of_small (by omega) (by decide)
  have HL0 := Lib.hid (fun i hi => (h.lt i hi).1)
  have k0 : (0 : Int) ≤ (k : Int) := by omega
  have k1 : (k : Int) ≤ 65535 := by omega
  have HBB := Lib.hid hB
  clear h E1 E2 hn hB
  go_enter Tryz.func137, Tryz.ntmps137
  go_wp2_with (at_builtin; first
    | (refine wpList_app _ (.tmp 5) (.tmp 9) rfl rfl elemB rfl rfl (HO.out.alloc _) (R1.out _) (oneCells_bs _) hF1 (by have := HBB.out; simp; omega) ?_; intro V1 cv1 w1 HO1 HL1 HX1; have HO1 := Lib.hid HO1; have HL1 := Lib.hid HL1; have HX1 := Lib.hid HX1)
    | (refine wpList_app _ (.tmp 11) (.tmp 15) rfl rfl elemB rfl rfl (HO1.out.alloc _) (R2.out _) (oneCells_bs _) hF2 (by have := HBB.out; have := HL1.out.size; simp at this ⊢; omega) ?_; intro V2 cv2 w2 HO2 HL2 HX2; have HO2 := Lib.hid HO2; have HL2 := Lib.hid HL2; clear HX2))
  go_ret
  refine ⟨V2, cv2, rfl, ?_, ?_⟩
  · have := HO2.out
    rw [bs_append, bs_append, List.append_assoc] at this
    exact this
  · have ha := (Only.refl (ob V) w).alloc (.cells #[.int .u8 ((k : Int) / 256)] 5)
    have h1 := ha.trans HL1.out
    have h2 := h1.alloc (.cells #[.int .u8 ((k : Int) % 256)] 5)
    refine h2.trans_new HL2.out (fun i hi => ?_)
    rcases HX1.out i hi with h | h
    · exact .inl h
    · exact .inr (by rw [h]; simp)
theorem two_wrap (c d : UInt8) : wrap64 (wrap64 (wrap64 (c.toNat : Int) * 256) + wrap64 (d.toNat : Int)) = ((c.toNat * 256 + d.toNat : Nat) : Int) := by
  have q1 := UInt8.toNat_lt c
  have q2 := UInt8.toNat_lt d
  have e1 : wrap64 (c.toNat : Int) = c.toNat := by unfold wrap64; omega
  have e2 : wrap64 (d.toNat : Int) = d.toNat := by unfold wrap64; omega
  rw [e1, e2]
  have e3 : wrap64 ((c.toNat : Int) * 256) = (c.toNat : Int) * 256 := by unfold wrap64; omega
  rw [e3]
  unfold wrap64
  omega
set_option maxRecDepth 100000 in
theorem rnum2_any (w : World) (s : ByteArray) (i : Nat) (c d : UInt8) (hi : i + 1 < s.size) (hm : s.size ≤ 9223372036854775807) (hc : s[i] = c) (hd : s[i + 1] = d) :
    Calls Tryz.prog 171 #[.string s, .int .i64 (i : Nat)] w (CheckPost w (.int .i64 ((c.toNat * 256 + d.toNat : Nat) : Int))) := by
  have i0 : (0 : Int) ≤ (i : Int) := by omega
  have i1 : i < s.size := by omega
  have i2 : (i : Int) < (s.size : Int) := by omega
  have i3 : (0 : Int) ≤ (i : Int) + 1 := by omega
  have i4 : (i : Int) + 1 < (s.size : Int) := by omega
  have i5 : ((i : Int) + 1).toNat = i + 1 := by omega
  have i6 : (i : Int).toNat = i := by omega
  have i7 : (i : Int) + 1 ≤ 9223372036854775807 := by omega
  have q1 := UInt8.toNat_lt c
  have q2 := UInt8.toNat_lt d
  have HC := Lib.hid hc
  have HD := Lib.hid hd
  have w1 : IntKind.i64.wrap ((i : Int) + 1) = (i : Int) + 1 := IntWalk.i64_in _ (by omega)
  clear hc hd hm
  go_enter Tryz.func171, Tryz.ntmps171
  go_wp2_with fail
  go_quiet (fail)
  go_wp2_with fail
  go_ret
  refine ⟨?_, below_drewN (Below.refl _ _) _⟩
  rw [← HC.out, ← HD.out, ← two_wrap]
  rfl
end Go.Proofs.YtkaccnegdmpofaaGreatDoor
/- leafref1.Bytes, walked: the bytes of an op without fault. Conditions: it is without fault. -/
namespace Go.Proofs.YtkaccnegdmpofaaGreatDoor
open Go.RowKit
set_option linter.unusedVariables false
theorem EncSt.six {w wr : World} {o : LOp} {A V : Option Addr} {c n cv : Nat} {l : List UInt8} (h : EncSt w o A c V n cv l wr) :
    wr.cell? ⟨w.heap.size, 0, none⟩ = some (.int .i64 o.dot.who) ∧ wr.cell? ⟨w.heap.size, 1, none⟩ = some (.int .i64 o.dot.n) ∧ wr.cell? ⟨w.heap.size, 2, none⟩ = some (.int .i64 o.what) ∧ wr.cell? ⟨w.heap.size, 3, none⟩ = some (.string o.place) ∧
      wr.cell? ⟨w.heap.size, 4, none⟩ = some (.int .i64 o.letter) ∧ wr.cell? ⟨w.heap.size, 5, none⟩ = some (.slice A o.seen.length c) :=
  ⟨by rw [h.cell]; rfl, by rw [h.cell]; rfl, by rw [h.cell]; rfl, by rw [h.cell]; rfl, by rw [h.cell]; rfl, by rw [h.cell]; rfl⟩
theorem EncSt.two {w wr w' : World} {o : LOp} {A V : Option Addr} {c n cv k : Nat} {l : List UInt8} (h : EncSt w o A c V n cv l wr) {e : Ending} (hp : RTwoPost wr (w.heap.size + 1) V n l k e w') :
    ∃ V' cv', e = .returned (.slice V' (n + 1 + 1) cv') ∧ EncSt w o A c V' (n + 1 + 1) cv' (l ++ twoB k) w' := by
  obtain ⟨V', cv', rfl, h1, h2⟩ := hp
  refine ⟨V', cv', rfl, h1, h2.blk h.box (fun hm => by have := (h.own.lt _ hm).1; omega), h.bel.trans (h2.below h.bel.size (fun i hi => by have := (h.own.lt _ hi).1; omega))⟩
set_option maxRecDepth 100000 in
set_option maxHeartbeats 4000000 in
theorem rbytes_any (w : World) (A : Option Addr) (c : Nat) (o : LOp) (h : Reads w w.heap.size 2 A o.seen.length (dcells o.seen)) (he : opErr o = 0) :
    Calls Tryz.prog 138 #[o.val A c] w (CheckPost w (.string (strOf (opBytes o)))) := by
  have ok := opOk_of he
  have hbl := opBytes_len he
  have OK := Lib.hid ok
  have HS := Lib.hid h
  have b1 := ok.who.1
  have b2 := ok.who.2
  have b3 := ok.n.1
  have b4 := ok.n.2
  have b5 := ok.what.1
  have b6 := ok.what.2
  have b7 := placeErr_len ok.place
  have EW := Lib.hid (u8_val (show 0 ≤ o.what by omega) (show o.what ≤ 255 by omega))
  have ED := Lib.hid (u8_val (show 0 ≤ o.dot.who by omega) (show o.dot.who ≤ 255 by omega))
  have EP := Lib.hid (u8_val (show 0 ≤ (o.place.size : Int) by omega) (show (o.place.size : Int) ≤ 255 by omega))
  have RW := Lib.hid (fun W : World => reads_new W [u8 o.what] (by simp) #[.int .u8 o.what] (by simp [bs, EW.out]))
  have RD := Lib.hid (fun W : World => reads_new W [u8 o.dot.who] (by simp) #[.int .u8 o.dot.who] (by simp [bs, ED.out]))
  have RP := Lib.hid (fun W : World => reads_new W [u8 o.place.size] (by simp) #[.int .u8 (o.place.size : Int)] (by simp [bs, EP.out]))
  have HT := Lib.hid (fun (W : World) (V : Option Addr) (n cv : Nat) (l : List UInt8) (k : Nat) (hB : w.heap.size + 1 ≤ W.heap.size) (hO : Own W (w.heap.size + 1) 5 1 V n cv (bs l)) (hk : k ≤ 65535) (hn : n ≤ 100000) => r2_any W (w.heap.size + 1) hB V n cv l hO k hk hn)
  obtain ⟨dn, hdn⟩ : ∃ dn : Nat, o.dot.n = (dn : Int) := ⟨o.dot.n.toNat, by omega⟩
  have HDN := Lib.hid hdn
  have hdn2 : dn ≤ 9999 := by omega
  have ST0 : EncSt w o A c none 0 0 [] (w.alloc (.cells (o.cells A c) 48)) :=
    ⟨Own.nil _ _ _ _, Blk.new w 48 (o.cells A c), (Below.refl _ _).alloc (Nat.le_refl _) _⟩
  obtain ⟨W0, hW0⟩ : ∃ W0, W0 = w.alloc (.cells (o.cells A c) 48) := ⟨_, rfl⟩
  rw [← hW0] at ST0
  obtain ⟨i0, i1, i2, i3, i4, i5⟩ := ST0.six
  have HST0 := Lib.hid ST0
  have hF1 : Fits (0 + 1) 1 := Fits.of_small (by decide) (by decide)
  have hF2 : Fits (0 + 1 + 1) 1 := Fits.of_small (by decide) (by decide)
  clear ST0 h ok he hdn
  unfold LOp.val LOp.cells at *
  go_enter Tryz.func138, Tryz.ntmps138
  go_upto_region 1 with (fail)
  rw [← hW0]
  clear hW0
  go_upto_region 3 with (at_builtin; go_loud (refine wpList_app _ (.tmp 7) (.tmp 11) rfl rfl elemB rfl rfl (HST0.out.alloc _).own (RW.out _) (oneCells_bs _) hF1 (HST0.out.alloc _).base ?_; intro V1 cv1 w1 HO HL HX; have HST1 := Lib.hid ((HST0.out.alloc _).app HO HL); clear HO HL HX))
  clear i0 i1 i2 i3 i4 i5
  obtain ⟨i0, i1, i2, i3, i4, i5⟩ := HST1.out.six
  go_upto_region 4 with (at_builtin; refine wpList_app _ (.tmp 13) (.tmp 18) rfl rfl elemB rfl rfl (HST1.out.alloc _).own (RD.out _) (oneCells_bs _) hF2 (HST1.out.alloc _).base ?_; intro V2 cv2 w2 HO HL HX; have HST2 := Lib.hid ((HST1.out.alloc _).app HO HL); clear HO HL HX)
  clear i0 i1 i2 i3 i4 i5
  obtain ⟨i0, i1, i2, i3, i4, i5⟩ := HST2.out.six
  rw [HDN.out] at i1
  go_wp2_with fail
  refine (HT.out _ _ _ _ _ _ HST2.out.base HST2.out.own (by omega) (by omega)).mono ?_
  intro e w3 hp
  obtain ⟨V3, cv3, rfl, ST3⟩ := HST2.out.two hp
  clear hp i0 i1 i2 i3 i4 i5
  have HST3 := Lib.hid ST3
  clear ST3
  obtain ⟨i0, i1, i2, i3, i4, i5⟩ := HST3.out.six
  have hF4 : Fits (0 + 1 + 1 + 1 + 1 + 1) 1 := Fits.of_small (by decide) (by decide)
  go_upto_region 6 with (at_builtin; refine wpList_app _ (.tmp 25) (.tmp 30) rfl rfl elemB rfl rfl (HST3.out.alloc _).own (RP.out _) (oneCells_bs _) hF4 (HST3.out.alloc _).base ?_; intro V4 cv4 w4 HO HL HX; have HST4 := Lib.hid ((HST3.out.alloc _).app HO HL); clear HO HL HX)
  clear i0 i1 i2 i3 i4 i5
  obtain ⟨i0, i1, i2, i3, i4, i5⟩ := HST4.out.six
  obtain ⟨C, w5, hcv, hR5, hB5⟩ := conv_row w4 o.place (by omega)
  have HST5 := Lib.hid (HST4.out.below hB5)
  have HR5 := Lib.hid hR5.reads
  have hF5 : Fits (0 + 1 + 1 + 1 + 1 + 1 + o.place.size) 1 := Fits.of_small (by omega) (by decide)
  clear hR5 hB5
  go_upto_region 7 with (at_builtin; go_loud (refine wpList_app _ (.tmp 32) (.tmp 35) rfl rfl elemB rfl rfl HST5.out.own HR5.out (oneCells_bs _) hF5 HST5.out.base ?_; intro V6 cv6 w6 HO HL HX; have HST6 := Lib.hid (HST5.out.app HO HL); clear HO HL HX))
  clear i0 i1 i2 i3 i4 i5
  have HPT : o.place.toList = o.place.data.toList := ByteArray.toList_eq _
  have HHD : Hid (([] ++ [u8 o.what] ++ [u8 o.dot.who] ++ twoB dn ++ [u8 (o.place.size : Int)]) ++ o.place.toList = opHead o) := by show _ = _; rw [HPT]; simp [opHead, twoB, HDN.out]
  have HST : Hid (EncSt w o A c V6 (0 + 1 + 1 + 1 + 1 + 1 + o.place.size) cv6 (opHead o) w6) := by rw [← HHD.out]; exact HST6.out
  generalize hn0 : 0 + 1 + 1 + 1 + 1 + 1 + o.place.size = n0 at *
  have hn1 : n0 ≤ 17 := by omega
  clear HST0 HST1 HST2 HST3 HST4 HST5 HST6 HR5 hF1 hF2 hF4 hF5 hcv
  have l1 := OK.out.letter
  have s1 := OK.out.few
  obtain ⟨i0, i1, i2, i3, i4, i5⟩ := HST.out.six
  obtain ⟨t1, ht1⟩ : ∃ t1 : List UInt8, t1 = if o.what = 1 then [u8 o.letter] else [] := ⟨_, rfl⟩
  obtain ⟨n1, hn12⟩ : ∃ n1 : Nat, n1 = n0 + t1.length := ⟨_, rfl⟩
  have hn13 : n1 ≤ 18 := by rw [hn12, ht1]; split <;> simp <;> omega
  have HT0 := Lib.hid ht1
  have HN1 := Lib.hid hn12
  clear ht1 hn12
  go_upto_if 39 with (fail)
  go_cut [3] (fun v wr => ∃ V cv, v = .slice V n1 cv ∧ EncSt w o A c V n1 cv (opHead o ++ t1) wr)
  case first =>
    by_cases h1 : o.what = 1
    · obtain ⟨l2, l3⟩ := l1 h1
      have g1 : (o.what == 1) = true := by simp [h1]
      have EL := u8_val (show 0 ≤ o.letter by omega) (show o.letter ≤ 255 by omega)
      have RL := Lib.hid (fun W : World => reads_new W [u8 o.letter] (by simp) #[.int .u8 o.letter] (by simp [bs, EL]))
      have hF4 : Fits (n0 + 1) 1 := Fits.of_small (by omega) (by decide)
      have HT1 : Hid (t1 = [u8 o.letter]) := HT0.out.trans (if_pos h1)
      have HN2 : Hid (n1 = n0 + 1) := by show _ = _; rw [HN1.out, HT1.out]; rfl
      clear h1 EL
      go_wp2_with (at_builtin; refine wpList_app _ (.tmp 40) (.tmp 44) rfl rfl elemB rfl rfl (HST.out.alloc _).own (RL.out _) (oneCells_bs _) hF4 (HST.out.alloc _).base ?_; intro V4 cv4 w7 HO HL HX; have HST7 := Lib.hid ((HST.out.alloc _).app HO HL); clear HO HL HX)
      go_meet
      case rel =>
        rw [HT1.out, HN2.out]
        exact ⟨_, _, rfl, HST7.out⟩
    · have g1 : (o.what == 1) = false := by simp [h1]
      have HT1 : Hid (t1 = []) := HT0.out.trans (if_neg h1)
      have HN2 : Hid (n1 = n0) := by show _ = _; rw [HN1.out, HT1.out]; rfl
      clear h1
      go_wp2_with fail
      go_meet
      case rel =>
        rw [HT1.out, HN2.out, List.append_nil]
        exact ⟨_, _, rfl, HST.out⟩
  case rest =>
    obtain ⟨V7, cv7, rfl, ST⟩ := hcut
    clear HST i0 i1 i2 i3 i4 i5
    have HST := Lib.hid ST
    clear ST
    obtain ⟨i0, i1, i2, i3, i4, i5⟩ := HST.out.six
    go_upto_if 48 with (fail)
    go_cut [3] (fun v wr => ∃ V n cv, v = .slice V n cv ∧ EncSt w o A c V n cv (opHead o ++ opTail o) wr)
    case first =>
      by_cases h4 : o.what = 4
      · have h1 : ¬ o.what = 1 := by omega
        have g4 : (o.what == 4) = true := by simp [h4]
        have EL := u8_val (show (0 : Int) ≤ (o.seen.length : Int) by omega) (show (o.seen.length : Int) ≤ 255 by omega)
        have RL := Lib.hid (fun W : World => reads_new W [Go.Proofs.YtkaccnegdmpofaaGreatDoor.u8 (o.seen.length : Int)] (by simp) #[.int .u8 (o.seen.length : Int)] (by simp [bs, EL]))
        have hF4 : Fits (n1 + 1) 1 := Fits.of_small (by omega) (by decide)
        have HT1 : Hid (opTail o = Go.Proofs.YtkaccnegdmpofaaGreatDoor.u8 (o.seen.length : Int) :: o.seen.flatMap dotBytes) := by show _ = _; unfold opTail; rw [if_neg h1, if_pos h4]
        have HT2 : Hid (t1 = []) := HT0.out.trans (if_neg h1)
        rw [HT2.out, List.append_nil] at HST
        have HRI := Lib.hid OK.out.rise
        clear h1 h4 EL
        go_upto_region 11 with (at_builtin; refine wpList_app _ (.tmp 49) (.tmp 54) rfl rfl elemB rfl rfl (HST.out.alloc _).own (RL.out _) (oneCells_bs _) hF4 (HST.out.alloc _).base ?_; intro V4 cv4 w7 HO HL HX; have HST7 := Lib.hid ((HST.out.alloc _).app HO HL); clear HO HL HX)
        clear i0 i1 i2 i3 i4 i5
        go_wp2_with fail
        go_loopw [3, 4] (fun v i wr => ∃ (k : Nat) (V : Option Addr) (n cv : Nat), k ≤ o.seen.length ∧ i = .int .i64 k ∧ v = .slice V n cv ∧ EncSt w o A c V n cv (opHead o ++ (Go.Proofs.YtkaccnegdmpofaaGreatDoor.u8 (o.seen.length : Int) :: (o.seen.take k).flatMap dotBytes)) wr) (fun v i _ => o.seen.length - (intOf i).toNat)
        case atStart => exact ⟨0, _, _, _, by omega, rfl, rfl, by simpa using HST7.out⟩
        case round =>
          obtain ⟨k, V, n, cv, hk, rfl, rfl, ST⟩ := hrel
          obtain ⟨i0, i1, i2, i3, i4, i5⟩ := ST.six
          have hn8 : n = n1 + 1 + 3 * k := by
            have h1 := ST.len
            have h2 := HST.out.len
            have h4 := flat_len (o.seen.take k)
            rw [List.length_take, show min k o.seen.length = k by omega] at h4
            rw [h1, List.length_append, List.length_cons, h4]
            omega
          have hn9 : n ≤ 200 := by omega
          have HN8 := Lib.hid hn8
          clear hn8
          by_cases hkn : k < o.seen.length
          · obtain ⟨ad, rfl, hb, c0, c1⟩ := (HS.out.below ST.bel).dot hkn
            have hlt : (k : Int) < (o.seen.length : Int) := by omega
            have HST8 := Lib.hid ST
            clear ST
            obtain ⟨x1, x2, x3, x4⟩ := dotErr_ok (rise_zero HRI.out hkn)
            have hF5 : Fits (n + 1) 1 := Fits.of_small (by omega) (by decide)
            have EX := u8_val (show 0 ≤ o.seen[k].who by omega) (show o.seen[k].who ≤ 255 by omega)
            have RX := Lib.hid (fun W : World => reads_new W [Go.Proofs.YtkaccnegdmpofaaGreatDoor.u8 o.seen[k].who] (by simp) #[.int .u8 o.seen[k].who] (by simp [bs, EX]))
            obtain ⟨xn, hxn⟩ : ∃ xn : Nat, o.seen[k].n = (xn : Int) := ⟨o.seen[k].n.toNat, by omega⟩
            have hxn2 : xn ≤ 9999 := by omega
            have HXN := Lib.hid hxn
            have hcat : Hid (opHead o ++ (Go.Proofs.YtkaccnegdmpofaaGreatDoor.u8 (o.seen.length : Int) :: (o.seen.take (k + 1)).flatMap dotBytes) = (opHead o ++ (Go.Proofs.YtkaccnegdmpofaaGreatDoor.u8 (o.seen.length : Int) :: (o.seen.take k).flatMap dotBytes)) ++ [Go.Proofs.YtkaccnegdmpofaaGreatDoor.u8 o.seen[k].who] ++ twoB xn) := by
              show _ = _
              rw [List.take_succ_eq_append_getElem hkn, List.flatMap_append]
              simp [dotBytes, twoB, hxn]
            have HAB : Hid (ad.block < w.heap.size) := by show _ < _; simpa [block_of_add] using hb
            clear EX hb hxn
            go_upto_region 15 with (at_builtin; go_loud (refine wpList_app _ (.tmp 63) (.tmp 71) rfl rfl elemB rfl rfl (HST8.out.alloc _).own (RX.out _) (oneCells_bs _) hF5 (HST8.out.alloc _).base ?_; intro V5 cv5 w8 HO HL HX; have HST9 := Lib.hid ((HST8.out.alloc _).app HO HL); clear HO HL HX))
            clear i0 i1 i2 i3 i4 i5 c0 c1
            obtain ⟨i0, i1, i2, i3, i4, i5⟩ := HST9.out.six
            obtain ⟨ad', e', _, c0, c1⟩ := (HS.out.below HST9.out.bel).dot hkn
            injection e' with e'
            subst e'
            rw [HXN.out] at c1
            go_wp2_with fail
            refine (HT.out _ _ _ _ _ xn HST9.out.base HST9.out.own (by omega) (by omega)).mono ?_
            intro e w9 hp
            obtain ⟨V6, cv6, rfl, ST10⟩ := HST9.out.two hp
            have HST10 := Lib.hid ST10
            clear hp i0 i1 i2 i3 i4 i5 ST10 c0 c1
            go_wp2_with fail
            go_roundw
            case rel => exact ⟨k + 1, _, _, _, by omega, by go_num, rfl, by rw [hcat.out]; exact HST10.out⟩
            case measure => simp [intOf]; omega
          · have hkn' : o.seen.length = k := by omega
            have htk : Hid (opHead o ++ opTail o = opHead o ++ (Go.Proofs.YtkaccnegdmpofaaGreatDoor.u8 (o.seen.length : Int) :: (o.seen.take k).flatMap dotBytes)) := by show _ = _; rw [HT1.out, List.take_of_length_le (by omega)]
            have hd : ¬ (k : Int) < (o.seen.length : Int) := by omega
            have HST8 := Lib.hid ST
            clear ST hkn'
            go_wp2_with fail
            go_meet
            case rel => exact ⟨_, _, _, rfl, by rw [htk.out]; exact HST8.out⟩
      · have g4 : (o.what == 4) = false := by simp [h4]
        have HT1 : Hid (opTail o = t1) := by show _ = _; rw [HT0.out]; unfold opTail; rw [if_neg h4]
        clear h4
        go_wp2_with fail
        go_meet
        case rel =>
          rw [HT1.out]
          exact ⟨_, _, _, rfl, HST.out⟩
    case rest =>
      obtain ⟨V, n, cv, rfl, ST⟩ := hcut
      have hn := ST.len
      have hl := body_len OK.out
      generalize hB : opHead o ++ opTail o = l at *
      have HB := Lib.hid hB
      have HST := Lib.hid ST
      clear hB
      have hn2 : n ≤ 138 := by omega
      obtain ⟨g, rfl, _, _⟩ := ST.own.head (by rw [hn, ← HB.out]; simp [opHead])
      have HN := Lib.hid hn
      clear hn hl ST
      go_wp2_with fail
      go_loop [5, 6] (fun v i => ∃ k : Nat, k ≤ n ∧ i = .int .i64 k ∧ v = .int .i64 (sumB (l.take k))) (fun v i => n - (intOf i).toNat)
      case atStart => exact ⟨0, by omega, rfl, by simp [sumB]⟩
      case round =>
        obtain ⟨k, hk, rfl, rfl⟩ := hrel
        by_cases hkn : k < n
        · have hkl : k < l.length := by have := HN.out; omega
          have d0 : wc.cell? ⟨g, k, none⟩ = some (.int .u8 (l[k].toNat : Int)) := by
            rw [HST.out.own.cellAt (by omega)]
            simp [bs, hkl]
          have hs1 := sumB_le (l.take k)
          have hs2 : sumB (l.take k) ≤ 40000 := by rw [List.length_take] at hs1; omega
          have hs3 : (l[k].toNat : Nat) ≤ 255 := by have := l[k].toNat_lt; omega
          have HSU := Lib.hid (sumB_take hkl)
          generalize hS : sumB (l.take k) = S at *
          generalize hX : l[k].toNat = X at *
          clear hs1
          go_wp2_with fail
          go_round
          case rel => exact ⟨k + 1, by omega, rfl, by rw [HSU.out]; simp⟩
          case measure => simp [intOf]; omega
        · have hkn' : k = n := by omega
          subst hkn'
          have hlt : l.take k = l := List.take_of_length_le (by have := HN.out; omega)
          rw [hlt]
          clear hlt
          have hres : Hid (opBytes o = l ++ [Go.Proofs.YtkaccnegdmpofaaGreatDoor.u8 ((sumB l : Int) % 253)]) := by show opBytes o = _; unfold opBytes; rw [HB.out]
          have hss := sumB_le l
          have hs2 : sumB l ≤ 40000 := by have := HN.out; omega
          generalize hS : sumB l = S at *
          have ES := u8_val (show (0 : Int) ≤ (S : Int) % 253 by omega) (show (S : Int) % 253 ≤ 255 by omega)
          have RS := Lib.hid (fun W : World => reads_new W [Go.Proofs.YtkaccnegdmpofaaGreatDoor.u8 ((S : Int) % 253)] (by simp) #[.int .u8 ((S : Int) % 253)] (by simp [bs, ES]))
          have hF9 : Fits (k + 1) 1 := Fits.of_small (by omega) (by decide)
          clear ES hss hS
          go_wp2_with (at_builtin; go_loud (refine wpList_app _ (.tmp 94) (.tmp 98) rfl rfl elemB rfl rfl (HST.out.alloc _).own (RS.out _) (oneCells_bs _) hF9 (HST.out.alloc _).base ?_; intro V9 cv9 w9 HO HL HX; have ST9 := (HST.out.alloc _).app HO HL; have hcv := ST9.str (by omega); have HST9 := Lib.hid ST9; clear ST9 HO HL HX))
          go_ret
          exact ⟨by rw [hres.out]; rfl, HST9.out.bel⟩
end Go.Proofs.YtkaccnegdmpofaaGreatDoor
/- Bytes read as an op, as the document reads them: it guesses, then writes what it guessed. Plain. Conditions: none. -/
namespace Go.Proofs.YtkaccnegdmpofaaGreatDoor
open Go.RowKit
set_option linter.unusedVariables false
/-- Dots as far as there are bytes for them. -/
def gdDots : Nat → List UInt8 → List LDot
  | n + 1, a :: b :: c :: t => ⟨(a.toNat : Int), ((b.toNat * 256 + c.toNat : Nat) : Int)⟩ :: gdDots n t
  | _, _ => []
theorem gdDots_zero (t : List UInt8) : gdDots 0 t = [] := by unfold gdDots; rfl
theorem gdDots_succ : ∀ (i : Nat) (t : List UInt8) (h : 3 * i + 2 < t.length), gdDots (i + 1) t = gdDots i t ++ [⟨(t[3 * i].toNat : Int), ((t[3 * i + 1].toNat * 256 + t[3 * i + 2].toNat : Nat) : Int)⟩]
  | 0, a :: b :: c :: t => fun _ => by rw [gdDots, gdDots_zero]; simp [gdDots_zero]
  | i + 1, a :: b :: c :: t => fun h => by
    simp only [List.length_cons] at h
    have ih := gdDots_succ i t (by omega)
    rw [gdDots, ih]
    conv => rhs; rw [gdDots]
    simp only [List.cons_append, List.cons.injEq, true_and]
    simp only [show 3 * (i + 1) = 3 * i + 3 by omega, show 3 * i + 3 + 1 = 3 * i + 1 + 3 by omega, show 3 * i + 3 + 2 = 3 * i + 2 + 3 by omega, List.getElem_cons_succ]
  | 0, [] => fun h => by simp at h
  | 0, [_] => fun h => by simp at h
  | 0, [_, _] => fun h => by simp at h
  | i + 1, [] => fun h => by simp at h
  | i + 1, [_] => fun h => by simp only [List.length_cons, List.length_nil] at h; omega
  | i + 1, [_, _] => fun h => by simp only [List.length_cons, List.length_nil] at h; omega
theorem gdDots_short : ∀ (i n : Nat) (t : List UInt8), i ≤ n → t.length < 3 * i + 3 → gdDots n t = gdDots i t
  | 0, 0, t => fun _ _ => rfl
  | 0, n + 1, [] => fun _ _ => by simp [gdDots]
  | 0, n + 1, [_] => fun _ _ => by simp [gdDots]
  | 0, n + 1, [_, _] => fun _ _ => by simp [gdDots]
  | 0, n + 1, _ :: _ :: _ :: t => fun _ h => by simp at h; omega
  | i + 1, 0, t => fun h _ => by omega
  | i + 1, n + 1, [] => fun _ _ => by simp [gdDots]
  | i + 1, n + 1, [_] => fun _ _ => by simp [gdDots]
  | i + 1, n + 1, [_, _] => fun _ _ => by simp [gdDots]
  | i + 1, n + 1, a :: b :: c :: t => fun h1 h2 => by
    simp only [List.length_cons] at h2
    rw [gdDots, gdDots, gdDots_short i n t (by omega) (by omega)]
theorem gdDots_len : ∀ (n : Nat) (t : List UInt8), (gdDots n t).length ≤ n
  | 0, t => by rw [gdDots_zero]; simp
  | n + 1, [] => by simp [gdDots]
  | n + 1, [_] => by simp [gdDots]
  | n + 1, [_, _] => by simp [gdDots]
  | n + 1, a :: b :: c :: t => by have := gdDots_len n t; rw [gdDots, List.length_cons]; omega
theorem gdDots_full : ∀ (i : Nat) (t : List UInt8), 3 * i ≤ t.length → (gdDots i t).length = i
  | 0, t => fun _ => by rw [gdDots_zero]; rfl
  | i + 1, a :: b :: c :: t => fun h => by
    simp only [List.length_cons] at h
    have := gdDots_full i t (by omega)
    rw [gdDots, List.length_cons, this]
  | i + 1, [] => fun h => by simp at h
  | i + 1, [_] => fun h => by simp only [List.length_cons, List.length_nil] at h; omega
  | i + 1, [_, _] => fun h => by simp only [List.length_cons, List.length_nil] at h; omega
theorem gdDots_rd : ∀ (n : Nat) (t : List UInt8) (r : List LDot × List UInt8), rdDots n t = some r → gdDots n t = r.1
  | 0, t, r => fun h => by rw [rdDots] at h; injection h with h; subst h; rw [gdDots_zero]
  | n + 1, [], r => fun h => by simp [rdDots] at h
  | n + 1, [_], r => fun h => by simp [rdDots] at h
  | n + 1, [_, _], r => fun h => by simp [rdDots] at h
  | n + 1, a :: b :: c :: t, r => fun h => by
    rw [rdDots] at h
    cases hr : rdDots n t with
    | none => rw [hr] at h; cases h
    | some q =>
      rw [hr] at h
      injection h with h
      subst h
      rw [gdDots, gdDots_rd n t q hr]
/-- What comes behind the place: a letter, or dots. -/
def gdLetter (what : Nat) (s : List UInt8) : Int := if what = 1 then (match s with | [] => 0 | x :: _ => (x.toNat : Int)) else 0
def gdSeen (what : Nat) (s : List UInt8) : List LDot := if what = 4 then (match s with | [] => [] | x :: t => gdDots x.toNat t) else []
/-- The op that is guessed. -/
def gdOp (a b c d e : UInt8) (t : List UInt8) : LOp :=
  ⟨⟨(b.toNat : Int), ((c.toNat * 256 + d.toNat : Nat) : Int)⟩, (a.toNat : Int), strOf (t.take e.toNat), gdLetter a.toNat (t.drop e.toNat), gdSeen a.toNat (t.drop e.toNat)⟩
theorem gdOp_rd {a b c d e : UInt8} {t : List UInt8} {r : LOp × List UInt8} (h : rdOp (a :: b :: c :: d :: e :: t) = some r) : gdOp a b c d e t = r.1 ∧ e.toNat ≤ t.length := by
  rw [rdOp] at h
  by_cases h1 : t.length < e.toNat
  · rw [if_pos h1] at h; cases h
  rw [if_neg h1] at h
  refine ⟨?_, by omega⟩
  unfold gdOp
  unfold rdTail at h
  generalize t.drop e.toNat = s at *
  generalize strOf (t.take e.toNat) = p at *
  by_cases h2 : a.toNat = 1
  · rw [if_pos h2] at h
    cases s with
    | nil => cases h
    | cons x s =>
      injection h with h
      subst h
      simp [gdLetter, gdSeen, h2]
  · rw [if_neg h2] at h
    by_cases h4 : a.toNat = 4
    · rw [if_pos h4] at h
      cases s with
      | nil => cases h
      | cons x s =>
        simp only at h
        cases hr : rdDots x.toNat s with
        | none => rw [hr] at h; cases h
        | some q =>
          rw [hr] at h
          injection h with h
          subst h
          simp [gdLetter, gdSeen, h4, gdDots_rd _ _ _ hr]
    · rw [if_neg h4] at h
      injection h with h
      subst h
      simp [gdLetter, gdSeen, h2, h4]
theorem decOf_short {s : ByteArray} (h : s.data.toList.length < 5) : decOf s = none := by
  unfold decOf
  have : rdOp s.data.toList = none := by
    generalize s.data.toList = l at h
    match l, h with
    | [], _ => rfl
    | [_], _ => rfl
    | [_, _], _ => rfl
    | [_, _, _], _ => rfl
    | [_, _, _, _], _ => rfl
  rw [this]
theorem decOf_far {s : ByteArray} {a b c d e : UInt8} {t : List UInt8} (hs : s.data.toList = a :: b :: c :: d :: e :: t) (h : t.length < e.toNat) : decOf s = none := by
  unfold decOf
  rw [hs, rdOp, if_pos h]
/-- To guess and to write it is to read. -/
theorem decOf_guess {s : ByteArray} {a b c d e : UInt8} {t : List UInt8} (hs : s.data.toList = a :: b :: c :: d :: e :: t) (h : e.toNat ≤ t.length) :
    decOf s = if opErr (gdOp a b c d e t) = 0 ∧ opBytes (gdOp a b c d e t) = s.data.toList then some (gdOp a b c d e t) else none := by
  by_cases hh : opErr (gdOp a b c d e t) = 0 ∧ opBytes (gdOp a b c d e t) = s.data.toList
  · rw [if_pos hh]
    have := dec_enc hh.1
    rw [hh.2] at this
    exact this
  · rw [if_neg hh]
    cases hd : decOf s with
    | none => rfl
    | some o =>
      obtain ⟨h1, h2⟩ := dec_some hd
      have h3 := rdOp_bytes (opOk_of h1) [u8 ((sumB (opHead o ++ opTail o) : Int) % 253)]
      have h4 : rdOp s.data.toList = some (o, [u8 ((sumB (opHead o ++ opTail o) : Int) % 253)]) := by rw [← h2]; exact h3
      rw [hs] at h4
      obtain ⟨h5, _⟩ := gdOp_rd h4
      rw [h5] at hh
      exact absurd ⟨h1, h2⟩ hh
end Go.Proofs.YtkaccnegdmpofaaGreatDoor
/- leafref1.Decode, walked: it reads what op.Decode reads. Conditions: none of our own. -/
namespace Go.Proofs.YtkaccnegdmpofaaGreatDoor
open Go.RowKit
set_option linter.unusedVariables false
/-- Midway: the result's cells, the op's cells. -/
structure GMid (w : World) (o : LOp) (V : Option Addr) (cv : Nat) (wr : World) : Prop where
  res : Blk wr w.heap.size 48 #[.int .i64 0, .int .i64 0, .int .i64 0, .string ⟨#[]⟩, .int .i64 0, .slice none 0 0]
  box : Blk wr (w.heap.size + 1) 48 (o.cells V cv)
  own : Own wr w.heap.size 45 2 V o.seen.length cv (dcells o.seen)
  bel : Below w.heap.size w wr
namespace GMid
variable {w wr w' : World} {o o' : LOp} {V : Option Addr} {cv : Nat}
theorem below (h : GMid w o V cv wr) (hb : Below wr.heap.size wr w') : GMid w o V cv w' :=
  ⟨h.res.below hb h.res.lt, h.box.below hb h.box.lt, h.own.below hb, h.bel.trans (hb.mono h.bel.size)⟩
theorem alloc (h : GMid w o V cv wr) (b : Obj) : GMid w o V cv (wr.alloc b) := h.below ((Below.refl _ _).alloc (Nat.le_refl _) _)
theorem set_ (h : GMid w o V cv wr) (i : Nat) (u : Value) (hc : (o.cells V cv).setIfInBounds i u = o'.cells V cv) (hs : o'.seen = o.seen) : GMid w o' V cv (wr.setCell ⟨w.heap.size + 1, i, none⟩ u) := by
  refine ⟨h.res.far (by simp) _, ?_, ?_, h.bel.setCell (by simp) _⟩
  · have := h.box.set_ i u
    rw [hc] at this
    exact this
  · rw [hs]
    exact h.own.only ((Only.refl [w.heap.size + 1] wr).setCell (.inl (by simp)) _) (fun g hg hm => by simp at hm; subst hm; exact h.own.blk_ne h.box (by decide) hg)
theorem six (h : GMid w o V cv wr) : wr.cell? ⟨w.heap.size + 1, 0, none⟩ = some (.int .i64 o.dot.who) ∧ wr.cell? ⟨w.heap.size + 1, 1, none⟩ = some (.int .i64 o.dot.n) ∧ wr.cell? ⟨w.heap.size + 1, 2, none⟩ = some (.int .i64 o.what) ∧ wr.cell? ⟨w.heap.size + 1, 3, none⟩ = some (.string o.place) ∧
      wr.cell? ⟨w.heap.size + 1, 4, none⟩ = some (.int .i64 o.letter) ∧ wr.cell? ⟨w.heap.size + 1, 5, none⟩ = some (.slice V o.seen.length cv) :=
  ⟨by rw [h.box.cell]; rfl, by rw [h.box.cell]; rfl, by rw [h.box.cell]; rfl, by rw [h.box.cell]; rfl, by rw [h.box.cell]; rfl, by rw [h.box.cell]; rfl⟩
theorem only {T : List Nat} (h : GMid w o V cv wr) (ho : Only T wr w') (hT : ∀ g ∈ T, g ≠ w.heap.size ∧ g ≠ w.heap.size + 1 ∧ w.heap.size ≤ g ∧ g ∉ ob V) : GMid w o V cv w' :=
  ⟨ho.blk h.res (fun hm => (hT _ hm).1 rfl), ho.blk h.box (fun hm => (hT _ hm).2.1 rfl), h.own.only ho (fun g hg hm => (hT g hm).2.2.2 hg), h.bel.trans (ho.below h.bel.size (fun i hi => (hT i hi).2.2.1))⟩
/-- A dot more: the row has been appended to, and is laid. -/
theorem app (h : GMid w o V cv wr) {d : LDot} {V' : Option Addr} {n c' : Nat} (hn : n = o.seen.length + 1) (hO : Own w' w.heap.size 45 2 V' n c' (dcells o.seen ++ dcells [d])) (hL : Only (ob V) wr w') (ho' : o' = { o with seen := o.seen ++ [d] }) :
    GMid w o' V' c' (w'.setCell ⟨w.heap.size + 1, 5, none⟩ (.slice V' n c')) := by
  subst ho' hn
  have hb := hL.blk h.box (h.own.blk_ne h.box (by decide))
  refine ⟨(hL.blk h.res (h.own.blk_ne h.res (by decide))).far (by simp) _, ?_, ?_, (h.bel.trans (hL.below h.bel.size (fun i hi => (h.own.lt i hi).1))).setCell (by simp) _⟩
  · have := hb.set_ 5 (.slice V' (o.seen.length + 1) c')
    have e : (o.cells V cv).setIfInBounds 5 (.slice V' (o.seen.length + 1) c') = LOp.cells { o with seen := o.seen ++ [d] } V' c' := by simp [LOp.cells]
    rw [e] at this
    exact this
  · have e1 : dcells (o.seen ++ [d]) = dcells o.seen ++ dcells [d] := by simp [dcells]
    simp only [List.length_append, List.length_cons, List.length_nil]
    rw [e1]
    exact hO.only ((Only.refl [w.heap.size + 1] w').setCell (.inl (by simp)) _) (fun g hg hm => by simp at hm; subst hm; exact hO.blk_ne hb (by decide) hg)
end GMid
def RDecPost (w : World) (r : Option LOp) (e : Ending) (w' : World) : Prop :=
  match r with
  | none => e = .returned (.tuple #[zeroOp, .bool false]) ∧ Below w.heap.size w w'
  | some o => ∃ A c, e = .returned (.tuple #[o.val A c, .bool true]) ∧ Own w' w.heap.size 45 2 A o.seen.length c (dcells o.seen) ∧ Below w.heap.size w w'
theorem results_cell1 {fn : Func} {p u : Tmp} {ty : TypeId} (h : fn.results = #[.cell p ty, .tmp u]) (tmps : Array Value) (w : World) (A : Addr) (va x : Value)
    (hp : tmps.getD p undef = .pointer (some A)) (hx : tmps.getD u undef = x) (ha : (loadVar ty A).run Tryz.prog w = .ok va w) : (results fn tmps).run Tryz.prog w = .ok (.tuple #[va, x]) w := by
  have hp' : tmps[p]?.getD undef = .pointer (some A) := by simpa using hp
  have hx' : tmps[u]?.getD undef = x := by simpa using hx
  simp [results, h, hp', hx', asAddr, ha]
theorem byte_wrap (c : UInt8) : wrap64 ((c.toNat : Nat) : Int) = ((c.toNat : Nat) : Int) := by
  have hby : (c.toNat : Int) ≤ 255 := by have := UInt8.toNat_lt c; omega
  unfold wrap64; omega
set_option maxRecDepth 100000 in
set_option maxHeartbeats 4000000 in
theorem rdecode_long (w : World) (s : ByteArray) (hm : s.size ≤ 9223372036854775807) (a b c d e : UInt8) (t : List UInt8) (hs : s.data.toList = a :: b :: c :: d :: e :: t) (het : e.toNat ≤ t.length) : Calls Tryz.prog 172 #[.string s] w (RDecPost w (decOf s)) := by
  have hsz : s.size = t.length + 5 := by
    have h1 : s.data.toList.length = s.size := by rw [Array.length_toList]; rfl
    rw [hs] at h1
    simp at h1
    omega
  have hget : ∀ (j : Nat) (hj : j < s.size), s[j] = (a :: b :: c :: d :: e :: t)[j]'(by simp; omega) := fun j hj => by
    have h2 : s[j] = s.data.toList[j]'(by rw [Array.length_toList]; exact hj) := by simp; rfl
    rw [h2]
    simp only [hs]
  have s0 : 0 < s.size := by omega
  have s1 : 1 < s.size := by omega
  have s2 : 2 < s.size := by omega
  have s3 : 3 < s.size := by omega
  have s4 : 4 < s.size := by omega
  have g0 : s[0]'s0 = a := hget 0 (by omega)
  have g1 : s[1]'s1 = b := hget 1 (by omega)
  have g2 : s[2]'s2 = c := hget 2 (by omega)
  have g3 : s[3]'s3 = d := hget 3 (by omega)
  have g4 : s[4]'s4 = e := hget 4 (by omega)
  have v0 := Lib.hid g0
  have v1 := Lib.hid g1
  have v4 := Lib.hid g4
  have ge := UInt8.toNat_lt e
  have z4 : (4 : Int) < (s.size : Int) := by omega
  have z1 : (1 : Int) < (s.size : Int) := by omega
  have z0 : (0 : Int) < (s.size : Int) := by omega
  have z5 : ¬ (s.size : Int) < 5 := by omega
  have x4 : wrap64 ((s[4]'s4).toNat : Int) = (e.toNat : Int) := by rw [g4]; unfold wrap64; omega
  have x1 : wrap64 ((s[1]'s1).toNat : Int) = (b.toNat : Int) := by rw [g1]; have := UInt8.toNat_lt b; unfold wrap64; omega
  have x0 : wrap64 ((s[0]'s0).toNat : Int) = (a.toNat : Int) := by rw [g0]; have := UInt8.toNat_lt a; unfold wrap64; omega
  have x5 : wrap64 (5 + (e.toNat : Int)) = 5 + (e.toNat : Int) := by unfold wrap64; omega
  have y5 : ¬ (s.size : Int) < 5 + (e.toNat : Int) := by omega
  have y6 : 5 + (e.toNat : Int) ≤ (s.size : Int) := by omega
  have y7 : (5 : Int) ≤ 5 + (e.toNat : Int) := by omega
  have y8 : (5 + (e.toNat : Int)).toNat = 5 + e.toNat := by omega
  have HNU := Lib.hid (fun W => rnum2_any W s 2 c d s3 hm g2 g3)
  clear g0 g1 g2 g3 g4 hget
  obtain ⟨p, hp⟩ : ∃ p, p = strOf (t.take e.toNat) := ⟨_, rfl⟩
  obtain ⟨r, hr⟩ : ∃ r, r = t.drop e.toNat := ⟨_, rfl⟩
  have hp2 : s.extract 5 (5 + e.toNat) = p := by
    have h1 : s = strOf s.data.toList := by apply ByteArray.ext; simp [strOf]
    rw [h1, strOf_ext, hs, hp, List.drop_take]
    rw [show 5 + e.toNat - 5 = e.toNat by omega]
    rfl
  have hr2 : s.extract (5 + e.toNat) s.size = strOf r := by
    have h1 : s = strOf s.data.toList := by apply ByteArray.ext; simp [strOf]
    conv => lhs; rw [h1]
    rw [strOf_ext, hs, hr, List.take_of_length_le (by rw [strOf_sz]; exact Nat.le_refl _), ← List.drop_drop]
    rfl
  have HP2 := Lib.hid hp2
  have HR2 := Lib.hid hr2
  have hdec := decOf_guess hs het
  unfold gdOp at hdec
  rw [← hp, ← hr] at hdec
  have hst : s.toList = s.data.toList := ByteArray.toList_eq _
  rw [← hst] at hdec
  obtain ⟨R, hR⟩ : ∃ R, R = decOf s := ⟨_, rfl⟩
  rw [← hR] at hdec ⊢
  have HDEC := Lib.hid hdec
  clear hst hR
  have hrl : r.length ≤ 9223372036854775807 := by rw [hr, List.length_drop]; omega
  have HTS := Lib.hid hs
  have HSZ := Lib.hid hsz
  have hps : p.size ≤ 9223372036854775807 := by rw [hp, strOf_sz, List.length_take]; omega
  clear hp hr hp2 hr2 hdec hs hsz
  have M0 : GMid w ⟨⟨(b.toNat : Int), 0⟩, (a.toNat : Int), ⟨#[]⟩, 0, []⟩ none 0 ((w.alloc (.cells #[.int .i64 0, .int .i64 0, .int .i64 0, .string ⟨#[]⟩, .int .i64 0, .slice none 0 0] 48)).alloc (.cells #[.int .i64 (b.toNat : Int), .int .i64 0, .int .i64 (a.toNat : Int), .string ⟨#[]⟩, .int .i64 0, .slice none 0 0] 48)) := by
    refine ⟨(Blk.new w 48 _).alloc _, ?_, Own.nil _ _ _ _, ((Below.refl _ _).alloc (Nat.le_refl _) _).alloc (by simp) _⟩
    have := Blk.new (w.alloc (.cells #[.int .i64 0, .int .i64 0, .int .i64 0, .string ⟨#[]⟩, .int .i64 0, .slice none 0 0] 48)) 48 #[.int .i64 (b.toNat : Int), .int .i64 0, .int .i64 (a.toNat : Int), .string ⟨#[]⟩, .int .i64 0, .slice none 0 0]
    simpa [LOp.cells] using this
  have HM0 := Lib.hid M0
  clear M0
  go_enter Tryz.func172, Tryz.ntmps172
  go_wp2_with fail
  refine (HNU.out _).mono ?_
  rintro en w1 ⟨rfl, hb1⟩
  have HM1 := Lib.hid (HM0.out.below hb1)
  clear hb1 HM0
  obtain ⟨cd, hcd⟩ : ∃ cd : Nat, cd = c.toNat * 256 + d.toNat := ⟨_, rfl⟩
  rw [← hcd] at HDEC ⊢
  have HCD := Lib.hid hcd
  clear hcd
  obtain ⟨i0, i1, i2, i3, i4, i5⟩ := HM1.out.six
  have f1 := HM1.out.box.frozen 1
  have HM2 := Lib.hid (HM1.out.set_ (o' := ⟨⟨(b.toNat : Int), (cd : Int)⟩, (a.toNat : Int), ⟨#[]⟩, 0, []⟩) 1 (.int .i64 (cd : Int)) rfl rfl)
  obtain ⟨j0, j1, j2, j3, j4, j5⟩ := HM2.out.six
  have f3 := HM2.out.box.frozen 3
  have HM3 := Lib.hid (HM2.out.set_ (o' := ⟨⟨(b.toNat : Int), (cd : Int)⟩, (a.toNat : Int), p, 0, []⟩) 3 (.string p) rfl rfl)
  go_upto_region 9 with (fail)
  rw [HP2.out, HR2.out]
  clear i0 i1 i2 i3 i4 i5 j0 j1 j2 j3 j4 j5 f1 f3 HM1 HM2 v0 v1 v4
  obtain ⟨W3, hW3⟩ : ∃ W3, W3 = (w1.setCell ⟨w.heap.size + 1, 1, none⟩ (.int .i64 (cd : Int))).setCell ⟨w.heap.size + 1, 3, none⟩ (.string p) := ⟨_, rfl⟩
  rw [← hW3] at HM3 ⊢
  clear hW3
  obtain ⟨rs, hrs⟩ : ∃ rs, rs = strOf r := ⟨_, rfl⟩
  rw [← hrs]
  have HRS := Lib.hid hrs
  have hrz : rs.size = r.length := by rw [hrs]; exact strOf_sz r
  have HRZ := Lib.hid hrz
  have hrg : ∀ (j : Nat) (hj : j < rs.size), r[j]? = some rs[j] := fun j hj => by
    subst hrs
    have : j < r.length := by rw [strOf_sz] at hj; exact hj
    rw [List.getElem?_eq_getElem this]; rfl
  have HRG := Lib.hid hrg
  have hrm : rs.size ≤ 9223372036854775807 := by omega
  clear hrz
  have ha8 := UInt8.toNat_lt a
  clear hrs hrg
  obtain ⟨i0, i1, i2, i3, i4, i5⟩ := HM3.out.six
  go_cut [54] (fun v wx => v = .bool (decide (a.toNat = 1 ∧ 0 < r.length)) ∧ Hid (wx = W3))
  case first =>
    have q1 : ((a.toNat : Int) == 1) = decide (a.toNat = 1) := by rw [Bool.eq_iff_iff]; simp; omega
    by_cases h1 : a.toNat = 1
    · have e1 : ((a.toNat : Int) == 1) = true := by rw [q1]; simpa using h1
      have e2 : decide ((0 : Int) < (rs.size : Int)) = decide (a.toNat = 1 ∧ 0 < r.length) := by rw [HRZ.out, Bool.eq_iff_iff]; simp [h1]
      clear h1  q1
      go_wp2_with fail
      go_meet
      case rel => exact ⟨by rw [← e2]; simp, Lib.hid rfl⟩
    · have e1 : ((a.toNat : Int) == 1) = false := by rw [q1]; simpa using h1
      have e2 : decide (a.toNat = 1 ∧ 0 < r.length) = false := by simp [h1]
      clear h1  q1
      go_wp2_with fail
      go_meet
      case rel => exact ⟨by rw [e2], Lib.hid rfl⟩
  case rest =>
    obtain ⟨rfl, HW⟩ := hcut
    obtain rfl := HW.out
    obtain ⟨o1, ho1⟩ : ∃ o1 : LOp, o1 = ⟨⟨(b.toNat : Int), (cd : Int)⟩, (a.toNat : Int), p, gdLetter a.toNat r, []⟩ := ⟨_, rfl⟩
    have HO1 := Lib.hid ho1
    clear ho1
    go_upto_if 54 with (fail)
    go_cut [] (fun wx => Hid (GMid w o1 none 0 wx))
    case first =>
      by_cases h1 : a.toNat = 1 ∧ 0 < r.length
      · obtain ⟨x, t2, hrr⟩ : ∃ x t2, r = x :: t2 := by
          cases r with
          | nil => simp at h1
          | cons x t2 => exact ⟨x, t2, rfl⟩
        have HL : Hid (gdLetter a.toNat r = (x.toNat : Int)) := by show _ = _; rw [hrr]; simp [gdLetter, h1.1]
        have hd : decide (a.toNat = 1 ∧ 0 < r.length) = true := by simpa using h1
        rw [hd]
        have q1 : 0 < rs.size := by rw [HRZ.out, hrr]; simp
        have q2 : ((0 : Int) < (rs.size : Int)) := by omega
        have q4 : wrap64 ((rs[0]'q1).toNat : Int) = (x.toNat : Int) := by
          have : rs[0]'q1 = x := by have := HRG.out 0 q1; rw [hrr] at this; simpa using this.symm
          rw [this]; have := UInt8.toNat_lt x; unfold wrap64; omega
        have f4 := HM3.out.box.frozen 4
        have HM4 := Lib.hid (HM3.out.set_ (o' := ⟨⟨(b.toNat : Int), (cd : Int)⟩, (a.toNat : Int), p, (x.toNat : Int), []⟩) 4 (.int .i64 (x.toNat : Int)) rfl rfl)
        clear  h1 hrr hd
        go_wp2_with fail
        go_meet
        case rel =>
          show Hid _
          rw [HO1.out, HL.out]
          exact HM4
      · have HL : Hid (gdLetter a.toNat r = 0) := by
          show _ = _
          unfold gdLetter
          by_cases ha : a.toNat = 1
          · rw [if_pos ha]
            cases r with
            | nil => rfl
            | cons x t2 => exact absurd ⟨ha, by simp⟩ h1
          · rw [if_neg ha]
        have hd : decide (a.toNat = 1 ∧ 0 < r.length) = false := by simpa using h1
        rw [hd]
        clear h1  hd
        go_wp2_with fail
        go_meet
        case rel =>
          show Hid _
          rw [HO1.out, HL.out]
          exact HM3
    case rest =>
      have HM4 := hcut
      clear hcut HM3 i0 i1 i2 i3 i4 i5
      have h4w : Hid (o1.what = (a.toNat : Int)) := by show _ = _; rw [HO1.out]
      obtain ⟨i0, i1, i2, i3, i4, i5⟩ := HM4.out.six
      rw [h4w.out] at i2
      go_upto_region 11 with (fail)
      go_cut [66] (fun v wx => v = .bool (decide (a.toNat = 4 ∧ 0 < r.length)) ∧ Hid (wx = wc))
      case first =>
        have q1 : ((a.toNat : Int) == 4) = decide (a.toNat = 4) := by rw [Bool.eq_iff_iff]; simp; omega
        by_cases h1 : a.toNat = 4
        · have e1 : ((a.toNat : Int) == 4) = true := by rw [q1]; simpa using h1
          have e2 : decide ((0 : Int) < (rs.size : Int)) = decide (a.toNat = 4 ∧ 0 < r.length) := by rw [HRZ.out, Bool.eq_iff_iff]; simp [h1]
          clear h1 q1
          go_wp2_with fail
          go_meet
          case rel => exact ⟨by rw [← e2]; simp, Lib.hid rfl⟩
        · have e1 : ((a.toNat : Int) == 4) = false := by rw [q1]; simpa using h1
          have e2 : decide (a.toNat = 4 ∧ 0 < r.length) = false := by simp [h1]
          clear h1 q1
          go_wp2_with fail
          go_meet
          case rel => exact ⟨by rw [e2], Lib.hid rfl⟩
      case rest =>
        rename_i wd
        obtain ⟨rfl, HW⟩ := hcut
        obtain rfl := HW.out
        obtain ⟨sn, hsn⟩ : ∃ sn : List LDot, sn = gdSeen a.toNat r := ⟨_, rfl⟩
        have HSN := Lib.hid hsn
        clear hsn
        go_upto_if 66 with (fail)
        go_cut [] (fun wx => ∃ V cv, Hid (GMid w { o1 with seen := sn } V cv wx))
        case first =>
          by_cases h1 : a.toNat = 4 ∧ 0 < r.length
          · obtain ⟨x, t2, hrr⟩ : ∃ x t2, r = x :: t2 := by
              cases r with
              | nil => simp at h1
              | cons x t2 => exact ⟨x, t2, rfl⟩
            have HL : Hid (sn = gdDots x.toNat t2) := by show _ = _; rw [HSN.out, hrr]; simp [gdSeen, h1.1]
            have hd : decide (a.toNat = 4 ∧ 0 < r.length) = true := by simpa using h1
            rw [hd]
            have q1 : 0 < rs.size := by rw [HRZ.out, hrr]; simp
            have q2 : ((0 : Int) < (rs.size : Int)) := by omega
            have q4 : wrap64 ((rs[0]'q1).toNat : Int) = (x.toNat : Int) := by
              have : rs[0]'q1 = x := by have := HRG.out 0 q1; rw [hrr] at this; simpa using this.symm
              rw [this]; have := UInt8.toNat_lt x; unfold wrap64; omega
            have x8 := UInt8.toNat_lt x
            have HRR := Lib.hid hrr
            have ht2 : rs.size = t2.length + 1 := by rw [HRZ.out, hrr]; rfl
            have hsz2 : (t2.length : Int) + 1 = (rs.size : Int) := by omega
            have HT2 := Lib.hid ht2
            clear h1 hrr hd ht2 hsz2
            go_wp2_with fail
            go_loopw [7] (fun i wx => ∃ (k : Nat) (V : Option Addr) (cv : Nat), k ≤ x.toNat ∧ 3 * k ≤ t2.length ∧ i = .int .i64 (k : Nat) ∧ Hid (GMid w { o1 with seen := gdDots k t2 } V cv wx)) (fun i _ => x.toNat - (intOf i).toNat)
            case atStart =>
              refine ⟨0, none, 0, Nat.zero_le _, Nat.zero_le _, rfl, ?_⟩
              rw [gdDots_zero]
              have : ({ o1 with seen := [] } : LOp) = o1 := by rw [HO1.out]
              rw [this]
              exact HM4
            case round =>
              obtain ⟨k, V, cv, hk, hk3, rfl, HM⟩ := hrel
              clear i0 i1 i2 i3 i4 i5
              obtain ⟨i0, i1, i2, i3, i4, i5⟩ := HM.out.six
              have k0 : (0 : Int) ≤ (k : Int) := by omega
              have k1 : (k : Int) ≤ 255 := by omega
              by_cases hc1 : k < x.toNat
              · have l1 : (k : Int) < (x.toNat : Int) := by omega
                by_cases hc2 : 3 * k + 2 < t2.length
                · have l2 : 4 + 3 * (k : Int) ≤ (rs.size : Int) := by have := HT2.out; omega
                  have l3 : 1 + 3 * k < rs.size := by have := HT2.out; omega
                  have l4 : (1 + 3 * (k : Int)).toNat = 1 + 3 * k := by omega
                  have l5 : 1 + 3 * (k : Int) < (rs.size : Int) := by omega
                  have key : ∀ (i : Nat) (hi : i < t2.length) (hi2 : i + 1 < rs.size), rs[i + 1] = t2[i] := fun i hi hi2 => by
                    have h3 := HRG.out (i + 1) hi2
                    rw [HRR.out, List.getElem?_cons_succ, List.getElem?_eq_getElem hi] at h3
                    exact (Option.some.inj h3).symm
                  have l7 : wrap64 ((rs[1 + 3 * k]'l3).toNat : Int) = ((t2[3 * k]'(by omega)).toNat : Int) := by
                    have h2 : rs[1 + 3 * k]'l3 = t2[3 * k]'(by omega) := by
                      have := key (3 * k) (by omega) (by omega)
                      rw [← this]
                      simp only [Nat.add_comm]
                    rw [h2]; exact byte_wrap _
                  have hn1 : rs[2 + 3 * k]'(by have := HT2.out; omega) = t2[3 * k + 1]'(by omega) := by
                    have := key (3 * k + 1) (by omega) (by omega)
                    rw [← this]
                    simp only [show 2 + 3 * k = 3 * k + 1 + 1 by omega]
                  have hn2 : rs[2 + 3 * k + 1]'(by have := HT2.out; omega) = t2[3 * k + 2]'(by omega) := by
                    have := key (3 * k + 2) (by omega) (by omega)
                    rw [← this]
                    simp only [show 2 + 3 * k + 1 = 3 * k + 2 + 1 by omega]
                  have hNU := fun W => rnum2_any W rs (2 + 3 * k) _ _ (by have := HT2.out; omega) hrm hn1 hn2
                  rw [show ((2 + 3 * k : Nat) : Int) = 2 + 3 * (k : Int) by omega] at hNU
                  have HNU := Lib.hid hNU
                  clear hNU key
                  have HDS := Lib.hid (gdDots_succ k t2 (by omega))
                  have HDL := Lib.hid (gdDots_full k t2 (by omega))
                  obtain ⟨y0, hy0⟩ : ∃ y0 : Nat, y0 = (t2[3 * k]'(by omega)).toNat := ⟨_, rfl⟩
                  obtain ⟨y1, hy1⟩ : ∃ y1 : Nat, y1 = (t2[3 * k + 1]'(by omega)).toNat * 256 + (t2[3 * k + 2]'(by omega)).toNat := ⟨_, rfl⟩
                  rw [← hy0] at l7 HDS
                  rw [← hy1] at HNU HDS
                  have HBD := Lib.hid (Blk.new wr 45 #[.int .i64 (y0 : Int), .int .i64 0])
                  have HMA := Lib.hid (HM.out.alloc (.cells #[.int .i64 (y0 : Int), .int .i64 0] 45))
                  obtain ⟨W1, hW1⟩ : ∃ W1, W1 = wr.alloc (.cells #[.int .i64 (y0 : Int), .int .i64 0] 45) := ⟨_, rfl⟩
                  obtain ⟨gd, hgd⟩ : ∃ gd, gd = wr.heap.size := ⟨_, rfl⟩
                  rw [← hW1, ← hgd] at HBD
                  have HGD := Lib.hid hgd
                  rw [← hW1] at HMA
                  have hgd2 : w.heap.size + 1 < gd := by have := HM.out.box.lt; omega
                  have hk9 : Hid (3 * k + 2 < t2.length) := hc2
                  have hk8 : Hid (k < x.toNat) := hc1
                  clear hy0 hy1 hn1 hn2 hk3 hk hc2 hc1
                  go_wp2_with fail
                  rw [← hW1, ← hgd]
                  clear hW1 hgd
                  refine (HNU.out W1).mono ?_
                  rintro en w2 ⟨rfl, hb2⟩
                  have HBD2 := Lib.hid (HBD.out.below hb2 HBD.out.lt)
                  have HM2 := Lib.hid (HMA.out.below hb2)
                  have HVL : Hid (∀ g ∈ ob V, g < gd) := by show ∀ g ∈ ob V, g < gd; intro g hg; rw [HGD.out]; exact (HM.out.own.lt g hg).2
                  obtain ⟨W3, hW3⟩ : ∃ W3, W3 = w2.setCell ⟨gd, 1, none⟩ (.int .i64 (y1 : Int)) := ⟨_, rfl⟩
                  have HM3 : Hid (GMid w { o1 with seen := gdDots k t2 } V cv W3) := by
                    show GMid _ _ _ _ _
                    rw [hW3]
                    exact HM2.out.only ((Only.refl [gd] w2).setCell (.inl (by simp)) _) (fun g hg => by
                      simp at hg; subst hg
                      exact ⟨by omega, by omega, by omega, fun hm => by have := HVL.out _ hm; omega⟩)
                  have HBD3 : Hid (Blk W3 gd 45 #[.int .i64 (y0 : Int), .int .i64 (y1 : Int)]) := by
                    show Blk _ _ _ _
                    rw [hW3]
                    exact HBD2.out.set_ 1 (.int .i64 (y1 : Int))
                  have c1 : w2.cell? ⟨gd, 1, none⟩ = some (.int .i64 0) := by rw [HBD2.out.cell]; rfl
                  have f1 := HBD2.out.frozen 1
                  clear hb2 i0 i1 i2 i3 i4 i5 HM
                  go_upto_region 18 with (fail)
                  rw [← hW3]
                  clear hW3 c1 f1 HM2 HBD2
                  obtain ⟨i0, i1, i2, i3, i4, i5⟩ := HM3.out.six
                  have d0 : W3.cell? ⟨gd, 0, none⟩ = some (.int .i64 (y0 : Int)) := by rw [HBD3.out.cell]; rfl
                  have d1 : W3.cell? ⟨gd, 1, none⟩ = some (.int .i64 (y1 : Int)) := by rw [HBD3.out.cell]; rfl
                  have hl5 := HDL.out
                  have hFt : Fits ((gdDots k t2).length + 1) 16 := Fits.of_small (by omega) (by decide)
                  have RL := Lib.hid (fun W : World => Reads.row W 45 #[.int .i64 (y0 : Int), .int .i64 (y1 : Int)])
                  clear hl5
                  have HM34 := Lib.hid (HM3.out.alloc (.cells #[.int .i64 (y0 : Int), .int .i64 (y1 : Int)] 45))
                  have HRW := Lib.hid (Reads.row W3 45 #[.int .i64 (y0 : Int), .int .i64 (y1 : Int)])
                  have HBN := Lib.hid (HM34.out.own.blk_ne HM34.out.box (by decide))
                  have HSB : Hid (w.heap.size ≤ (W3.alloc (.cells #[.int .i64 (y0 : Int), .int .i64 (y1 : Int)] 45)).heap.size) := HM34.out.bel.size
                  clear RL
                  go_wp2_with (at_builtin; go_loud (refine wpList_app _ (.tmp 96) (.tmp 98) rfl rfl elemDt rfl rfl HM34.out.own HRW.out (oneCells_dt _ _) hFt HSB.out ?_; intro V9 cv9 w9 HO HL9 HX; have HO9 := Lib.hid HO; have HL9 := Lib.hid HL9; have b9 := HL9.out.blk HM34.out.box HBN.out; have f5 := b9.frozen 5; have c5 : w9.cell? ⟨w.heap.size + 1, 5, none⟩ = some (.slice V (gdDots k t2).length cv) := (by rw [b9.cell]; rfl); clear b9 HO HX))
                  have HM4 := Lib.hid (HM34.out.app (o' := { o1 with seen := gdDots k t2 ++ [⟨(y0 : Int), (y1 : Int)⟩] }) (d := ⟨(y0 : Int), (y1 : Int)⟩) rfl HO9.out HL9.out rfl)
                  go_roundw
                  case rel => exact ⟨k + 1, V9, cv9, by have := hk8.out; omega, by have := hk9.out; omega, by go_num, by rw [HDS.out]; exact HM4⟩
                  case measure => have := hk8.out; simp [intOf]; omega
                · have l2 : ¬ 4 + 3 * (k : Int) ≤ (rs.size : Int) := by have := HT2.out; omega
                  have HFI : Hid (sn = gdDots k t2) := by show _ = _; rw [HL.out]; exact gdDots_short k _ _ hk (by omega)
                  clear hc2 hk hk3
                  go_wp2_with fail
                  go_meet
                  case rel =>
                    refine ⟨V, cv, ?_⟩
                    rw [HFI.out]
                    exact HM
              · have l1 : ¬ (k : Int) < (x.toNat : Int) := by omega
                have HFI : Hid (sn = gdDots k t2) := by show _ = _; rw [HL.out, show x.toNat = k by omega]
                clear hc1 hk hk3
                go_wp2_with fail
                go_meet
                case rel =>
                  refine ⟨V, cv, ?_⟩
                  rw [HFI.out]
                  exact HM
          · have HL : Hid (sn = []) := by
              show _ = _
              rw [HSN.out]
              unfold gdSeen
              by_cases ha : a.toNat = 4
              · rw [if_pos ha]
                cases r with
                | nil => rfl
                | cons x t2 => exact absurd ⟨ha, by simp⟩ h1
              · rw [if_neg ha]
            have hd : decide (a.toNat = 4 ∧ 0 < r.length) = false := by simpa using h1
            rw [hd]
            clear h1 hd
            go_wp2_with fail
            go_meet
            case rel =>
              refine ⟨none, 0, ?_⟩
              have : ({ o1 with seen := sn } : LOp) = o1 := by rw [HL.out, HO1.out]
              rw [this]
              exact HM4
        case rest =>
          obtain ⟨V, cv, HMF⟩ := hcut
          clear HM4 i0 i1 i2 i3 i4 i5
          obtain ⟨og, hog⟩ : ∃ og : LOp, og = ⟨⟨(b.toNat : Int), (cd : Int)⟩, (a.toNat : Int), p, gdLetter a.toNat r, gdSeen a.toNat r⟩ := ⟨_, rfl⟩
          have hoe : ({ o1 with seen := sn } : LOp) = og := by rw [HO1.out, hog, HSN.out]
          rw [hoe] at HMF
          rw [← hog] at HDEC
          have hpl : og.place.size ≤ 9223372036854775807 := by rw [hog]; exact hps
          have HROP := Lib.hid (rop_any wc V cv og HMF.out.own.reads hpl)
          have HRB := Lib.hid (fun W (hb : Below wc.heap.size wc W) he => rbytes_any W V cv og (HMF.out.below hb).own.reads he)
          clear hog hoe hpl HO1 HSN HRG HRZ HRS HP2 HR2 HCD
          clear HTS
          obtain ⟨⟨dw, dn⟩, what, place, letter, seen⟩ := og
          have hbox := HMF.out.box
          unfold LOp.cells at hbox
          unfold LOp.val at HROP HRB
          simp only at hbox HROP HRB
          obtain ⟨⟨d0, d1, d2, d3, d4, d5⟩, ⟨x0, x1, x2, x3, x4, x5⟩, ⟨y0, y1, y2, y3, y4, y5⟩⟩ := fin_at hbox HMF.out.res
          clear hbox
          obtain ⟨er, he⟩ : ∃ er, opErr ⟨⟨dw, dn⟩, what, place, letter, seen⟩ = er := ⟨_, rfl⟩
          rw [he] at HROP
          have HER := Lib.hid he
          clear he
          go_wp2_with fail
          refine HROP.out.mono ?_
          rintro en w2 ⟨rfl, hb2⟩
          have HB2 := Lib.hid hb2
          have HM2 := Lib.hid (HMF.out.below hb2)
          clear hb2 d0 d1 d2 d3 d4 d5 x0 x1 x2 x3 x4 x5 y0 y1 y2 y3 y4 y5
          have hbox := HM2.out.box
          unfold LOp.cells at hbox
          simp only at hbox
          obtain ⟨⟨d0, d1, d2, d3, d4, d5⟩, ⟨x0, x1, x2, x3, x4, x5⟩, ⟨y0, y1, y2, y3, y4, y5⟩⟩ := fin_at hbox HM2.out.res
          clear hbox
          by_cases her : er = 0
          · have e1 : (er != 0) = false := by simp [her]
            have e2 : (er == 0) = true := by simp [her]
            have HE0 := Lib.hid (HER.out.trans her)
            have HRB2 := Lib.hid (HRB.out w2 HB2.out HE0.out)
            subst her
            clear HRB HROP
            generalize hbl : opBytes ⟨⟨dw, dn⟩, what, place, letter, seen⟩ = bl at HDEC HRB2
            have HBL := Lib.hid hbl
            clear hbl
            have hsl : (strOf bl).toList = bl := strOf_toList bl
            generalize hsb : strOf bl = sb at *
            clear hsb
            go_wp2_with fail
            refine HRB2.out.mono ?_
            rintro en w3 ⟨rfl, hb3⟩
            have HB3 := Lib.hid hb3
            have HM3 := Lib.hid (HM2.out.below hb3)
            clear hb3 d0 d1 d2 d3 d4 d5 x0 x1 x2 x3 x4 x5 y0 y1 y2 y3 y4 y5
            have hbox := HM3.out.box
            unfold LOp.cells at hbox
            simp only at hbox
            obtain ⟨⟨d0, d1, d2, d3, d4, d5⟩, ⟨x0, x1, x2, x3, x4, x5⟩, ⟨y0, y1, y2, y3, y4, y5⟩⟩ := fin_at hbox HM3.out.res
            clear hbox
            by_cases hq : bl = s.toList
            · have HRO : Hid (R = some ⟨⟨dw, dn⟩, what, place, letter, seen⟩) := by show _ = _; rw [HDEC.out, if_pos ⟨HE0.out, hq⟩]
              have e3 : (sb.toList == s.toList) = true := by rw [hsl, hq]; simp
              have e4 : (sb.toList != s.toList) = false := by rw [hsl, hq]; simp
              clear hq hsl
              go_wp2_with fail
              refine bodyPost_ret (results_cell1 rfl _ _ ⟨w.heap.size, 0, none⟩ _ _ rfl rfl (load_op _ _ _ _ _ _ _ _ (HM3.out.res.set6 _ _ _ _ _ _))) rfl ?_
              rw [HRO.out]
              refine ⟨V, cv, rfl, ?_, HM3.out.bel.trans ((set6_only _ _ _ _ _ _ _ _).below HM3.out.bel.size (by simp))⟩
              exact HM3.out.own.only (set6_only _ _ _ _ _ _ _ _) (fun g hg hm => by simp at hm; subst hm; exact HM3.out.own.blk_ne HM3.out.res (by decide) hg)
            · have HRO : Hid (R = none) := by show _ = _; rw [HDEC.out, if_neg (fun h => hq h.2)]
              have e3 : (sb.toList == s.toList) = false := by rw [hsl]; simpa using hq
              have e4 : (sb.toList != s.toList) = true := by rw [hsl]; simpa using hq
              clear hq hsl
              go_wp2_with fail
              refine bodyPost_ret (results_cell1 rfl _ _ ⟨w.heap.size, 0, none⟩ _ _ rfl rfl (load_op _ _ _ _ _ _ _ _ (HM3.out.res.set6 _ _ _ _ _ _))) rfl ?_
              rw [HRO.out]
              exact ⟨rfl, HM3.out.bel.trans ((set6_only _ _ _ _ _ _ _ _).below HM3.out.bel.size (by simp))⟩
          · have e1 : (er != 0) = true := by simp [her]
            have e2 : (er == 0) = false := by simp [her]
            have HRO : Hid (R = none) := by show _ = _; rw [HDEC.out, if_neg (fun h => her (HER.out.symm.trans h.1))]
            clear her
            go_wp2_with fail
            refine bodyPost_ret (results_cell1 rfl _ _ ⟨w.heap.size, 0, none⟩ _ _ rfl rfl (load_op _ _ _ _ _ _ _ _ (HM2.out.res.set6 _ _ _ _ _ _))) rfl ?_
            rw [HRO.out]
            exact ⟨rfl, HM2.out.bel.trans ((set6_only _ _ _ _ _ _ _ _).below HM2.out.bel.size (by simp))⟩
set_option maxRecDepth 100000 in
set_option maxHeartbeats 4000000 in
theorem rdecode_any (w : World) (s : ByteArray) (hm : s.size ≤ 9223372036854775807) : Calls Tryz.prog 172 #[.string s] w (RDecPost w (decOf s)) := by
  have hsl : s.data.toList.length = s.size := by rw [Array.length_toList]; rfl
  have HZ := Lib.hid (Blk.new w 48 #[.int .i64 0, .int .i64 0, .int .i64 0, .string ⟨#[]⟩, .int .i64 0, .slice none 0 0])
  have HB : Hid (Below w.heap.size w (w.alloc (.cells #[.int .i64 0, .int .i64 0, .int .i64 0, .string ⟨#[]⟩, .int .i64 0, .slice none 0 0] 48))) := (Below.refl _ _).alloc (Nat.le_refl _) _
  by_cases h5 : s.size < 5
  · have hd := decOf_short (s := s) (by omega)
    have z5 : (s.size : Int) < 5 := by omega
    rw [hd]
    clear hd h5 hsl
    go_enter Tryz.func172, Tryz.ntmps172
    go_wp2_with fail
    refine bodyPost_ret (results_cell1 rfl _ _ ⟨w.heap.size, 0, none⟩ _ _ rfl rfl (load_op _ _ _ _ _ _ _ _ HZ.out)) rfl ?_
    exact ⟨rfl, HB.out⟩
  · obtain ⟨a, b, c, d, e, t, hs⟩ : ∃ a b c d e t, s.data.toList = a :: b :: c :: d :: e :: t := by
      generalize s.data.toList = l at hsl
      match l, hsl with
      | [], h => simp at h; omega
      | [_], h => simp at h; omega
      | [_, _], h => simp at h; omega
      | [_, _, _], h => simp at h; omega
      | [_, _, _, _], h => simp at h; omega
      | a :: b :: c :: d :: e :: t, _ => exact ⟨a, b, c, d, e, t, rfl⟩
    by_cases het : e.toNat ≤ t.length
    · exact rdecode_long w s hm a b c d e t hs het
    · have hd := decOf_far hs (by omega)
      rw [hd]
      have s4 : 4 < s.size := by omega
      have g4 : s[4]'s4 = e := by
        have h2 : s[4]'s4 = s.data.toList[4]'(by rw [Array.length_toList]; exact s4) := by simp; rfl
        rw [h2]
        simp only [hs]
        rfl
      have z4 : (4 : Int) < (s.size : Int) := by omega
      have z5 : ¬ (s.size : Int) < 5 := by omega
      have x4 : wrap64 ((s[4]'s4).toNat : Int) = (e.toNat : Int) := by rw [g4]; exact byte_wrap _
      have x5 : wrap64 (5 + (e.toNat : Int)) = 5 + (e.toNat : Int) := by have := UInt8.toNat_lt e; unfold wrap64; omega
      have y5 : (s.size : Int) < 5 + (e.toNat : Int) := by rw [hs] at hsl; simp at hsl; omega
      have e8 := UInt8.toNat_lt e
      clear hd h5 hsl hs g4 het
      go_enter Tryz.func172, Tryz.ntmps172
      go_wp2_with fail
      refine bodyPost_ret (results_cell1 rfl _ _ ⟨w.heap.size, 0, none⟩ _ _ rfl rfl (load_op _ _ _ _ _ _ _ _ HZ.out)) rfl ?_
      exact ⟨rfl, HB.out⟩
end Go.Proofs.YtkaccnegdmpofaaGreatDoor
/- leafref1.Unpack, walked: it reads what op.Unpack reads. Conditions: none of our own. -/
namespace Go.Proofs.YtkaccnegdmpofaaGreatDoor
open Go.RowKit
set_option linter.unusedVariables false
def RUnpPost (w : World) (r : Option (List LOp)) (e : Ending) (w' : World) : Prop :=
  match r with
  | none => ∃ A n c, e = .returned (.tuple #[.slice A n c, .bool false]) ∧ Below w.heap.size w w'
  | some l => ∃ A c ys, e = .returned (.tuple #[.slice A l.length c, .bool true]) ∧ ys.map OpAt.op = l ∧ Own w' w.heap.size 48 6 A l.length c (ocells ys) ∧
      (∀ y ∈ ys, Own w' w.heap.size 45 2 y.at_ y.op.seen.length y.cap (dcells y.op.seen)) ∧ Below w.heap.size w w'
/-- Midway: so many ops are read. -/
structure RUMid (w : World) (m : Nat) (t L : List UInt8) (k a : Nat) (V : Option Addr) (cv : Nat) (ys : List OpAt) (wr : World) : Prop where
  bel : Below w.heap.size w wr
  own : Own wr w.heap.size 48 6 V k cv (ocells ys)
  seen : ∀ y ∈ ys, Own wr w.heap.size 45 2 y.at_ y.op.seen.length y.cap (dcells y.op.seen)
  is : unpackN m t = (unpackN (m - k) (L.drop a)).map fun r => ys.map OpAt.op ++ r
  lo : a ≤ L.length
  small : a ≤ 2 + 141 * k
def RULoop (w : World) (m : Nat) (t L : List UInt8) (v i p : Value) (wr : World) : Prop :=
  ∃ k a V cv ys, k ≤ m ∧ i = .int .i64 (k : Nat) ∧ p = .int .i64 (a : Nat) ∧ v = .slice V k cv ∧ Hid (RUMid w m t L k a V cv ys wr)
theorem str_at (s : ByteArray) (j : Nat) (hj : j < s.size) : s.data.toList[j]? = some s[j] := by
  have : j < s.data.toList.length := by rw [Array.length_toList]; exact hj
  rw [List.getElem?_eq_getElem this]
  simp
  rfl
set_option maxRecDepth 100000 in
set_option maxHeartbeats 8000000 in
theorem runpack_any (w : World) (s : ByteArray) (hm : s.size ≤ 9223372036854775807) : Calls Tryz.prog 139 #[.string s] w (RUnpPost w (unpackOf s.data.toList)) := by
  have hsl : s.data.toList.length = s.size := by rw [Array.length_toList]; rfl
  have hget := fun j hj => str_at s j hj
  have hext : ∀ i j, s.extract i j = strOf ((s.data.toList.take j).drop i) := fun i j => by
    have h1 : s = strOf s.data.toList := by apply ByteArray.ext; simp [strOf]
    conv => lhs; rw [h1]
    exact strOf_ext _ _ _
  have HDC := Lib.hid (fun W x hx => rdecode_any W x hx)
  have HNU := Lib.hid (fun W i c d h1 h2 h3 => rnum2_any W s i c d h1 hm h2 h3)
  obtain ⟨L, hL⟩ : ∃ L, L = s.data.toList := ⟨_, rfl⟩
  rw [← hL] at hsl hget ⊢
  have HEX : Hid (∀ i j, s.extract i j = strOf ((L.take j).drop i)) := by show ∀ i j, _ = _; rw [hL]; exact hext
  have HGE := Lib.hid hget
  have HSL := Lib.hid hsl
  clear hL hext hget
  by_cases h2 : s.size < 2
  · have hr : unpackOf L = none := by
      match L, hsl with
      | [], _ => rfl
      | [_], _ => rfl
      | _ :: _ :: _, h => simp at h; omega
    rw [hr]
    have z2 : (s.size : Int) < 2 := by omega
    clear h2 hr hsl
    go_enter Tryz.func139, Tryz.ntmps139
    go_wp2_with fail
    go_ret2
    exact ⟨_, _, _, rfl, Below.refl _ _⟩
  · obtain ⟨c, d, t, hLe⟩ : ∃ c d t, L = c :: d :: t := by
      match L, hsl with
      | [], h => simp at h; omega
      | [_], h => simp at h; omega
      | c :: d :: t, _ => exact ⟨c, d, t, rfl⟩
    have z2 : ¬ (s.size : Int) < 2 := by omega
    have b0 : 0 < s.size := by omega
    have b1 : 0 + 1 < s.size := by omega
    have g0 : s[0]'b0 = c := by have := HGE.out 0 b0; rw [hLe] at this; simpa using this.symm
    have g1 : s[0 + 1]'b1 = d := by have := HGE.out (0 + 1) b1; rw [hLe] at this; simpa using this.symm
    have hN0 := fun W => HNU.out W 0 c d b1 g0 g1
    rw [show ((0 : Nat) : Int) = 0 from rfl] at hN0
    obtain ⟨m, hmm⟩ : ∃ m, m = c.toNat * 256 + d.toNat := ⟨_, rfl⟩
    rw [← hmm] at hN0
    have HN0 := Lib.hid hN0
    have hm6 : m ≤ 65535 := by have := UInt8.toNat_lt c; have := UInt8.toNat_lt d; omega
    have HLE := Lib.hid hLe
    have hro : unpackOf L = if 400 < m then none else unpackN m t := by rw [hLe, unpackOf, hmm]
    have HRO := Lib.hid hro
    obtain ⟨R, hR⟩ : ∃ R, R = unpackOf L := ⟨_, rfl⟩
    rw [← hR]
    rw [← hR] at HRO
    clear h2 hLe g0 g1 hN0 hmm hsl hro hR
    go_enter Tryz.func139, Tryz.ntmps139
    go_wp2_with fail
    refine (HN0.out w).mono ?_
    rintro e w1 ⟨rfl, hb1⟩
    have HB1 := Lib.hid hb1
    clear hb1
    by_cases h4 : 400 < m
    · have z4 : (m : Int) > 400 := by omega
      have z5 : (400 : Int) < (m : Int) := by omega
      have HRN : Hid (R = none) := by show _ = _; rw [HRO.out, if_pos h4]
      clear h4
      go_wp2_with fail
      go_ret2
      rw [HRN.out]
      exact ⟨_, _, _, rfl, HB1.out⟩
    · have z4 : ¬ (m : Int) > 400 := by omega
      have z5 : ¬ (400 : Int) < (m : Int) := by omega
      have HRN : Hid (R = unpackN m t) := by show _ = _; rw [HRO.out, if_neg h4]
      have h4' : m ≤ 400 := by omega
      clear h4
      go_wp2_with fail
      refine (HN0.out w1).mono ?_
      rintro e w2 ⟨rfl, hb2⟩
      have HB2 : Hid (Below w.heap.size w w2) := HB1.out.trans (hb2.mono HB1.out.size)
      clear hb2 HB1
      go_wp2_with fail
      go_loopw [4, 6, 7] (fun v p i wr => RULoop w m t L v i p wr) (fun v p i _ => m - (intOf i).toNat)
      case atStart =>
        refine ⟨0, 2, none, 0, [], Nat.zero_le _, rfl, rfl, rfl, Lib.hid ⟨HB2.out, Own.nil _ _ _ _, by simp, ?_, ?_, Nat.le_refl _⟩⟩
        · rw [HLE.out]
          show _ = (unpackN (m - 0) t).map _
          rw [Nat.sub_zero]
          simp
        · rw [HLE.out]; simp
      case round =>
        obtain ⟨k, a, V, cv, ys, hk, rfl, rfl, rfl, HM⟩ := hrel
        clear HB2
        have k0 : (0 : Int) ≤ (k : Int) := by omega
        have hlo := HM.out.lo
        have hla : a ≤ s.size := by have := HSL.out; omega
        have has : a ≤ 56402 := by have := HM.out.small; omega
        have hai : (a : Int) ≤ 56402 := by omega
        have a0 : (0 : Int) ≤ (a : Int) := by omega
        by_cases hkn : k < m
        · have k1 : (k : Int) < (m : Int) := by omega
          by_cases hs2 : s.size < a + 2
          · have z2 : (s.size : Int) < (a : Int) + 2 := by omega
            have HRF : Hid (R = none) := by
              show _ = _
              rw [HRN.out, HM.out.is]
              obtain ⟨j, hj⟩ : ∃ j, m - k = j + 1 := ⟨m - k - 1, by omega⟩
              have hdl : (L.drop a).length < 2 := by rw [List.length_drop, HSL.out]; omega
              rw [hj]
              match L.drop a, hdl with
              | [], _ => rfl
              | [_], _ => rfl
            clear hs2 hkn hlo
            go_wp2_with fail
            go_ret2
            rw [HRF.out]
            exact ⟨_, _, _, rfl, HM.out.bel⟩
          · have z2 : ¬ (s.size : Int) < (a : Int) + 2 := by omega
            have b0 : a < s.size := by omega
            have b1 : a + 1 < s.size := by omega
            obtain ⟨x, y, u, hxy⟩ : ∃ x y u, L.drop a = x :: y :: u := by
              have hdl : 2 ≤ (L.drop a).length := by rw [List.length_drop, HSL.out]; omega
              match L.drop a, hdl with
              | [], h => simp at h
              | [_], h => simp at h
              | x :: y :: u, _ => exact ⟨x, y, u, rfl⟩
            have e0 : s[a]'b0 = x := by
              have h1 := HGE.out a b0
              have h2 : (L.drop a)[0]? = some x := by rw [hxy]; rfl
              rw [List.getElem?_drop, Nat.add_zero, h1] at h2
              exact Option.some.inj h2
            have e1 : s[a + 1]'b1 = y := by
              have h1 := HGE.out (a + 1) b1
              have h2 : (L.drop a)[1]? = some y := by rw [hxy]; rfl
              rw [List.getElem?_drop, h1] at h2
              exact Option.some.inj h2
            have hNA := fun W => HNU.out W a x y b1 e0 e1
            have q8 : x.toNat * 256 + y.toNat ≤ 65535 := by have := UInt8.toNat_lt x; have := UInt8.toNat_lt y; omega
            obtain ⟨j, hj⟩ : ∃ j, m - k = j + 1 := ⟨m - k - 1, by omega⟩
            have hul : u.length + 2 + a = s.size := by
              have h1 : (L.drop a).length = u.length + 2 := by rw [hxy]; rfl
              rw [List.length_drop, HSL.out] at h1; omega
            have hRQ : R = (if u.length < x.toNat * 256 + y.toNat then none else match decOf (strOf (u.take (x.toNat * 256 + y.toNat))) with
                | none => none
                | some o => (unpackN j (u.drop (x.toNat * 256 + y.toNat))).map (o :: ·)).map fun r => ys.map OpAt.op ++ r := by
              rw [HRN.out, HM.out.is, hj, hxy, unpackN]
              rfl
            have hdd : ∀ q, L.drop (a + 2 + q) = u.drop q := fun q => by
              rw [show a + 2 + q = a + (2 + q) by omega, ← List.drop_drop, hxy, Nat.add_comm 2 q]
              rfl
            have hxt : ∀ q, s.extract (a + 2) (a + 2 + q) = strOf (u.take q) := fun q => by
              rw [HEX.out, List.drop_take, show a + 2 + q - (a + 2) = q by omega]
              have h0 := hdd 0
              rw [Nat.add_zero, List.drop_zero] at h0
              rw [h0]
            obtain ⟨q, hq⟩ : ∃ q, q = x.toNat * 256 + y.toNat := ⟨_, rfl⟩
            rw [← hq] at hNA hRQ q8
            have HNA := Lib.hid hNA
            have HRQ := Lib.hid hRQ
            have HXT := Lib.hid (hxt q)
            have HDD := Lib.hid (hdd q)
            have q0 : (0 : Int) ≤ (q : Int) := by omega
            have q7 : (q : Int) ≤ 65535 := by omega
            have HUL := Lib.hid hul
            have HKJ := Lib.hid hj
            clear hNA hRQ hxt hdd hq e0 e1 hxy hj
            go_wp2_with fail
            refine (HNA.out wr).mono ?_
            rintro e w3 ⟨rfl, hb3⟩
            have HB3 := Lib.hid hb3
            clear hb3
            by_cases huq : u.length < q
            · have z5 : (s.size : Int) < (a : Int) + 2 + (q : Int) := by omega
              have HRF : Hid (R = none) := by show _ = _; rw [HRQ.out, if_pos huq]; rfl
              clear huq hul hs2 hkn hlo hla has
              go_wp2_with fail
              go_ret2
              rw [HRF.out]
              exact ⟨_, _, _, rfl, HM.out.bel.trans (HB3.out.mono HM.out.bel.size)⟩
            · have z5 : ¬ (s.size : Int) < (a : Int) + 2 + (q : Int) := by omega
              have z6 : (a : Int) + 2 + (q : Int) ≤ (s.size : Int) := by omega
              have z7 : ((a : Int) + 2 + (q : Int)).toNat = a + 2 + q := by omega
              have z8 : ((a : Int) + 2).toNat = a + 2 := by omega
              have z9 : (a : Int) + 2 ≤ (a : Int) + 2 + (q : Int) := by omega
              have hRQ := HRQ.out
              rw [if_neg huq] at hRQ
              have huz : (strOf (u.take q)).size = q := by rw [strOf_sz, List.length_take]; omega
              have HDCQ := Lib.hid (fun W => HDC.out W (strOf (u.take q)) (by omega))
              obtain ⟨D, hD⟩ : ∃ D, D = decOf (strOf (u.take q)) := ⟨_, rfl⟩
              have hDs : ∀ o, D = some o → opErr o = 0 ∧ q = (opBytes o).length := fun o ho => by
                obtain ⟨h1, h2⟩ := dec_some (hD.symm.trans ho)
                refine ⟨h1, ?_⟩
                rw [h2]
                show q = (u.take q).length
                rw [List.length_take]; omega
              rw [← hD] at HDCQ hRQ
              have HDS := Lib.hid hDs
              have HRQ2 := Lib.hid hRQ
              have HKL : Hid (a + 2 + q ≤ L.length) := by show _ ≤ _; rw [HSL.out]; omega
              clear HRQ hRQ huq hul hs2 hlo hla HDC hDs hD huz
              go_wp2_with fail
              refine (HNA.out w3).mono ?_
              rintro e w4 ⟨rfl, hb4⟩
              have HB4 : Hid (Below wr.heap.size wr w4) := HB3.out.trans (hb4.mono HB3.out.size)
              clear hb4 HB3
              go_wp2_with fail
              rw [HXT.out]
              have HB5 : Hid (Below w.heap.size w w4) := HM.out.bel.trans (HB4.out.mono HM.out.bel.size)
              cases hD : D with
              | none =>
                rw [hD] at HDCQ HRQ2
                have HRF : Hid (R = none) := by show _ = _; rw [HRQ2.out]; rfl
                refine (HDCQ.out w4).mono ?_
                rintro e w5 ⟨rfl, hb5⟩
                have HB6 : Hid (Below w.heap.size w w5) := HB5.out.trans (hb5.mono HB5.out.size)
                clear hb5 hkn
                unfold zeroOp
                go_wp2_with fail
                go_ret2
                rw [HRF.out]
                exact ⟨_, _, _, rfl, HB6.out.alloc HB6.out.size _⟩
              | some o =>
                rw [hD] at HDCQ HRQ2
                obtain ⟨ho1, ho2⟩ := HDS.out o hD
                have hob := opBytes_len ho1
                have HOB := Lib.hid hob
                have HO2 := Lib.hid ho2
                refine (HDCQ.out w4).mono ?_
                rintro e w5 ⟨yA, yc, rfl, hown, hb5⟩
                have HB6 : Hid (Below w.heap.size w w5) := HB5.out.trans (hb5.mono HB5.out.size)
                have HV5 := Lib.hid ((HM.out.own.below HB4.out).below hb5)
                have HS5 : Hid (∀ y ∈ ys, Own w5 w.heap.size 45 2 y.at_ y.op.seen.length y.cap (dcells y.op.seen)) := fun y hy => ((HM.out.seen y hy).below HB4.out).below hb5
                have HN5 := Lib.hid (hown.mono (B' := w.heap.size) HB5.out.size)
                clear hb5 hown ho1 ho2 hob HDCQ HDS
                obtain ⟨W5, hW5⟩ : ∃ W5, W5 = w5.alloc (.cells (o.cells yA yc) 48) := ⟨_, rfl⟩
                obtain ⟨g5, hg5⟩ : ∃ g5, g5 = w5.heap.size := ⟨_, rfl⟩
                have HB7 : Hid (Below w.heap.size w W5) := by rw [hW5]; exact HB6.out.alloc HB6.out.size _
                have HV6 : Hid (Own W5 w.heap.size 48 6 V k cv (ocells ys)) := by rw [hW5]; exact HV5.out.alloc _
                have HS6 : Hid (∀ y ∈ ys, Own W5 w.heap.size 45 2 y.at_ y.op.seen.length y.cap (dcells y.op.seen)) := by rw [hW5]; exact fun y hy => (HS5.out y hy).alloc _
                have HN6 : Hid (Own W5 w.heap.size 45 2 yA o.seen.length yc (dcells o.seen)) := by rw [hW5]; exact HN5.out.alloc _
                have HO5 : Hid (Blk W5 g5 48 (o.cells yA yc)) := by rw [hW5, hg5]; exact Blk.new w5 _ _
                have b0 := HO5.out.cell 0
                have b1 := HO5.out.cell 1
                have b2 := HO5.out.cell 2
                have b3 := HO5.out.cell 3
                have b4 := HO5.out.cell 4
                have b5 := HO5.out.cell 5
                have HOLE : Hid (unpackN m t = (unpackN (m - (k + 1)) (L.drop (a + 2 + q))).map fun r => (ys.map OpAt.op ++ [o]) ++ r) := by
                  show _ = _
                  rw [← HRN.out, HRQ2.out, HDD.out, show m - (k + 1) = j by have := HKJ.out; omega]
                  simp only
                  rw [Option.map_map]
                  congr 1
                  funext r
                  simp
                clear HV5 HS5 HN5 HB6 HB5 HB4 hD HRQ2
                obtain ⟨⟨d1, d2⟩, o2, o3, o4, o5⟩ := o
                unfold LOp.cells at b0 b1 b2 b3 b4 b5 hW5
                unfold LOp.val
                simp only [List.getElem?_toArray, List.getElem?_cons_zero, List.getElem?_cons_succ] at b0 b1 b2 b3 b4 b5 hW5
                have HONE : Hid (OneCells [Value.int .i64 d1, .int .i64 d2, .int .i64 o2, .string o3, .int .i64 o4, .slice yA o5.length yc]) := by
                  show OneCells _
                  intro u hu
                  simp only [List.mem_cons, List.not_mem_nil, or_false] at hu
                  rcases hu with rfl | rfl | rfl | rfl | rfl | rfl <;> rfl
                have HFIT : Hid (Fits (k + 1) 72) := Fits.of_small (by omega) (by decide)
                have hgs : w.heap.size ≤ W5.heap.size := HB7.out.size
                have HV7 := Lib.hid (HV6.out.alloc (.cells #[.int .i64 d1, .int .i64 d2, .int .i64 o2, .string o3, .int .i64 o4, .slice yA o5.length yc] 48))
                have HRW := Lib.hid (Reads.row W5 48 #[.int .i64 d1, .int .i64 d2, .int .i64 o2, .string o3, .int .i64 o4, .slice yA o5.length yc])
                have HSZ : Hid (w.heap.size ≤ (W5.alloc (.cells #[.int .i64 d1, .int .i64 d2, .int .i64 o2, .string o3, .int .i64 o4, .slice yA o5.length yc] 48)).heap.size) := by show _ ≤ _; simp; omega
                go_upto_region 15 with fail
                rw [← hW5, ← hg5]
                clear hW5 hg5
                go_wp2_with (at_builtin; go_loud (refine wpList_app _ (.tmp 59) (.tmp 61) rfl rfl elemOu rfl rfl HV7.out HRW.out HONE.out HFIT.out HSZ.out ?_; intro V8 cV w8 hO hL hg; have HO8 := Lib.hid hO; have HL8 := Lib.hid hL; clear hO hL hg))
                go_roundw
                case rel =>
                  refine ⟨k + 1, a + 2 + q, V8, cV, ys ++ [⟨⟨⟨d1, d2⟩, o2, o3, o4, o5⟩, yA, yc⟩], by omega, by go_num, by go_num, rfl, Lib.hid ⟨?_, ?_, ?_, ?_, HKL.out, ?_⟩⟩
                  · exact (HB7.out.alloc hgs _).trans (HL8.out.below HSZ.out (fun i hi => (HV6.out.lt i hi).1))
                  · rw [show ocells (ys ++ [⟨⟨⟨d1, d2⟩, o2, o3, o4, o5⟩, yA, yc⟩]) = ocells ys ++ [.int .i64 d1, .int .i64 d2, .int .i64 o2, .string o3, .int .i64 o4, .slice yA o5.length yc] by simp [ocells, OpAt.cells, LOp.cells]]
                    exact HO8.out
                  · intro y hy
                    rw [List.mem_append, List.mem_singleton] at hy
                    rcases hy with hy | rfl
                    · exact ((HS6.out y hy).alloc _).only HL8.out ((HS6.out y hy).ne2 HV6.out (by decide))
                    · exact (HN6.out.alloc _).only HL8.out (HN6.out.ne2 HV6.out (by decide))
                  · rw [HOLE.out, List.map_append]
                    rfl
                  · have h1 := HM.out.small
                    have h2 := HO2.out
                    have h3 := HOB.out
                    omega
                case measure => simp [intOf]; omega
        · have k1 : ¬ (k : Int) < (m : Int) := by omega
          have HIS : Hid (R = if L.drop a = [] then some (ys.map OpAt.op) else none) := by
            show _ = _
            rw [HRN.out, HM.out.is, show m - k = 0 by omega, unpackN]
            by_cases hr : L.drop a = []
            · rw [if_pos hr, if_pos hr]; simp
            · rw [if_neg hr, if_neg hr]; rfl
          have hlen : k = ys.length := by
            have := HM.out.own.len
            rw [ocells_len] at this
            omega
          have HLEN := Lib.hid hlen
          by_cases hr : L.drop a = []
          · have HRF : Hid (R = some (ys.map OpAt.op)) := by show _ = _; rw [HIS.out, if_pos hr]
            have hq : ((a : Int) == (s.size : Int)) = true := by
              have := List.drop_eq_nil_iff.1 hr
              have := HSL.out
              simp; omega
            clear hlen hr hkn
            go_wp2_with fail
            go_ret2
            rw [HRF.out]
            refine ⟨V, cv, ys, ?_, rfl, ?_, HM.out.seen, HM.out.bel⟩
            · rw [List.length_map, ← HLEN.out]; rfl
            · rw [List.length_map, ← HLEN.out]; exact HM.out.own
          · have HRF : Hid (R = none) := by show _ = _; rw [HIS.out, if_neg hr]
            have hq : ((a : Int) == (s.size : Int)) = false := by
              have : a < L.length := by
                rcases Nat.lt_or_ge a L.length with h | h
                · exact h
                · exact absurd (List.drop_eq_nil_iff.2 h) hr
              have := HSL.out
              simp; omega
            clear hlen hr hkn
            go_wp2_with fail
            go_ret2
            rw [HRF.out]
            exact ⟨_, _, _, rfl, HM.out.bel⟩
end Go.Proofs.YtkaccnegdmpofaaGreatDoor
/- sync.lacks, sync.take, walked. Conditions: the document is right; the ops can be read, and lie apart from it. -/
namespace Go.Proofs.YtkaccnegdmpofaaGreatDoor
open Go.RowKit
set_option linter.unusedVariables false
def lacksO (l : List OpAt) (v : List Int) : List OpAt := l.filter fun y => lacksB v y.op
theorem lacksO_map (l : List OpAt) (v : List Int) : (lacksO l v).map OpAt.op = lacksR (l.map OpAt.op) v := by
  unfold lacksO lacksR
  rw [List.filter_map]
  rfl
theorem lacksO_take {l : List OpAt} {v : List Int} {k : Nat} (h : k < l.length) : lacksO (l.take (k + 1)) v = if lacksB v l[k].op = true then lacksO (l.take k) v ++ [l[k]] else lacksO (l.take k) v := by
  unfold lacksO
  rw [List.take_succ_eq_append_getElem h, List.filter_append]
  by_cases hb : lacksB v l[k].op = true
  · rw [if_pos hb, List.filter_cons, if_pos hb]; rfl
  · rw [if_neg hb, List.filter_cons, if_neg hb]; simp
theorem reads_op_at (W : World) (N : Nat) (h : W.heap.size = N) (y : OpAt) : Reads (W.alloc (.cells (y.op.cells y.at_ y.cap) 48)) (N + 1) 6 (some ⟨N, 0, none⟩) 1 (ocells [y]) := by
  subst h; exact reads_op W y
def LacksLoop (w : World) (l : List OpAt) (v : List Int) (o i : Value) (wr : World) : Prop :=
  ∃ (k cv : Nat) (V : Option Addr), k ≤ l.length ∧ i = .int .i64 k ∧ o = .slice V (lacksO (l.take k) v).length cv ∧ Hid (Own wr w.heap.size 48 6 V (lacksO (l.take k) v).length cv (ocells (lacksO (l.take k) v))) ∧ Hid (Below w.heap.size w wr)
def LacksPost (w : World) (l : List OpAt) (v : List Int) (e : Ending) (w' : World) : Prop :=
  ∃ V c, e = .returned (.slice V (lacksO l v).length c) ∧ Own w' w.heap.size 48 6 V (lacksO l v).length c (ocells (lacksO l v)) ∧ Below w.heap.size w w'
set_option maxRecDepth 100000 in
set_option maxHeartbeats 4000000 in
theorem slacks_any (w : World) (A : Option Addr) (c : Nat) (l : List OpAt) (K : Option Addr) (ck : Nat) (v : List Int) (h : Reads w w.heap.size 6 A l.length (ocells l)) (hg : ∀ y ∈ l, dotErr y.op.dot = 0) (hl : l.length ≤ 100000) (hv : Reads w w.heap.size 1 K v.length (ints v)) (hv8 : v.length = 8) :
    Calls Tryz.prog 168 #[.slice A l.length c, .slice K v.length ck] w (LacksPost w l v) := by
  have HR := Lib.hid h
  have HV := Lib.hid hv
  have HG := Lib.hid hg
  have HV8 := Lib.hid hv8
  clear h hv hg hv8
  go_enter Tryz.func168, Tryz.ntmps168
  go_wp2_with fail
  go_loopw [4, 9] (fun o i wr => LacksLoop w l v o i wr) (fun _ i _ => l.length - (intOf i).toNat)
  case atStart => exact ⟨0, 0, none, Nat.zero_le _, rfl, rfl, Own.nil _ _ _ _, Below.refl _ _⟩
  case round =>
    obtain ⟨k, cv, V, hk, rfl, rfl, HO, HB⟩ := hrel
    have k0 : (0 : Int) ≤ (k : Int) := by omega
    by_cases hlt : k < l.length
    · have k1 : (k : Int) < (l.length : Int) := by omega
      obtain ⟨ad, rfl, _, d0, d1, d2, d3, d4, d5⟩ := (HR.out.below HB.out).op hlt
      have HT := Lib.hid (lacksO_take (v := v) hlt)
      have hll : (lacksO (l.take k) v).length ≤ k := by have := List.length_filter_le (fun y : OpAt => lacksB v y.op) (l.take k); unfold lacksO; rw [List.length_take] at this; omega
      obtain ⟨j, hj, hw, n1, n2⟩ := dot_in (HG.out _ (List.getElem_mem hlt))
      have hj8 : j < v.length := by have := HV8.out; omega
      obtain ⟨av, rfl, _, _⟩ := HV.out.int hj8
      have HCV : Hid (∀ W, Below w.heap.size w W → W.cell? (av.add j) = some (.int .i64 v[j])) := fun W hb => by
        obtain ⟨a', e, _, hh⟩ := (HV.out.below hb).int hj8
        injection e with e
        subst e
        exact hh
      have hnof : nOf v l[k].op.dot = v[j] := by
        unfold nOf
        rw [hw, show ((j : Int) + 1 - 1).toNat = j by omega]
        simp [List.getD, hj8]
      have hlb : lacksB v l[k].op = decide (v[j] < l[k].op.dot.n) := by unfold lacksB; rw [hnof]
      rw [hlb] at HT
      have HRO := Lib.hid (fun (W : World) (N : Nat) (hN : W.heap.size = N) => reads_op_at W N hN l[k])
      have HON := Lib.hid (ocells_one [l[k]])
      have hF : Fits ((lacksO (l.take k) v).length + 1) 72 := Fits.of_small (by omega) (by decide)
      generalize lacksO (l.take k) v = rs at *
      generalize l[k] = y at *
      obtain ⟨⟨⟨who, n⟩, what, p, letter, seen⟩, ya, yc⟩ := y
      unfold LOp.cells at HRO
      simp only at d0 d1 d2 d3 d4 d5 hw HT HRO HON
      subst hw
      have q1 : IntKind.i64.wrap ((j : Int) + 1 - 1) = (j : Int) := by rw [IntWalk.i64_in _ (by omega)]; omega
      have j0 : (0 : Int) ≤ (j : Int) := by omega
      have j1 : (j : Int) < (v.length : Int) := by omega
      have HOX := Lib.hid (HO.out.alloc (.cells #[.int .i64 ((j : Int) + 1), .int .i64 n, .int .i64 what, .string p, .int .i64 letter, .slice ya seen.length yc] 48))
      have HBX : Hid (Below w.heap.size w (wr.alloc (.cells #[.int .i64 ((j : Int) + 1), .int .i64 n, .int .i64 what, .string p, .int .i64 letter, .slice ya seen.length yc] 48))) := HB.out.alloc HB.out.size _
      have hsz : w.heap.size ≤ wr.heap.size := HB.out.size
      have b0 : (wr.alloc (.cells #[.int .i64 ((j : Int) + 1), .int .i64 n, .int .i64 what, .string p, .int .i64 letter, .slice ya seen.length yc] 48)).cell? ⟨wr.heap.size, 0, none⟩ = some (.int .i64 ((j : Int) + 1)) := (Blk.new wr 48 _).cell 0
      have b1 : (wr.alloc (.cells #[.int .i64 ((j : Int) + 1), .int .i64 n, .int .i64 what, .string p, .int .i64 letter, .slice ya seen.length yc] 48)).cell? ⟨wr.heap.size, 1, none⟩ = some (.int .i64 n) := (Blk.new wr 48 _).cell 1
      have c0 := HCV.out _ (HB.out.alloc HB.out.size (.cells #[.int .i64 ((j : Int) + 1), .int .i64 n, .int .i64 what, .string p, .int .i64 letter, .slice ya seen.length yc] 48))
      clear hnof hlb HO
      generalize v[j] = u at *
      by_cases hlk : u < n
      · have g1 : decide (n > u) = true := decide_eq_true hlk
        have g2 : decide (u < n) = true := decide_eq_true hlk
        rw [decide_eq_true hlk] at HT
        simp only [if_true] at HT
        clear hlk
        go_wp2_with fail
        go_quiet (fail)
        go_wp2_with (at_builtin; go_loud (refine wpList_app _ (.tmp 24) (.tmp 26) rfl rfl elemO_ rfl rfl ((HOX.out.drewN _).alloc _) (HRO.out _ _ (by simp)) HON.out hF (by simp; omega) ?_; intro V2 cv2 w4 HO4 HL4 HX4; have HOn := Lib.hid HO4; have HBn : Hid (Below w.heap.size w w4) := ((below_drewN HBX.out _).alloc HBX.out.size _).trans (HL4.below (by simp; omega) (fun g hg => (HOX.out.lt g hg).1)); clear HO4 HL4 HX4))
        go_roundw
        case rel => exact ⟨k + 1, cv2, V2, by omega, by go_num, by rw [HT.out]; simp, by rw [HT.out, ocells_app, List.length_append]; exact HOn, HBn⟩
        case measure => simp [intOf]; omega
      · have g1 : decide (n > u) = false := decide_eq_false hlk
        have g2 : decide (u < n) = false := decide_eq_false hlk
        rw [decide_eq_false hlk] at HT
        simp only [Bool.false_eq_true, if_false] at HT
        clear hlk
        go_wp2_with fail
        go_quiet (fail)
        go_wp2_with fail
        go_roundw
        case rel => exact ⟨k + 1, cv, V, by omega, by go_num, by rw [HT.out], by rw [HT.out]; exact HOX.out.drewN _, below_drewN HBX.out _⟩
        case measure => simp [intOf]; omega
    · have k1 : ¬ (k : Int) < (l.length : Int) := by omega
      obtain rfl : k = l.length := by omega
      rw [List.take_length] at HO ⊢
      go_wp2_with fail
      go_ret
      exact ⟨V, cv, rfl, HO.out, HB.out⟩
end Go.Proofs.YtkaccnegdmpofaaGreatDoor
/- sync.take, walked. Conditions: the document is right; the ops can be read, and lie apart from it. -/
namespace Go.Proofs.YtkaccnegdmpofaaGreatDoor
open Go.RowKit
set_option linter.unusedVariables false
namespace LDoc
def tookN (d : LDoc) (l : List LOp) : Int := if d.doE l = 0 then d.takeN l else 0
end LDoc
structure TkMid (w : World) (B : Nat) (S : List Nat) (b : Nat) (A : Option Addr) (ys : List OpAt) (st : LDoc) (k : Nat) (n : Int) (wr : World) (S' : List Nat) (D' : DLay) (sk : LDoc) : Prop where
  mid : DoMid w B S b A ys st k wr S' D' sk
  num : st.takeN (ys.map OpAt.op) = n + sk.takeN ((ys.drop k).map OpAt.op)
  le : 0 ≤ n ∧ n ≤ k
def TkLoop (w : World) (B : Nat) (S : List Nat) (b : Nat) (A : Option Addr) (ys : List OpAt) (st : LDoc) (v i : Value) (wr : World) : Prop := ∃ k : Nat, ∃ (n : Int), ∃ S' D' sk, k ≤ ys.length ∧ i = .int .i64 k ∧ v = .int .i64 n ∧ Hid (TkMid w B S b A ys st k n wr S' D' sk)
theorem TkMid.next {w wr w' : World} {B b : Nat} {S S' : List Nat} {A : Option Addr} {ys : List OpAt} {st sk : LDoc} {k : Nat} {n : Int} {D' : DLay} (h : TkMid w B S b A ys st k n wr S' D' sk) (hk : k < ys.length) (o : Obj) (he : sk.applyE ys[k].op = 0) (ht : DocTo (wr.alloc o) B S' b (sk.apply ys[k].op) w') :
    ∃ S2 D2, TkMid w B S b A ys st (k + 1) (n + if sk.applyB ys[k].op = true then 1 else 0) w' S2 D2 (sk.apply ys[k].op) := by
  obtain ⟨S2, D2, h1⟩ := h.mid.next hk o he ht
  refine ⟨S2, D2, h1, ?_, ?_⟩
  · rw [h.num, List.drop_eq_getElem_cons hk, List.map_cons, LDoc.takeN, if_neg (by omega)]
    omega
  · have := h.le
    split <;> omega
def TakePost (w : World) (B : Nat) (S : List Nat) (b : Nat) (n k : Int) (st : LDoc) (e : Ending) (w' : World) : Prop := e = .returned (.tuple #[.int .i64 n, errV k]) ∧ DocTo w B S b st w'
set_option maxRecDepth 100000 in
set_option maxHeartbeats 8000000 in
theorem take_any (w : World) (B : Nat) (S : List Nat) (b : Nat) (st : LDoc) (D : DLay) (h : DocIs w B S b st D) (ok : st.Ok) (A : Option Addr) (c : Nat) (ys : List OpAt) (hr : Reads w w.heap.size 6 A ys.length (ocells ys)) (ha : 0 < ys.length → ∀ g ∈ ob A, g ∉ S)
    (hf : ∀ y ∈ ys, OpFar w S y) (hl : ys.length ≤ 1000000) :
    Calls Tryz.prog 170 #[.pointer (some ⟨b, 0, none⟩), .slice A ys.length c] w (TakePost w B S b (st.tookN (ys.map OpAt.op)) (st.doE (ys.map OpAt.op)) (st.doR (ys.map OpAt.op))) := by
  have HR := Lib.hid hr
  have HA := Lib.hid ha
  have HF := Lib.hid hf
  have HM0 : Hid (TkMid w B S b A ys st 0 0 w S D st) := ⟨⟨h, Only.refl _ _, fun g hg => .inl hg, ok, rfl, rfl⟩, by simp, by omega⟩
  clear hr ha hf h ok
  go_enter Tryz.func170, Tryz.ntmps170
  go_wp2_with fail
  go_loopw [6, 13] (fun v i wr => TkLoop w B S b A ys st v i wr) (fun _ i _ => ys.length - (intOf i).toNat)
  case atStart => exact ⟨0, 0, _, _, _, Nat.zero_le _, rfl, rfl, HM0.out⟩
  case round =>
    obtain ⟨k, nn, S', D', sk, hk, rfl, rfl, HM⟩ := hrel
    have k0 : (0 : Int) ≤ (k : Int) := by omega
    have hle := HM.out.le
    by_cases hlt : k < ys.length
    · have k1 : (k : Int) < (ys.length : Int) := by omega
      have hro := Reads.only HR.out HM.out.mid.only HA.out
      obtain ⟨ad, rfl, hab, d0, d1, d2, d3, d4, d5⟩ := hro.op hlt
      obtain ⟨f1, f2, f3⟩ := HF.out _ (List.getElem_mem hlt)
      have f1' := Reads.only f1 HM.out.mid.only f3
      have hfar : 0 < ys[k].op.seen.length → ∀ g ∈ ob ys[k].at_, g ∉ S' := fun hn g hg hm => by
        rcases HM.out.mid.sub g hm with h4 | h4
        · exact f3 hn g hg h4
        · obtain ⟨ad', e, hb, _⟩ := f1.2 hn
          rw [e] at hg; simp [ob] at hg; omega
      have HAP : Hid (∀ o : Obj, Calls Tryz.prog 20 #[.pointer (some ⟨b, 0, none⟩), ys[k].op.val ys[k].at_ ys[k].cap] (wr.alloc o) (ApplyPost (wr.alloc o) B S' b (sk.applyB ys[k].op) (sk.applyE ys[k].op) (sk.apply ys[k].op))) := fun o =>
        apply_doc (wr.alloc o) B S' b sk D' (HM.out.mid.boxed o) HM.out.mid.ok ys[k].op ys[k].at_ ys[k].cap f2 ((f1'.alloc (Nat.le_refl _) o).more (by simp)) hfar
      have HNX : Hid (∀ (he : sk.applyE ys[k].op = 0) (o : Obj) (w' : World), DocTo (wr.alloc o) B S' b (sk.apply ys[k].op) w' → ∃ S2 D2, TkMid w B S b (some ad) ys st (k + 1) (nn + if sk.applyB ys[k].op = true then 1 else 0) w' S2 D2 (sk.apply ys[k].op)) := fun he o w' ht => HM.out.next hlt o he ht
      have HST : Hid (∀ (he : sk.applyE ys[k].op ≠ 0) (o : Obj) (w' : World), DocTo (wr.alloc o) B S' b sk w' → st.doE (ys.map OpAt.op) = sk.applyE ys[k].op ∧ DocTo w B S b (st.doR (ys.map OpAt.op)) w') := fun he o w' ht => HM.out.mid.stop hlt o he ht
      have HBAD := Lib.hid (fun he : sk.applyE ys[k].op ≠ 0 => LDoc.applyE_bad (d := sk) (o := ys[k].op) rfl he)
      clear f1 f1' f2 f3 hfar hro hab
      generalize ys[k] = y at *
      have HE0 : errV 0 = .nilIface := rfl
      have q1 : IntKind.i64.wrap (nn + 1) = nn + 1 := IntWalk.i64_in _ (by omega)
      by_cases he : sk.applyE y.op = 0
      · have HNY := Lib.hid (HNX.out he)
        rw [he] at HAP
        clear HST HBAD he HNX
        generalize sk.apply y.op = sk2 at *
        cases hbb : sk.applyB y.op with
        | true =>
          rw [hbb] at HAP HNY
          simp only [if_true] at HNY
          clear hbb
          obtain ⟨⟨⟨who, n⟩, what, p, letter, seen⟩, ya, yc⟩ := y
          unfold LOp.val at HAP
          simp only at d0 d1 d2 d3 d4 d5 HAP
          go_wp2_with fail
          refine (HAP.out _).mono ?_
          rintro e w2 ⟨rfl, ht⟩
          have HN2 := Lib.hid (HNY.out _ _ ht)
          rw [HE0]
          clear ht HNY HAP
          go_wp2_with fail
          go_roundw
          case rel =>
            obtain ⟨S2, D2, hfin⟩ := HN2.out
            exact ⟨k + 1, nn + 1, S2, D2, sk2, by omega, by go_num, by first | rfl | rw [q1], hfin⟩
          case measure => simp [intOf]; omega
        | false =>
          rw [hbb] at HAP HNY
          simp only [Bool.false_eq_true, if_false] at HNY
          clear hbb
          obtain ⟨⟨⟨who, n⟩, what, p, letter, seen⟩, ya, yc⟩ := y
          unfold LOp.val at HAP
          simp only at d0 d1 d2 d3 d4 d5 HAP
          go_wp2_with fail
          refine (HAP.out _).mono ?_
          rintro e w2 ⟨rfl, ht⟩
          have HN2 := Lib.hid (HNY.out _ _ ht)
          rw [HE0]
          clear ht HNY HAP
          go_wp2_with fail
          go_roundw
          case rel =>
            obtain ⟨S2, D2, hfin⟩ := HN2.out
            exact ⟨k + 1, nn, S2, D2, sk2, by omega, by go_num, rfl, by rw [Int.add_zero] at hfin; exact hfin⟩
          case measure => simp [intOf]; omega
      · obtain ⟨_, hb, hs⟩ := HBAD.out he
        have HSU := Lib.hid (HST.out he)
        have HV := Lib.hid (errV_ne he)
        have HE := Lib.hid he
        rw [hb, hs] at HAP
        clear HNX HBAD he hb hs HST
        generalize sk.applyE y.op = ke at *
        obtain ⟨⟨⟨who, n⟩, what, p, letter, seen⟩, ya, yc⟩ := y
        unfold LOp.val at HAP
        simp only at d0 d1 d2 d3 d4 d5 HAP
        go_wp2_with fail
        refine (HAP.out _).mono ?_
        rintro e w2 ⟨rfl, ht⟩
        have HN2 := Lib.hid (HSU.out _ _ ht)
        rw [HV.out]
        clear ht HSU HAP
        go_wp2_with fail
        go_ret2
        obtain ⟨n1, n2⟩ := HN2.out
        have n3 : st.tookN (ys.map OpAt.op) = 0 := by unfold LDoc.tookN; rw [if_neg]; rw [n1]; exact HE.out
        exact ⟨by rw [n3, n1, HV.out]; rfl, n2⟩
    · have k1 : ¬ (k : Int) < (ys.length : Int) := by omega
      obtain ⟨f1, f2⟩ := HM.out.mid.fin (by omega)
      have F1 := Lib.hid f1
      have F2 := Lib.hid f2
      have F3 : Hid (st.tookN (ys.map OpAt.op) = nn) := by
        show _ = _
        unfold LDoc.tookN
        rw [if_pos f1, HM.out.num, List.drop_eq_nil_of_le (by omega)]
        simp [LDoc.takeN]
      clear f1 f2
      go_wp2_with fail
      go_ret2
      exact ⟨by rw [F1.out, F3.out]; rfl, F2.out⟩
end Go.Proofs.YtkaccnegdmpofaaGreatDoor
/- (*leafref2.Doc).Take, walked. Conditions: the document is right; the ops can be read, and lie apart from what it turns. -/
namespace Go.Proofs.YtkaccnegdmpofaaGreatDoor
open Go.RowKit
set_option linter.unusedVariables false
theorem RDocIs.grow {w : World} {B : Nat} {S S' : List Nat} {b : Nat} {st : LDoc} {D : RLay} (h : RDocIs w B S' b st D) (hS : ∀ g ∈ S, B ≤ g ∧ g < w.heap.size) : RDocIs w B (S' ++ S) b st D :=
  { h with
    book := h.book.more (fun g hg => by simp [hg]) (fun g hg => .inl hg)
    marks := h.marks.more (fun g hg => by simp [hg]) (fun g hg => .inl hg)
    seen := fun y hy => (h.seen y hy).more (fun g hg => by simp [hg]) (fun g hg => .inl hg)
    sub := fun g hg => by simp [h.sub g hg]
    own := fun g hg => by
      rcases List.mem_append.1 hg with h1 | h1
      · exact h.own g h1
      · exact hS g h1 }
/-- Midway. -/
structure RTkMid (w : World) (B : Nat) (S : List Nat) (b : Nat) (D : RLay) (ys : List OpAt) (st : LDoc) (k : Nat) (n : Int) (wr : World) (S' : List Nat) (D' : RLay) (sk : LDoc) : Prop where
  doc : RDocIs wr B S' b sk D'
  has : ∀ g ∈ S, g ∈ S'
  own : ∀ g ∈ S, B ≤ g ∧ g < w.heap.size
  only : Only (D.turns b) w wr
  sub : ∀ g ∈ S', g ∈ S ∨ w.heap.size ≤ g
  tn : ∀ g ∈ D'.turns b, g ∈ D.turns b ∨ w.heap.size ≤ g
  kn : D'.a3 = D.a3 ∧ D'.c3 = D.c3
  ok : sk.Ok
  says : Says sk.ops sk
  restE : st.doE (ys.map OpAt.op) = sk.doE ((ys.drop k).map OpAt.op)
  restR : st.doR (ys.map OpAt.op) = sk.doR ((ys.drop k).map OpAt.op)
  num : st.takeN (ys.map OpAt.op) = n + sk.takeN ((ys.drop k).map OpAt.op)
  le : 0 ≤ n ∧ n ≤ k
def RTkLoop (w : World) (B : Nat) (S : List Nat) (b : Nat) (D : RLay) (ys : List OpAt) (st : LDoc) (v i : Value) (wr : World) : Prop := ∃ k : Nat, ∃ (n : Int), ∃ S' D' sk, k ≤ ys.length ∧ i = .int .i64 k ∧ v = .int .i64 n ∧ Hid (RTkMid w B S b D ys st k n wr S' D' sk)
namespace RTkMid
variable {w wr w' : World} {B b : Nat} {S S' : List Nat} {ys : List OpAt} {st sk : LDoc} {k : Nat} {n : Int} {D D' : RLay}
theorem next (h : RTkMid w B S b D ys st k n wr S' D' sk) (hk : k < ys.length) (he : sk.applyE ys[k].op = 0) (ht : RDocTo wr B S' b D' (sk.apply ys[k].op) w') :
    ∃ S2 D2, RTkMid w B S b D ys st (k + 1) (n + if sk.applyB ys[k].op = true then 1 else 0) w' S2 D2 (sk.apply ys[k].op) := by
  obtain ⟨S2, D2, h1, h2, h3, h4, h5, h6⟩ := ht
  have hd := List.drop_eq_getElem_cons hk
  have hs0 := h.only.size
  have hs1 := h2.size
  refine ⟨S2 ++ S, D2, h1.grow (fun g hg => ⟨(h.own g hg).1, by have := (h.own g hg).2; omega⟩), fun g hg => by simp [hg], h.own, h.only.trans_new h2 (fun i hi => h.tn i hi), fun g hg => ?_, fun g hg => ?_, ⟨h5.trans h.kn.1, h6.trans h.kn.2⟩, LDoc.apply_ok h.ok _, LDoc.apply_says h.ok h.says _, ?_, ?_, ?_, ?_⟩
  · rcases List.mem_append.1 hg with hg | hg
    · rcases h3 g hg with h4 | h4
      · exact h.sub g h4
      · exact .inr (by omega)
    · exact .inl hg
  · rcases h4 g hg with h5 | h5
    · exact h.tn g h5
    · exact .inr (by omega)
  · rw [h.restE, hd, List.map_cons, LDoc.doE, if_neg (by omega)]
  · rw [h.restR, hd, List.map_cons, LDoc.doR, if_neg (by omega)]
  · rw [h.num, hd, List.map_cons, LDoc.takeN, if_neg (by omega)]
    omega
  · have := h.le
    split <;> omega
theorem close {s2 : LDoc} (h : RTkMid w B S b D ys st k n wr S' D' sk) (ht : RDocTo wr B S' b D' s2 w') : RDocTo w B S b D s2 w' := by
  obtain ⟨S2, D2, h1, h2, h3, h4, k5, k6⟩ := ht
  have hs0 := h.only.size
  refine ⟨S2, D2, h1, h.only.trans_new h2 (fun i hi => h.tn i hi), fun g hg => ?_, fun g hg => ?_, k5.trans h.kn.1, k6.trans h.kn.2⟩
  · rcases h3 g hg with h5 | h5
    · exact h.sub g h5
    · exact .inr (by omega)
  · rcases h4 g hg with h5 | h5
    · exact h.tn g h5
    · exact .inr (by omega)
theorem stop (h : RTkMid w B S b D ys st k n wr S' D' sk) (hk : k < ys.length) (he : sk.applyE ys[k].op ≠ 0) (ht : RDocTo wr B S' b D' sk w') : st.doE (ys.map OpAt.op) = sk.applyE ys[k].op ∧ RDocTo w B S b D (st.doR (ys.map OpAt.op)) w' := by
  have hd := List.drop_eq_getElem_cons hk
  refine ⟨by rw [h.restE, hd, List.map_cons, LDoc.doE, if_pos he], ?_⟩
  rw [h.restR, hd, List.map_cons, LDoc.doR, if_pos he]
  exact h.close ht
theorem fin (h : RTkMid w B S b D ys st k n wr S' D' sk) (hk : ys.length ≤ k) : st.doE (ys.map OpAt.op) = 0 ∧ st.tookN (ys.map OpAt.op) = n ∧ RDocTo w B S b D (st.doR (ys.map OpAt.op)) wr := by
  have hd : ys.drop k = [] := List.drop_eq_nil_of_le hk
  have e : st.doE (ys.map OpAt.op) = 0 := by rw [h.restE, hd]; rfl
  refine ⟨e, ?_, ?_⟩
  · unfold LDoc.tookN
    rw [if_pos e, h.num, hd]
    simp [LDoc.takeN]
  · rw [h.restR, hd]
    exact ⟨S', D', h.doc, h.only, h.sub, h.tn, h.kn.1, h.kn.2⟩
end RTkMid
def RTakePost (w : World) (B : Nat) (S : List Nat) (b : Nat) (D : RLay) (n k : Int) (st : LDoc) (e : Ending) (w' : World) : Prop := e = .returned (.tuple #[.int .i64 n, .int .i64 k]) ∧ RDocTo w B S b D st w'
set_option maxRecDepth 100000 in
set_option maxHeartbeats 8000000 in
theorem rtake_any (w : World) (B : Nat) (S : List Nat) (b : Nat) (st : LDoc) (D : RLay) (h : RDocIs w B S b st D) (ok : st.Ok) (hs : Says st.ops st) (A : Option Addr) (c : Nat) (ys : List OpAt) (hr : Reads w w.heap.size 6 A ys.length (ocells ys)) (ha : 0 < ys.length → ∀ g ∈ ob A, g ∉ D.turns b)
    (hf : ∀ y ∈ ys, y.op.place.size ≤ 9223372036854775807 ∧ Seat w B S (D.turns b) 2 y.at_ y.op.seen.length (dcells y.op.seen)) (hl : ys.length ≤ 1000000) :
    Calls Tryz.prog 140 #[.pointer (some ⟨b, 0, none⟩), .slice A ys.length c] w (RTakePost w B S b D (st.tookN (ys.map OpAt.op)) (st.doE (ys.map OpAt.op)) (st.doR (ys.map OpAt.op))) := by
  have HR := Lib.hid hr
  have HA := Lib.hid ha
  have HF := Lib.hid hf
  have HM0 : Hid (RTkMid w B S b D ys st 0 0 w S D st) := ⟨h, fun g hg => hg, h.own, Only.refl _ _, fun g hg => .inl hg, fun g hg => .inl hg, ⟨rfl, rfl⟩, ok, hs, rfl, rfl, by simp, by omega⟩
  clear hr ha hf h ok hs
  go_enter Tryz.func140, Tryz.ntmps140
  go_wp2_with fail
  go_loopw [6, 7] (fun v i wr => RTkLoop w B S b D ys st v i wr) (fun _ i _ => ys.length - (intOf i).toNat)
  case atStart => exact ⟨0, 0, _, _, _, Nat.zero_le _, rfl, rfl, HM0.out⟩
  case round =>
    obtain ⟨k, nn, S', D', sk, hk, rfl, rfl, HM⟩ := hrel
    have k0 : (0 : Int) ≤ (k : Int) := by omega
    have hle := HM.out.le
    by_cases hlt : k < ys.length
    · have k1 : (k : Int) < (ys.length : Int) := by omega
      have hro := Reads.only HR.out HM.out.only HA.out
      obtain ⟨ad, rfl, hab, d0, d1, d2, d3, d4, d5⟩ := hro.op hlt
      obtain ⟨f2, f1⟩ := HF.out _ (List.getElem_mem hlt)
      have hseat : Seat wr B S' (D'.turns b) 2 ys[k].at_ ys[k].op.seen.length (dcells ys[k].op.seen) :=
        ⟨(f1.turned HM.out.only (fun g hg => .inl hg)).row, fun hn g hg => (f1.in_ hn g hg).imp id (HM.out.has g), fun hn g hg hm => by
          rcases HM.out.tn g hm with h5 | h5
          · exact f1.out hn g hg h5
          · have := f1.lt hn g hg
            omega⟩
      have HAP := Lib.hid (rapply_doc wr B S' b sk D' HM.out.doc HM.out.ok HM.out.says ys[k].op ys[k].at_ ys[k].cap f2 hseat)
      have HNX := Lib.hid (fun he w' ht => HM.out.next (w' := w') hlt he ht)
      have HST := Lib.hid (fun he w' ht => HM.out.stop (w' := w') hlt he ht)
      have HBAD := Lib.hid (fun he : sk.applyE ys[k].op ≠ 0 => LDoc.applyE_bad (d := sk) (o := ys[k].op) rfl he)
      clear f1 f2 hseat hro hab
      unfold RApplyPost at HAP
      generalize ys[k] = y at *
      have q1 : IntKind.i64.wrap (nn + 1) = nn + 1 := IntWalk.i64_in _ (by omega)
      by_cases he : sk.applyE y.op = 0
      · have HNY := Lib.hid (HNX.out he)
        rw [he] at HAP
        clear HST HBAD he HNX
        generalize sk.apply y.op = sk2 at *
        cases hbb : sk.applyB y.op with
        | true =>
          rw [hbb] at HAP HNY
          simp only [if_true] at HNY
          clear hbb
          obtain ⟨⟨⟨who, n⟩, what, p, letter, seen⟩, ya, yc⟩ := y
          unfold LOp.val at HAP
          simp only at d0 d1 d2 d3 d4 d5 HAP
          go_wp2_with fail
          refine HAP.out.mono ?_
          rintro e w2 ⟨rfl, ht⟩
          have HN2 := Lib.hid (HNY.out _ ht)
          clear ht HNY HAP
          go_wp2_with fail
          go_roundw
          case rel =>
            obtain ⟨S2, D2, hfin⟩ := HN2.out
            exact ⟨k + 1, nn + 1, S2, D2, sk2, by omega, by go_num, by first | rfl | rw [q1], hfin⟩
          case measure => simp [intOf]; omega
        | false =>
          rw [hbb] at HAP HNY
          simp only [Bool.false_eq_true, if_false] at HNY
          clear hbb
          obtain ⟨⟨⟨who, n⟩, what, p, letter, seen⟩, ya, yc⟩ := y
          unfold LOp.val at HAP
          simp only at d0 d1 d2 d3 d4 d5 HAP
          go_wp2_with fail
          refine HAP.out.mono ?_
          rintro e w2 ⟨rfl, ht⟩
          have HN2 := Lib.hid (HNY.out _ ht)
          clear ht HNY HAP
          go_wp2_with fail
          go_roundw
          case rel =>
            obtain ⟨S2, D2, hfin⟩ := HN2.out
            exact ⟨k + 1, nn, S2, D2, sk2, by omega, by go_num, rfl, by rw [Int.add_zero] at hfin; exact hfin⟩
          case measure => simp [intOf]; omega
      · obtain ⟨_, hb, hs⟩ := HBAD.out he
        have HSU := Lib.hid (HST.out he)
        rw [hb, hs] at HAP
        have e1 : (sk.applyE y.op != 0) = true := by simpa using he
        have e2 : (sk.applyE y.op == 0) = false := by simpa using he
        have HEN := Lib.hid he
        clear HNX HBAD hb hs HST
        generalize sk.applyE y.op = ke at *
        obtain ⟨⟨⟨who, n⟩, what, p, letter, seen⟩, ya, yc⟩ := y
        unfold LOp.val at HAP
        simp only at d0 d1 d2 d3 d4 d5 HAP
        go_wp2_with fail
        refine HAP.out.mono ?_
        rintro e w2 ⟨rfl, ht⟩
        have HN2 := Lib.hid (HSU.out _ ht)
        clear ht HSU HAP
        go_wp2_with fail
        go_ret2
        obtain ⟨n1, n2⟩ := HN2.out
        have n3 : st.tookN (ys.map OpAt.op) = 0 := by unfold LDoc.tookN; rw [if_neg]; rw [n1]; exact HEN.out
        exact ⟨by rw [n3, n1]; rfl, n2⟩
    · have k1 : ¬ (k : Int) < (ys.length : Int) := by omega
      obtain ⟨f1, f3, f2⟩ := HM.out.fin (by omega)
      have F1 := Lib.hid f1
      have F2 := Lib.hid f2
      have F3 := Lib.hid f3
      clear f1 f2 f3
      go_wp2_with fail
      go_ret2
      exact ⟨by rw [F1.out, F3.out]; rfl, F2.out⟩
end Go.Proofs.YtkaccnegdmpofaaGreatDoor
/- sync.Both, walked. Conditions: both documents are right. -/
namespace Go.Proofs.YtkaccnegdmpofaaGreatDoor
open Go.RowKit
set_option linter.unusedVariables false
namespace LDoc
def bothE (a b : LDoc) : Int := if gaveE a b ≠ 0 then gaveE a b else gaveE (gave a b) a
def bothA (a b : LDoc) : LDoc := if gaveE a b ≠ 0 then a else gave (gave a b) a
def bothN (a b : LDoc) : Int := if bothE a b = 0 then gaveN a b else 0
def bothM (a b : LDoc) : Int := if bothE a b = 0 then gaveN (gave a b) a else 0
theorem both_one {a b : LDoc} (h : gaveE a b ≠ 0) : bothE a b = gaveE a b ∧ bothA a b = a ∧ bothN a b = 0 ∧ bothM a b = 0 := by
  have e1 : bothE a b = gaveE a b := if_pos h
  refine ⟨e1, if_pos h, ?_, ?_⟩
  · unfold bothN; rw [e1, if_neg h]
  · unfold bothM; rw [e1, if_neg h]
theorem both_two {a b : LDoc} (h : gaveE a b = 0) (h2 : gaveE (gave a b) a ≠ 0) : bothE a b = gaveE (gave a b) a ∧ bothA a b = gave (gave a b) a ∧ bothN a b = 0 ∧ bothM a b = 0 := by
  have e1 : bothE a b = gaveE (gave a b) a := if_neg (fun x => x h)
  refine ⟨e1, if_neg (fun x => x h), ?_, ?_⟩
  · unfold bothN; rw [e1, if_neg h2]
  · unfold bothM; rw [e1, if_neg h2]
theorem both_all {a b : LDoc} (h : gaveE a b = 0) (h2 : gaveE (gave a b) a = 0) : bothE a b = 0 ∧ bothA a b = gave (gave a b) a ∧ bothN a b = gaveN a b ∧ bothM a b = gaveN (gave a b) a := by
  have e1 : bothE a b = 0 := by unfold bothE; rw [if_neg (fun x => x h), h2]
  refine ⟨e1, if_neg (fun x => x h), ?_, ?_⟩
  · unfold bothN; rw [if_pos e1]
  · unfold bothM; rw [if_pos e1]
theorem ops_good {a : LDoc} (h : a.Ok) {zs : List OpAt} (hz : zs.map OpAt.op = a.ops) : ∀ y ∈ zs, dotErr y.op.dot = 0 := fun y hy => by
  have : y.op ∈ a.ops := by rw [← hz]; exact List.mem_map.2 ⟨y, hy, rfl⟩
  exact (op_ok (h.ops _ this).1).1
theorem ops_small {a : LDoc} (h : a.Ok) : ∀ o ∈ a.ops, o.place.size ≤ 12 := fun o ho => place_small (op_ok (h.ops _ ho).1).2.2.1
end LDoc
namespace Scene
variable {w wr w' : World} {B b1 b2 : Nat} {s1 s2 s : LDoc} {rows rows' : List (Option Addr × List OpAt)}
theorem sub (h : Scene w B b1 b2 s1 s2 rows wr) (hs : ∀ r ∈ rows', r ∈ rows) : Scene w B b1 b2 s1 s2 rows' wr := by
  obtain ⟨S1, S2, D1, D2, h1, h2⟩ := h
  exact ⟨S1, S2, D1, D2, h1, fun r hr => h2 r (hs r hr)⟩
theorem opsL (h : Scene w B b1 b2 s1 s2 rows wr) (ok : s1.Ok) : Calls Tryz.prog 36 #[.pointer (some ⟨b1, 0, none⟩)] wr (fun e w' => ∃ V c zs, e = .returned (.slice V zs.length c) ∧ zs.map OpAt.op = s1.ops ∧ zs.length ≤ 400 ∧ Below wr.heap.size wr w' ∧ Scene w B b1 b2 s1 s2 ((V, zs) :: rows) w') := by
  obtain ⟨S1, S2, D1, D2, h1, h2⟩ := h
  refine (ops_doc wr _ _ _ _ _ h1.one ok).mono ?_
  rintro e w' ⟨V, c, zs, rfl, z1, z2, hb⟩
  have hl : s1.ops.length = zs.length := by rw [← z1, List.length_map]
  have hfew := ok.few
  refine ⟨V, c, zs, by rw [hl], z1, by omega, hb, S1, S2, D1, D2, h1.step hb, fun r hr => ?_⟩
  rcases List.mem_cons.1 hr with rfl | hr
  · exact OpsBy.of_own z2 (by rw [z1]; exact LDoc.ops_small ok) (fun g hg => by
      rcases List.mem_append.1 hg with h | h
      · exact (h1.one.own g h).2
      · exact (h1.two.own g h).2)
  · exact (h2 r hr).below hb
theorem opsR (h : Scene w B b1 b2 s1 s2 rows wr) (ok : s2.Ok) : Calls Tryz.prog 36 #[.pointer (some ⟨b2, 0, none⟩)] wr (fun e w' => ∃ V c zs, e = .returned (.slice V zs.length c) ∧ zs.map OpAt.op = s2.ops ∧ zs.length ≤ 400 ∧ Below wr.heap.size wr w' ∧ Scene w B b1 b2 s1 s2 ((V, zs) :: rows) w') :=
  (h.swap.opsL ok).mono fun e w' ⟨V, c, zs, h1, h2, h3, h4, h5⟩ => ⟨V, c, zs, h1, h2, h3, h4, h5.swap⟩
theorem knownL (h : Scene w B b1 b2 s1 s2 rows wr) (ok : s1.Ok) : Calls Tryz.prog 119 #[.pointer (some ⟨b1, 0, none⟩)] wr (fun e w' => ∃ V c, e = .returned (.slice V s1.known.length c) ∧ Own w' wr.heap.size 3 1 V s1.known.length c (ints s1.known) ∧ Below wr.heap.size wr w' ∧ Scene w B b1 b2 s1 s2 rows w') := by
  obtain ⟨S1, D1, h1, h2, h3⟩ := h.left (Q := fun _ _ _ => True)
  exact (known_doc wr _ _ _ _ _ h1 ok).mono fun e w' ⟨V, c, g1, g2, g3⟩ => ⟨V, c, g1, g2, g3, h.step g3⟩
theorem knownR (h : Scene w B b1 b2 s1 s2 rows wr) (ok : s2.Ok) : Calls Tryz.prog 119 #[.pointer (some ⟨b2, 0, none⟩)] wr (fun e w' => ∃ V c, e = .returned (.slice V s2.known.length c) ∧ Own w' wr.heap.size 3 1 V s2.known.length c (ints s2.known) ∧ Below wr.heap.size wr w' ∧ Scene w B b1 b2 s1 s2 rows w') :=
  (h.swap.knownL ok).mono fun e w' ⟨V, c, h1, h2, h3, h4⟩ => ⟨V, c, h1, h2, h3, h4.swap⟩
theorem lacks (h : Scene w B b1 b2 s1 s2 rows wr) {V : Option Addr} {zs : List OpAt} (hr : (V, zs) ∈ rows) (hg : ∀ y ∈ zs, dotErr y.op.dot = 0) (hl : zs.length ≤ 100000) {K : Option Addr} {v : List Int} (hv : Reads wr wr.heap.size 1 K v.length (ints v)) (hv8 : v.length = 8) (c ck : Nat) :
    Calls Tryz.prog 168 #[.slice V zs.length c, .slice K v.length ck] wr (fun e w' => ∃ V' c', e = .returned (.slice V' (lacksO zs v).length c') ∧ Below wr.heap.size wr w' ∧ Scene w B b1 b2 s1 s2 ((V', lacksO zs v) :: rows) w') := by
  obtain ⟨S1, S2, D1, D2, h1, h2⟩ := h
  refine (slacks_any wr V c zs K ck v (h2 _ hr).row hg hl hv hv8).mono ?_
  rintro e w' ⟨V', c', rfl, hO, hb⟩
  refine ⟨V', c', rfl, hb, S1, S2, D1, D2, h1.step hb, fun r hr' => ?_⟩
  rcases List.mem_cons.1 hr' with rfl | hr'
  · refine ⟨hO.reads, fun _ g hg hm => ?_, fun y hy => ((h2 _ hr).below hb).each y (List.mem_filter.1 hy).1⟩
    have := (hO.lt g hg).1
    rcases List.mem_append.1 hm with h | h
    · have := (h1.one.own g h).2; omega
    · have := (h1.two.own g h).2; omega
  · exact (h2 r hr').below hb
theorem takeL (h : Scene w B b1 b2 s1 s2 rows wr) (ok : s1.Ok) {V : Option Addr} {zs : List OpAt} (hr : (V, zs) ∈ rows) (c : Nat) (hl : zs.length ≤ 1000000) :
    Calls Tryz.prog 170 #[.pointer (some ⟨b1, 0, none⟩), .slice V zs.length c] wr (fun e w' => e = .returned (.tuple #[.int .i64 (s1.tookN (zs.map OpAt.op)), errV (s1.doE (zs.map OpAt.op))]) ∧ Scene w B b1 b2 (s1.doR (zs.map OpAt.op)) s2 rows w') := by
  obtain ⟨S1, D1, h1, h2, h3⟩ := h.left (Q := fun _ _ _ => True)
  exact (take_any wr B S1 b1 s1 D1 h1 ok V c zs (h2 _ hr).row (h2 _ hr).far (h2 _ hr).each hl).mono fun e w' hh => ⟨hh.1, h3 _ _ hh.2⟩
theorem takeR (h : Scene w B b1 b2 s1 s2 rows wr) (ok : s2.Ok) {V : Option Addr} {zs : List OpAt} (hr : (V, zs) ∈ rows) (c : Nat) (hl : zs.length ≤ 1000000) :
    Calls Tryz.prog 170 #[.pointer (some ⟨b2, 0, none⟩), .slice V zs.length c] wr (fun e w' => e = .returned (.tuple #[.int .i64 (s2.tookN (zs.map OpAt.op)), errV (s2.doE (zs.map OpAt.op))]) ∧ Scene w B b1 b2 s1 (s2.doR (zs.map OpAt.op)) rows w') :=
  (h.swap.takeL ok hr c hl).mono fun e w' hh => ⟨hh.1, hh.2.swap⟩
end Scene
end Go.Proofs.YtkaccnegdmpofaaGreatDoor
/- sync.Open, sync.Parcel, and the reference's Open, walked. Conditions: the documents are right. -/
namespace Go.Proofs.YtkaccnegdmpofaaGreatDoor
open Go.RowKit
set_option linter.unusedVariables false
theorem opsErr_all : ∀ {l : List LOp}, opsErr l = 0 → ∀ o ∈ l, opErr o = 0
  | [], _ => by simp
  | a :: l, h => by
    unfold opsErr at h
    by_cases ha : opErr a = 0
    · rw [if_pos ha] at h
      intro o ho
      rcases List.mem_cons.1 ho with rfl | ho
      · exact ha
      · exact opsErr_all h o ho
    · rw [if_neg ha] at h
      exact absurd h ha
theorem opsErr_of : ∀ {l : List LOp}, (∀ o ∈ l, opErr o = 0) → opsErr l = 0
  | [], _ => rfl
  | a :: l, h => by
    unfold opsErr
    rw [if_pos (h a (by simp))]
    exact opsErr_of (fun o ho => h o (by simp [ho]))
theorem unpack_good {t : List UInt8} {l : List LOp} (h : unpackOf t = some l) : l.length ≤ 400 ∧ ∀ o ∈ l, o.place.size ≤ 12 := by
  obtain ⟨h1, _⟩ := pack_unpack h
  unfold packErr at h1
  by_cases h4 : 400 < l.length
  · rw [if_pos h4] at h1; cases h1
  · rw [if_neg h4] at h1
    exact ⟨by omega, fun o ho => place_small (op_ok (opsErr_all h1 o ho)).2.2.1⟩
theorem data_str (s : ByteArray) : strOf s.data.toList = s := by apply ByteArray.ext; simp [strOf]
namespace LDoc
/-- A parcel that is opened: how many were new, what is wrong, what there is then. -/
def openE (d : LDoc) (s : ByteArray) : Int := match unpackOf s.data.toList with
  | none => 2
  | some l => d.doE l
def openN (d : LDoc) (s : ByteArray) : Int := match unpackOf s.data.toList with
  | none => 0
  | some l => d.tookN l
def openR (d : LDoc) (s : ByteArray) : LDoc := match unpackOf s.data.toList with
  | none => d
  | some l => d.doR l
end LDoc
set_option maxRecDepth 100000 in
set_option maxHeartbeats 4000000 in
theorem open_any (w : World) (B : Nat) (S : List Nat) (b : Nat) (st : LDoc) (D : DLay) (h : DocIs w B S b st D) (ok : st.Ok) (s : ByteArray) :
    Calls Tryz.prog 133 #[.pointer (some ⟨b, 0, none⟩), .string s] w (fun e w' => e = .returned (.tuple #[.int .i64 (st.openN s), errV (st.openE s)]) ∧ DocTo w B S b (st.openR s) w') := by
  have HU := Lib.hid (unpack_any w s.data.toList)
  rw [data_str] at HU
  have HV := Lib.hid (errV_ne (show (2 : Int) ≠ 0 by decide))
  have HE0 : errV 0 = .nilIface := rfl
  have HD := Lib.hid h
  have HOK := Lib.hid ok
  have HEE : Hid (st.openE s = match unpackOf s.data.toList with | none => 2 | some l => st.doE l) := rfl
  have HNN : Hid (st.openN s = match unpackOf s.data.toList with | none => 0 | some l => st.tookN l) := rfl
  have HRR : Hid (st.openR s = match unpackOf s.data.toList with | none => st | some l => st.doR l) := rfl
  have HG := Lib.hid (fun l (hl : unpackOf s.data.toList = some l) => unpack_good hl)
  rw [HEE.out, HNN.out, HRR.out]
  clear h ok HEE HNN HRR
  generalize unpackOf s.data.toList = r at *
  cases r with
  | none =>
    unfold UnpPost at HU
    dsimp only at HU ⊢
    rw [HV.out] at HU ⊢
    go_enter Tryz.func133, Tryz.ntmps133
    go_wp2_with fail
    refine HU.out.mono ?_
    rintro e w1 ⟨rfl, hb⟩
    have HT : Hid (DocTo w B S b st w1) := DocTo.same HD.out hb
    clear hb HU
    go_wp2_with fail
    go_ret2
    exact ⟨rfl, HT.out⟩
  | some l =>
    obtain ⟨g1, g2⟩ := HG.out l rfl
    have G2 := Lib.hid g2
    unfold UnpPost at HU
    dsimp only at HU ⊢
    clear HG g2
    go_enter Tryz.func133, Tryz.ntmps133
    go_wp2_with fail
    refine HU.out.mono ?_
    rintro e w1 ⟨A, c, ys, rfl, hy, hO, hs, hb⟩
    have hyl : ys.length = l.length := by rw [← hy, List.length_map]
    have HTK : Hid (Calls Tryz.prog 170 #[.pointer (some ⟨b, 0, none⟩), .slice A l.length c] w1 (fun e w' => e = .returned (.tuple #[.int .i64 (st.tookN l), errV (st.doE l)]) ∧ DocTo w B S b (st.doR l) w')) := by
      have hlow : ∀ g ∈ S, g < w.heap.size := fun g hg => (HD.out.own g hg).2
      have := take_any w1 B S b st D (HD.out.below hb) HOK.out A c ys (by rw [hyl]; exact hO.reads) (fun _ g hg hm => by have := (hO.lt g hg).1; have := hlow g hm; omega)
        (fun y hy2 => ⟨(hs y hy2).1.reads, by have := (hs y hy2).2; omega, fun _ g hg hm => by have := ((hs y hy2).1.lt g hg).1; have := hlow g hm; omega⟩) (by omega)
      rw [hy, hyl] at this
      refine this.mono ?_
      rintro e w' ⟨rfl, S', D', q1, q2, q3⟩
      have hz := hb.size
      exact ⟨rfl, S', D', q1, (Only.of_below hb).trans q2, fun g hg => by
        rcases q3 g hg with h | h
        · exact .inl h
        · exact .inr (by omega)⟩
    clear hy hO hs hb HU hyl
    go_wp2_with fail
    refine HTK.out.mono ?_
    rintro e w2 ⟨rfl, ht⟩
    have HT := Lib.hid ht
    clear ht HTK
    go_wp2_with fail
    go_ret2
    exact ⟨rfl, HT.out⟩
set_option maxRecDepth 100000 in
set_option maxHeartbeats 4000000 in
theorem ropen_any (w : World) (B : Nat) (S : List Nat) (b : Nat) (st : LDoc) (D : RLay) (h : RDocIs w B S b st D) (ok : st.Ok) (hsay : Says st.ops st) (s : ByteArray) (hm : s.size ≤ 9223372036854775807) :
    Calls Tryz.prog 82 #[.pointer (some ⟨b, 0, none⟩), .string s] w (fun e w' => e = .returned (.tuple #[.int .i64 (st.openN s), .int .i64 (st.openE s)]) ∧ RDocTo w B S b D (st.openR s) w') := by
  have HU := Lib.hid (runpack_any w s hm)
  have HD := Lib.hid h
  have HOK := Lib.hid ok
  have HSY := Lib.hid hsay
  have HEE : Hid (st.openE s = match unpackOf s.data.toList with | none => 2 | some l => st.doE l) := rfl
  have HNN : Hid (st.openN s = match unpackOf s.data.toList with | none => 0 | some l => st.tookN l) := rfl
  have HRR : Hid (st.openR s = match unpackOf s.data.toList with | none => st | some l => st.doR l) := rfl
  have HG := Lib.hid (fun l (hl : unpackOf s.data.toList = some l) => unpack_good hl)
  have hbw : B ≤ w.heap.size := by have := h.own b (h.sub b (by simp [RLay.turns])); omega
  rw [HEE.out, HNN.out, HRR.out]
  clear h ok HEE HNN HRR hsay
  generalize unpackOf s.data.toList = r at *
  cases r with
  | none =>
    unfold RUnpPost at HU
    dsimp only at HU ⊢
    go_enter Tryz.func82, Tryz.ntmps82
    go_wp2_with fail
    refine HU.out.mono ?_
    rintro e w1 ⟨A, n, c, rfl, hb⟩
    have HT := Lib.hid (HD.out.to_self hb)
    clear hb HU
    go_wp2_with fail
    go_ret2
    exact ⟨rfl, HT.out⟩
  | some l =>
    obtain ⟨g1, g2⟩ := HG.out l rfl
    have G2 := Lib.hid g2
    unfold RUnpPost at HU
    dsimp only at HU ⊢
    clear HG g2
    go_enter Tryz.func82, Tryz.ntmps82
    go_wp2_with fail
    refine HU.out.mono ?_
    rintro e w1 ⟨A, c, ys, rfl, hy, hO, hs, hb⟩
    have hyl : ys.length = l.length := by rw [← hy, List.length_map]
    have HTK : Hid (Calls Tryz.prog 140 #[.pointer (some ⟨b, 0, none⟩), .slice A l.length c] w1 (fun e w' => e = .returned (.tuple #[.int .i64 (st.tookN l), .int .i64 (st.doE l)]) ∧ RDocTo w B S b D (st.doR l) w')) := by
      have hz := hb.size
      have hlow : ∀ g ∈ D.turns b, g < w.heap.size := fun g hg => (HD.out.own g (HD.out.sub g hg)).2
      have hmem : ∀ g, w.heap.size ≤ g → g < w1.heap.size → g ∈ (List.range w1.heap.size).filter (fun g => decide (w.heap.size ≤ g)) := fun g a1 a2 => by simp; omega
      have hbig : RDocIs w1 B (S ++ (List.range w1.heap.size).filter (fun g => decide (w.heap.size ≤ g))) b st D := (HD.out.below hb).grow (fun g hg => by simp at hg; omega)
      have := rtake_any w1 B _ b st D hbig HOK.out HSY.out A c ys (by rw [hyl]; exact hO.reads) (fun _ g hg hm => by have := (hO.lt g hg).1; have := hlow g hm; omega)
        (fun y hy2 => ⟨by have := G2.out y.op (by rw [← hy]; exact List.mem_map.2 ⟨y, hy2, rfl⟩); omega, (hs y hy2).reads, fun _ g hg => .inr (by
          have := (hs y hy2).lt g hg
          simp only [List.mem_append]
          exact .inr (hmem g this.1 this.2)), fun _ g hg hm => by have := ((hs y hy2).lt g hg).1; have := hlow g hm; omega⟩) (by omega)
      rw [hy, hyl] at this
      refine this.mono ?_
      rintro e w' ⟨rfl, S', D', q1, q2, q3, q4, q5, q6⟩
      refine ⟨rfl, S', D', q1, (Only.of_below hb).trans q2, fun g hg => ?_, fun g hg => ?_, q5, q6⟩
      · rcases q3 g hg with h | h
        · rcases List.mem_append.1 h with h | h
          · exact .inl h
          · simp at h; exact .inr h.2
        · exact .inr (by omega)
      · rcases q4 g hg with h | h
        · exact .inl h
        · exact .inr (by omega)
    clear hy hO hs hb HU hyl
    go_wp2_with fail
    refine HTK.out.mono ?_
    rintro e w2 ⟨rfl, ht⟩
    have HT := Lib.hid ht
    clear ht HTK
    go_wp2_with fail
    go_ret2
    exact ⟨rfl, HT.out⟩
namespace LDoc
def parcE (d : LDoc) (v : List Int) : Int := if vecErr v ≠ 0 then vecErr v else packErr (lacksR d.ops v)
def parcR (d : LDoc) (v : List Int) : ByteArray := if vecErr v ≠ 0 then ⟨#[]⟩ else packRes (lacksR d.ops v)
end LDoc
set_option maxRecDepth 100000 in
set_option maxHeartbeats 4000000 in
theorem parcel_any (w : World) (B : Nat) (S : List Nat) (b : Nat) (st : LDoc) (D : DLay) (h : DocIs w B S b st D) (ok : st.Ok) (K : Option Addr) (ck : Nat) (v : List Int) (hv : Reads w w.heap.size 1 K v.length (ints v)) (hvl : v.length ≤ 9223372036854775807) :
    Calls Tryz.prog 131 #[.pointer (some ⟨b, 0, none⟩), .slice K v.length ck] w (fun e w' => e = .returned (.tuple #[.string (st.parcR v), errV (st.parcE v)]) ∧ Below w.heap.size w w') := by
  have HV := Lib.hid (vector_any w K ck v hv hvl)
  have HE0 : errV 0 = .nilIface := rfl
  have HRV := Lib.hid hv
  by_cases hve : vecErr v = 0
  · have HOP := Lib.hid (ops_doc w B S b st D h ok)
    have HPE : Hid (st.parcE v = packErr (lacksR st.ops v)) := if_neg (by simp [hve])
    have HPR : Hid (st.parcR v = packRes (lacksR st.ops v)) := if_neg (by simp [hve])
    have hv8 := (vec_ok hve).1
    have HV8 := Lib.hid hv8
    have HOK := Lib.hid ok
    rw [hve, HE0] at HV
    rw [HPE.out, HPR.out]
    clear HPE HPR hve h ok hv hv8
    go_enter Tryz.func131, Tryz.ntmps131
    go_wp2_with fail
    refine HV.out.mono ?_
    rintro e w' ⟨rfl, hw⟩
    obtain rfl := hw.symm
    go_wp2_with fail
    refine HOP.out.mono ?_
    rintro e w1 ⟨V, c, zs, rfl, hz, hO, hb⟩
    have hzl : st.ops.length = zs.length := by rw [← hz, List.length_map]
    have hfew := HOK.out.few
    have hz4 : zs.length ≤ 400 := by omega
    rw [hzl]
    clear hfew hzl
    have HLK : Hid (Calls Tryz.prog 168 #[.slice V zs.length c, .slice K v.length ck] w1 (LacksPost w1 zs v)) := by
      exact slacks_any w1 V c zs K ck v hO.row.reads (LDoc.ops_good HOK.out hz) (by omega) ((HRV.out.below hb).more hb.size) HV8.out
    have HB1 := Lib.hid hb
    have HZ := Lib.hid hz
    have HO := Lib.hid hO
    clear hz hO hb
    go_wp2_with fail
    refine HLK.out.mono ?_
    rintro e w2 ⟨V2, c2, rfl, hO2, hb2⟩
    have hml : (lacksO zs v).length ≤ zs.length := List.length_filter_le _ _
    have HPK : Hid (Calls Tryz.prog 167 #[.slice V2 (lacksO zs v).length c2] w2 (PackPost w2 (lacksR st.ops v))) := by
      have := pack_any w2 V2 c2 (lacksO zs v) hO2.reads (fun y hy => by
        have hy2 : y ∈ zs := (List.mem_filter.1 hy).1
        refine ⟨((HO.out.seen y hy2).below hb2).reads, ?_⟩
        have := LDoc.ops_small HOK.out y.op (by rw [← HZ.out]; exact List.mem_map.2 ⟨y, hy2, rfl⟩)
        omega) (by omega)
      rw [lacksO_map, HZ.out] at this
      exact this
    have HB2 := Lib.hid (HB1.out.trans (hb2.mono HB1.out.size))
    clear hO2 hb2 HLK
    generalize (lacksO zs v).length = L at *
    go_wp2_with fail
    refine HPK.out.mono ?_
    rintro e w3 ⟨rfl, hb3⟩
    have HB3 := Lib.hid (HB2.out.trans (hb3.mono HB2.out.size))
    clear hb3 HPK
    go_wp2_with fail
    go_ret2
    exact ⟨rfl, HB3.out⟩
  · have HPE : Hid (st.parcE v = vecErr v) := if_pos hve
    have HPR : Hid (st.parcR v = ⟨#[]⟩) := if_pos hve
    have HVV := Lib.hid (errV_ne hve)
    rw [HPE.out, HPR.out]
    rw [HVV.out] at HV ⊢
    clear HPE HPR hve h ok hv
    go_enter Tryz.func131, Tryz.ntmps131
    go_wp2_with fail
    refine HV.out.mono ?_
    rintro e w' ⟨rfl, hw⟩
    obtain rfl := hw.symm
    go_wp2_with fail
    go_ret2
    exact ⟨rfl, Below.refl _ _⟩
end Go.Proofs.YtkaccnegdmpofaaGreatDoor
