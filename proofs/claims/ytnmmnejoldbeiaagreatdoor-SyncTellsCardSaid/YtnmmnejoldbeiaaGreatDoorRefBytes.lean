/- 3 texts in one: each says ahead of itself what is proved, and its conditions. -/
import Derived.BigQuiet
import Derived.Deep.Upon
import Derived.Test.YtnmmnejoldbeiaaGreatDoorBookAt
import Derived.Test.YtnmmnejoldbeiaaGreatDoorPackLaw
import Derived.Test.YtnmmnejoldbeiaaGreatDoorRefText
/- A row of bytes that a text was turned into: bytes appended to it. Plain lemmas. Conditions: none. -/
namespace Go.Proofs.YtnmmnejoldbeiaaGreatDoor
open Go.RowKit
set_option linter.unusedVariables false
theorem bs_at' {l : List UInt8} {k : Nat} (h : k < l.length) : (bs l)[k]? = some (.int .u8 l[k].toNat) := by simp [bs, h]
/-- A row of bytes in a block of the call's own, its spare free. -/
structure BRow (w : World) (B g n c : Nat) (l : List UInt8) : Prop where
  base : B ≤ g
  lt : g < w.heap.size
  len : l.length = n
  le : n ≤ c
  max : c ≤ maxLen
  cells : ∀ j (hj : j < l.length), w.cell? ⟨g, j, none⟩ = some (.int .u8 (l[j].toNat : Int))
  there : ∀ j, j < c → (w.cell? ⟨g, j, none⟩).isSome = true ∧ w.frozen? ⟨g, j, none⟩ = false
namespace BRow
variable {w w' : World} {B g n c : Nat} {l : List UInt8}
theorem below (h : BRow w B g n c l) (hb : Below w.heap.size w w') : BRow w' B g n c l :=
  ⟨h.base, Nat.lt_of_lt_of_le h.lt hb.size, h.len, h.le, h.max, fun j hj => (hb.cell h.lt).trans (h.cells j hj), fun j hj => ⟨by rw [hb.cell (p := ⟨g, j, none⟩) h.lt]; exact (h.there j hj).1, by rw [hb.frozen (p := ⟨g, j, none⟩) h.lt]; exact (h.there j hj).2⟩⟩
theorem mono {B' : Nat} (h : BRow w B g n c l) (hB : B' ≤ B) : BRow w B' g n c l := { h with base := Nat.le_trans hB h.base }
theorem came (h : BRow w B g n c l) : Came w 1 (some ⟨g, 0, none⟩) g 0 n c (bs l) := by
  refine ⟨h.le, fun _ => rfl, fun _ => h.lt, by rw [bs_len, h.len]; omega, fun j u hu => ?_, fun j hj => ?_⟩
  · by_cases hj : j < l.length
    · rw [bs_at' hj] at hu
      obtain rfl := Option.some.inj hu
      rw [Nat.zero_add]
      exact h.cells j hj
    · rw [List.getElem?_eq_none (by rw [bs_len]; omega)] at hu; cases hu
  · have := h.there (0 + n * 1 + j) (by omega)
    exact this
theorem reads (h : BRow w B g n c l) : Reads w w.heap.size 1 (some ⟨g, 0, none⟩) n (bs l) := by
  refine ⟨by rw [bs_len, h.len]; omega, fun _ => ⟨_, rfl, h.lt, fun j u hu => ?_⟩⟩
  by_cases hj : j < l.length
  · rw [bs_at' hj] at hu
    obtain rfl := Option.some.inj hu
    have e1 : (⟨g, 0, none⟩ : Addr).add j = ⟨g, j, none⟩ := by
      unfold Addr.add
      by_cases hj : j = 0 <;> simp [hj]
    rw [e1]
    exact h.cells j hj
  · rw [List.getElem?_eq_none (by rw [bs_len]; omega)] at hu; cases hu
/-- The row as a text. -/
theorem text (h : BRow w B g n c l) : (convert 109 9 (.slice (some ⟨g, 0, none⟩) n c)).run Tryz.prog w = .ok (.string (strOf l)) w := by
  have := h.len
  subst this
  refine run_convert_bytes_back (P := Tryz.prog) w 109 9 5 ⟨g, 0, none⟩ c l Tryz.underlying109 Tryz.underlying5 Tryz.underlying9 (fun j hj => ?_)
  have e1 : (⟨g, 0, none⟩ : Addr).add j = ⟨g, j, none⟩ := by
    unfold Addr.add
    by_cases hj : j = 0 <;> simp [hj]
  rw [e1]
  exact h.cells j hj
end BRow
/-- A text turned into bytes. -/
theorem conv_row (w : World) (s : ByteArray) (hs : s.size ≤ 1000000) : ∃ C w', (convert 9 109 (.string s)).run Tryz.prog w = .ok (.slice (some ⟨w.heap.size, 0, none⟩) s.size C) w' ∧ BRow w' w.heap.size w.heap.size s.size C s.toList ∧ Below w.heap.size w w' := by
  have hr := run_bytes_of_string (P := Tryz.prog) w 9 109 5 s Tryz.underlying9 Tryz.underlying109 Tryz.underlying5
  refine ⟨_, _, hr, ?_, (Below.refl _ _).drew.alloc (Nat.le_refl _) _⟩
  have hge := grownCap_ge w s.size 0 5
  have hcm := grownCap_le_maxLen w s.size 0 5 (by unfold maxLen; omega)
  have hb : (w.drew.alloc (.cells (bytesRow s (grownCap w s.size 0 5)) 5 ((bytesRow s (grownCap w s.size 0 5)).size, (bytesRow s (grownCap w s.size 0 5)).size + 1))).heap[w.heap.size]? = some (.cells (bytesRow s (grownCap w s.size 0 5)) 5 ((bytesRow s (grownCap w s.size 0 5)).size, (bytesRow s (grownCap w s.size 0 5)).size + 1)) := heap_alloc_new w.drew _
  have hsz : (bytesRow s (grownCap w s.size 0 5)).size = grownCap w s.size 0 5 := by
    unfold bytesRow
    rw [Array.size_append, Array.size_map, Array.size_replicate]
    have : s.data.size = s.size := rfl
    omega
  refine ⟨Nat.le_refl _, by simp, toList_len s, hge, hcm, fun j hj => ?_, fun j hj => ⟨?_, ?_⟩⟩
  · have hj' : j < s.size := by rw [toList_len] at hj; exact hj
    rw [cell_of_row _ w.heap.size j _ _ _ hb, bytesRow_at s _ j hj']
    have e2 : s.toList[j] = s[j] := by simp [ByteArray.toList_eq]; rfl
    rw [e2]
    rfl
  · rw [cell_of_row _ w.heap.size j _ _ _ hb, Array.getElem?_eq_getElem (by rw [hsz]; exact hj)]
    rfl
  · unfold World.frozen?
    rw [hb]
    simp only [hsz]
    rw [Bool.and_eq_false_iff]
    exact .inl (decide_eq_false (by omega))
theorem setCells_tape (w : World) (g : Nat) : ∀ (o : Nat) (vs : List Value), (w.setCells g o vs).tape = w.tape := by
  intro o vs
  induction vs generalizing w o with
  | nil => rfl
  | cons v vs ih => exact (ih _ _).trans rfl
set_option maxRecDepth 100000 in
/-- Bytes appended to such a row. -/
theorem run_bytes {w : World} {B g n c : Nat} {l : List UInt8} (h : BRow w B g n c l) (hB : B ≤ w.heap.size) (ty : TypeId) {B' : Nat} {A : Option Addr} {m cm : Nat} {news : List UInt8} (hr : Reads w B' 1 A m (bs news)) (hm : 0 < m) (hn : n + m ≤ 1000000) :
    ∃ g' c' w', (Builtin.append_ #[109, 109] ty #[.slice (some ⟨g, 0, none⟩) n c, .slice A m cm]).run Tryz.prog w = .ok (.slice (some ⟨g', 0, none⟩) (n + m) c') w' ∧ BRow w' B g' (n + m) c' (l ++ news) ∧ Only [g] w w' ∧ (g' = g ∨ w.heap.size ≤ g') := by
  obtain ⟨ht, ⟨i, z, hi, hz, hsize, hby, hzs⟩, hsz⟩ := elemB
  obtain ⟨ad, rfl, hab, hac⟩ := hr.2 hm
  have hsrc : Src Tryz.prog 1 109 (.slice (some ad) m cm) m (bs news) w := Src.ofSlice w ht ad m cm (bs news) hr.1 hac (oneCells_bs news)
  have hlen : n + 0 + m ≤ maxLen := by unfold maxLen; omega
  obtain ⟨v', w', hrun, hu⟩ := run_append_upon (P := Tryz.prog) h.came 109 109 ty i z 1 ht hi hz hsize hby hzs (Upon.start h.came) (.slice (some ad) m cm) m (bs news) hsrc hlen (by omega)
  rw [Nat.zero_add, List.nil_append] at hu
  have hnl : news.length = m := by have := hr.1; rw [bs_len] at this; omega
  have happ : bs l ++ bs news = bs (l ++ news) := bs_append l news
  have htape : w'.tape = w.tape := by
    have hsrc' : Src Tryz.prog i.size 109 (.slice (some ad) m cm) m (bs news) w := by rw [hsize]; exact hsrc
    by_cases hroom : n + m ≤ c
    · have h2 := run_append_room_src (P := Tryz.prog) (w := w) 109 109 ty 5 i ht hi g 0 n c (.slice (some ad) m cm) m (bs news) hsrc' hroom (fun j hj => by
        rw [bs_len, hnl] at hj
        exact (h.there (0 + n * i.size + j) (by rw [hsize]; omega)).1) (fun j hj => by
        rw [bs_len, hnl] at hj
        exact (h.there (0 + n * i.size + j) (by rw [hsize]; omega)).2)
      rw [hrun] at h2
      injection h2 with _ hw
      rw [hw]
      exact setCells_tape _ _ _ _
    · have hold := run_firstCells_some (P := Tryz.prog) w.drew i.size n ⟨g, 0, none⟩ n c (bs l) (by rw [bs_len, h.len, hsize]; omega) (fun j u hu => by
        have hrd := h.reads.2 (by
          rcases Nat.eq_zero_or_pos n with h0 | h0
          · rw [List.eq_nil_of_length_eq_zero (l := bs l) (by rw [bs_len, h.len, h0])] at hu; simp at hu
          · exact h0)
        obtain ⟨ad', e, _, hc⟩ := hrd
        injection e with e
        subst e
        exact hc j u hu)
      have h2 := run_append_grow_src (P := Tryz.prog) w 109 109 ty 5 i z ht hi hz (some ⟨g, 0, none⟩) n c (bs l) hold (.slice (some ad) m cm) m (bs news) hsrc' (by omega) (by omega) (growslice_fits (by omega) (by rw [hby]; omega))
      rw [hrun] at h2
      injection h2 with _ hw
      rw [hw]
      rfl
  have honly : Only [g] w w' := ⟨hu.kept.1, htape, hu.kept.2.1, hu.kept.size, fun k hk hne => hu.kept.block hk (fun p ⟨j, _, e⟩ hp => hne (by rw [e] at hp; exact List.mem_singleton.2 (show k = g from hp.symm)))⟩
  rcases hu.val with ⟨h1, rfl, h3⟩ | ⟨h1, g', c', rfl, ho⟩
  · refine ⟨g, c, w', hrun, ⟨h.base, Nat.lt_of_lt_of_le h.lt hu.kept.size, by rw [List.length_append, h.len, hnl], by omega, h.max, fun j hj => ?_, fun j hj => ⟨?_, ?_⟩⟩, honly, .inl rfl⟩
    · have := hu.inArray h.came (by omega) h3 j (by rw [List.length_append, h.len, hnl] at hj; omega)
      rw [Nat.zero_add, happ, bs_at' hj] at this
      exact this
    · by_cases hj2 : j < (n + m) * 1
      · have := hu.inArray h.came (by omega) h3 j hj2
        rw [Nat.zero_add] at this
        rw [this, happ, bs_at' (by rw [List.length_append, h.len, hnl]; omega)]
        rfl
      · rw [hu.old h.lt (fun j' hj' ⟨_, e⟩ => by have := hu.rLe; rw [bs_len] at this; omega)]
        exact (h.there j hj).1
    · rw [hu.frozen ⟨g, j, none⟩ h.lt]
      exact (h.there j hj).2
  · refine ⟨g', c', w', hrun, ⟨Nat.le_trans hB ho.new, ?_, by rw [List.length_append, h.len, hnl], ho.le, ho.max, fun j hj => ?_, fun j hj => ?_⟩, honly, .inr ho.new⟩
    · have := (ho.there 0 (by have := ho.le; omega)).1
      obtain ⟨u, hu2⟩ := Option.isSome_iff_exists.1 this
      exact World.block_lt_of_cell? _ _ hu2
    · have := ho.holds j (by rw [List.length_append, h.len, hnl] at hj; omega)
      rw [happ, bs_at' hj] at this
      exact this
    · exact ho.there j (by omega)
theorem wpList_bytes {ops : Array Oper} {rest : List Oper} {o : Oper} {a : Act} {Q : Exit → Act → World → Prop} {w : World} (s x : Operand) (hgd : o.guard = none)
    (ho : o.op = .call { callee := .builtin .append, args := #[s, x], argTypes := #[109, 109] })
    {B g n c : Nat} {l : List UInt8} (hs : a.eval s = .slice (some ⟨g, 0, none⟩) n c) {B' : Nat} {A : Option Addr} {m cm : Nat} {news : List UInt8} (hx : a.eval x = .slice A m cm)
    (h : BRow w B g n c l) (hB : B ≤ w.heap.size) (hr : Reads w B' 1 A m (bs news)) (hm : 0 < m) (hn : n + m ≤ 1000000)
    (hK : ∀ g' c' w', BRow w' B g' (n + m) c' (l ++ news) → Only [g] w w' → (g' = g ∨ w.heap.size ≤ g') → wpList Tryz.prog ops Q rest (a.put o.dst (.slice (some ⟨g', 0, none⟩) (n + m) c')) w') : wpList Tryz.prog ops Q (o :: rest) a w := by
  refine wpList_plain hgd fun K hK' => ?_
  obtain ⟨g', c', w', hrun, h1, h2, h3⟩ := run_bytes h hB o.type hr (cm := cm) hm hn
  unfold Oper.wp execOp
  simp only [ho, resolve, invoke, builtin, Sem.run_bind, Sem.run_pure, Result.andThen_ok, List.map_toArray, List.map_cons, List.map_nil, hs, hx, hrun]
  exact hK' _ _ (hK g' c' w' h1 h2 h3)
end Go.Proofs.YtnmmnejoldbeiaaGreatDoor
/- leafref1.two, number, Bytes, walked: the bytes of an op without fault. Conditions: stated. -/
namespace Go.Proofs.YtnmmnejoldbeiaaGreatDoor
open Go.RowKit
set_option linter.unusedVariables false
def RTwoPost (w : World) (B : Nat) (V : Option Addr) (n : Nat) (l : List UInt8) (k : Nat) (e : Ending) (w' : World) : Prop :=
  ∃ V' cv', e = .returned (.slice V' (n + 1 + 1) cv') ∧ Own w' B 5 1 V' (n + 1 + 1) cv' (bs (l ++ twoB k)) ∧ Only (ob V) w w'
set_option maxRecDepth 100000 in
set_option maxHeartbeats 2000000 in
theorem r2_any (w : World) (B : Nat) (hB : B ≤ w.heap.size) (V : Option Addr) (n cv : Nat) (l : List UInt8) (h : Own w B 5 1 V n cv (bs l)) (k : Nat) (hk : k ≤ 65535) (hn : n ≤ 100000) :
    Calls Tryz.prog 78 #[.slice V n cv, .int .i64 (k : Nat)] w (RTwoPost w B V n l k) := by
  have HO := Lib.hid h
  have a0 : (0 : Int) ≤ (k : Int) / 256 := by omega
  have a1 : (k : Int) / 256 ≤ 255 := by omega
  have a2 : (0 : Int) ≤ (k : Int) % 256 := by omega
  have a3 : (k : Int) % 256 ≤ 255 := by omega
  have E1 := u8_val a0 a1
  have E2 := u8_val a2 a3
  have R1 := Lib.hid (fun W : World => reads_new W [u8 ((k : Int) / 256)] (by simp) #[.int .u8 ((k : Int) / 256)] (by simp [bs, E1]))
  have R2 := Lib.hid (fun W : World => reads_new W [u8 ((k : Int) % 256)] (by simp) #[.int .u8 ((k : Int) % 256)] (by simp [bs, E2]))
  have hF1 : Fits (n + 1) 1 := Fits.of_small (by omega) (by decide)
  have hF2 : Fits (n + 1 + 1) 1 := Fits.of_small (by omega) (by decide)
  have HL0 := Lib.hid (fun i hi => (h.lt i hi).1)
  have k0 : (0 : Int) ≤ (k : Int) := by omega
  have k1 : (k : Int) ≤ 65535 := by omega
  have HBB := Lib.hid hB
  clear h E1 E2 hn hB
  go_enter Tryz.func78, Tryz.ntmps78
  go_wp2_with (at_builtin; first
    | (refine wpList_app _ (.tmp 5) (.tmp 9) rfl rfl elemB rfl rfl (HO.out.alloc _) (R1.out _) (oneCells_bs _) hF1 (by have := HBB.out; simp; omega) ?_; intro V1 cv1 w1 HO1 HL1 HX1; have HO1 := Lib.hid HO1; have HL1 := Lib.hid HL1; have HX1 := Lib.hid HX1)
    | (refine wpList_app _ (.tmp 11) (.tmp 15) rfl rfl elemB rfl rfl (HO1.out.alloc _) (R2.out _) (oneCells_bs _) hF2 (by have := HBB.out; have := HL1.out.size; simp at this ⊢; omega) ?_; intro V2 cv2 w2 HO2 HL2 HX2; have HO2 := Lib.hid HO2; have HL2 := Lib.hid HL2; clear HX2))
  go_ret
  refine ⟨V2, cv2, rfl, ?_, ?_⟩
  · have := HO2.out
    rw [bs_append, bs_append, List.append_assoc] at this
    exact this
  · have ha := (Only.refl (ob V) w).alloc (.cells #[.int .u8 ((k : Int) / 256)] 5)
    have h1 := ha.trans HL1.out
    have h2 := h1.alloc (.cells #[.int .u8 ((k : Int) % 256)] 5)
    refine h2.trans_new HL2.out (fun i hi => ?_)
    rcases HX1.out i hi with h | h
    · exact .inl h
    · exact .inr (by rw [h]; simp)
theorem two_wrap (c d : UInt8) : wrap64 (wrap64 (wrap64 (c.toNat : Int) * 256) + wrap64 (d.toNat : Int)) = ((c.toNat * 256 + d.toNat : Nat) : Int) := by
  have q1 := UInt8.toNat_lt c
  have q2 := UInt8.toNat_lt d
  have e1 : wrap64 (c.toNat : Int) = c.toNat := by unfold wrap64; omega
  have e2 : wrap64 (d.toNat : Int) = d.toNat := by unfold wrap64; omega
  rw [e1, e2]
  have e3 : wrap64 ((c.toNat : Int) * 256) = (c.toNat : Int) * 256 := by unfold wrap64; omega
  rw [e3]
  unfold wrap64
  omega
set_option maxRecDepth 100000 in
theorem rnum2_any (w : World) (s : ByteArray) (i : Nat) (c d : UInt8) (hi : i + 1 < s.size) (hm : s.size ≤ 9223372036854775807) (hc : s[i] = c) (hd : s[i + 1] = d) :
    Calls Tryz.prog 116 #[.string s, .int .i64 (i : Nat)] w (CheckPost w (.int .i64 ((c.toNat * 256 + d.toNat : Nat) : Int))) := by
  have i0 : (0 : Int) ≤ (i : Int) := by omega
  have i1 : i < s.size := by omega
  have i2 : (i : Int) < (s.size : Int) := by omega
  have i3 : (0 : Int) ≤ (i : Int) + 1 := by omega
  have i4 : (i : Int) + 1 < (s.size : Int) := by omega
  have i5 : ((i : Int) + 1).toNat = i + 1 := by omega
  have i6 : (i : Int).toNat = i := by omega
  have i7 : (i : Int) + 1 ≤ 9223372036854775807 := by omega
  have q1 := UInt8.toNat_lt c
  have q2 := UInt8.toNat_lt d
  have HC := Lib.hid hc
  have HD := Lib.hid hd
  have w1 : IntKind.i64.wrap ((i : Int) + 1) = (i : Int) + 1 := IntWalk.i64_in _ (by omega)
  clear hc hd hm
  go_enter Tryz.func116, Tryz.ntmps116
  go_wp2_with fail
  go_quiet (fail)
  go_wp2_with fail
  go_ret
  refine ⟨?_, below_drewN (Below.refl _ _) _⟩
  rw [← HC.out, ← HD.out, ← two_wrap]
  rfl
end Go.Proofs.YtnmmnejoldbeiaaGreatDoor
/- leafref1.Bytes, walked: the bytes of an op without fault. Conditions: it is without fault. -/
namespace Go.Proofs.YtnmmnejoldbeiaaGreatDoor
open Go.RowKit
set_option linter.unusedVariables false
theorem EncSt.six {w wr : World} {o : LOp} {A V : Option Addr} {c n cv : Nat} {l : List UInt8} (h : EncSt w o A c V n cv l wr) :
    wr.cell? ⟨w.heap.size, 0, none⟩ = some (.int .i64 o.dot.who) ∧ wr.cell? ⟨w.heap.size, 1, none⟩ = some (.int .i64 o.dot.n) ∧ wr.cell? ⟨w.heap.size, 2, none⟩ = some (.int .i64 o.what) ∧ wr.cell? ⟨w.heap.size, 3, none⟩ = some (.string o.place) ∧
      wr.cell? ⟨w.heap.size, 4, none⟩ = some (.int .i64 o.letter) ∧ wr.cell? ⟨w.heap.size, 5, none⟩ = some (.slice A o.seen.length c) :=
  ⟨by rw [h.cell]; rfl, by rw [h.cell]; rfl, by rw [h.cell]; rfl, by rw [h.cell]; rfl, by rw [h.cell]; rfl, by rw [h.cell]; rfl⟩
theorem EncSt.two {w wr w' : World} {o : LOp} {A V : Option Addr} {c n cv k : Nat} {l : List UInt8} (h : EncSt w o A c V n cv l wr) {e : Ending} (hp : RTwoPost wr (w.heap.size + 1) V n l k e w') :
    ∃ V' cv', e = .returned (.slice V' (n + 1 + 1) cv') ∧ EncSt w o A c V' (n + 1 + 1) cv' (l ++ twoB k) w' := by
  obtain ⟨V', cv', rfl, h1, h2⟩ := hp
  refine ⟨V', cv', rfl, h1, h2.blk h.box (fun hm => by have := (h.own.lt _ hm).1; omega), h.bel.trans (h2.below h.bel.size (fun i hi => by have := (h.own.lt _ hi).1; omega))⟩
set_option maxRecDepth 100000 in
set_option maxHeartbeats 4000000 in
theorem rbytes_any (w : World) (A : Option Addr) (c : Nat) (o : LOp) (h : Reads w w.heap.size 2 A o.seen.length (dcells o.seen)) (he : opErr o = 0) :
    Calls Tryz.prog 79 #[o.val A c] w (CheckPost w (.string (strOf (opBytes o)))) := by
  have ok := opOk_of he
  have hbl := opBytes_len he
  have OK := Lib.hid ok
  have HS := Lib.hid h
  have b1 := ok.who.1
  have b2 := ok.who.2
  have b3 := ok.n.1
  have b4 := ok.n.2
  have b5 := ok.what.1
  have b6 := ok.what.2
  have b7 := placeErr_len ok.place
  have EW := Lib.hid (u8_val (show 0 ≤ o.what by omega) (show o.what ≤ 255 by omega))
  have ED := Lib.hid (u8_val (show 0 ≤ o.dot.who by omega) (show o.dot.who ≤ 255 by omega))
  have EP := Lib.hid (u8_val (show 0 ≤ (o.place.size : Int) by omega) (show (o.place.size : Int) ≤ 255 by omega))
  have RW := Lib.hid (fun W : World => reads_new W [u8 o.what] (by simp) #[.int .u8 o.what] (by simp [bs, EW.out]))
  have RD := Lib.hid (fun W : World => reads_new W [u8 o.dot.who] (by simp) #[.int .u8 o.dot.who] (by simp [bs, ED.out]))
  have RP := Lib.hid (fun W : World => reads_new W [u8 o.place.size] (by simp) #[.int .u8 (o.place.size : Int)] (by simp [bs, EP.out]))
  have HT := Lib.hid (fun (W : World) (V : Option Addr) (n cv : Nat) (l : List UInt8) (k : Nat) (hB : w.heap.size + 1 ≤ W.heap.size) (hO : Own W (w.heap.size + 1) 5 1 V n cv (bs l)) (hk : k ≤ 65535) (hn : n ≤ 100000) => r2_any W (w.heap.size + 1) hB V n cv l hO k hk hn)
  obtain ⟨dn, hdn⟩ : ∃ dn : Nat, o.dot.n = (dn : Int) := ⟨o.dot.n.toNat, by omega⟩
  have HDN := Lib.hid hdn
  have hdn2 : dn ≤ 9999 := by omega
  have ST0 : EncSt w o A c none 0 0 [] (w.alloc (.cells (o.cells A c) 30)) :=
    ⟨Own.nil _ _ _ _, Blk.new w 30 (o.cells A c), (Below.refl _ _).alloc (Nat.le_refl _) _⟩
  obtain ⟨W0, hW0⟩ : ∃ W0, W0 = w.alloc (.cells (o.cells A c) 30) := ⟨_, rfl⟩
  rw [← hW0] at ST0
  obtain ⟨i0, i1, i2, i3, i4, i5⟩ := ST0.six
  have HST0 := Lib.hid ST0
  have hF1 : Fits (0 + 1) 1 := Fits.of_small (by decide) (by decide)
  have hF2 : Fits (0 + 1 + 1) 1 := Fits.of_small (by decide) (by decide)
  clear ST0 h ok he hdn
  unfold LOp.val LOp.cells at *
  go_enter Tryz.func79, Tryz.ntmps79
  go_upto_region 1 with (fail)
  rw [← hW0]
  clear hW0
  go_upto_region 3 with (at_builtin; go_loud (refine wpList_app _ (.tmp 7) (.tmp 11) rfl rfl elemB rfl rfl (HST0.out.alloc _).own (RW.out _) (oneCells_bs _) hF1 (HST0.out.alloc _).base ?_; intro V1 cv1 w1 HO HL HX; have HST1 := Lib.hid ((HST0.out.alloc _).app HO HL); clear HO HL HX))
  clear i0 i1 i2 i3 i4 i5
  obtain ⟨i0, i1, i2, i3, i4, i5⟩ := HST1.out.six
  go_upto_region 4 with (at_builtin; refine wpList_app _ (.tmp 13) (.tmp 18) rfl rfl elemB rfl rfl (HST1.out.alloc _).own (RD.out _) (oneCells_bs _) hF2 (HST1.out.alloc _).base ?_; intro V2 cv2 w2 HO HL HX; have HST2 := Lib.hid ((HST1.out.alloc _).app HO HL); clear HO HL HX)
  clear i0 i1 i2 i3 i4 i5
  obtain ⟨i0, i1, i2, i3, i4, i5⟩ := HST2.out.six
  rw [HDN.out] at i1
  go_wp2_with fail
  refine (HT.out _ _ _ _ _ _ HST2.out.base HST2.out.own (by omega) (by omega)).mono ?_
  intro e w3 hp
  obtain ⟨V3, cv3, rfl, ST3⟩ := HST2.out.two hp
  clear hp i0 i1 i2 i3 i4 i5
  have HST3 := Lib.hid ST3
  clear ST3
  obtain ⟨i0, i1, i2, i3, i4, i5⟩ := HST3.out.six
  have hF4 : Fits (0 + 1 + 1 + 1 + 1 + 1) 1 := Fits.of_small (by decide) (by decide)
  go_upto_region 6 with (at_builtin; refine wpList_app _ (.tmp 25) (.tmp 30) rfl rfl elemB rfl rfl (HST3.out.alloc _).own (RP.out _) (oneCells_bs _) hF4 (HST3.out.alloc _).base ?_; intro V4 cv4 w4 HO HL HX; have HST4 := Lib.hid ((HST3.out.alloc _).app HO HL); clear HO HL HX)
  clear i0 i1 i2 i3 i4 i5
  obtain ⟨i0, i1, i2, i3, i4, i5⟩ := HST4.out.six
  obtain ⟨C, w5, hcv, hR5, hB5⟩ := conv_row w4 o.place (by omega)
  have HST5 := Lib.hid (HST4.out.below hB5)
  have HR5 := Lib.hid hR5.reads
  have hF5 : Fits (0 + 1 + 1 + 1 + 1 + 1 + o.place.size) 1 := Fits.of_small (by omega) (by decide)
  clear hR5 hB5
  go_upto_region 7 with (at_builtin; go_loud (refine wpList_app _ (.tmp 32) (.tmp 35) rfl rfl elemB rfl rfl HST5.out.own HR5.out (oneCells_bs _) hF5 HST5.out.base ?_; intro V6 cv6 w6 HO HL HX; have HST6 := Lib.hid (HST5.out.app HO HL); clear HO HL HX))
  clear i0 i1 i2 i3 i4 i5
  have HPT : o.place.toList = o.place.data.toList := ByteArray.toList_eq _
  have HHD : Hid (([] ++ [u8 o.what] ++ [u8 o.dot.who] ++ twoB dn ++ [u8 (o.place.size : Int)]) ++ o.place.toList = opHead o) := by show _ = _; rw [HPT]; simp [opHead, twoB, HDN.out]
  have HST : Hid (EncSt w o A c V6 (0 + 1 + 1 + 1 + 1 + 1 + o.place.size) cv6 (opHead o) w6) := by rw [← HHD.out]; exact HST6.out
  generalize hn0 : 0 + 1 + 1 + 1 + 1 + 1 + o.place.size = n0 at *
  have hn1 : n0 ≤ 17 := by omega
  clear HST0 HST1 HST2 HST3 HST4 HST5 HST6 HR5 hF1 hF2 hF4 hF5 hcv
  have l1 := OK.out.letter
  have s1 := OK.out.few
  obtain ⟨i0, i1, i2, i3, i4, i5⟩ := HST.out.six
  obtain ⟨t1, ht1⟩ : ∃ t1 : List UInt8, t1 = if o.what = 1 then [u8 o.letter] else [] := ⟨_, rfl⟩
  obtain ⟨n1, hn12⟩ : ∃ n1 : Nat, n1 = n0 + t1.length := ⟨_, rfl⟩
  have hn13 : n1 ≤ 18 := by rw [hn12, ht1]; split <;> simp <;> omega
  have HT0 := Lib.hid ht1
  have HN1 := Lib.hid hn12
  clear ht1 hn12
  go_upto_if 39 with (fail)
  go_cut [3] (fun v wr => ∃ V cv, v = .slice V n1 cv ∧ EncSt w o A c V n1 cv (opHead o ++ t1) wr)
  case first =>
    by_cases h1 : o.what = 1
    · obtain ⟨l2, l3⟩ := l1 h1
      have g1 : (o.what == 1) = true := by simp [h1]
      have EL := u8_val (show 0 ≤ o.letter by omega) (show o.letter ≤ 255 by omega)
      have RL := Lib.hid (fun W : World => reads_new W [u8 o.letter] (by simp) #[.int .u8 o.letter] (by simp [bs, EL]))
      have hF4 : Fits (n0 + 1) 1 := Fits.of_small (by omega) (by decide)
      have HT1 : Hid (t1 = [u8 o.letter]) := HT0.out.trans (if_pos h1)
      have HN2 : Hid (n1 = n0 + 1) := by show _ = _; rw [HN1.out, HT1.out]; rfl
      clear h1 EL
      go_wp2_with (at_builtin; refine wpList_app _ (.tmp 40) (.tmp 44) rfl rfl elemB rfl rfl (HST.out.alloc _).own (RL.out _) (oneCells_bs _) hF4 (HST.out.alloc _).base ?_; intro V4 cv4 w7 HO HL HX; have HST7 := Lib.hid ((HST.out.alloc _).app HO HL); clear HO HL HX)
      go_meet
      case rel =>
        rw [HT1.out, HN2.out]
        exact ⟨_, _, rfl, HST7.out⟩
    · have g1 : (o.what == 1) = false := by simp [h1]
      have HT1 : Hid (t1 = []) := HT0.out.trans (if_neg h1)
      have HN2 : Hid (n1 = n0) := by show _ = _; rw [HN1.out, HT1.out]; rfl
      clear h1
      go_wp2_with fail
      go_meet
      case rel =>
        rw [HT1.out, HN2.out, List.append_nil]
        exact ⟨_, _, rfl, HST.out⟩
  case rest =>
    obtain ⟨V7, cv7, rfl, ST⟩ := hcut
    clear HST i0 i1 i2 i3 i4 i5
    have HST := Lib.hid ST
    clear ST
    obtain ⟨i0, i1, i2, i3, i4, i5⟩ := HST.out.six
    go_upto_if 48 with (fail)
    go_cut [3] (fun v wr => ∃ V n cv, v = .slice V n cv ∧ EncSt w o A c V n cv (opHead o ++ opTail o) wr)
    case first =>
      by_cases h4 : o.what = 4
      · have h1 : ¬ o.what = 1 := by omega
        have g4 : (o.what == 4) = true := by simp [h4]
        have EL := u8_val (show (0 : Int) ≤ (o.seen.length : Int) by omega) (show (o.seen.length : Int) ≤ 255 by omega)
        have RL := Lib.hid (fun W : World => reads_new W [Go.Proofs.YtnmmnejoldbeiaaGreatDoor.u8 (o.seen.length : Int)] (by simp) #[.int .u8 (o.seen.length : Int)] (by simp [bs, EL]))
        have hF4 : Fits (n1 + 1) 1 := Fits.of_small (by omega) (by decide)
        have HT1 : Hid (opTail o = Go.Proofs.YtnmmnejoldbeiaaGreatDoor.u8 (o.seen.length : Int) :: o.seen.flatMap dotBytes) := by show _ = _; unfold opTail; rw [if_neg h1, if_pos h4]
        have HT2 : Hid (t1 = []) := HT0.out.trans (if_neg h1)
        rw [HT2.out, List.append_nil] at HST
        have HRI := Lib.hid OK.out.rise
        clear h1 h4 EL
        go_upto_region 11 with (at_builtin; refine wpList_app _ (.tmp 49) (.tmp 54) rfl rfl elemB rfl rfl (HST.out.alloc _).own (RL.out _) (oneCells_bs _) hF4 (HST.out.alloc _).base ?_; intro V4 cv4 w7 HO HL HX; have HST7 := Lib.hid ((HST.out.alloc _).app HO HL); clear HO HL HX)
        clear i0 i1 i2 i3 i4 i5
        go_wp2_with fail
        go_loopw [3, 4] (fun v i wr => ∃ (k : Nat) (V : Option Addr) (n cv : Nat), k ≤ o.seen.length ∧ i = .int .i64 k ∧ v = .slice V n cv ∧ EncSt w o A c V n cv (opHead o ++ (Go.Proofs.YtnmmnejoldbeiaaGreatDoor.u8 (o.seen.length : Int) :: (o.seen.take k).flatMap dotBytes)) wr) (fun v i _ => o.seen.length - (intOf i).toNat)
        case atStart => exact ⟨0, _, _, _, by omega, rfl, rfl, by simpa using HST7.out⟩
        case round =>
          obtain ⟨k, V, n, cv, hk, rfl, rfl, ST⟩ := hrel
          obtain ⟨i0, i1, i2, i3, i4, i5⟩ := ST.six
          have hn8 : n = n1 + 1 + 3 * k := by
            have h1 := ST.len
            have h2 := HST.out.len
            have h4 := flat_len (o.seen.take k)
            rw [List.length_take, show min k o.seen.length = k by omega] at h4
            rw [h1, List.length_append, List.length_cons, h4]
            omega
          have hn9 : n ≤ 200 := by omega
          have HN8 := Lib.hid hn8
          clear hn8
          by_cases hkn : k < o.seen.length
          · obtain ⟨ad, rfl, hb, c0, c1⟩ := (HS.out.below ST.bel).dot hkn
            have hlt : (k : Int) < (o.seen.length : Int) := by omega
            have HST8 := Lib.hid ST
            clear ST
            obtain ⟨x1, x2, x3, x4⟩ := dotErr_ok (rise_zero HRI.out hkn)
            have hF5 : Fits (n + 1) 1 := Fits.of_small (by omega) (by decide)
            have EX := u8_val (show 0 ≤ o.seen[k].who by omega) (show o.seen[k].who ≤ 255 by omega)
            have RX := Lib.hid (fun W : World => reads_new W [Go.Proofs.YtnmmnejoldbeiaaGreatDoor.u8 o.seen[k].who] (by simp) #[.int .u8 o.seen[k].who] (by simp [bs, EX]))
            obtain ⟨xn, hxn⟩ : ∃ xn : Nat, o.seen[k].n = (xn : Int) := ⟨o.seen[k].n.toNat, by omega⟩
            have hxn2 : xn ≤ 9999 := by omega
            have HXN := Lib.hid hxn
            have hcat : Hid (opHead o ++ (Go.Proofs.YtnmmnejoldbeiaaGreatDoor.u8 (o.seen.length : Int) :: (o.seen.take (k + 1)).flatMap dotBytes) = (opHead o ++ (Go.Proofs.YtnmmnejoldbeiaaGreatDoor.u8 (o.seen.length : Int) :: (o.seen.take k).flatMap dotBytes)) ++ [Go.Proofs.YtnmmnejoldbeiaaGreatDoor.u8 o.seen[k].who] ++ twoB xn) := by
              show _ = _
              rw [List.take_succ_eq_append_getElem hkn, List.flatMap_append]
              simp [dotBytes, twoB, hxn]
            have HAB : Hid (ad.block < w.heap.size) := by show _ < _; simpa [block_of_add] using hb
            clear EX hb hxn
            go_upto_region 15 with (at_builtin; go_loud (refine wpList_app _ (.tmp 63) (.tmp 71) rfl rfl elemB rfl rfl (HST8.out.alloc _).own (RX.out _) (oneCells_bs _) hF5 (HST8.out.alloc _).base ?_; intro V5 cv5 w8 HO HL HX; have HST9 := Lib.hid ((HST8.out.alloc _).app HO HL); clear HO HL HX))
            clear i0 i1 i2 i3 i4 i5 c0 c1
            obtain ⟨i0, i1, i2, i3, i4, i5⟩ := HST9.out.six
            obtain ⟨ad', e', _, c0, c1⟩ := (HS.out.below HST9.out.bel).dot hkn
            injection e' with e'
            subst e'
            rw [HXN.out] at c1
            go_wp2_with fail
            refine (HT.out _ _ _ _ _ xn HST9.out.base HST9.out.own (by omega) (by omega)).mono ?_
            intro e w9 hp
            obtain ⟨V6, cv6, rfl, ST10⟩ := HST9.out.two hp
            have HST10 := Lib.hid ST10
            clear hp i0 i1 i2 i3 i4 i5 ST10 c0 c1
            go_wp2_with fail
            go_roundw
            case rel => exact ⟨k + 1, _, _, _, by omega, by go_num, rfl, by rw [hcat.out]; exact HST10.out⟩
            case measure => simp [intOf]; omega
          · have hkn' : o.seen.length = k := by omega
            have htk : Hid (opHead o ++ opTail o = opHead o ++ (Go.Proofs.YtnmmnejoldbeiaaGreatDoor.u8 (o.seen.length : Int) :: (o.seen.take k).flatMap dotBytes)) := by show _ = _; rw [HT1.out, List.take_of_length_le (by omega)]
            have hd : ¬ (k : Int) < (o.seen.length : Int) := by omega
            have HST8 := Lib.hid ST
            clear ST hkn'
            go_wp2_with fail
            go_meet
            case rel => exact ⟨_, _, _, rfl, by rw [htk.out]; exact HST8.out⟩
      · have g4 : (o.what == 4) = false := by simp [h4]
        have HT1 : Hid (opTail o = t1) := by show _ = _; rw [HT0.out]; unfold opTail; rw [if_neg h4]
        clear h4
        go_wp2_with fail
        go_meet
        case rel =>
          rw [HT1.out]
          exact ⟨_, _, _, rfl, HST.out⟩
    case rest =>
      obtain ⟨V, n, cv, rfl, ST⟩ := hcut
      have hn := ST.len
      have hl := body_len OK.out
      generalize hB : opHead o ++ opTail o = l at *
      have HB := Lib.hid hB
      have HST := Lib.hid ST
      clear hB
      have hn2 : n ≤ 138 := by omega
      obtain ⟨g, rfl, _, _⟩ := ST.own.head (by rw [hn, ← HB.out]; simp [opHead])
      have HN := Lib.hid hn
      clear hn hl ST
      go_wp2_with fail
      go_loop [5, 6] (fun v i => ∃ k : Nat, k ≤ n ∧ i = .int .i64 k ∧ v = .int .i64 (sumB (l.take k))) (fun v i => n - (intOf i).toNat)
      case atStart => exact ⟨0, by omega, rfl, by simp [sumB]⟩
      case round =>
        obtain ⟨k, hk, rfl, rfl⟩ := hrel
        by_cases hkn : k < n
        · have hkl : k < l.length := by have := HN.out; omega
          have d0 : wc.cell? ⟨g, k, none⟩ = some (.int .u8 (l[k].toNat : Int)) := by
            rw [HST.out.own.cellAt (by omega)]
            simp [bs, hkl]
          have hs1 := sumB_le (l.take k)
          have hs2 : sumB (l.take k) ≤ 40000 := by rw [List.length_take] at hs1; omega
          have hs3 : (l[k].toNat : Nat) ≤ 255 := by have := l[k].toNat_lt; omega
          have HSU := Lib.hid (sumB_take hkl)
          generalize hS : sumB (l.take k) = S at *
          generalize hX : l[k].toNat = X at *
          clear hs1
          go_wp2_with fail
          go_round
          case rel => exact ⟨k + 1, by omega, rfl, by rw [HSU.out]; simp⟩
          case measure => simp [intOf]; omega
        · have hkn' : k = n := by omega
          subst hkn'
          have hlt : l.take k = l := List.take_of_length_le (by have := HN.out; omega)
          rw [hlt]
          clear hlt
          have hres : Hid (opBytes o = l ++ [Go.Proofs.YtnmmnejoldbeiaaGreatDoor.u8 ((sumB l : Int) % 253)]) := by show opBytes o = _; unfold opBytes; rw [HB.out]
          have hss := sumB_le l
          have hs2 : sumB l ≤ 40000 := by have := HN.out; omega
          generalize hS : sumB l = S at *
          have ES := u8_val (show (0 : Int) ≤ (S : Int) % 253 by omega) (show (S : Int) % 253 ≤ 255 by omega)
          have RS := Lib.hid (fun W : World => reads_new W [Go.Proofs.YtnmmnejoldbeiaaGreatDoor.u8 ((S : Int) % 253)] (by simp) #[.int .u8 ((S : Int) % 253)] (by simp [bs, ES]))
          have hF9 : Fits (k + 1) 1 := Fits.of_small (by omega) (by decide)
          clear ES hss hS
          go_wp2_with (at_builtin; go_loud (refine wpList_app _ (.tmp 94) (.tmp 98) rfl rfl elemB rfl rfl (HST.out.alloc _).own (RS.out _) (oneCells_bs _) hF9 (HST.out.alloc _).base ?_; intro V9 cv9 w9 HO HL HX; have ST9 := (HST.out.alloc _).app HO HL; have hcv := ST9.str (by omega); have HST9 := Lib.hid ST9; clear ST9 HO HL HX))
          go_ret
          exact ⟨by rw [hres.out]; rfl, HST9.out.bel⟩
end Go.Proofs.YtnmmnejoldbeiaaGreatDoor
