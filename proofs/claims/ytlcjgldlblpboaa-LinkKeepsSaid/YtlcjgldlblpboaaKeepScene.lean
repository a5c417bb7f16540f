/- Two ends of a line, what was sent, what is under way: the steps of a law. Conditions: none of our own. -/
import Derived.Test.YtlcjgldlblpboaaFRow
import Derived.Test.YtlcjgldlblpboaaKeepLaw
import Derived.Test.YtlcjgldlblpboaaLinkHearAny
import Derived.Test.YtlcjgldlblpboaaLinkPair
namespace Go.Proofs.Ytlcjgldlblpboaa
open Go.RowKit
set_option linter.unusedVariables false
/-- A step that turned only what is beside the ends, or is new. -/
theorem PairAt.beside {w w' : World} {B ba bb : Nat} {X X' S : List Nat} {sa sb : LEnd} (h : PairAt w B ba bb X sa sb) (ho : Only S w w') (hS : ∀ i ∈ S, i ∈ X) (hX : ∀ i ∈ X', i ∈ X ∨ (w.heap.size ≤ i ∧ i < w'.heap.size)) : PairAt w' B ba bb X' sa sb := by
  have hB := h.base
  obtain ⟨A, ca, G, cg, A2, ca2, G2, cg2, h1, h2, h3, h4⟩ := h
  refine ⟨A, ca, G, cg, A2, ca2, G2, cg2, h1.keep ho (fun g hg hm => (h4 g (hS g hm)).2.2.1 hg), h2.keep ho (fun g hg hm => (h4 g (hS g hm)).2.2.2 hg), h3, fun g hg => ?_⟩
  rcases hX g hg with h5 | ⟨h5, h6⟩
  · obtain ⟨k0, k1, k2, k3⟩ := h4 g h5
    exact ⟨k0, Nat.lt_of_lt_of_le k1 ho.size, k2, k3⟩
  · exact ⟨by omega, h6, fun hm => by have := (h1.lt g hm).2; omega, fun hm => by have := (h2.lt g hm).2; omega⟩
structure KS (w : World) (B ba bb : Nat) (T : List ByteArray) (V : Option Addr) (cv : Nat) (fs : List LFrame) (A : Option Addr) (g o c : Nat) (sa sb : LEnd) (wr : World) : Prop where
  pair : PairAt wr B ba bb (ob V ++ fob g c) sa sb
  sent : Own wr B 9 1 V T.length cv (strs T)
  row : FRow wr B A g o fs.length c fs
  far : ∀ x ∈ ob V, x ∉ fob g c
  below : Below w.heap.size w wr
  base : w.heap.size ≤ B
theorem FRow.of_own {w : World} {B n c : Nat} {A : Option Addr} {fs : List LFrame} (h : Own w B 33 3 A n c (fcells fs)) : ∃ g, FRow w B A g 0 n c fs ∧ (∀ x ∈ fob g c, x ∈ ob A) ∧ ∀ ad, A = some ad → ad = ⟨g, 0, none⟩ := by
  have hl := h.len
  rcases h.2 with ⟨he, h0⟩ | ⟨g, cap, cur, he, hb, hh, hnc, hmax, hsz, hcur⟩
  · injection he with h1 h2 h3
    subst h1 h2 h3
    have : fs = [] := List.eq_nil_of_length_eq_zero (by rw [fcells_len] at hl; omega)
    subst this
    exact ⟨0, ⟨⟨Nat.le_refl _, fun h => by omega, fun h => by omega, rfl, fun j u hu => by simp [fcells] at hu, fun j hj => by omega⟩, fun h => by omega, Nat.zero_le _⟩, fun x hx => by simp [fob] at hx, fun ad h => by cases h⟩
  · injection he with h1 h2 h3
    subst h1 h3
    have hlt : g < w.heap.size := Blk.lt (t := 33) (cs := cur) hh
    refine ⟨g, ⟨⟨hnc, fun _ => rfl, fun _ => hlt, hl, fun j u hu => ?_, fun j hj => ⟨?_, ?_⟩⟩, fun _ => hb, hmax⟩, fun x hx => ?_, fun ad h => by injection h with h; exact h.symm⟩
    · have hj : j < n * 3 := by
        rcases Nat.lt_or_ge j (n * 3) with hh | hh
        · exact hh
        · rw [List.getElem?_eq_none (by omega)] at hu; cases hu
      rw [Nat.zero_add, h.cellAt hj]
      exact hu
    · rw [cell_of_row w g _ cur 33 (0, 0) hh, Array.getElem?_eq_getElem (by rw [hsz]; rw [Nat.sub_mul] at hj; omega)]
      rfl
    · exact h.frozenAt _
    · unfold fob at hx
      split at hx
      · simp at hx; subst hx; simp [ob]
      · simp at hx
namespace KS
variable {w wr w' : World} {B ba bb g o c cv : Nat} {T : List ByteArray} {V A : Option Addr} {fs : List LFrame} {sa sb sa' sb' : LEnd}
theorem step (h : KS w B ba bb T V cv fs A g o c sa sb wr) (hb : Below wr.heap.size wr w') : KS w B ba bb T V cv fs A g o c sa sb w' :=
  ⟨h.pair.later hb, h.sent.below hb, h.row.below hb, h.far, h.below.trans (hb.mono h.below.size), h.base⟩
theorem hB (h : KS w B ba bb T V cv fs A g o c sa sb wr) : B ≤ wr.heap.size := h.pair.base
/-- The ends have gone on. -/
theorem on (h : KS w B ba bb T V cv fs A g o c sa sb wr) (hp : PairAt w' B ba bb (ob V ++ fob g c) sa' sb') (hs : Step B (ob V ++ fob g c) wr w') : KS w B ba bb T V cv fs A g o c sa' sb' w' := by
  refine ⟨hp, hs.own h.sent (fun x hx => by simp [hx]), ?_, h.far, h.below.trans (hs.below.mono h.base), h.base⟩
  obtain ⟨_, S, h1, h2⟩ := hs
  exact h.row.only h1 (fun x hx hm => h2 x (by simp [hx]) hm)
theorem outA (h : KS w B ba bb T V cv fs A g o c sa sb wr) (ok : sa.Ok) : Calls Try.prog 7 #[.pointer (some ⟨ba, 0, none⟩)] wr (fun e w' => ∃ G cg, e = .returned (.slice G sa.outFrames.length cg) ∧ Own w' wr.heap.size 33 3 G sa.outFrames.length cg (fcells sa.outFrames) ∧ KS w B ba bb T V cv fs A g o c sa.out sb w') := by
  refine (h.pair.out ok).mono ?_
  rintro e w' ⟨G, cg, rfl, h1, h2, h3⟩
  exact ⟨G, cg, rfl, h1, h.on (h2.sub (fun x hx => by simp only [List.mem_append] at hx ⊢; exact .inl hx)) h3⟩
theorem outB (h : KS w B ba bb T V cv fs A g o c sa sb wr) (ok : sb.Ok) : Calls Try.prog 7 #[.pointer (some ⟨bb, 0, none⟩)] wr (fun e w' => ∃ G cg, e = .returned (.slice G sb.outFrames.length cg) ∧ Own w' wr.heap.size 33 3 G sb.outFrames.length cg (fcells sb.outFrames) ∧ KS w B ba bb T V cv fs A g o c sa sb.out w') := by
  refine (h.pair.swap.out ok).mono ?_
  rintro e w' ⟨G, cg, rfl, h1, h2, h3⟩
  exact ⟨G, cg, rfl, h1, h.on ((h2.sub (fun x hx => by simp only [List.mem_append] at hx ⊢; exact .inl hx)).swap) h3⟩
/-- What a says, as the row beside. -/
theorem sayA (h : KS w B ba bb T V cv fs A g o c sa sb wr) (ok : sa.Ok) : Calls Try.prog 7 #[.pointer (some ⟨ba, 0, none⟩)] wr (fun e w' => ∃ G cg g', e = .returned (.slice G sa.outFrames.length cg) ∧ KS w B ba bb T V cv sa.outFrames G g' 0 cg sa.out sb w' ∧ ∀ ad, G = some ad → ad = ⟨g', 0, none⟩) := by
  have hB := h.hB
  refine (h.pair.out ok).mono ?_
  rintro e w' ⟨G, cg, rfl, h1, h2, h3⟩
  obtain ⟨g', k1, k2, k3⟩ := FRow.of_own h1
  refine ⟨G, cg, g', rfl, ⟨h2.sub (fun x hx => ?_), h3.own h.sent (fun x hx => by simp [hx]), ⟨k1.came, fun hc => Nat.le_trans hB (k1.base hc), k1.max⟩, fun x hx hm => ?_, h.below.trans (h3.below.mono h.base), h.base⟩, k3⟩
  · simp only [List.mem_append] at hx ⊢
    rcases hx with hx | hx
    · exact .inl (.inl hx)
    · exact .inr (k2 x hx)
  · have := (h.sent.lt x hx).2
    have := (h1.lt x (k2 x hm)).1
    omega
theorem sayB (h : KS w B ba bb T V cv fs A g o c sa sb wr) (ok : sb.Ok) : Calls Try.prog 7 #[.pointer (some ⟨bb, 0, none⟩)] wr (fun e w' => ∃ G cg g', e = .returned (.slice G sb.outFrames.length cg) ∧ KS w B ba bb T V cv sb.outFrames G g' 0 cg sa sb.out w' ∧ ∀ ad, G = some ad → ad = ⟨g', 0, none⟩) := by
  have hB := h.hB
  refine (h.pair.swap.out ok).mono ?_
  rintro e w' ⟨G, cg, rfl, h1, h2, h3⟩
  obtain ⟨g', k1, k2, k3⟩ := FRow.of_own h1
  refine ⟨G, cg, g', rfl, ⟨(h2.sub (fun x hx => ?_)).swap, h3.own h.sent (fun x hx => by simp [hx]), ⟨k1.came, fun hc => Nat.le_trans hB (k1.base hc), k1.max⟩, fun x hx hm => ?_, h.below.trans (h3.below.mono h.base), h.base⟩, k3⟩
  · simp only [List.mem_append] at hx ⊢
    rcases hx with hx | hx
    · exact .inl (.inl hx)
    · exact .inr (k2 x hx)
  · have := (h.sent.lt x hx).2
    have := (h1.lt x (k2 x hm)).1
    omega
/-- A frame of the row beside, its cells. -/
theorem frameAt (h : KS w B ba bb T V cv fs A g 0 c sa sb wr) (hA : ∀ ad, A = some ad → ad = ⟨g, 0, none⟩) {j : Nat} (hj : j < fs.length) :
    ∃ ad, A = some ad ∧ wr.cell? (ad.add (j * 3)) = some (.bool fs[j].ack) ∧ wr.cell? ⟨(ad.add (j * 3)).block, (ad.add (j * 3)).off + 1, none⟩ = some (.int .i64 fs[j].seq) ∧ wr.cell? ⟨(ad.add (j * 3)).block, (ad.add (j * 3)).off + 2, none⟩ = some (.string fs[j].data) := by
  have hle := h.row.came.le
  have ha := h.row.came.addr (by omega)
  have key : ∀ r u, r < 3 → (LFrame.cells fs[j])[r]? = some u → wr.cell? ⟨g, j * 3 + r, none⟩ = some u := fun r u hr hu => by
    have h9 : fs = fs.take j ++ fs[j] :: fs.drop (j + 1) := by rw [← List.drop_eq_getElem_cons hj, List.take_append_drop]
    have h8 : fcells fs = fcells (fs.take j) ++ (LFrame.cells fs[j] ++ fcells (fs.drop (j + 1))) := by
      conv => lhs; rw [h9]
      rw [fcells_append]
      rfl
    have := h.row.came.olds (j * 3 + r) u (by
      rw [h8, List.getElem?_append_right (by rw [fcells_len, List.length_take]; omega), fcells_len, List.length_take, show j * 3 + r - min j fs.length * 3 = r by omega, List.getElem?_append_left (by simp [LFrame.cells]; omega)]
      exact hu)
    rw [Nat.zero_add] at this
    exact this
  have e : (⟨g, 0, none⟩ : Addr).add (j * 3) = ⟨g, j * 3, none⟩ := by
    unfold Addr.add
    by_cases h0 : j * 3 = 0
    · rw [if_pos h0, h0]
    · rw [if_neg h0, Nat.zero_add]
  refine ⟨_, ha, ?_, ?_, ?_⟩
  · rw [e]; exact key 0 _ (by decide) rfl
  · rw [e]; exact key 1 _ (by decide) rfl
  · rw [e]; exact key 2 _ (by decide) rfl
theorem tickA (h : KS w B ba bb T V cv fs A g o c sa sb wr) (ht : sa.ticks ≤ 100000) : Calls Try.prog 8 #[.pointer (some ⟨ba, 0, none⟩)] wr (fun e w' => e = .returned (.tuple #[]) ∧ KS w B ba bb T V cv fs A g o c sa.tick sb w') := by
  obtain ⟨A1, ca, G1, cg, h1, h2⟩ := h.pair.fst
  refine (tick_any wr B ba A1 G1 ca cg sa h1 ht).mono ?_
  rintro e w' ⟨rfl, k1, k2⟩
  obtain ⟨p1, p2⟩ := h2 sa.tick w' ⟨A1, ca, G1, cg, k1, k2.mono (fun i hi => by simp at hi; subst hi; exact .inl (by simp [endBlocks])), fun x hx => .inl hx⟩
  exact ⟨rfl, h.on p1 p2⟩
theorem hearA (h : KS w B ba bb T V cv fs A g o c sa sb wr) (ok : sa.Ok) (f : LFrame) (hm : f.data.size ≤ 9223372036854775807) : Calls Try.prog 9 #[.pointer (some ⟨ba, 0, none⟩), .agg #[.bool f.ack, .int .i64 f.seq, .string f.data]] wr (fun e w' => e = .returned (errV (sa.hearErr f)) ∧ KS w B ba bb T V cv fs A g o c (sa.hear f) sb w') := by
  obtain ⟨A1, ca, G1, cg, h1, h2⟩ := h.pair.fst
  refine (hear_any wr B ba A1 G1 ca cg sa f h1 ok hm).mono ?_
  rintro e w' ⟨rfl, k1⟩
  obtain ⟨p1, p2⟩ := h2 _ w' k1
  exact ⟨rfl, h.on p1 p2⟩
theorem hearB (h : KS w B ba bb T V cv fs A g o c sa sb wr) (ok : sb.Ok) (f : LFrame) (hm : f.data.size ≤ 9223372036854775807) : Calls Try.prog 9 #[.pointer (some ⟨bb, 0, none⟩), .agg #[.bool f.ack, .int .i64 f.seq, .string f.data]] wr (fun e w' => e = .returned (errV (sb.hearErr f)) ∧ KS w B ba bb T V cv fs A g o c sa (sb.hear f) w') := by
  obtain ⟨A1, ca, G1, cg, h1, h2⟩ := h.pair.swap.fst
  refine (hear_any wr B bb A1 G1 ca cg sb f h1 ok hm).mono ?_
  rintro e w' ⟨rfl, k1⟩
  obtain ⟨p1, p2⟩ := h2 _ w' k1
  exact ⟨rfl, h.on p1.swap p2⟩
theorem gotB (h : KS w B ba bb T V cv fs A g o c sa sb wr) (hd : sb.got.length ≤ 100000) : Calls Try.prog 10 #[.pointer (some ⟨bb, 0, none⟩)] wr (fun e w' => ∃ G cg, e = .returned (.slice G sb.got.length cg) ∧ Own w' wr.heap.size 9 1 G sb.got.length cg (strs sb.got) ∧ KS w B ba bb T V cv fs A g o c sa sb w') := by
  obtain ⟨A1, ca, G1, cg, h1, h2⟩ := h.pair.swap.fst
  refine (got_any wr B bb A1 G1 ca cg sb h1 hd).mono ?_
  intro e w' hp
  obtain ⟨G, c2, rfl, k1, k2⟩ := hp
  exact ⟨G, c2, rfl, k1, h.step k2⟩
theorem leftA (h : KS w B ba bb T V cv fs A g o c sa sb wr) (hd : sa.data.length ≤ 1000) : Calls Try.prog 12 #[.pointer (some ⟨ba, 0, none⟩)] wr (fun e w' => e = .returned (.int .i64 (sa.data.length : Nat)) ∧ w' = wr) := by
  obtain ⟨A1, ca, G1, cg, h1, h2⟩ := h.pair.fst
  exact left_any wr B ba A1 G1 ca cg sa h1 hd
theorem sendA (h : KS w B ba bb T V cv fs A g o c sa sb wr) (s : ByteArray) (hm : s.size ≤ maxLen) (hd : sa.data.length < 100) : Calls Try.prog 6 #[.pointer (some ⟨ba, 0, none⟩), .string s] wr (fun e w' => e = .returned (errV (if 200 < s.size then 4 else 0)) ∧ KS w B ba bb T V cv fs A g o c (if 200 < s.size then sa else sa.send s) sb w') := by
  obtain ⟨A1, ca, G1, cg, h1, h2⟩ := h.pair.fst
  by_cases hs : 200 < s.size
  · rw [if_pos hs, if_pos hs]
    refine (send_full wr B ba A1 G1 ca cg sa s h1 (.inl hs) hm (by omega)).mono ?_
    rintro e w' ⟨rfl, k1⟩
    obtain ⟨p1, p2⟩ := h2 _ w' k1
    exact ⟨rfl, h.on p1 p2⟩
  · rw [if_neg hs, if_neg hs]
    refine (send_ok wr B ba A1 G1 ca cg sa s h1 (by omega) hd).mono ?_
    rintro e w' ⟨rfl, k1⟩
    obtain ⟨p1, p2⟩ := h2 _ w' k1
    exact ⟨rfl, h.on p1 p2⟩
/-- What was sent has been appended to. -/
theorem more (h : KS w B ba bb T V cv fs A g o c sa sb wr) {x : ByteArray} {V' : Option Addr} {cv' : Nat} (hO : Own w' B 9 1 V' (T.length + 1) cv' (strs T ++ strs [x])) (ho : Only (ob V) wr w') (hn : ∀ i ∈ ob V', i ∈ ob V ∨ i = wr.heap.size) : KS w B ba bb (T ++ [x]) V' cv' fs A g o c sa sb w' := by
  have hlt : ∀ i ∈ fob g c, i < wr.heap.size := fun i hi => by
    unfold fob at hi
    by_cases hc : 0 < c
    · rw [if_pos hc] at hi; simp at hi; subst hi; exact h.row.came.lt hc
    · rw [if_neg hc] at hi; simp at hi
  refine ⟨h.pair.beside ho (fun i hi => by simp [hi]) (fun i hi => ?_), ?_, h.row.only ho (fun i hi hm => h.far i hm hi), fun i hi hm => ?_, h.below.trans (ho.below h.below.size (fun i hi => Nat.le_trans h.base (h.sent.lt i hi).1)), h.base⟩
  · rcases List.mem_append.1 hi with hi | hi
    · rcases hn i hi with h1 | h1
      · exact .inl (by simp [h1])
      · exact .inr ⟨by omega, (hO.lt i hi).2⟩
    · exact .inl (by simp [hi])
  · have e : strs (T ++ [x]) = strs T ++ strs [x] := by simp [strs]
    rw [e, List.length_append]
    exact hO
  · rcases hn i hi with h1 | h1
    · exact h.far i h1 hm
    · have := hlt i hm; omega
/-- What is under way has been appended to. -/
theorem app (h : KS w B ba bb T V cv fs A g o c sa sb wr) {news : List LFrame} {m : Nat} {A' : Option Addr} {g' o' c' : Nat} (hr : FRow w' B A' g' o' m c' (fs ++ news)) (hm : m = (fs ++ news).length) (ho : Only (fob g c) wr w') (hn : ∀ x ∈ fob g' c', x ∈ fob g c ∨ wr.heap.size ≤ x) : KS w B ba bb T V cv (fs ++ news) A' g' o' c' sa sb w' := by
  subst hm
  have hlt : ∀ x ∈ fob g' c', x < w'.heap.size := fun x hx => by
    unfold fob at hx
    by_cases hc : 0 < c'
    · rw [if_pos hc] at hx
      simp at hx; subst hx
      exact hr.came.lt hc
    · rw [if_neg hc] at hx; simp at hx
  refine ⟨h.pair.beside ho (fun i hi => by simp [hi]) (fun i hi => ?_), h.sent.only ho (fun x hx hm => h.far x hx hm), hr, fun x hx hm => ?_, h.below.trans (ho.below h.below.size (fun i hi => ?_)), h.base⟩
  · rcases List.mem_append.1 hi with hi | hi
    · exact .inl (by simp [hi])
    · rcases hn i hi with h1 | h1
      · exact .inl (by simp [h1])
      · exact .inr ⟨h1, hlt i hi⟩
  · rcases hn x hm with h1 | h1
    · exact h.far x hx h1
    · have := (h.sent.lt x hx).2; omega
  · unfold fob at hi
    by_cases hc : 0 < c
    · rw [if_pos hc] at hi
      simp at hi; subst hi
      exact Nat.le_trans h.base (h.row.base hc)
    · rw [if_neg hc] at hi; simp at hi
/-- The first frame is gone. -/
theorem tail {f : LFrame} (h : KS w B ba bb T V cv (f :: fs) A g o c sa sb wr) : KS w B ba bb T V cv fs (if c = 1 then A else A.map (·.add 3)) g (o + 3) (c - 1) sa sb wr := by
  have ht := h.row.tail
  have hsub : ∀ x ∈ fob g (c - 1), x ∈ fob g c := fun x hx => by
    unfold fob at hx ⊢
    by_cases h1 : 0 < c - 1
    · rw [if_pos h1] at hx; rw [if_pos (by omega)]; exact hx
    · rw [if_neg h1] at hx; simp at hx
  exact ⟨h.pair.sub (fun x hx => by
    rcases List.mem_append.1 hx with hx | hx
    · simp [hx]
    · simp [hsub x hx]), h.sent, by simpa using ht, fun x hx hm => h.far x hx (hsub x hm), h.below, h.base⟩
theorem tail' {f : LFrame} (h : KS w B ba bb T V cv (f :: fs) (some ⟨g, o, none⟩) g o c sa sb wr) : KS w B ba bb T V cv fs (if c = 1 then some ⟨g, o, none⟩ else some ⟨g, o + 3, none⟩) g (o + 3) (c - 1) sa sb wr := by
  have := h.tail
  have e : Option.map (fun a : Addr => a.add 3) (some ⟨g, o, none⟩) = some ⟨g, o + 3, none⟩ := rfl
  rw [e] at this
  exact this
end KS
theorem KF.size {T : List ByteArray} {s : Nat} {f : LFrame} (h : KF T s f) (hT : ∀ x ∈ T, x.size ≤ 200) : f.data.size ≤ 200 := hT _ (List.mem_of_getElem? h.data)
/-- What the ends know, in bounds. -/
theorem KA.ok {win wait : Nat} {T : List ByteArray} {st : LEnd} (h : KA win wait T st) (h1 : 1 ≤ win) (h2 : win ≤ 16) (h3 : 1 ≤ wait) (h4 : wait ≤ 20) (hT : T.length ≤ 30) (ht : st.ticks ≤ 100000) : st.Ok := by
  have hl := h.len
  have := h.said
  have := h.le
  exact ⟨by rw [h.win]; exact h1, by rw [h.win]; exact h2, by rw [h.wait]; exact h3, by rw [h.wait]; exact h4, by omega, by omega, by omega, ht, by rw [h.got]; simp⟩
theorem KB.ok {win wait p s : Nat} {T : List ByteArray} {st : LEnd} (h : KB win wait T p s st) (h1 : 1 ≤ win) (h2 : win ≤ 16) (h3 : 1 ≤ wait) (h4 : wait ≤ 20) (hs : s ≤ 30) : st.Ok := by
  have := h.high
  exact ⟨by rw [h.win]; exact h1, by rw [h.win]; exact h2, by rw [h.wait]; exact h3, by rw [h.wait]; exact h4, by rw [h.data]; simp, by rw [h.acked]; omega, by rw [h.said]; omega, by rw [h.ticks]; omega, by omega⟩
end Go.Proofs.Ytlcjgldlblpboaa
