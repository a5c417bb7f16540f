/- A row of frames that is a part of an array of the call's own: appended to, cut at its front. Plain lemmas. Conditions: none. -/
import Derived.Deep.Upon
import Derived.Test.YtlcjgldlblpboaaLinkSpec
namespace Go.Proofs.Ytlcjgldlblpboaa
open Go.RowKit
set_option linter.unusedVariables false
def fob (g c : Nat) : List Nat := if 0 < c then [g] else []
structure FRow (w : World) (B : Nat) (A : Option Addr) (g o n c : Nat) (fs : List LFrame) : Prop where
  came : Came w 3 A g o n c (fcells fs)
  base : 0 < c → B ≤ g
  max : c ≤ maxLen
theorem frow_setCells_tape (w : World) (g : Nat) : ∀ (o : Nat) (vs : List Value), (w.setCells g o vs).tape = w.tape := by
  intro o vs
  induction vs generalizing w o with
  | nil => rfl
  | cons v vs ih => exact (ih _ _).trans rfl
namespace FRow
variable {w w' : World} {B g o n c : Nat} {A : Option Addr} {fs : List LFrame}
theorem nil (w : World) (B : Nat) : FRow w B none 0 0 0 0 [] :=
  ⟨⟨Nat.le_refl _, fun h => by omega, fun h => by omega, rfl, fun j u hu => by simp [fcells] at hu, fun j hj => by omega⟩, fun h => by omega, Nat.zero_le _⟩
theorem len (h : FRow w B A g o n c fs) : fs.length = n := by have := h.came.oldsLen; rw [fcells_len] at this; omega
theorem only {S : List Nat} (h : FRow w B A g o n c fs) (ho : Only S w w') (hS : ∀ x ∈ fob g c, x ∉ S) : FRow w' B A g o n c fs := by
  have hk : 0 < c → w'.heap[g]? = w.heap[g]? := fun hc => ho.block g (h.came.lt hc) (hS g (by unfold fob; rw [if_pos hc]; simp))
  refine ⟨⟨h.came.le, h.came.addr, fun hc => Nat.lt_of_lt_of_le (h.came.lt hc) ho.size, h.came.oldsLen, fun j u hu => ?_, fun j hj => ?_⟩, h.base, h.max⟩
  · have hc : 0 < c := by
      have h1 := h.came.le
      have h2 := h.came.oldsLen
      have h3 : j < (fcells fs).length := by
        rcases Nat.lt_or_ge j (fcells fs).length with hh | hh
        · exact hh
        · rw [List.getElem?_eq_none hh] at hu; cases hu
      omega
    exact (World.cell?_of_block (a := ⟨g, o + j, none⟩) (hk hc)).trans (h.came.olds j u hu)
  · have hc : 0 < c := by
      rcases Nat.eq_zero_or_pos c with h0 | h0
      · rw [h0] at hj; omega
      · exact h0
    have e1 := hk hc
    exact ⟨by rw [World.cell?_of_block (a := ⟨g, o + n * 3 + j, none⟩) e1]; exact (h.came.spare j hj).1, (World.frozen?_of_block (a := ⟨g, o + n * 3 + j, none⟩) e1).trans (h.came.spare j hj).2⟩
theorem below (h : FRow w B A g o n c fs) (hb : Below w.heap.size w w') : FRow w' B A g o n c fs := h.only (S := []) (Only.of_below hb) (by simp)
/-- The row's first frame, and its cells. -/
theorem head {f : LFrame} (h : FRow w B A g o n c (f :: fs)) : A = some ⟨g, o, none⟩ ∧ 0 < c ∧ 0 < n ∧ w.cell? ⟨g, o, none⟩ = some (.bool f.ack) ∧ w.cell? ⟨g, o + 1, none⟩ = some (.int .i64 f.seq) ∧ w.cell? ⟨g, o + 2, none⟩ = some (.string f.data) := by
  have h1 := h.len
  have h2 := h.came.le
  simp only [List.length_cons] at h1
  exact ⟨h.came.addr (by omega), by omega, by omega, h.came.olds 0 _ rfl, h.came.olds 1 _ rfl, h.came.olds 2 _ rfl⟩
/-- The row without its first frame. -/
theorem tail {f : LFrame} (h : FRow w B A g o n c (f :: fs)) : FRow w B (if c = 1 then A else A.map (·.add 3)) g (o + 3) (n - 1) (c - 1) fs := by
  obtain ⟨ha, hc, hn, _⟩ := h.head
  have hl := h.len
  simp only [List.length_cons] at hl
  have hle := h.came.le
  refine ⟨⟨by omega, fun h1 => ?_, fun h1 => h.came.lt hc, by rw [fcells_len]; omega, fun j u hu => ?_, fun j hj => ?_⟩, fun _ => h.base hc, by have := h.max; omega⟩
  · rw [if_neg (by omega), ha]
    rfl
  · have := h.came.olds (3 + j) u (by
      rw [show fcells (f :: fs) = f.cells ++ fcells fs from rfl, List.getElem?_append_right (by simp [LFrame.cells])]
      simpa [LFrame.cells] using hu)
    rw [show o + 3 + j = o + (3 + j) by omega]
    exact this
  · have := h.came.spare j (by
      rw [show c - n = c - 1 - (n - 1) by omega]; exact hj)
    rw [show o + 3 + (n - 1) * 3 + j = o + n * 3 + j by omega]
    exact this
end FRow
set_option maxRecDepth 100000 in
theorem run_frow {w : World} {B g o n c : Nat} {A : Option Addr} {fs : List LFrame} (h : FRow w B A g o n c fs) (hB : B ≤ w.heap.size) (ty : TypeId) {B' : Nat} {G : Option Addr} {m cm : Nat} {news : List LFrame} (hr : Reads w B' 3 G m (fcells news)) (hn : n + m ≤ 1000000) :
    ∃ A' g' o' c' w', (Builtin.append_ #[30, 30] ty #[.slice A n c, .slice G m cm]).run Try.prog w = .ok (.slice A' (n + m) c') w' ∧ FRow w' B A' g' o' (n + m) c' (fs ++ news) ∧ Only (fob g c) w w' ∧ (∀ x ∈ fob g' c', x ∈ fob g c ∨ w.heap.size ≤ x) := by
  obtain ⟨ht, ⟨i, z, hi, hz, hsize, hby, hzs⟩, hsz⟩ := elemF
  have hnl : news.length = m := by have := hr.1; rw [fcells_len] at this; omega
  have hsrc : Src Try.prog 3 30 (.slice G m cm) m (fcells news) w := by
    rcases Nat.eq_zero_or_pos m with h0 | h0
    · subst h0
      obtain rfl := List.eq_nil_of_length_eq_zero hnl
      cases G with
      | none => exact Src.ofNil w ht cm
      | some a => exact Src.ofSlice w ht a 0 cm _ rfl (fun j u hu => by simp [fcells] at hu) (oneCells_f _)
    · obtain ⟨ad, rfl, hab, hac⟩ := hr.2 h0
      exact Src.ofSlice w ht ad m cm (fcells news) hr.1 hac (oneCells_f news)
  have hlen : n + 0 + m ≤ maxLen := by unfold maxLen; omega
  obtain ⟨v', w', hrun, hu⟩ := run_append_upon (P := Try.prog) h.came 30 30 ty i z 32 ht hi hz hsize hby hzs (Upon.start h.came) (.slice G m cm) m (fcells news) hsrc hlen (by omega)
  rw [Nat.zero_add, List.nil_append] at hu
  have hsrc' : Src Try.prog i.size 30 (.slice G m cm) m (fcells news) w := by rw [hsize]; exact hsrc
  have hfl : (fcells news).length = m * 3 := by rw [fcells_len, hnl]
  have hlc : 0 < c → g < w.heap.size := h.came.lt
  have htape : w'.tape = w.tape := by
    by_cases hroom : n + m ≤ c
    · by_cases hc : 0 < c
      · have ha := h.came.addr hc
        have h2 := run_append_room_src (P := Try.prog) (w := w) 30 30 ty 33 i ht hi g o n c (.slice G m cm) m (fcells news) hsrc' hroom (fun j hj => by
          rw [hfl] at hj
          rw [hsize]
          exact (h.came.spare j (by omega)).1) (fun j hj => by
          rw [hfl] at hj
          rw [hsize]
          exact (h.came.spare j (by omega)).2)
        rw [ha] at hrun
        rw [hrun] at h2
        injection h2 with _ hw
        rw [hw]
        exact frow_setCells_tape _ _ _ _
      · have hm0 : m = 0 := by omega
        subst hm0
        obtain rfl := List.eq_nil_of_length_eq_zero hnl
        have h2 := run_append_nothing (P := Try.prog) w 30 30 ty 33 i ht hi A n c h.came.le (.slice G 0 cm) hsrc'
        rw [hrun] at h2
        injection h2 with _ hw
        rw [hw]
    · have hold : (Builtin.firstCells i.size n (.slice A n c)).run Try.prog w.drew = .ok (fcells fs).toArray w.drew := by
        rw [hsize]
        cases hA : A with
        | none =>
          have hc0 : ¬ 0 < c := fun hc => by have := h.came.addr hc; rw [hA] at this; cases this
          have hn0 : fs.length = 0 := by have := h.len; have := h.came.le; omega
          obtain rfl := List.eq_nil_of_length_eq_zero hn0
          exact run_firstCells_none (P := Try.prog) w.drew 3 n n c
        | some a =>
          refine run_firstCells_some (P := Try.prog) w.drew 3 n a n c (fcells fs) h.came.oldsLen (fun j u hu => ?_)
          have hc : 0 < c := by
            have h3 : j < (fcells fs).length := by
              rcases Nat.lt_or_ge j (fcells fs).length with hh | hh
              · exact hh
              · rw [List.getElem?_eq_none hh] at hu; cases hu
            have h1 := h.came.le
            have h2 := h.came.oldsLen
            omega
          have ha := h.came.addr hc
          rw [hA] at ha
          injection ha with ha
          subst ha
          have e1 : (⟨g, o, none⟩ : Addr).add j = ⟨g, o + j, none⟩ := by
            unfold Addr.add
            by_cases hj : j = 0 <;> simp [hj]
          rw [e1]
          exact h.came.olds j u hu
      have h2 := run_append_grow_src (P := Try.prog) w 30 30 ty 33 i z ht hi hz A n c (fcells fs) hold (.slice G m cm) m (fcells news) hsrc' (by omega) (by omega) (growslice_fits (by omega) (by rw [hby]; omega))
      rw [hrun] at h2
      injection h2 with _ hw
      rw [hw]
      rfl
  have honly : Only (fob g c) w w' := ⟨hu.kept.1, htape, hu.kept.2.1, hu.kept.size, fun k hk hne => hu.kept.block hk (fun p ⟨j, hj, e⟩ hp => by
    have hc : 0 < c := hu.capPos hj
    exact hne (by rw [e] at hp; unfold fob; rw [if_pos hc]; exact List.mem_singleton.2 (show k = g from hp.symm)))⟩
  have happ : fcells fs ++ fcells news = fcells (fs ++ news) := (fcells_append fs news).symm
  rcases hu.val with ⟨h1, rfl, h3⟩ | ⟨h1, g', c', rfl, ho⟩
  · refine ⟨A, g, o, c, w', hrun, ⟨⟨h1, h.came.addr, fun hc => Nat.lt_of_lt_of_le (hlc hc) hu.kept.size, by rw [fcells_len, List.length_append, h.len, hnl], fun j u hj => ?_, fun j hj => ?_⟩, h.base, h.max⟩, honly, fun x hx => .inl hx⟩
    · have hlt : j < (fcells (fs ++ news)).length := by
        rcases Nat.lt_or_ge j (fcells (fs ++ news)).length with hh | hh
        · exact hh
        · rw [List.getElem?_eq_none hh] at hj; cases hj
      rw [fcells_len, List.length_append, h.len, hnl] at hlt
      have := hu.inArray h.came (by omega) h3 j (by omega)
      rw [this, happ]
      exact hj
    · have hc : 0 < c := by omega
      have hsp := h.came.spare (m * 3 + j) (by rw [Nat.sub_add_eq, Nat.sub_mul] at hj; omega)
      have e1 : o + n * 3 + (m * 3 + j) = o + (n + m) * 3 + j := by rw [Nat.add_mul]; omega
      rw [e1] at hsp
      refine ⟨?_, ?_⟩
      · rw [hu.old (hlc hc) (fun j' hj' ⟨_, e⟩ => by rw [h3, hfl] at hj'; omega)]
        exact hsp.1
      · rw [hu.frozen ⟨g, o + (n + m) * 3 + j, none⟩ (hlc hc)]
        exact hsp.2
  · have hc' : 0 < c' := by have := ho.le; omega
    refine ⟨some ⟨g', 0, none⟩, g', 0, c', w', hrun, ⟨⟨ho.le, fun _ => rfl, fun _ => ?_, by rw [fcells_len, List.length_append, h.len, hnl], fun j u hj => ?_, fun j hj => ?_⟩, fun _ => Nat.le_trans hB ho.new, ho.max⟩, honly, fun x hx => ?_⟩
    · have := (ho.there 0 (by omega)).1
      obtain ⟨u, hu2⟩ := Option.isSome_iff_exists.1 this
      exact World.block_lt_of_cell? _ _ hu2
    · have hlt : j < (fcells (fs ++ news)).length := by
        rcases Nat.lt_or_ge j (fcells (fs ++ news)).length with hh | hh
        · exact hh
        · rw [List.getElem?_eq_none hh] at hj; cases hj
      rw [fcells_len, List.length_append, h.len, hnl] at hlt
      rw [Nat.zero_add]
      have := ho.holds j (by omega)
      rw [this, happ]
      exact hj
    · rw [Nat.zero_add]
      exact ho.there _ (by have := ho.le; rw [Nat.sub_mul] at hj; omega)
    · unfold fob at hx
      rw [if_pos hc'] at hx
      simp at hx
      subst hx
      exact .inr ho.new
theorem wpList_frow {ops : Array Oper} {rest : List Oper} {op : Oper} {a : Act} {Q : Exit → Act → World → Prop} {w : World} (s x : Operand) (hgd : op.guard = none)
    (ho : op.op = .call { callee := .builtin .append, args := #[s, x], argTypes := #[30, 30] })
    {B g o n c : Nat} {A : Option Addr} {fs : List LFrame} (hs : a.eval s = .slice A n c) {B' : Nat} {G : Option Addr} {m cm : Nat} {news : List LFrame} (hx : a.eval x = .slice G m cm)
    (h : FRow w B A g o n c fs) (hB : B ≤ w.heap.size) (hr : Reads w B' 3 G m (fcells news)) (hn : n + m ≤ 1000000)
    (hK : ∀ A' g' o' c' w', FRow w' B A' g' o' (n + m) c' (fs ++ news) → Only (fob g c) w w' → (∀ x ∈ fob g' c', x ∈ fob g c ∨ w.heap.size ≤ x) → wpList Try.prog ops Q rest (a.put op.dst (.slice A' (n + m) c')) w') : wpList Try.prog ops Q (op :: rest) a w := by
  refine wpList_plain hgd fun K hK' => ?_
  obtain ⟨A', g', o', c', w', hrun, h1, h2, h3⟩ := run_frow h hB op.type hr (cm := cm) hn
  unfold Oper.wp execOp
  simp only [ho, resolve, invoke, builtin, Sem.run_bind, Sem.run_pure, Result.andThen_ok, List.map_toArray, List.map_cons, List.map_nil, hs, hx, hrun]
  exact hK' _ _ (hK A' g' o' c' w' h1 h2 h3)
theorem step_frow {ops : Array Oper} {op : Oper} {a : Act} {K : Act → World → Prop} {Q : Exit → Act → World → Prop} {E : Prop} {w : World} (s x : Operand) (hgd : op.guard = none)
    (ho : op.op = .call { callee := .builtin .append, args := #[s, x], argTypes := #[30, 30] })
    {B g o n c : Nat} {A : Option Addr} {fs : List LFrame} (hs : a.eval s = .slice A n c) {B' : Nat} {G : Option Addr} {m cm : Nat} {news : List LFrame} (hx : a.eval x = .slice G m cm)
    (h : FRow w B A g o n c fs) (hB : B ≤ w.heap.size) (hr : Reads w B' 3 G m (fcells news)) (hn : n + m ≤ 1000000)
    (hK : ∀ A' g' o' c' w', FRow w' B A' g' o' (n + m) c' (fs ++ news) → Only (fob g c) w w' → (∀ x ∈ fob g' c', x ∈ fob g c ∨ w.heap.size ≤ x) → K (a.put op.dst (.slice A' (n + m) c')) w') :
    if Region.wanted op (yielded ops a.tmps) = true then Oper.wp Try.prog op a w K Q else E := by
  have hw : Region.wanted op (yielded ops a.tmps) = true := by simp [Region.wanted, hgd]
  rw [if_pos hw]
  obtain ⟨A', g', o', c', w', hrun, h1, h2, h3⟩ := run_frow h hB op.type hr (cm := cm) hn
  unfold Oper.wp execOp
  simp only [ho, resolve, invoke, builtin, Sem.run_bind, Sem.run_pure, Result.andThen_ok, List.map_toArray, List.map_cons, List.map_nil, hs, hx, hrun]
  exact hK A' g' o' c' w' h1 h2 h3
end Go.Proofs.Ytlcjgldlblpboaa
