/- 7 texts in one: each says ahead of itself what is proved, and its conditions. -/
import Derived.Test.YthfbjfocmnikaaaGreatDoorDocLaw
import Derived.Test.YthfbjfocmnikaaaGreatDoorDocSpec
import Derived.Test.YthfbjfocmnikaaaGreatDoorOpenOps
import Derived.Test.YthfbjfocmnikaaaGreatDoorSame0
import Derived.Test.YthfbjfocmnikaaaGreatDoorSmall
/- A document in memory, and which blocks are its own. Plain lemmas. Conditions: none. -/
namespace Go.Proofs.YthfbjfocmnikaaaGreatDoor
open Go.RowKit
set_option linter.unusedVariables false
/-- Where the parts of a document lie. -/
structure DLay where
  a1 : Option Addr
  c1 : Nat
  a2 : Option Addr
  c2 : Nat
  a3 : Option Addr
  c3 : Nat
  a4 : Option Addr
  c4 : Nat
  r : Nat
  ys : List OpAt
def DLay.cells (D : DLay) (st : LDoc) : Array Value := #[.slice D.a1 st.book.length D.c1, .slice D.a2 st.marks.length D.c2, .slice D.a3 st.known.length D.c3, .slice D.a4 st.ops.length D.c4, .map (some D.r)]
/-- The document in block b reads as st; its blocks are the blocks S, all from B on. -/
structure DocIs (w : World) (B : Nat) (S : List Nat) (b : Nat) (st : LDoc) (D : DLay) : Prop where
  blk : Blk w b 127 (D.cells st)
  book : Own w B 115 3 D.a1 st.book.length D.c1 (lcells st.book)
  marks : Own w B 136 3 D.a2 st.marks.length D.c2 (mcells st.marks)
  known : Own w B 3 1 D.a3 st.known.length D.c3 (ints st.known)
  ops : Own w B 30 6 D.a4 st.ops.length D.c4 (ocells D.ys)
  same : D.ys.map OpAt.op = st.ops
  seen : ∀ y ∈ D.ys, Own w B 27 2 y.at_ y.op.seen.length y.cap (dcells y.op.seen)
  joined : MapAt w D.r JKey.val boolV st.joined
  sub1 : ∀ g ∈ ob D.a1, g ∈ S
  sub2 : ∀ g ∈ ob D.a2, g ∈ S
  sub3 : ∀ g ∈ ob D.a3, g ∈ S
  sub4 : ∀ g ∈ ob D.a4, g ∈ S
  subs : ∀ y ∈ D.ys, ∀ g ∈ ob y.at_, g ∈ S
  subb : b ∈ S
  subr : D.r ∈ S
  own : ∀ g ∈ S, B ≤ g ∧ g < w.heap.size
namespace DocIs
variable {w w' : World} {B : Nat} {S T : List Nat} {b : Nat} {st : LDoc} {D : DLay}
theorem only (h : DocIs w B S b st D) (ho : Only T w w') (hT : ∀ g ∈ T, g ∉ S) : DocIs w' B S b st D where
  blk := ho.blk h.blk (fun hm => hT _ hm h.subb)
  book := h.book.only ho (fun g hg hm => hT g hm (h.sub1 g hg))
  marks := h.marks.only ho (fun g hg hm => hT g hm (h.sub2 g hg))
  known := h.known.only ho (fun g hg hm => hT g hm (h.sub3 g hg))
  ops := h.ops.only ho (fun g hg hm => hT g hm (h.sub4 g hg))
  same := h.same
  seen := fun y hy => (h.seen y hy).only ho (fun g hg hm => hT g hm (h.subs y hy g hg))
  joined := h.joined.only ho (fun hm => hT _ hm h.subr)
  sub1 := h.sub1
  sub2 := h.sub2
  sub3 := h.sub3
  sub4 := h.sub4
  subs := h.subs
  subb := h.subb
  subr := h.subr
  own := fun g hg => ⟨(h.own g hg).1, Nat.lt_of_lt_of_le (h.own g hg).2 ho.size⟩
theorem below (h : DocIs w B S b st D) (hb : Below w.heap.size w w') : DocIs w' B S b st D := h.only (T := []) (Only.of_below hb) (by simp)
theorem ys_len (h : DocIs w B S b st D) : D.ys.length = st.ops.length := by rw [← h.same, List.length_map]
theorem rb (h : DocIs w B S b st D) : D.r ≠ b := h.joined.not_blk h.blk
/-- The map has been written. -/
theorem setMap (h : DocIs w B S b st D) (ho : Only [D.r] w w') {j : List (JKey × Bool)} (hj : MapAt w' D.r JKey.val boolV j) : DocIs w' B S b { st with joined := j } D where
  blk := ho.blk h.blk (by simpa using Ne.symm h.rb)
  book := h.book.only ho (fun g hg hm => h.joined.not_own h.book (by simp at hm; exact hm ▸ hg))
  marks := h.marks.only ho (fun g hg hm => h.joined.not_own h.marks (by simp at hm; exact hm ▸ hg))
  known := h.known.only ho (fun g hg hm => h.joined.not_own h.known (by simp at hm; exact hm ▸ hg))
  ops := h.ops.only ho (fun g hg hm => h.joined.not_own h.ops (by simp at hm; exact hm ▸ hg))
  same := h.same
  seen := fun y hy => (h.seen y hy).only ho (fun g hg hm => h.joined.not_own (h.seen y hy) (by simp at hm; exact hm ▸ hg))
  joined := hj
  sub1 := h.sub1
  sub2 := h.sub2
  sub3 := h.sub3
  sub4 := h.sub4
  subs := h.subs
  subb := h.subb
  subr := h.subr
  own := fun g hg => ⟨(h.own g hg).1, Nat.lt_of_lt_of_le (h.own g hg).2 ho.size⟩
theorem moved (h : DocIs w B S b st D) (p : Addr) (hp : p.block = b) (u : Value) : Only [b] w (w.setCell p u) := (Only.refl _ _).setCell (.inl (by simp [hp])) u
theorem keepL (h : DocIs w B S b st D) (ho : Only [b] w w') : Own w' B 115 3 D.a1 st.book.length D.c1 (lcells st.book) := h.book.only ho (fun g hg hm => h.book.blk_ne h.blk (by decide) (by simp at hm; exact hm ▸ hg))
theorem keepM (h : DocIs w B S b st D) (ho : Only [b] w w') : Own w' B 136 3 D.a2 st.marks.length D.c2 (mcells st.marks) := h.marks.only ho (fun g hg hm => h.marks.blk_ne h.blk (by decide) (by simp at hm; exact hm ▸ hg))
theorem keepK (h : DocIs w B S b st D) (ho : Only [b] w w') : Own w' B 3 1 D.a3 st.known.length D.c3 (ints st.known) := h.known.only ho (fun g hg hm => h.known.blk_ne h.blk (by decide) (by simp at hm; exact hm ▸ hg))
theorem keepO (h : DocIs w B S b st D) (ho : Only [b] w w') : Own w' B 30 6 D.a4 st.ops.length D.c4 (ocells D.ys) := h.ops.only ho (fun g hg hm => h.ops.blk_ne h.blk (by decide) (by simp at hm; exact hm ▸ hg))
theorem keepS (h : DocIs w B S b st D) (ho : Only [b] w w') : ∀ y ∈ D.ys, Own w' B 27 2 y.at_ y.op.seen.length y.cap (dcells y.op.seen) := fun y hy => (h.seen y hy).only ho (fun g hg hm => (h.seen y hy).blk_ne h.blk (by decide) (by simp at hm; exact hm ▸ hg))
/-- Another book has been laid. -/
theorem setBook (h : DocIs w B S b st D) {V : Option Addr} {c : Nat} {l : List LLeaf} (hV : Own w B 115 3 V l.length c (lcells l)) : DocIs (w.setCell ⟨b, 0, none⟩ (.slice V l.length c)) B (ob V ++ S) b { st with book := l } { D with a1 := V, c1 := c } := by
  have ho := h.moved ⟨b, 0, none⟩ rfl (.slice V l.length c)
  refine ⟨?_, hV.only ho (fun g hg hm => hV.blk_ne h.blk (by decide) (by simp at hm; exact hm ▸ hg)), h.keepM ho, h.keepK ho, h.keepO ho, h.same, h.keepS ho, h.joined.only ho (by simpa using h.rb), fun g hg => by simp [hg], fun g hg => by simp [h.sub2 g hg], fun g hg => by simp [h.sub3 g hg], fun g hg => by simp [h.sub4 g hg], fun y hy g hg => by simp [h.subs y hy g hg], by simp [h.subb], by simp [h.subr], fun g hg => ?_⟩
  · have := h.blk.set_ 0 (.slice V l.length c)
    exact this
  · rcases List.mem_append.1 hg with hg | hg
    · exact ⟨(hV.lt g hg).1, Nat.lt_of_lt_of_le (hV.lt g hg).2 ho.size⟩
    · exact ⟨(h.own g hg).1, Nat.lt_of_lt_of_le (h.own g hg).2 ho.size⟩
/-- Other marks have been laid. -/
theorem setMarks (h : DocIs w B S b st D) {V : Option Addr} {c : Nat} {l : List LMark} (hV : Own w B 136 3 V l.length c (mcells l)) : DocIs (w.setCell ⟨b, 1, none⟩ (.slice V l.length c)) B (ob V ++ S) b { st with marks := l } { D with a2 := V, c2 := c } := by
  have ho := h.moved ⟨b, 1, none⟩ rfl (.slice V l.length c)
  refine ⟨?_, h.keepL ho, hV.only ho (fun g hg hm => hV.blk_ne h.blk (by decide) (by simp at hm; exact hm ▸ hg)), h.keepK ho, h.keepO ho, h.same, h.keepS ho, h.joined.only ho (by simpa using h.rb), fun g hg => by simp [h.sub1 g hg], fun g hg => by simp [hg], fun g hg => by simp [h.sub3 g hg], fun g hg => by simp [h.sub4 g hg], fun y hy g hg => by simp [h.subs y hy g hg], by simp [h.subb], by simp [h.subr], fun g hg => ?_⟩
  · have := h.blk.set_ 1 (.slice V l.length c)
    exact this
  · rcases List.mem_append.1 hg with hg | hg
    · exact ⟨(hV.lt g hg).1, Nat.lt_of_lt_of_le (hV.lt g hg).2 ho.size⟩
    · exact ⟨(h.own g hg).1, Nat.lt_of_lt_of_le (h.own g hg).2 ho.size⟩
/-- Another vector has been laid. -/
theorem setKnown (h : DocIs w B S b st D) {V : Option Addr} {c : Nat} {l : List Int} (hV : Own w B 3 1 V l.length c (ints l)) : DocIs (w.setCell ⟨b, 2, none⟩ (.slice V l.length c)) B (ob V ++ S) b { st with known := l } { D with a3 := V, c3 := c } := by
  have ho := h.moved ⟨b, 2, none⟩ rfl (.slice V l.length c)
  refine ⟨?_, h.keepL ho, h.keepM ho, hV.only ho (fun g hg hm => hV.blk_ne h.blk (by decide) (by simp at hm; exact hm ▸ hg)), h.keepO ho, h.same, h.keepS ho, h.joined.only ho (by simpa using h.rb), fun g hg => by simp [h.sub1 g hg], fun g hg => by simp [h.sub2 g hg], fun g hg => by simp [hg], fun g hg => by simp [h.sub4 g hg], fun y hy g hg => by simp [h.subs y hy g hg], by simp [h.subb], by simp [h.subr], fun g hg => ?_⟩
  · have := h.blk.set_ 2 (.slice V l.length c)
    exact this
  · rcases List.mem_append.1 hg with hg | hg
    · exact ⟨(hV.lt g hg).1, Nat.lt_of_lt_of_le (hV.lt g hg).2 ho.size⟩
    · exact ⟨(h.own g hg).1, Nat.lt_of_lt_of_le (h.own g hg).2 ho.size⟩
/-- An op more: the row has been appended to, then it and another vector are laid. -/
theorem setOps (h : DocIs w B S b st D) {y : OpAt} (hy : Own w B 27 2 y.at_ y.op.seen.length y.cap (dcells y.op.seen)) {K : Option Addr} {ck : Nat} {kn : List Int} (hK : Own w B 3 1 K kn.length ck (ints kn)) {V : Option Addr} {c : Nat} {w1 w2 : World}
    (hV : Own w1 B 30 6 V (st.ops.length + 1) c (ocells D.ys ++ y.cells)) (ho1 : Only (ob D.a4) w w1) (ho2 : Only [b] w1 w2)
    (hb2 : Blk w2 b 127 (DLay.cells { D with a3 := K, c3 := ck, a4 := V, c4 := c, ys := D.ys ++ [y] } { st with known := kn, ops := st.ops ++ [y.op] })) :
    DocIs w2 B (ob K ++ (ob V ++ (ob y.at_ ++ S))) b { st with known := kn, ops := st.ops ++ [y.op] } { D with a3 := K, c3 := ck, a4 := V, c4 := c, ys := D.ys ++ [y] } := by
  have hb4 : b ∉ ob D.a4 := h.ops.blk_ne h.blk (by decide)
  have hb1 := ho1.blk h.blk hb4
  have ne4 : ∀ {e : TypeId} {sz n c : Nat} {A : Option Addr} {xs : List Value}, Own w B e sz A n c xs → e ≠ 30 → ∀ g ∈ ob A, g ∉ ob D.a4 := fun hO hne g hg hm => by
    have hh : ∃ cs, Blk w g 30 cs := by
      rcases h.ops.2 with ⟨h2, _⟩ | ⟨g', cap, cur, he, _, hh, _⟩
      · injection h2 with h2
        rw [h2] at hm; simp [ob] at hm
      · injection he with he
        rw [he] at hm; simp [ob] at hm; subst hm
        exact ⟨cur, hh⟩
    obtain ⟨cs, hh⟩ := hh
    exact hO.blk_ne hh hne hg
  have ho : Only (ob D.a4 ++ [b]) w w2 := (ho1.mono (by intro i hi; simp [hi])).trans (ho2.mono (by intro i hi; simp at hi; simp [hi]))
  have kp : ∀ {e : TypeId} {sz n c' : Nat} {A : Option Addr} {xs : List Value}, Own w B e sz A n c' xs → e ≠ 30 → e ≠ 127 → Own w2 B e sz A n c' xs := fun hO h1 h2 => hO.only ho (fun g hg hm => by
    rcases List.mem_append.1 hm with hm | hm
    · exact ne4 hO h1 g hg hm
    · exact hO.blk_ne h.blk h2 (by simp at hm; exact hm ▸ hg))
  refine ⟨hb2, kp h.book (by decide) (by decide), kp h.marks (by decide) (by decide), kp hK (by decide) (by decide), ?_, ?_, ?_, ?_, ?_, ?_, ?_, ?_, ?_, ?_, ?_, ?_⟩
  · have e : (st.ops ++ [y.op]).length = st.ops.length + 1 := by simp
    simp only [e]
    have : ocells (D.ys ++ [y]) = ocells D.ys ++ y.cells := by simp [ocells]
    rw [this]
    exact hV.only ho2 (fun g hg hm => hV.blk_ne hb1 (by decide) (by simp at hm; exact hm ▸ hg))
  · simp [h.same]
  · intro z hz
    rcases List.mem_append.1 hz with hz | hz
    · exact kp (h.seen z hz) (by decide) (by decide)
    · simp at hz; subst hz
      exact kp hy (by decide) (by decide)
  · refine h.joined.only ho (fun hm => ?_)
    rcases List.mem_append.1 hm with hm | hm
    · exact h.joined.not_own h.ops hm
    · simp at hm; exact h.rb hm
  · exact fun g hg => by simp [h.sub1 g hg]
  · exact fun g hg => by simp [h.sub2 g hg]
  · exact fun g hg => by simp only at hg; simp [hg]
  · exact fun g hg => by simp only at hg; simp [hg]
  · intro z hz g hg
    rcases List.mem_append.1 hz with hz | hz
    · simp [h.subs z hz g hg]
    · simp at hz; subst hz; simp [hg]
  · simp [h.subb]
  · simp [h.subr]
  · intro g hg
    have hsz := ho.size
    rcases List.mem_append.1 hg with hg | hg
    · exact ⟨(hK.lt g hg).1, Nat.lt_of_lt_of_le (hK.lt g hg).2 hsz⟩
    rcases List.mem_append.1 hg with hg | hg
    · exact ⟨(hV.lt g hg).1, Nat.lt_of_lt_of_le (hV.lt g hg).2 ho2.size⟩
    · rcases List.mem_append.1 hg with hg | hg
      · exact ⟨(hy.lt g hg).1, Nat.lt_of_lt_of_le (hy.lt g hg).2 hsz⟩
      · exact ⟨(h.own g hg).1, Nat.lt_of_lt_of_le (h.own g hg).2 hsz⟩
end DocIs
/-- A row that reads, not in the blocks that may turn. -/
theorem Reads.only {w w' : World} {S : List Nat} {size n : Nat} {A : Option Addr} {xs : List Value} (h : Reads w w.heap.size size A n xs) (ho : Only S w w') (hS : 0 < n → ∀ g ∈ ob A, g ∉ S) : Reads w' w'.heap.size size A n xs :=
  ⟨h.1, fun hn => by
    obtain ⟨ad, e, hb, hc⟩ := h.2 hn
    refine ⟨ad, e, Nat.lt_of_lt_of_le hb ho.size, fun j u hu => (ho.cell (by rw [block_of_add]; exact hb) ?_).trans (hc j u hu)⟩
    rw [block_of_add]
    exact hS hn _ (by rw [e]; simp [ob])⟩
/-- A row that lies further back is none of these blocks. -/
theorem Reads.far {w : World} {B : Nat} {S : List Nat} {size n : Nat} {A : Option Addr} {xs : List Value} (h : Reads w B size A n xs) (hS : ∀ g ∈ S, B ≤ g) (hn : 0 < n) : ∀ g ∈ ob A, g ∉ S := by
  obtain ⟨ad, e, hb, _⟩ := h.2 hn
  intro g hg hm
  rw [e] at hg
  simp [ob] at hg
  have := hS g hm
  omega
end Go.Proofs.YthfbjfocmnikaaaGreatDoor
/- The keys of the map of joined cuts, asked by the model. Conditions: none. -/
namespace Go.Proofs.YthfbjfocmnikaaaGreatDoor
open Go.RowKit
set_option linter.unusedVariables false
namespace JKey
theorem same_one {x0 y0 : ByteArray} {x1 y1 : Int} {x2 y2 : Int} : (x0.toList == y0.toList && (x1 == y1 && (x2 == y2))) = decide ((⟨x0, ⟨x1, x2⟩⟩ : JKey) = ⟨y0, ⟨y1, y2⟩⟩) := by
  rw [Bool.eq_iff_iff]
  simp only [Bool.and_eq_true, beq_iff_eq, decide_eq_true_eq, JKey.mk.injEq, LDot.mk.injEq, same_toList]
set_option maxRecDepth 100000 in
theorem eq_key (W : World) (a b : JKey) : (Op.equal 274 a.val b.val).run Tryz.prog W = .ok (decide (a = b)) W := by
  obtain ⟨x0, x1, x2⟩ := a
  obtain ⟨y0, y1, y2⟩ := b
  have ui := Tryz.underlying3
  have us := Tryz.underlying9
  have hDD : ∀ (a b c d : Int) (W : World), (Op.equalIn 9999 27 (.agg #[.int .i64 a, .int .i64 b]) (.agg #[.int .i64 c, .int .i64 d])).run Tryz.prog W = .ok (a == c && b == d) W := fun a b c d W => by
    have hD : Tryz.prog.underlying 27 = some (.struct (Tryz.prog.fieldsOf 27)) := by kernel_rfl
    have hpD : Tryz.prog.stoodInHeld 27 = false := by kernel_rfl
    rw [show (9999 : Nat) = 9998 + 1 from rfl, run_equalIn_agg W 9998 27 _ _ hD hpD]
    simp only [Program.fieldsOf, Tryz.underlying27]
    clear hD hpD
    go_simp
    by_cases h1 : a = c <;> by_cases h2 : b = d <;> simp [h1, h2]
  have haD := Tryz.isAgg27
  have hS : Tryz.prog.underlying 274 = some (.struct (Tryz.prog.fieldsOf 274)) := by kernel_rfl
  have hp : Tryz.prog.stoodInHeld 274 = false := by kernel_rfl
  rw [← same_one]
  unfold Op.equal Op.maxDepth JKey.val
  simp only
  rw [show (10000 : Nat) = 9999 + 1 from rfl, run_equalIn_agg W 9999 274 _ _ hS hp]
  simp only [Program.fieldsOf, Tryz.underlying274]
  go_simp
  by_cases h0 : x0.toList = y0.toList <;> by_cases h1 : x1 = y1 <;> by_cases h2 : x2 = y2 <;> simp [h0, h1, h2]
set_option maxRecDepth 100000 in
theorem check_key (W : World) (em : Bool) (a : JKey) : (Instr.checkKey em 10000 274 a.val).run Tryz.prog W = .ok () W := by
  obtain ⟨x0, x1, x2⟩ := a
  have ui := Tryz.underlying3
  have us := Tryz.underlying9
  have uD := Tryz.underlying27
  have uK := Tryz.underlying274
  have haD := Tryz.isAgg27
  have hI : ∀ (n : Nat) (k : Int), (Instr.checkKey em (n + 1) 3 (.int .i64 k)).run Tryz.prog W = .ok () W := fun n k => by simp [Instr.checkKey, run_underlying ui]
  have hT : ∀ (n : Nat) (k : ByteArray), (Instr.checkKey em (n + 1) 9 (.string k)).run Tryz.prog W = .ok () W := fun n k => by simp [Instr.checkKey, run_underlying us]
  have hD : ∀ (n : Nat) (a b : Int), (Instr.checkKey em (n + 1 + 1) 27 (.agg #[.int .i64 a, .int .i64 b])).run Tryz.prog W = .ok () W := fun n a b => by
    unfold Instr.checkKey
    simp only [Sem.run_bind, run_underlying uD, Result.andThen_ok]
    go_simp
  unfold JKey.val
  rw [show (10000 : Nat) = 9997 + 1 + 1 + 1 from rfl]
  unfold Instr.checkKey
  simp only [Sem.run_bind, run_underlying uK, Result.andThen_ok]
  go_simp
theorem bits_key (a : JKey) : Instr.sameBits 10000 a.val a.val = true := by
  rw [show (10000 : Nat) = 9999 + 1 from rfl]
  unfold JKey.val
  simp [Instr.sameBits]
  have h : ∀ x : ByteArray, (x == x) = true := fun x => by
    rcases x with ⟨⟨l⟩⟩
    show (ByteArray.beq _ _) = true
    simp [ByteArray.beq]
  exact h _
theorem keyOk : KeyOk Tryz.prog 274 JKey.val := KeyOk.of_wide (by simp only [Tryz.underlying274]) eq_key check_key bits_key
end JKey
end Go.Proofs.YthfbjfocmnikaaaGreatDoor
/- What an op does to the marks of a document: cut, walked. Conditions: the document is right. -/
namespace Go.Proofs.YthfbjfocmnikaaaGreatDoor
open Go.RowKit
set_option linter.unusedVariables false
theorem bsized {l : List LLeaf} (h : BookOk l) : Sized l := fun x hx => by have := place_small (h.leafs x hx).place; omega
theorem msized {l : List LMark} (h : MarksOk l) : MSized l := fun x hx => by
  have h1 := h.marks x hx
  unfold markErr at h1
  have : placeErr x.place = 0 := by
    by_cases h2 : placeErr x.place ≠ 0
    · rw [if_pos h2] at h1; exact h1
    · omega
  have := place_small this
  omega
/-- The document in b is another one now; what else turned is its own, or new. -/
def DocTo (w : World) (B : Nat) (S : List Nat) (b : Nat) (st : LDoc) (w' : World) : Prop := ∃ S' D', DocIs w' B S' b st D' ∧ Only S w w' ∧ ∀ g ∈ S', g ∈ S ∨ w.heap.size ≤ g
def TurnPost (w : World) (B : Nat) (S : List Nat) (b : Nat) (k : Int) (st : LDoc) (e : Ending) (w' : World) : Prop := e = .returned (errV k) ∧ DocTo w B S b st w'
theorem DocTo.same {w w' : World} {B : Nat} {S : List Nat} {b : Nat} {st : LDoc} {D : DLay} (h : DocIs w B S b st D) (hb : Below w.heap.size w w') : DocTo w B S b st w' :=
  ⟨S, D, h.below hb, Only.of_below hb, fun g hg => .inl hg⟩
theorem DocIs.drewN {w : World} {B : Nat} {S : List Nat} {b : Nat} {st : LDoc} {D : DLay} (h : DocIs w B S b st D) (n : Nat) : DocIs (w.drewN n) B S b st D := h.only (T := []) ((Only.refl [] w).drewN n) (by simp)
theorem DocIs.bS {w : World} {B : Nat} {S : List Nat} {b : Nat} {st : LDoc} {D : DLay} (h : DocIs w B S b st D) : B ≤ b ∧ b < w.heap.size := h.own b h.subb
theorem DocIs.size {w : World} {B : Nat} {S : List Nat} {b : Nat} {st : LDoc} {D : DLay} (h : DocIs w B S b st D) : B ≤ w.heap.size := by have := h.bS; omega
/-- A step of a document, seen from further back. -/
theorem DocTo.back {w w1 w' : World} {B : Nat} {S S1 : List Nat} {b : Nat} {st : LDoc} (ho : Only S w w1) (hs : ∀ g ∈ S1, g ∈ S ∨ w.heap.size ≤ g) (h : DocTo w1 B S1 b st w') : DocTo w B S b st w' := by
  obtain ⟨S', D', h1, h2, h3⟩ := h
  refine ⟨S', D', h1, ho.trans_new h2 hs, fun g hg => ?_⟩
  have := ho.size
  rcases h3 g hg with h4 | h4
  · exact hs g h4
  · exact .inr (by omega)
theorem DocIs.setMarks' {w w' : World} {B : Nat} {S : List Nat} {b : Nat} {st : LDoc} {D : DLay} (h : DocIs w B S b st D) (hb : Below w.heap.size w w') {V : Option Addr} {c : Nat} {l : List LMark} (hV : Own w' w.heap.size 136 3 V l.length c (mcells l)) :
    DocTo w B S b { st with marks := l } (w'.setCell ⟨b, 1, none⟩ (.slice V l.length c)) := by
  refine ⟨_, _, (h.below hb).setMarks (hV.mono h.size), (Only.of_below hb).setCell (.inl h.subb) _, fun g hg => ?_⟩
  rcases List.mem_append.1 hg with hg | hg
  · exact .inr (hV.lt g hg).1
  · exact .inl hg
theorem DocIs.setBook' {w w' : World} {B : Nat} {S : List Nat} {b : Nat} {st : LDoc} {D : DLay} (h : DocIs w B S b st D) (hb : Below w.heap.size w w') {V : Option Addr} {c : Nat} {l : List LLeaf} (hV : Own w' w.heap.size 115 3 V l.length c (lcells l)) :
    DocTo w B S b { st with book := l } (w'.setCell ⟨b, 0, none⟩ (.slice V l.length c)) := by
  refine ⟨_, _, (h.below hb).setBook (hV.mono h.size), (Only.of_below hb).setCell (.inl h.subb) _, fun g hg => ?_⟩
  rcases List.mem_append.1 hg with hg | hg
  · exact .inr (hV.lt g hg).1
  · exact .inl hg
theorem giveM_ok {k : Int} (h : k = 0) (l : List LMark) : giveM k l = l := if_pos h
theorem giveL_ok {k : Int} (h : k = 0) (l : List LLeaf) : giveL k l = l := if_pos h
theorem zero_bool (w : World) : (zeroValue 4).run Tryz.prog w = .ok (.bool false) w := by go_simp
/-- A box of an op, and the document beside it. -/
structure Beside (w : World) (B : Nat) (S : List Nat) (b : Nat) (st : LDoc) (D : DLay) (o : LOp) (A : Option Addr) (c : Nat) (W0 : World) : Prop where
  was : DocIs w B S b st D
  doc : DocIs W0 B S b st D
  box : Blk W0 w.heap.size 30 (o.cells A c)
  below : Below w.heap.size w W0
  size : W0.heap.size = w.heap.size + 1
theorem Beside.new {w : World} {B : Nat} {S : List Nat} {b : Nat} {st : LDoc} {D : DLay} (h : DocIs w B S b st D) (o : LOp) (A : Option Addr) (c : Nat) : Beside w B S b st D o A c (w.alloc (.cells (o.cells A c) 30)) :=
  ⟨h, h.below ((Below.refl _ _).alloc (Nat.le_refl _) _), Blk.new w _ _, (Below.refl _ _).alloc (Nat.le_refl _) _, by simp⟩
section
variable {w : World} {B : Nat} {S : List Nat} {b : Nat} {st : LDoc} {D : DLay} {o : LOp} {A : Option Addr} {c : Nat} {W0 : World}
theorem Beside.cells (h : Beside w B S b st D o A c W0) {W : World} (hb : Below W0.heap.size W0 W) :
    W.cell? ⟨b, 0, none⟩ = some (.slice D.a1 st.book.length D.c1) ∧ W.cell? ⟨b, 1, none⟩ = some (.slice D.a2 st.marks.length D.c2) ∧ W.cell? ⟨b, 2, none⟩ = some (.slice D.a3 st.known.length D.c3) ∧ W.cell? ⟨b, 3, none⟩ = some (.slice D.a4 st.ops.length D.c4) ∧ W.cell? ⟨b, 4, none⟩ = some (.map (some D.r)) ∧
    W.cell? ⟨w.heap.size, 0, none⟩ = some (.int .i64 o.dot.who) ∧ W.cell? ⟨w.heap.size, 1, none⟩ = some (.int .i64 o.dot.n) ∧ W.cell? ⟨w.heap.size, 2, none⟩ = some (.int .i64 o.what) ∧ W.cell? ⟨w.heap.size, 3, none⟩ = some (.string o.place) ∧ W.cell? ⟨w.heap.size, 4, none⟩ = some (.int .i64 o.letter) ∧ W.cell? ⟨w.heap.size, 5, none⟩ = some (.slice A o.seen.length c) := by
  have h1 := h.doc.blk.below hb h.doc.blk.lt
  have h2 := h.box.below hb h.box.lt
  refine ⟨?_, ?_, ?_, ?_, ?_, ?_, ?_, ?_, ?_, ?_, ?_⟩
  · rw [h1.cell]; rfl
  · rw [h1.cell]; rfl
  · rw [h1.cell]; rfl
  · rw [h1.cell]; rfl
  · rw [h1.cell]; rfl
  · rw [h2.cell]; rfl
  · rw [h2.cell]; rfl
  · rw [h2.cell]; rfl
  · rw [h2.cell]; rfl
  · rw [h2.cell]; rfl
  · rw [h2.cell]; rfl
theorem Beside.frozen (h : Beside w B S b st D o A c W0) {W : World} (hb : Below W0.heap.size W0 W) (i : Nat) : W.frozen? ⟨b, i, none⟩ = false := (h.doc.blk.below hb h.doc.blk.lt).frozen i
theorem Beside.back (h : Beside w B S b st D o A c W0) {W : World} (hb : Below W0.heap.size W0 W) : Below w.heap.size w W := h.below.trans (hb.mono (by have := h.size; omega))
theorem Beside.lt (h : Beside w B S b st D o A c W0) : b < w.heap.size ∧ w.heap.size < W0.heap.size := ⟨h.was.bS.2, by have := h.size; omega⟩
/-- The lookup of a cut. -/
theorem Beside.gone (h : Beside w B S b st D o A c W0) {W : World} (hb : Below W0.heap.size W0 W) : (Instr.lookup 125 (.map (some D.r)) (.agg #[.string o.place, .int .i64 o.dot.who, .int .i64 o.dot.n]) false).run Tryz.prog W = .ok (.bool (st.gone o)) W := by
  have := lookup_run JKey.keyOk Tryz.underlying125 zero_bool (h.doc.below hb).joined ⟨o.place, o.dot⟩
  unfold LDoc.gone
  cases hg : get (⟨o.place, o.dot⟩ : JKey) st.joined with
  | none => rw [hg] at this; exact this
  | some v => rw [hg] at this; exact this
end
set_option maxRecDepth 100000 in
set_option maxHeartbeats 2000000 in
theorem cut_doc (w : World) (B : Nat) (S : List Nat) (b : Nat) (st : LDoc) (D : DLay) (h : DocIs w B S b st D) (ok : st.Ok) (o : LOp) (A : Option Addr) (c : Nat) (hp : o.place.size ≤ 9223372036854775807) :
    Calls Tryz.prog 140 #[.pointer (some ⟨b, 0, none⟩), o.val A c] w (TurnPost w B S b (st.cutE o) (st.cut o)) := by
  obtain ⟨W0, hW0⟩ : ∃ W0, W0 = w.alloc (.cells (o.cells A c) 30) := ⟨_, rfl⟩
  have HB : Hid (Beside w B S b st D o A c W0) := by show Beside _ _ _ _ _ _ _ _ _ _; rw [hW0]; exact Beside.new h o A c
  have hl := fun k => HB.out.gone (below_drewN (Below.refl W0.heap.size W0) k)
  have hcut := fun W (hb : Below W0.heap.size W0 W) => cut_any W D.a2 D.c2 st.marks ⟨o.place, o.dot⟩ (HB.out.doc.below hb).marks.reads (msized ok.marks) (by have := ok.marks.few; omega) hp
  have HEE := Lib.hid (show st.cutE o = (if st.gone o = true then 0 else cutErr st.marks ⟨o.place, o.dot⟩) from rfl)
  have HCC := Lib.hid (show st.cut o = (if st.gone o = true then st else if cutErr st.marks ⟨o.place, o.dot⟩ = 0 then { st with marks := cutRes st.marks ⟨o.place, o.dot⟩ } else st) from rfl)
  have HC := Lib.hid hcut
  obtain ⟨hbs, hb0⟩ := HB.out.lt
  have HBR : Hid (Below W0.heap.size W0 W0) := Below.refl _ _
  generalize st.cutE o = ke at *
  generalize st.cut o = kt at *
  have HCEL := Lib.hid (fun W (hb : Below W0.heap.size W0 W) => HB.out.cells hb)
  have HFR := Lib.hid (fun W (hb : Below W0.heap.size W0 W) => HB.out.frozen hb)
  have HBK := Lib.hid (fun W (hb : Below W0.heap.size W0 W) => HB.out.back hb)
  have HBW := Lib.hid HB.out.below
  have HDW := Lib.hid h
  have HDO := Lib.hid HB.out.doc
  clear h ok hcut HB
  obtain ⟨⟨who, n⟩, what, p, letter, seen⟩ := o
  unfold LOp.val
  unfold LOp.cells at hW0
  simp only at *
  obtain ⟨c0, c1, c2, c3, c4, d0, d1, d2, d3, d4, d5⟩ := HCEL.out _ HBR.out
  cases hg : st.gone ⟨⟨who, n⟩, what, p, letter, seen⟩ with
  | true =>
    rw [hg] at hl HEE HCC
    clear hg HC
    go_enter Tryz.func140, Tryz.ntmps140
    go_wp2_with fail
    rw [← hW0]
    clear hW0
    go_quiet (fail)
    go_wp2_with fail
    go_ret
    exact ⟨by rw [HEE.out]; rfl, by rw [HCC.out]; exact DocTo.same HDW.out (below_drewN (HBK.out _ HBR.out) _)⟩
  | false =>
    rw [hg] at hl HEE HCC
    clear hg
    by_cases hk : cutErr st.marks ⟨p, ⟨who, n⟩⟩ = 0
    · rw [giveM_ok hk, hk] at HC
      rw [hk] at HEE HCC
      have HT : Hid (kt = { st with marks := cutRes st.marks ⟨p, ⟨who, n⟩⟩ }) := by rw [HCC.out]; rfl
      clear hk HCC
      go_enter Tryz.func140, Tryz.ntmps140
      go_wp2_with fail
      rw [← hW0]
      clear hW0
      go_quiet (fail)
      go_wp2_with fail
      go_region_held3 (fun w' => w'.cell? ⟨b, 1, none⟩ = some (.slice D.a2 st.marks.length D.c2) ∧ w'.cell? ⟨w.heap.size, 0, none⟩ = some (.int .i64 who) ∧ w'.cell? ⟨w.heap.size, 1, none⟩ = some (.int .i64 n) ∧ w'.cell? ⟨w.heap.size, 3, none⟩ = some (.string p))
        (first | go_keep | (refine ⟨?_, ?_, ?_, ?_⟩ <;> assumption))
        ((go_at_call 189; refine (HC.out _ (by first | exact HBR.out | exact below_drewN HBR.out _ | exact (below_drewN HBR.out _).drew)).mono ?_; rintro e w3 ⟨V, cV, rfl, hV, hb3⟩
          have HB3 : Hid (Below W0.heap.size W0 w3) := below_of_drewN (B := W0.heap.size) hb3
          obtain ⟨e0, e1, e2, e3, e4, f0, f1, f2, f3, f4, f5⟩ := HCEL.out _ HB3.out
          have HV3 : Hid (Own w3 W0.heap.size 136 3 V (cutRes st.marks ⟨p, ⟨who, n⟩⟩).length cV (mcells (cutRes st.marks ⟨p, ⟨who, n⟩⟩))) := hV
          clear hb3 hV))
      rw [show errV 0 = .nilIface from rfl]
      have fz := HFR.out _ HB3.out 1
      go_wp2_with fail
      go_ret
      refine ⟨by rw [HEE.out]; rfl, ?_⟩
      rw [HT.out]
      exact DocTo.back (Only.of_below HBW.out) (fun g hg => .inl hg) (DocIs.setMarks' HDO.out HB3.out HV3.out)
    · rw [giveM_bad hk] at HC
      have HT : Hid (kt = st) := by rw [HCC.out, if_neg (by decide), if_neg hk]; rfl
      have HK : Hid (errV ke = .iface 119 (.int .i64 (cutErr st.marks ⟨p, ⟨who, n⟩⟩))) := by rw [HEE.out, if_neg (by decide)]; exact errV_ne hk
      have HKV := Lib.hid (errV_ne hk)
      clear hk HCC HEE
      go_enter Tryz.func140, Tryz.ntmps140
      go_wp2_with fail
      rw [← hW0]
      clear hW0
      go_quiet (fail)
      go_wp2_with fail
      go_region_held3 (fun w' => w'.cell? ⟨b, 1, none⟩ = some (.slice D.a2 st.marks.length D.c2) ∧ w'.cell? ⟨w.heap.size, 0, none⟩ = some (.int .i64 who) ∧ w'.cell? ⟨w.heap.size, 1, none⟩ = some (.int .i64 n) ∧ w'.cell? ⟨w.heap.size, 3, none⟩ = some (.string p))
        (first | go_keep | (refine ⟨?_, ?_, ?_, ?_⟩ <;> assumption))
        ((go_at_call 189; refine (HC.out _ (by first | exact HBR.out | exact below_drewN HBR.out _ | exact (below_drewN HBR.out _).drew)).mono ?_; rintro e w3 ⟨V, cV, rfl, hV, hb3⟩
          have HB3 : Hid (Below W0.heap.size W0 w3) := below_of_drewN (B := W0.heap.size) hb3
          obtain ⟨e0, e1, e2, e3, e4, f0, f1, f2, f3, f4, f5⟩ := HCEL.out _ HB3.out
          clear hb3 hV))
      rw [HKV.out]
      go_wp2_with fail
      go_ret
      exact ⟨by rw [HK.out]; rfl, by rw [HT.out]; exact DocTo.same HDW.out (HBK.out _ HB3.out)⟩
end Go.Proofs.YthfbjfocmnikaaaGreatDoor
/- What an op does to the marks of a document: joined, walked. Conditions: the document is right. -/
namespace Go.Proofs.YthfbjfocmnikaaaGreatDoor
open Go.RowKit
set_option linter.unusedVariables false
theorem insAll_succ (p : ByteArray) (j : List (JKey × Bool)) (l : List LDot) {k : Nat} (hk : k < l.length) : LDoc.insAll p j (l.take (k + 1)) = ins ⟨p, l[k]⟩ true (LDoc.insAll p j (l.take k)) := by
  unfold LDoc.insAll
  rw [List.take_succ_eq_append_getElem hk, List.foldl_append]
  rfl
theorem DocIs.setMap' {w w' : World} {B : Nat} {S : List Nat} {b : Nat} {st : LDoc} {D : DLay} (h : DocIs w B S b st D) (ho : Only [D.r] w w') {j : List (JKey × Bool)} (hj : MapAt w' D.r JKey.val boolV j) : DocTo w B S b { st with joined := j } w' :=
  ⟨S, D, h.setMap ho hj, ho.mono (fun i hi => by simp at hi; subst hi; exact .inl h.subr), fun g hg => .inl hg⟩
/-- Rounds of the walk through what a join saw. -/
def JoinLoop (W0 : World) (B : Nat) (S : List Nat) (b : Nat) (st : LDoc) (o : LOp) (i : Value) (wr : World) : Prop :=
  ∃ k : Nat, k ≤ o.seen.length ∧ i = .int .i64 k ∧ Hid (DocTo W0 B S b { st with marks := joinRes st.marks o.place o.seen, joined := LDoc.insAll o.place st.joined (o.seen.take k) } wr)
set_option maxRecDepth 100000 in
set_option maxHeartbeats 4000000 in
theorem join_doc (w : World) (B : Nat) (S : List Nat) (b : Nat) (st : LDoc) (D : DLay) (h : DocIs w B S b st D) (ok : st.Ok) (o : LOp) (A : Option Addr) (c : Nat) (hp : o.place.size ≤ 9223372036854775807)
    (hr : Reads w w.heap.size 2 A o.seen.length (dcells o.seen)) (hn : o.seen.length ≤ 9223372036854775807) (hns : 0 < o.seen.length → ∀ g ∈ ob A, g ∉ S) :
    Calls Tryz.prog 141 #[.pointer (some ⟨b, 0, none⟩), o.val A c] w (TurnPost w B S b (st.joinE o) (st.join o)) := by
  obtain ⟨W0, hW0⟩ : ∃ W0, W0 = w.alloc (.cells (o.cells A c) 30) := ⟨_, rfl⟩
  have HB : Hid (Beside w B S b st D o A c W0) := by show Beside _ _ _ _ _ _ _ _ _ _; rw [hW0]; exact Beside.new h o A c
  have HRS : Hid (Reads W0 W0.heap.size 2 A o.seen.length (dcells o.seen)) := (hr.below HB.out.below).more HB.out.below.size
  have hcut := fun W (hb : Below W0.heap.size W0 W) => join_any W D.a2 D.c2 st.marks o.place A c o.seen (HB.out.doc.below hb).marks.reads (msized ok.marks) (by have := ok.marks.few; omega) hp ((HRS.out.below hb).more hb.size) hn
  have HEE := Lib.hid (show st.joinE o = joinErr st.marks o.place o.seen from rfl)
  have HCC := Lib.hid (show st.join o = (if st.joinE o = 0 then { st with marks := joinRes st.marks o.place o.seen, joined := LDoc.insAll o.place st.joined o.seen } else st) from rfl)
  have HC := Lib.hid hcut
  obtain ⟨hbs, hb0⟩ := HB.out.lt
  have HBR : Hid (Below W0.heap.size W0 W0) := Below.refl _ _
  have HBOX : Hid (∀ W, Only S W0 W → Blk W w.heap.size 30 (o.cells A c)) := fun W ho => ho.blk HB.out.box (fun hm => by have := (h.own _ hm).2; omega)
  have HNS := Lib.hid hns
  generalize st.joinE o = ke at *
  generalize st.join o = kt at *
  have HCEL := Lib.hid (fun W (hb : Below W0.heap.size W0 W) => HB.out.cells hb)
  have HFR := Lib.hid (fun W (hb : Below W0.heap.size W0 W) => HB.out.frozen hb)
  have HBK := Lib.hid (fun W (hb : Below W0.heap.size W0 W) => HB.out.back hb)
  have HBW := Lib.hid HB.out.below
  have HDW := Lib.hid h
  have HDO := Lib.hid HB.out.doc
  have HOWN : Hid (∀ g ∈ S, g < w.heap.size) := fun g hg => (h.own g hg).2
  clear h ok hcut HB hr hns
  obtain ⟨⟨who, n⟩, what, p, letter, seen⟩ := o
  unfold LOp.val
  unfold LOp.cells at hW0 HBOX
  simp only at *
  obtain ⟨c0, c1, c2, c3, c4, d0, d1, d2, d3, d4, d5⟩ := HCEL.out _ HBR.out
  by_cases hk : joinErr st.marks p seen = 0
  · rw [giveM_ok hk, hk] at HC
    rw [hk] at HEE
    have HT : Hid (kt = { st with marks := joinRes st.marks p seen, joined := LDoc.insAll p st.joined seen }) := by rw [HCC.out, HEE.out]; rfl
    clear hk HCC
    go_enter Tryz.func141, Tryz.ntmps141
    go_wp2_with fail
    rw [← hW0]
    clear hW0
    go_region_held3 (fun w' => w'.cell? ⟨b, 1, none⟩ = some (.slice D.a2 st.marks.length D.c2) ∧ w'.cell? ⟨w.heap.size, 3, none⟩ = some (.string p) ∧ w'.cell? ⟨w.heap.size, 5, none⟩ = some (.slice A seen.length c))
      (first | go_keep | (refine ⟨?_, ?_, ?_⟩ <;> assumption))
      ((go_at_call 190; refine (HC.out _ (by first | exact HBR.out | exact below_drewN HBR.out _ | exact HBR.out.drew)).mono ?_; rintro e w3 ⟨V, cV, rfl, hV, hb3⟩
        have HB3 : Hid (Below W0.heap.size W0 w3) := by first | exact hb3 | exact below_of_drewN (B := W0.heap.size) (n := 1) hb3
        have HV3 : Hid (Own w3 W0.heap.size 136 3 V (joinRes st.marks p seen).length cV (mcells (joinRes st.marks p seen))) := hV
        obtain ⟨e0, e1, e2, e3, e4, f0, f1, f2, f3, f4, f5⟩ := HCEL.out _ HB3.out
        clear hb3 hV))
    rw [show errV 0 = .nilIface from rfl]
    have fz := HFR.out _ HB3.out 1
    have HM3 := Lib.hid (DocIs.setMarks' HDO.out HB3.out HV3.out)
    have hbx : (⟨w.heap.size, 5, none⟩ : Addr) ≠ ⟨b, 1, none⟩ := by intro h; injection h; omega
    go_wp2_with fail
    go_loopw [31] (fun i wr => JoinLoop W0 B S b st ⟨⟨who, n⟩, what, p, letter, seen⟩ i wr) (fun i _ => seen.length - (intOf i).toNat)
    case atStart => exact ⟨0, Nat.zero_le _, rfl, HM3.out⟩
    case round =>
      obtain ⟨k, hk, rfl, HD⟩ := hrel
      simp only at hk
      by_cases hkn : k < seen.length
      · obtain ⟨S1, D1, HD1, HO1, HS1⟩ := HD.out
        have hbx1 := HBOX.out _ HO1
        have HR1 : Reads wr wr.heap.size 2 A seen.length (dcells seen) := HRS.out.only HO1 HNS.out
        obtain ⟨ad, rfl, hb, x0, x1⟩ := HR1.dot hkn
        have hlt : (k : Int) < (seen.length : Int) := by omega
        have hk0 : (0 : Int) ≤ (k : Int) := by omega
        have hmap := insAll_succ p st.joined seen hkn
        generalize seen[k] = x at *
        obtain ⟨x0', x1'⟩ := x
        simp only at x0 x1 hmap
        obtain ⟨WX, hWX⟩ : ∃ WX, WX = wr.alloc (.cells #[.int .i64 x0', .int .i64 x1'] 27) := ⟨_, rfl⟩
        have hbX : Below wr.heap.size wr WX := by rw [hWX]; exact (Below.refl _ _).alloc (Nat.le_refl _) _
        have hDX := HD1.below hbX
        obtain ⟨wu, hwu⟩ : ∃ wu : Nat → World, ∀ m, (Instr.mapUpdate 125 (.map (some D1.r)) (.agg #[.string p, .int .i64 x0', .int .i64 x1']) (.bool true)).run Tryz.prog (WX.drewN m) = .ok () (wu m) ∧
            MapAt (wu m) D1.r JKey.val boolV (ins ⟨p, ⟨x0', x1'⟩⟩ true (LDoc.insAll p st.joined (seen.take k))) ∧ Only [D1.r] (WX.drewN m) (wu m) :=
          ⟨fun m => Classical.choose (update_run JKey.keyOk Tryz.underlying125 (hDX.drewN m).joined ⟨p, ⟨x0', x1'⟩⟩ true), fun m => Classical.choose_spec (update_run JKey.keyOk Tryz.underlying125 (hDX.drewN m).joined ⟨p, ⟨x0', x1'⟩⟩ true)⟩
        have hu1 : (Instr.mapUpdate 125 (.map (some D1.r)) (.agg #[.string p, .int .i64 x0', .int .i64 x1']) (.bool true)).run Tryz.prog WX.drew = .ok () (wu 1) := (hwu 1).1
        have HU := Lib.hid (hwu 1).2
        generalize wu 1 = wv at *
        have HDX := Lib.hid hDX
        have hw4 : WX.cell? ⟨b, 4, none⟩ = some (.map (some D1.r)) := by rw [hDX.blk.cell]; rfl
        have hw3 : WX.cell? ⟨w.heap.size, 3, none⟩ = some (.string p) := by rw [(hbx1.below hbX hbx1.lt).cell]; rfl
        have hx0 : WX.cell? ⟨wr.heap.size, 0, none⟩ = some (.int .i64 x0') := by rw [hWX, (Blk.new wr _ _).cell]; rfl
        have hx1 : WX.cell? ⟨wr.heap.size, 1, none⟩ = some (.int .i64 x1') := by rw [hWX, (Blk.new wr _ _).cell]; rfl
        have HBX := Lib.hid hbX
        have HO1' := Lib.hid HO1
        have HS1' := Lib.hid HS1
        have HM := Lib.hid hmap
        clear hwu hDX hbX hbx1 HO1 HS1 hmap HD HR1 hk
        go_wp2_with fail
        rw [← hWX]
        clear hWX
        go_region
        all_goals
          go_wp2_with fail
          go_roundw
          case rel =>
            refine ⟨k + 1, by simp only; omega, by go_num, ?_⟩
            show DocTo _ _ _ _ _ _
            rw [HM.out]
            exact DocTo.back ((HO1'.out.below_step HBX.out).drewN 1) HS1'.out ((HDX.out.drewN 1).setMap' HU.out.2 HU.out.1)
          case measure => simp [intOf]; omega
      · have hd : decide ((k : Int) < (seen.length : Int)) = false := by simp; omega
        have hke : k = seen.length := by omega
        subst hke
        have HD2 := Lib.hid (DocTo.back (Only.of_below HBW.out) (fun g hg => .inl hg) HD.out)
        rw [List.take_length] at HD2
        clear HD
        go_wp2_with fail
        go_ret
        exact ⟨by rw [HEE.out]; rfl, by rw [HT.out]; exact HD2.out⟩
  · rw [giveM_bad hk] at HC
    have HT : Hid (kt = st) := by rw [HCC.out, HEE.out, if_neg hk]; rfl
    have HK : Hid (errV ke = .iface 119 (.int .i64 (joinErr st.marks p seen))) := by rw [HEE.out]; exact errV_ne hk
    have HKV := Lib.hid (errV_ne hk)
    clear hk HCC HEE
    go_enter Tryz.func141, Tryz.ntmps141
    go_wp2_with fail
    rw [← hW0]
    clear hW0
    go_region_held3 (fun w' => w'.cell? ⟨b, 1, none⟩ = some (.slice D.a2 st.marks.length D.c2) ∧ w'.cell? ⟨w.heap.size, 3, none⟩ = some (.string p) ∧ w'.cell? ⟨w.heap.size, 5, none⟩ = some (.slice A seen.length c))
      (first | go_keep | (refine ⟨?_, ?_, ?_⟩ <;> assumption))
      ((go_at_call 190; refine (HC.out _ (by first | exact HBR.out | exact below_drewN HBR.out _ | exact HBR.out.drew)).mono ?_; rintro e w3 ⟨V, cV, rfl, hV, hb3⟩
        have HB3 : Hid (Below W0.heap.size W0 w3) := by first | exact hb3 | exact below_of_drewN (B := W0.heap.size) (n := 1) hb3
        obtain ⟨e0, e1, e2, e3, e4, f0, f1, f2, f3, f4, f5⟩ := HCEL.out _ HB3.out
        clear hb3 hV))
    rw [HKV.out]
    go_wp2_with fail
    go_ret
    exact ⟨by rw [HK.out]; rfl, by rw [HT.out]; exact DocTo.same HDW.out (HBK.out _ HB3.out)⟩
end Go.Proofs.YthfbjfocmnikaaaGreatDoor
/- What an op does to a document, walked. Conditions: the document is right, the op is right. -/
namespace Go.Proofs.YthfbjfocmnikaaaGreatDoor
open Go.RowKit
set_option linter.unusedVariables false
namespace LDoc
theorem turn_same {d : LDoc} {o : LOp} (h : d.turnE o ≠ 0) : d.turn o = d := by
  unfold turnE at h
  unfold turn
  by_cases h1 : o.what = 1
  · rw [if_pos h1] at h; rw [if_pos h1, if_neg h]
  rw [if_neg h1] at h
  rw [if_neg h1]
  by_cases h2 : o.what = 2
  · rw [if_pos h2] at h; rw [if_pos h2, if_neg h]
  rw [if_neg h2] at h
  rw [if_neg h2]
  by_cases h3 : o.what = 3
  · rw [if_pos h3] at h
    rw [if_pos h3]
    unfold cutE at h
    unfold cut
    by_cases hg : d.gone o = true
    · rw [if_pos hg] at h; exact absurd rfl h
    · rw [if_neg hg] at h; rw [if_neg hg, if_neg h]
  rw [if_neg h3] at h
  rw [if_neg h3]
  by_cases h4 : o.what = 4
  · rw [if_pos h4] at h
    rw [if_pos h4]
    unfold join
    rw [if_neg h]
  · rw [if_neg h4] at h; exact absurd rfl h
end LDoc
set_option maxRecDepth 100000 in
set_option maxHeartbeats 4000000 in
theorem turn_doc (w : World) (B : Nat) (S : List Nat) (b : Nat) (st : LDoc) (D : DLay) (h : DocIs w B S b st D) (ok : st.Ok) (o : LOp) (A : Option Addr) (c : Nat) (hp : opErr o = 0)
    (hr : Reads w w.heap.size 2 A o.seen.length (dcells o.seen)) (hns : 0 < o.seen.length → ∀ g ∈ ob A, g ∉ S) :
    Calls Tryz.prog 84 #[.pointer (some ⟨b, 0, none⟩), o.val A c] w (TurnPost w B S b (st.turnE o) (st.turn o)) := by
  obtain ⟨W0, hW0⟩ : ∃ W0, W0 = w.alloc (.cells (o.cells A c) 30) := ⟨_, rfl⟩
  have HB : Hid (Beside w B S b st D o A c W0) := by show Beside _ _ _ _ _ _ _ _ _ _; rw [hW0]; exact Beside.new h o A c
  obtain ⟨q1, hwh, hpl, hlt, q5, q6, hsl, q8⟩ := op_ok hp
  have hps := place_small hpl
  have HRS : Hid (Reads W0 W0.heap.size 2 A o.seen.length (dcells o.seen)) := (hr.below HB.out.below).more HB.out.below.size
  have hfew := ok.book.few
  have HCW := Lib.hid (fun W (hb : Below W0.heap.size W0 W) => write_any W D.a1 D.c1 st.book o.place o.letter (HB.out.doc.below hb).book.reads (bsized ok.book) (by omega) (by omega))
  have HCS := Lib.hid (fun W (hb : Below W0.heap.size W0 W) => strike_any W D.a1 D.c1 st.book o.place (HB.out.doc.below hb).book.reads (bsized ok.book) (by omega) (by omega))
  have HCC := Lib.hid (fun W (hb : Below W0.heap.size W0 W) => cut_doc W B S b st D (HB.out.doc.below hb) ok o A c (by omega))
  have HCJ := Lib.hid (fun W (hb : Below W0.heap.size W0 W) => join_doc W B S b st D (HB.out.doc.below hb) ok o A c (by omega) ((HRS.out.below hb).more hb.size) (by omega) hns)
  obtain ⟨hbs, hb0⟩ := HB.out.lt
  have HBR : Hid (Below W0.heap.size W0 W0) := Below.refl _ _
  have HCEL := Lib.hid (fun W (hb : Below W0.heap.size W0 W) => HB.out.cells hb)
  have HFR := Lib.hid (fun W (hb : Below W0.heap.size W0 W) => HB.out.frozen hb)
  have HBK := Lib.hid (fun W (hb : Below W0.heap.size W0 W) => HB.out.back hb)
  have HBW := Lib.hid HB.out.below
  have HDW := Lib.hid h
  have HDO := Lib.hid HB.out.doc
  have HE1 : Hid (o.what = 1 → st.turnE o = writeErr st.book o.place o.letter ∧ (writeErr st.book o.place o.letter = 0 → st.turn o = { st with book := writeRes st.book o.place o.letter })) := fun h1 =>
    ⟨by unfold LDoc.turnE; rw [if_pos h1], fun h2 => by unfold LDoc.turn; rw [if_pos h1, if_pos h2]⟩
  have HE2 : Hid (o.what = 2 → st.turnE o = strikeErr st.book o.place ∧ (strikeErr st.book o.place = 0 → st.turn o = { st with book := strikeRes st.book o.place })) := fun h1 =>
    ⟨by unfold LDoc.turnE; rw [if_neg (by omega), if_pos h1], fun h2 => by unfold LDoc.turn; rw [if_neg (by omega), if_pos h1, if_pos h2]⟩
  have HE3 : Hid (o.what = 3 → st.turnE o = st.cutE o ∧ st.turn o = st.cut o) := fun h1 =>
    ⟨by unfold LDoc.turnE; rw [if_neg (by omega), if_neg (by omega), if_pos h1], by unfold LDoc.turn; rw [if_neg (by omega), if_neg (by omega), if_pos h1]⟩
  have HE4 : Hid (o.what = 4 → st.turnE o = st.joinE o ∧ st.turn o = st.join o) := fun h1 =>
    ⟨by unfold LDoc.turnE; rw [if_neg (by omega), if_neg (by omega), if_neg (by omega), if_pos h1], by unfold LDoc.turn; rw [if_neg (by omega), if_neg (by omega), if_neg (by omega), if_pos h1]⟩
  have HTS : Hid (st.turnE o ≠ 0 → st.turn o = st) := LDoc.turn_same
  generalize st.turnE o = ke at *
  generalize st.turn o = kt at *
  generalize st.cutE o = ce at *
  generalize st.cut o = ct at *
  generalize st.joinE o = je at *
  generalize st.join o = jt at *
  clear h ok HB hr hns hp hpl hlt hps hsl hfew q1 q5 q6 q8
  obtain ⟨⟨who, n⟩, what, p, letter, seen⟩ := o
  unfold LOp.val at *
  unfold LOp.cells at hW0
  simp only at *
  obtain ⟨c0, c1, c2, c3, c4, d0, d1, d2, d3, d4, d5⟩ := HCEL.out _ HBR.out
  rcases (show what = 1 ∨ what = 2 ∨ what = 3 ∨ what = 4 by omega) with hw | hw | hw | hw
  · subst hw
    clear HCS HCC HCJ HE2 HE3 HE4 hwh
    obtain ⟨hk1, hk2⟩ := HE1.out rfl
    by_cases hk : writeErr st.book p letter = 0
    · rw [giveL_ok hk, hk] at HCW
      have HT := Lib.hid (hk2 hk)
      have HK := Lib.hid (hk1.trans hk)
      clear hk hk1 hk2 HE1 HTS
      go_enter Tryz.func84, Tryz.ntmps84
      go_wp2_with fail
      rw [← hW0]
      clear hW0
      go_region_held3 (fun w' => w'.cell? ⟨b, 0, none⟩ = some (.slice D.a1 st.book.length D.c1) ∧ w'.cell? ⟨w.heap.size, 3, none⟩ = some (.string p) ∧ w'.cell? ⟨w.heap.size, 4, none⟩ = some (.int .i64 letter))
        (first | go_keep | (refine ⟨?_, ?_, ?_⟩ <;> assumption))
        ((go_at_call 142; refine (HCW.out _ (by first | exact HBR.out | exact below_drewN HBR.out _ | exact HBR.out.drew)).mono ?_; rintro e w3 ⟨V, cV, rfl, hV, hb3⟩
          have HB3 : Hid (Below W0.heap.size W0 w3) := by first | exact hb3 | exact below_of_drewN (B := W0.heap.size) (n := 1) hb3
          have HV3 : Hid (Own w3 W0.heap.size 115 3 V (writeRes st.book p letter).length cV (lcells (writeRes st.book p letter))) := hV
          obtain ⟨e0, e1, e2, e3, e4, f0, f1, f2, f3, f4, f5⟩ := HCEL.out _ HB3.out
          clear hb3 hV))
      rw [show errV 0 = .nilIface from rfl]
      have fz := HFR.out _ HB3.out 0
      have HM3 := Lib.hid (DocTo.back (Only.of_below HBW.out) (fun g hg => .inl hg) (DocIs.setBook' HDO.out HB3.out HV3.out))
      go_wp2_with fail
      go_ret
      exact ⟨by rw [HK.out]; rfl, by rw [HT.out]; exact HM3.out⟩
    · rw [giveL_bad hk] at HCW
      have HKV := Lib.hid (errV_ne hk)
      have HK : Hid (errV ke = .iface 119 (.int .i64 (writeErr st.book p letter))) := by rw [hk1]; exact errV_ne hk
      have HT := Lib.hid (HTS.out (by rw [hk1]; exact hk))
      clear hk hk1 hk2 HE1 HTS
      go_enter Tryz.func84, Tryz.ntmps84
      go_wp2_with fail
      rw [← hW0]
      clear hW0
      go_region_held3 (fun w' => w'.cell? ⟨b, 0, none⟩ = some (.slice D.a1 st.book.length D.c1) ∧ w'.cell? ⟨w.heap.size, 3, none⟩ = some (.string p) ∧ w'.cell? ⟨w.heap.size, 4, none⟩ = some (.int .i64 letter))
        (first | go_keep | (refine ⟨?_, ?_, ?_⟩ <;> assumption))
        ((go_at_call 142; refine (HCW.out _ (by first | exact HBR.out | exact below_drewN HBR.out _ | exact HBR.out.drew)).mono ?_; rintro e w3 ⟨V, cV, rfl, hV, hb3⟩
          have HB3 : Hid (Below W0.heap.size W0 w3) := by first | exact hb3 | exact below_of_drewN (B := W0.heap.size) (n := 1) hb3
          obtain ⟨e0, e1, e2, e3, e4, f0, f1, f2, f3, f4, f5⟩ := HCEL.out _ HB3.out
          clear hb3 hV))
      rw [HKV.out]
      go_wp2_with fail
      go_ret
      exact ⟨by rw [HK.out]; rfl, by rw [HT.out]; exact DocTo.same HDW.out (HBK.out _ HB3.out)⟩
  · subst hw
    clear HCW HCC HCJ HE1 HE3 HE4 hwh
    obtain ⟨hk1, hk2⟩ := HE2.out rfl
    by_cases hk : strikeErr st.book p = 0
    · rw [giveL_ok hk, hk] at HCS
      have HT := Lib.hid (hk2 hk)
      have HK := Lib.hid (hk1.trans hk)
      clear hk hk1 hk2 HE2 HTS
      go_enter Tryz.func84, Tryz.ntmps84
      go_wp2_with fail
      rw [← hW0]
      clear hW0
      go_region_held3 (fun w' => w'.cell? ⟨b, 0, none⟩ = some (.slice D.a1 st.book.length D.c1) ∧ w'.cell? ⟨w.heap.size, 3, none⟩ = some (.string p))
        (first | go_keep | (refine ⟨?_, ?_⟩ <;> assumption))
        ((go_at_call 143; refine (HCS.out _ (by first | exact HBR.out | exact below_drewN HBR.out _ | exact HBR.out.drew)).mono ?_; rintro e w3 ⟨V, cV, rfl, hV, hb3⟩
          have HB3 : Hid (Below W0.heap.size W0 w3) := by first | exact hb3 | exact below_of_drewN (B := W0.heap.size) (n := 1) hb3
          have HV3 : Hid (Own w3 W0.heap.size 115 3 V (strikeRes st.book p).length cV (lcells (strikeRes st.book p))) := hV
          obtain ⟨e0, e1, e2, e3, e4, f0, f1, f2, f3, f4, f5⟩ := HCEL.out _ HB3.out
          clear hb3 hV))
      rw [show errV 0 = .nilIface from rfl]
      have fz := HFR.out _ HB3.out 0
      have HM3 := Lib.hid (DocTo.back (Only.of_below HBW.out) (fun g hg => .inl hg) (DocIs.setBook' HDO.out HB3.out HV3.out))
      go_wp2_with fail
      go_ret
      exact ⟨by rw [HK.out]; rfl, by rw [HT.out]; exact HM3.out⟩
    · rw [giveL_bad hk] at HCS
      have HKV := Lib.hid (errV_ne hk)
      have HK : Hid (errV ke = .iface 119 (.int .i64 (strikeErr st.book p))) := by rw [hk1]; exact errV_ne hk
      have HT := Lib.hid (HTS.out (by rw [hk1]; exact hk))
      clear hk hk1 hk2 HE2 HTS
      go_enter Tryz.func84, Tryz.ntmps84
      go_wp2_with fail
      rw [← hW0]
      clear hW0
      go_region_held3 (fun w' => w'.cell? ⟨b, 0, none⟩ = some (.slice D.a1 st.book.length D.c1) ∧ w'.cell? ⟨w.heap.size, 3, none⟩ = some (.string p))
        (first | go_keep | (refine ⟨?_, ?_⟩ <;> assumption))
        ((go_at_call 143; refine (HCS.out _ (by first | exact HBR.out | exact below_drewN HBR.out _ | exact HBR.out.drew)).mono ?_; rintro e w3 ⟨V, cV, rfl, hV, hb3⟩
          have HB3 : Hid (Below W0.heap.size W0 w3) := by first | exact hb3 | exact below_of_drewN (B := W0.heap.size) (n := 1) hb3
          obtain ⟨e0, e1, e2, e3, e4, f0, f1, f2, f3, f4, f5⟩ := HCEL.out _ HB3.out
          clear hb3 hV))
      rw [HKV.out]
      go_wp2_with fail
      go_ret
      exact ⟨by rw [HK.out]; rfl, by rw [HT.out]; exact DocTo.same HDW.out (HBK.out _ HB3.out)⟩
  · subst hw
    obtain ⟨hk1, hk2⟩ := HE3.out rfl
    have HK := Lib.hid hk1
    have HT := Lib.hid hk2
    clear HCW HCS HCJ HE1 HE2 HE4 HTS hwh hk1 hk2 HE3
    go_enter Tryz.func84, Tryz.ntmps84
    go_wp2_with fail
    rw [← hW0]
    clear hW0
    refine (HCC.out _ HBR.out).mono ?_
    rintro e w3 ⟨rfl, hd⟩
    have HD3 := Lib.hid (DocTo.back (Only.of_below HBW.out) (fun g hg => .inl hg) hd)
    clear hd
    go_wp2_with fail
    go_ret
    exact ⟨by rw [HK.out]; rfl, by rw [HT.out]; exact HD3.out⟩
  · subst hw
    obtain ⟨hk1, hk2⟩ := HE4.out rfl
    have HK := Lib.hid hk1
    have HT := Lib.hid hk2
    clear HCW HCS HCC HE1 HE2 HE3 HTS hwh hk1 hk2 HE4
    go_enter Tryz.func84, Tryz.ntmps84
    go_wp2_with fail
    rw [← hW0]
    clear hW0
    refine (HCJ.out _ HBR.out).mono ?_
    rintro e w3 ⟨rfl, hd⟩
    have HD3 := Lib.hid (DocTo.back (Only.of_below HBW.out) (fun g hg => .inl hg) hd)
    clear hd
    go_wp2_with fail
    go_ret
    exact ⟨by rw [HK.out]; rfl, by rw [HT.out]; exact HD3.out⟩
end Go.Proofs.YthfbjfocmnikaaaGreatDoor
/- slices.Clone of dots and of ops, walked. Conditions: few elements. -/
namespace Go.Proofs.YthfbjfocmnikaaaGreatDoor
open Go.RowKit
set_option linter.unusedVariables false
theorem elemD_ : Elem Tryz.prog 28 27 2 16 := Elem.mk_ (z := .agg #[.int .i64 0, .int .i64 0]) Tryz.underlying28 (by kernel_rfl) rfl (by decide)
set_option maxRecDepth 100000 in
theorem cloneD (w : World) (B : Nat) (A : Option Addr) (n c : Nat) (xs : List Value) (hr : Reads w B 2 A n xs) (h1 : OneCells xs) (hf : Fits n 16) (hB : B ≤ w.heap.size) :
    Calls Tryz.prog 85 #[.slice A n c] w (ClonePost w 27 2 n xs) := by
  have HF : Fits (0 + n) 16 := by simpa using hf
  have HR := hr.alloc hB (.cells #[] 27)
  cases A with
  | none =>
    have he := Lib.run_eql_slice_nil (P := Tryz.prog) w 28 27 none n c 0 0 Tryz.underlying28
    go_enter Tryz.func85, Tryz.ntmps85
    go_wp2
    go_ret
    have hn : n = 0 := by
      rcases Nat.eq_zero_or_pos n with h | h
      · exact h
      · obtain ⟨_, h, _⟩ := hr.2 h; cases h
    subst hn
    have hx : xs = [] := List.eq_nil_of_length_eq_zero (by simpa using hr.1)
    subst hx
    exact ⟨none, 0, rfl, Own.nil _ _ _ _, Below.refl _ _⟩
  | some ad =>
    have heS := Lib.run_eql_slice_nil (P := Tryz.prog) w 28 27 (some ad) n c 0 0 Tryz.underlying28
    go_enter Tryz.func85, Tryz.ntmps85
    go_wp2_with (at_builtin; refine wpList_app _ (.tmp 5) (.tmp 6) rfl rfl elemD_ rfl rfl (Own.made w 27 w.heap.size (Nat.le_refl _) 2) HR h1 HF (by simp) ?_; intro A' c' w1 HO HL HB)
    go_ret
    refine ⟨A', c', rfl, by simpa using HO, ?_⟩
    exact ((Below.refl _ _).alloc (Nat.le_refl _) _).trans (HL.below (by simp) (by simp [ob]))


theorem elemO_ : Elem Tryz.prog 22 30 6 72 := Elem.mk_ (z := .agg #[.int .i64 0, .int .i64 0, .int .i64 0, .string ⟨#[]⟩, .int .i64 0, .slice none 0 0]) Tryz.underlying22 (by kernel_rfl) rfl (by decide)
end Go.Proofs.YthfbjfocmnikaaaGreatDoor
/- (*doc.Doc).Apply, walked. Conditions: the document is right. -/
namespace Go.Proofs.YthfbjfocmnikaaaGreatDoor
open Go.RowKit
set_option linter.unusedVariables false
namespace LDoc
/-- What an op does, case by case. -/
theorem applyE_bad {d : LDoc} {o : LOp} {k : Int} (h : d.applyE o = k) (hk : k ≠ 0) : d.applyE o = k ∧ d.applyB o = false ∧ d.apply o = d := by
  have hb : d.applyB o = false := by unfold applyB; rw [h, decide_eq_false hk]; rfl
  exact ⟨h, hb, by unfold apply; rw [hb]; rfl⟩
theorem apply_bad1 {d : LDoc} {o : LOp} (h : opErr o ≠ 0) : d.applyE o = opErr o ∧ d.applyB o = false ∧ d.apply o = d := applyE_bad (by unfold applyE; rw [if_pos h]) h
theorem vd_zero {d : LDoc} (hk : d.Ok) {o : LOp} (h : opErr o = 0) : vdErr d.known o.dot = 0 := by
  unfold vdErr; rw [if_neg (fun h => h hk.known)]; exact (op_ok h).1
theorem apply_has {d : LDoc} (hk : d.Ok) {o : LOp} (h : opErr o = 0) (h2 : hasRes d.known o.dot = true) : d.applyE o = 0 ∧ d.applyB o = false ∧ d.apply o = d := by
  have hv := vd_zero hk h
  have e1 : d.applyE o = 0 := by unfold applyE; rw [if_neg (by omega), if_neg (by omega), if_pos h2]
  have e2 : d.applyB o = false := by unfold applyB; rw [h2, decide_eq_true h]; simp
  exact ⟨e1, e2, by unfold apply; rw [e2]; rfl⟩
theorem apply_bad2 {d : LDoc} (hk : d.Ok) {o : LOp} (h : opErr o = 0) (h2 : hasRes d.known o.dot = false) (h3 : addErr d.known o.dot ≠ 0) : d.applyE o = addErr d.known o.dot ∧ d.applyB o = false ∧ d.apply o = d := by
  have hv := vd_zero hk h
  exact applyE_bad (by unfold applyE; rw [if_neg (by omega), if_neg (by omega), if_neg (by rw [h2]; decide), if_pos h3]) h3
theorem apply_full {d : LDoc} (hk : d.Ok) {o : LOp} (h : opErr o = 0) (h2 : hasRes d.known o.dot = false) (h3 : addErr d.known o.dot = 0) (h4 : 400 ≤ d.ops.length) : d.applyE o = 4 ∧ d.applyB o = false ∧ d.apply o = d := by
  have hv := vd_zero hk h
  exact applyE_bad (by unfold applyE; rw [if_neg (by omega), if_neg (by omega), if_neg (by rw [h2]; decide), if_neg (by omega), if_pos h4]) (by decide)
theorem apply_bad3 {d : LDoc} (hk : d.Ok) {o : LOp} (h : opErr o = 0) (h2 : hasRes d.known o.dot = false) (h3 : addErr d.known o.dot = 0) (h4 : d.ops.length < 400) (h5 : d.turnE o ≠ 0) : d.applyE o = d.turnE o ∧ d.applyB o = false ∧ d.apply o = d := by
  have hv := vd_zero hk h
  exact applyE_bad (by unfold applyE; rw [if_neg (by omega), if_neg (by omega), if_neg (by rw [h2]; decide), if_neg (by omega), if_neg (by omega)]) h5
theorem apply_good {d : LDoc} (hk : d.Ok) {o : LOp} (h : opErr o = 0) (h2 : hasRes d.known o.dot = false) (h3 : addErr d.known o.dot = 0) (h4 : d.ops.length < 400) (h5 : d.turnE o = 0) :
    d.applyE o = 0 ∧ d.applyB o = true ∧ d.apply o = { d.turn o with known := addRes d.known o.dot, ops := (d.turn o).ops ++ [o] } := by
  have hv := vd_zero hk h
  have e1 : d.applyE o = 0 := by unfold applyE; rw [if_neg (by omega), if_neg (by omega), if_neg (by rw [h2]; decide), if_neg (by omega), if_neg (by omega)]; exact h5
  have e2 : d.applyB o = true := by unfold applyB; rw [h2, e1]; simp
  exact ⟨e1, e2, by unfold apply; rw [e2, (turn_rest d o).2]; rfl⟩
end LDoc
def ApplyPost (w : World) (B : Nat) (S : List Nat) (b : Nat) (is : Bool) (k : Int) (st : LDoc) (e : Ending) (w' : World) : Prop := e = .returned (.tuple #[.bool is, errV k]) ∧ DocTo w B S b st w'
/-- The last step: the seen dots cloned, the op appended, all laid. -/
theorem apply_close {w w5 w6 W6 w8 : World} {B : Nat} {S S1 : List Nat} {b : Nat} {st : LDoc} {D1 : DLay} {o : LOp} {V2 V K : Option Addr} {c2 cV cK : Nat} {kn : List Int} {cs : Array Value}
    (hB : B ≤ w.heap.size) (ho : Only S w w5) (hs : ∀ g ∈ S1, g ∈ S ∨ w.heap.size ≤ g) (hd : DocIs w5 B S1 b st D1) (hK : Own w5 (w.heap.size + 1) 3 1 K kn.length cK (ints kn))
    (h6 : Below w5.heap.size w5 w6) (hy : Own w6 w5.heap.size 27 2 V2 o.seen.length c2 (dcells o.seen)) (hbox : w.heap.size < w5.heap.size) (hW6 : W6 = w6.setCell ⟨w.heap.size, 5, none⟩ (.slice V2 o.seen.length c2))
    (hV : Own w8 B 30 6 V (st.ops.length + 1) cV (ocells D1.ys ++ OpAt.cells ⟨o, V2, c2⟩))
    (ho8 : Only (ob D1.a4) (W6.drew.alloc (.cells cs 30)) w8) (hg8 : ∀ g ∈ ob V, g ∈ ob D1.a4 ∨ g = (W6.drew.alloc (.cells cs 30)).heap.size)
    (hbx : w.heap.size ∉ S1) :
    DocTo w B S b { st with known := kn, ops := st.ops ++ [o] } ((w8.setCell ⟨b, 2, none⟩ (.slice K kn.length cK)).setCell ⟨b, 3, none⟩ (.slice V (st.ops.length + 1) cV)) := by
  have ho67 : Only [w.heap.size] w6 (W6.drew.alloc (.cells cs 30)) := by
    rw [hW6]
    exact (((Only.refl [w.heap.size] w6).setCell (.inl (by simp)) _).drew).alloc _
  have ho57 := (Only.of_below (S := [w.heap.size]) h6).trans ho67
  generalize W6.drew.alloc (.cells cs 30) = W7 at *
  have hsz : w.heap.size ≤ w5.heap.size := ho.size
  have hd7 := hd.only ho57 (fun g hg => by simp at hg; subst hg; exact hbx)
  have hK7 : Own W7 B 3 1 K kn.length cK (ints kn) := (hK.only ho57 (fun g hg hm => by
    simp at hm; subst hm
    have := (hK.lt _ hg).1; omega)).mono (by omega)
  have hy7 : Own W7 B 27 2 V2 o.seen.length c2 (dcells o.seen) := (hy.only ho67 (fun g hg hm => by
    simp at hm; subst hm
    have := (hy.lt _ hg).1; omega)).mono (by omega)
  have hb4 : b ∉ ob D1.a4 := hd7.ops.blk_ne hd7.blk (by decide)
  have hb8 := ho8.blk hd7.blk hb4
  have ho2 : Only [b] w8 ((w8.setCell ⟨b, 2, none⟩ (.slice K kn.length cK)).setCell ⟨b, 3, none⟩ (.slice V (st.ops.length + 1) cV)) := ((Only.refl [b] w8).setCell (.inl (by simp)) _).setCell (.inl (by simp)) _
  have e1 : (st.ops ++ [o]).length = st.ops.length + 1 := by simp
  have hb9 := (hb8.set_ 2 (.slice K kn.length cK)).set_ 3 (.slice V (st.ops.length + 1) cV)
  have hfin := hd7.setOps (y := ⟨o, V2, c2⟩) hy7 hK7 hV ho8 ho2 (by
    unfold DLay.cells
    simp only [e1]
    exact hb9)
  have h57 := ho57.size
  have h78 := ho8.size
  refine ⟨_, _, hfin, ?_, fun g hg => ?_⟩
  · refine ((ho.trans_new ho57 (fun i hi => by simp at hi; exact .inr (by omega))).trans_new ho8 (fun i hi => hs i (hd.sub4 i hi))).trans_new ho2 (fun i hi => by simp at hi; subst hi; exact hs _ hd.subb)
  · rcases List.mem_append.1 hg with hg | hg
    · exact .inr (by have := (hK7.lt g hg).1; have := (hK.lt g hg).1; omega)
    rcases List.mem_append.1 hg with hg | hg
    · rcases hg8 g hg with h | h
      · exact hs g (hd.sub4 g h)
      · exact .inr (by omega)
    rcases List.mem_append.1 hg with hg | hg
    · exact .inr (by have := (hy.lt g hg).1; omega)
    · exact hs g hg
set_option maxRecDepth 100000 in
set_option maxHeartbeats 8000000 in
theorem apply_doc (w : World) (B : Nat) (S : List Nat) (b : Nat) (st : LDoc) (D : DLay) (h : DocIs w B S b st D) (ok : st.Ok) (o : LOp) (A : Option Addr) (c : Nat) (hp : o.place.size ≤ 9223372036854775807)
    (hr : Reads w w.heap.size 2 A o.seen.length (dcells o.seen)) (hns : 0 < o.seen.length → ∀ g ∈ ob A, g ∉ S) :
    Calls Tryz.prog 36 #[.pointer (some ⟨b, 0, none⟩), o.val A c] w (ApplyPost w B S b (st.applyB o) (st.applyE o) (st.apply o)) := by
  obtain ⟨W0, hW0⟩ : ∃ W0, W0 = w.alloc (.cells (o.cells A c) 30) := ⟨_, rfl⟩
  have HB : Hid (Beside w B S b st D o A c W0) := by show Beside _ _ _ _ _ _ _ _ _ _; rw [hW0]; exact Beside.new h o A c
  have HRS : Hid (Reads W0 W0.heap.size 2 A o.seen.length (dcells o.seen)) := (hr.below HB.out.below).more HB.out.below.size
  have HBR : Hid (Below W0.heap.size W0 W0) := Below.refl _ _
  have HCEL := Lib.hid (fun W (hb : Below W0.heap.size W0 W) => HB.out.cells hb)
  have HFR := Lib.hid (fun W (hb : Below W0.heap.size W0 W) => HB.out.frozen hb)
  have HBK := Lib.hid (fun W (hb : Below W0.heap.size W0 W) => HB.out.back hb)
  have HBW := Lib.hid HB.out.below
  have HDW := Lib.hid h
  have HDO := Lib.hid HB.out.doc
  obtain ⟨hbs, hb0⟩ := HB.out.lt
  have HCK := Lib.hid (fun W (hb : Below W0.heap.size W0 W) => opCheck_any W A c o ((HRS.out.below hb).more hb.size) hp)
  have hkl := vec_ok ok.known
  have HCH := Lib.hid (fun W (hb : Below W0.heap.size W0 W) => has_any W D.a3 D.c3 st.known o.dot (HB.out.doc.below hb).known.reads (by omega))
  have HCA := Lib.hid (fun W (hb : Below W0.heap.size W0 W) => add_any W D.a3 D.c3 st.known o.dot (HB.out.doc.below hb).known.reads (by omega))
  have HBAD1 := Lib.hid (fun h1 => LDoc.apply_bad1 (d := st) (o := o) h1)
  have hE : st.applyE o = st.applyE o := rfl
  have HE0 : errV 0 = .nilIface := rfl
  by_cases h1 : opErr o = 0
  · have HE : Hid (errV (opErr o) = .nilIface) := by rw [h1]; rfl
    have hv := LDoc.vd_zero ok h1
    have HV : Hid (errV (vdErr st.known o.dot) = .nilIface) := by rw [hv]; rfl
    cases h2 : hasRes st.known o.dot with
    | true =>
      obtain ⟨k1, k2, k3⟩ := LDoc.apply_has ok h1 h2
      rw [k1, k2, k3]
      have HH := Lib.hid h2
      clear h ok hp hr hns k1 k2 k3 HBAD1 hE HCA hkl HB h1 h2 hv
      obtain ⟨⟨who, n⟩, what, p, letter, seen⟩ := o
      unfold LOp.val at *
      unfold LOp.cells at hW0
      simp only at *
      obtain ⟨c0, c1, c2, c3, c4, d0, d1, d2, d3, d4, d5⟩ := HCEL.out _ HBR.out
      go_enter Tryz.func36, Tryz.ntmps36
      go_wp2_with fail
      rw [← hW0]
      clear hW0
      refine (HCK.out _ HBR.out).mono ?_
      rintro e w1 ⟨rfl, hb1⟩
      rw [HE.out]
      have HB1 := Lib.hid hb1
      clear hb1
      clear c0 c1 c2 c3 c4 d0 d1 d2 d3 d4 d5
      obtain ⟨c0, c1, c2, c3, c4, d0, d1, d2, d3, d4, d5⟩ := HCEL.out _ HB1.out
      go_wp2_with fail
      go_region_held3 (fun w' => w'.cell? ⟨b, 2, none⟩ = some (.slice D.a3 st.known.length D.c3) ∧ w'.cell? ⟨w.heap.size, 0, none⟩ = some (.int .i64 who) ∧ w'.cell? ⟨w.heap.size, 1, none⟩ = some (.int .i64 n))
        (first | go_keep | (refine ⟨?_, ?_, ?_⟩ <;> assumption))
        ((go_at_call 82; refine (HCH.out _ (by first | exact HB1.out | exact below_drewN HB1.out _ | exact HB1.out.drew)).mono ?_; rintro e w2 ⟨rfl, hb2⟩
          have HB2 : Hid (Below W0.heap.size W0 w2) := HB1.out.trans (Below.mono (by first | exact hb2 | exact below_of_drewN (n := 1) hb2) HB1.out.size)
          obtain ⟨e0, e1, e2, e3, e4, f0, f1, f2, f3, f4, f5⟩ := HCEL.out _ HB2.out
          clear hb2))
      rw [HV.out, HH.out]
      go_wp2_with fail
      go_ret2
      exact ⟨rfl, DocTo.same HDW.out (HBK.out _ HB2.out)⟩
    | false =>
      have HH := Lib.hid h2
      by_cases h3 : addErr st.known o.dot = 0
      · have hal : (addRes st.known o.dot).length = st.known.length := by simp [addRes]
        have HCA : Hid (∀ W, Below W0.heap.size W0 W → Calls Tryz.prog 83 #[.slice D.a3 st.known.length D.c3, .agg #[.int .i64 o.dot.who, .int .i64 o.dot.n]] W fun e w' => ∃ V c, e = .returned (.tuple #[.slice V (addRes st.known o.dot).length c, .nilIface]) ∧ Own w' (w.heap.size + 1) 3 1 V (addRes st.known o.dot).length c (ints (addRes st.known o.dot)) ∧ Below W.heap.size W w') :=
          fun W hb => (HCA.out W hb).mono fun e w' hh => by
            unfold AddPost at hh; rw [if_pos h3] at hh
            obtain ⟨V, c, h1, h2, h3⟩ := hh
            have hz := hb.size
            have hz2 := HB.out.size
            exact ⟨V, c, by rw [hal]; exact h1, by rw [hal]; exact h2.mono (by omega), h3⟩
        have HKB : Hid (w.heap.size + 1 ≤ w.heap.size + 1) := Nat.le_refl _
        have HBOX : Hid (∀ W W', Below W0.heap.size W0 W → Only S W W' → Blk W' w.heap.size 30 (o.cells A c)) := fun W W' hb ho => ho.blk (HB.out.box.below hb HB.out.box.lt) (fun hm => by have := (h.own _ hm).2; omega)
        have hol := ok.few
        by_cases h4 : 400 ≤ st.ops.length
        · obtain ⟨k1, k2, k3⟩ := LDoc.apply_full ok h1 h2 h3 h4
          rw [k1, k2, k3]
          generalize addRes st.known o.dot = kn at *
          have g4 : decide ((st.ops.length : Int) ≥ 400) = true := decide_eq_true (by omega)
          have g4' : (400 : Int) ≤ (st.ops.length : Int) := by omega
          clear h ok hp hr hns k1 k2 k3 HBAD1 hE hkl HB h1 h2 hv h3 hal h4
          obtain ⟨⟨who, n⟩, what, p, letter, seen⟩ := o
          unfold LOp.val at *
          unfold LOp.cells at hW0 HBOX
          simp only at *
          obtain ⟨c0, c1, c2, c3, c4, d0, d1, d2, d3, d4, d5⟩ := HCEL.out _ HBR.out
          go_enter Tryz.func36, Tryz.ntmps36
          go_wp2_with fail
          rw [← hW0]
          clear hW0
          refine (HCK.out _ HBR.out).mono ?_
          rintro e w1 ⟨rfl, hb1⟩
          rw [HE.out]
          have HB1 := Lib.hid hb1
          clear hb1
          clear c0 c1 c2 c3 c4 d0 d1 d2 d3 d4 d5
          obtain ⟨c0, c1, c2, c3, c4, d0, d1, d2, d3, d4, d5⟩ := HCEL.out _ HB1.out
          go_wp2_with fail
          go_region_held3 (fun w' => w'.cell? ⟨b, 2, none⟩ = some (.slice D.a3 st.known.length D.c3) ∧ w'.cell? ⟨w.heap.size, 0, none⟩ = some (.int .i64 who) ∧ w'.cell? ⟨w.heap.size, 1, none⟩ = some (.int .i64 n))
            (first | go_keep | (refine ⟨?_, ?_, ?_⟩ <;> assumption))
            ((go_at_call 82; refine (HCH.out _ (by first | exact HB1.out | exact below_drewN HB1.out _ | exact HB1.out.drew)).mono ?_; rintro e w2 ⟨rfl, hb2⟩
              have HB2 : Hid (Below W0.heap.size W0 w2) := HB1.out.trans (Below.mono (by first | exact hb2 | exact below_of_drewN (n := 1) hb2) HB1.out.size)
              obtain ⟨e0, e1, e2, e3, e4, f0, f1, f2, f3, f4, f5⟩ := HCEL.out _ HB2.out
              clear hb2))
          rw [HV.out, HH.out]
          go_wp2_with fail
          go_region_held3 (fun w' => w'.cell? ⟨b, 2, none⟩ = some (.slice D.a3 st.known.length D.c3) ∧ w'.cell? ⟨w.heap.size, 0, none⟩ = some (.int .i64 who) ∧ w'.cell? ⟨w.heap.size, 1, none⟩ = some (.int .i64 n))
            (first | go_keep | (refine ⟨?_, ?_, ?_⟩ <;> assumption))
            ((go_at_call 83; refine (HCA.out _ (by first | exact HB2.out | exact below_drewN HB2.out _ | exact HB2.out.drew)).mono ?_; rintro e w3 ⟨K, cK, rfl, hK, hb3⟩
              have HB3 : Hid (Below W0.heap.size W0 w3) := HB2.out.trans (Below.mono (by first | exact hb3 | exact below_of_drewN (n := 1) hb3) HB2.out.size)
              have HK3 : Hid (Own w3 (w.heap.size + 1) 3 1 K kn.length cK (ints kn)) := hK.mono HKB.out
              obtain ⟨g0, g1, g2, g3, g4, i0, i1, i2, i3, i4, i5⟩ := HCEL.out _ HB3.out
              clear hb3 hK c0 c1 c2 c3 c4 d0 d1 d2 d3 d4 d5 e0 e1 e2 e3 e4 f0 f1 f2 f3 f4 f5))
          go_wp2_with fail
          go_ret2
          exact ⟨rfl, DocTo.same HDW.out (HBK.out _ HB3.out)⟩
        · have g4' : ¬ (400 : Int) ≤ (st.ops.length : Int) := by omega
          have HCT := Lib.hid (fun W (hb : Below W0.heap.size W0 W) => turn_doc W B S b st D (HB.out.doc.below hb) ok o A c h1 ((HRS.out.below hb).more hb.size) hns)
          by_cases h5 : st.turnE o = 0
          · obtain ⟨k1, k2, k3⟩ := LDoc.apply_good ok h1 h2 h3 (by omega) h5
            have hto : (st.turn o).ops.length ≤ 400 := by rw [(LDoc.turn_rest st o).2]; exact hol
            have hsl := (op_ok h1).2.2.2.2.2.2.1
            have HSB : Hid (B ≤ w.heap.size) := h.size
            have HSO : Hid (∀ g ∈ S, g < w.heap.size) := fun g hg => (h.own g hg).2
            rw [k1, k2, k3]
            rw [h5] at HCT
            have HNS := Lib.hid hns
            generalize addRes st.known o.dot = kn at *
            generalize st.turn o = kt at *
            clear h ok hp hr hns k1 k2 k3 HBAD1 hE hkl HB h1 h2 hv h3 hal h4 h5 hol
            obtain ⟨⟨who, n⟩, what, p, letter, seen⟩ := o
            unfold LOp.val at *
            unfold LOp.cells at hW0 HBOX
            simp only at *
            obtain ⟨c0, c1, c2, c3, c4, d0, d1, d2, d3, d4, d5⟩ := HCEL.out _ HBR.out
            go_enter Tryz.func36, Tryz.ntmps36
            go_wp2_with fail
            rw [← hW0]
            clear hW0
            refine (HCK.out _ HBR.out).mono ?_
            rintro e w1 ⟨rfl, hb1⟩
            rw [HE.out]
            have HB1 := Lib.hid hb1
            clear hb1
            clear c0 c1 c2 c3 c4 d0 d1 d2 d3 d4 d5
            obtain ⟨c0, c1, c2, c3, c4, d0, d1, d2, d3, d4, d5⟩ := HCEL.out _ HB1.out
            go_wp2_with fail
            go_region_held3 (fun w' => w'.cell? ⟨b, 2, none⟩ = some (.slice D.a3 st.known.length D.c3) ∧ w'.cell? ⟨w.heap.size, 0, none⟩ = some (.int .i64 who) ∧ w'.cell? ⟨w.heap.size, 1, none⟩ = some (.int .i64 n))
              (first | go_keep | (refine ⟨?_, ?_, ?_⟩ <;> assumption))
              ((go_at_call 82; refine (HCH.out _ (by first | exact HB1.out | exact below_drewN HB1.out _ | exact HB1.out.drew)).mono ?_; rintro e w2 ⟨rfl, hb2⟩
                have HB2 : Hid (Below W0.heap.size W0 w2) := HB1.out.trans (Below.mono (by first | exact hb2 | exact below_of_drewN (n := 1) hb2) HB1.out.size)
                obtain ⟨e0, e1, e2, e3, e4, f0, f1, f2, f3, f4, f5⟩ := HCEL.out _ HB2.out
                clear hb2))
            rw [HV.out, HH.out]
            go_wp2_with fail
            go_region_held3 (fun w' => w'.cell? ⟨b, 2, none⟩ = some (.slice D.a3 st.known.length D.c3) ∧ w'.cell? ⟨w.heap.size, 0, none⟩ = some (.int .i64 who) ∧ w'.cell? ⟨w.heap.size, 1, none⟩ = some (.int .i64 n))
              (first | go_keep | (refine ⟨?_, ?_, ?_⟩ <;> assumption))
              ((go_at_call 83; refine (HCA.out _ (by first | exact HB2.out | exact below_drewN HB2.out _ | exact HB2.out.drew)).mono ?_; rintro e w3 ⟨K, cK, rfl, hK, hb3⟩
                have HB3 : Hid (Below W0.heap.size W0 w3) := HB2.out.trans (Below.mono (by first | exact hb3 | exact below_of_drewN (n := 1) hb3) HB2.out.size)
                have HK3 : Hid (Own w3 (w.heap.size + 1) 3 1 K kn.length cK (ints kn)) := hK.mono HKB.out
                obtain ⟨g0, g1, g2, g3, g4, i0, i1, i2, i3, i4, i5⟩ := HCEL.out _ HB3.out
                clear hb3 hK c0 c1 c2 c3 c4 d0 d1 d2 d3 d4 d5 e0 e1 e2 e3 e4 f0 f1 f2 f3 f4 f5))
            go_wp2_with fail
            refine (HCT.out _ HB3.out).mono ?_
            rintro e w5 ⟨rfl, S1, D1, hd5, ho5, hs5⟩
            rw [HE0]
            have hz3 := HB3.out.size
            have hz0 := HBW.out.size
            have HB5 := Lib.hid (HBOX.out _ _ HB3.out ho5)
            have hK5 : Own w5 (w.heap.size + 1) 3 1 K kn.length cK (ints kn) := HK3.out.only ho5 (fun g hg hm => by have := (HK3.out.lt g hg).1; have := HSO.out g hm; omega)
            have hO5 : Only S w w5 := (Only.of_below (HBK.out _ HB3.out)).trans ho5
            have hs5' : ∀ g ∈ S1, g ∈ S ∨ w.heap.size ≤ g := fun g hg => (hs5 g hg).imp id (fun h => by omega)
            have hbx : w.heap.size ∉ S1 := fun hm => by
              rcases hs5 _ hm with h | h
              · have := HSO.out _ h; omega
              · omega
            have hR5 : Reads w5 w5.heap.size 2 A seen.length (dcells seen) := Reads.only ((HRS.out.below HB3.out).more HB3.out.size) ho5 HNS.out
            have HCL := Lib.hid (cloneD w5 w5.heap.size A seen.length c (dcells seen) hR5 (oneCells_d seen) (Fits.of_small (by omega) (by decide)) (Nat.le_refl _))
            have i5' : w5.cell? ⟨w.heap.size, 5, none⟩ = some (.slice A seen.length c) := by rw [HB5.out.cell]; rfl
            have HD5 := Lib.hid hd5
            have HK5 := Lib.hid hK5
            have HO5 := Lib.hid hO5
            have HS5 := Lib.hid hs5'
            have HBX := Lib.hid hbx
            have hz5 := hO5.size
            have hbx5 := HB5.out.lt
            have hb1 := hd5.bS.2
            have hne : w.heap.size ≠ b := by omega
            clear hd5 hK5 hO5 hs5 hs5' hbx hR5 ho5 g0 g1 g2 g3 g4 i0 i1 i2 i3 i4 i5 HK3 HB3 HCEL HCK HCH HCA HCT HBOX
            go_wp2_with fail
            refine (HCL.out).mono ?_
            rintro e w6 ⟨V2, c2', rfl, hy, hb6⟩
            have HB6 := Lib.hid (HB5.out.below hb6 HB5.out.lt)
            have i5' : w6.cell? ⟨w.heap.size, 5, none⟩ = some (.slice A seen.length c) := by rw [HB6.out.cell]; rfl
            have fz5 := HB6.out.frozen 5
            have HY := Lib.hid hy
            have HB56 := Lib.hid hb6
            clear hy hb6
            go_wp2_with fail
            obtain ⟨W6, hW6⟩ : ∃ W6, W6 = w6.setCell ⟨w.heap.size, 5, none⟩ (.slice V2 seen.length c2') := ⟨_, rfl⟩
            rw [← hW6]
            have HB7 : Hid (Blk W6 w.heap.size 30 #[.int .i64 who, .int .i64 n, .int .i64 what, .string p, .int .i64 letter, .slice V2 seen.length c2']) := by
              show Blk _ _ _ _
              rw [hW6]; exact HB6.out.set_ 5 _
            have HD7 : Hid (DocIs W6 B S1 b kt D1) := by
              show DocIs _ _ _ _ _ _
              rw [hW6]
              exact (HD5.out.below HB56.out).only (T := [w.heap.size]) ((Only.refl _ _).setCell (.inl (by simp)) _) (fun g hg => by simp at hg; subst hg; exact HBX.out)
            have j0 : W6.cell? ⟨w.heap.size, 0, none⟩ = some (.int .i64 who) := by rw [HB7.out.cell]; rfl
            have j1 : W6.cell? ⟨w.heap.size, 1, none⟩ = some (.int .i64 n) := by rw [HB7.out.cell]; rfl
            have j2 : W6.cell? ⟨w.heap.size, 2, none⟩ = some (.int .i64 what) := by rw [HB7.out.cell]; rfl
            have j3 : W6.cell? ⟨w.heap.size, 3, none⟩ = some (.string p) := by rw [HB7.out.cell]; rfl
            have j4 : W6.cell? ⟨w.heap.size, 4, none⟩ = some (.int .i64 letter) := by rw [HB7.out.cell]; rfl
            have j5 : W6.cell? ⟨w.heap.size, 5, none⟩ = some (.slice V2 seen.length c2') := by rw [HB7.out.cell]; rfl
            have k3 : W6.cell? ⟨b, 3, none⟩ = some (.slice D1.a4 kt.ops.length D1.c4) := by rw [HD7.out.blk.cell]; rfl
            have k2 : W6.cell? ⟨b, 2, none⟩ = some (.slice D1.a3 kt.known.length D1.c3) := by rw [HD7.out.blk.cell]; rfl
            have HW6 := Lib.hid hW6
            have hB6 : B ≤ W6.heap.size := HD7.out.size
            have HONE : Hid (OneCells [Value.int .i64 who, .int .i64 n, .int .i64 what, .string p, .int .i64 letter, .slice V2 seen.length c2']) := by
              show OneCells _
              intro u hu
              simp only [List.mem_cons, List.not_mem_nil, or_false] at hu
              rcases hu with rfl | rfl | rfl | rfl | rfl | rfl <;> rfl
            have HFIT : Hid (Fits (kt.ops.length + 1) 72) := Fits.of_small (by omega) (by decide)
            have hb4 : b ∉ ob D1.a4 := HD7.out.ops.blk_ne HD7.out.blk (by decide)
            have k3a : (W6.alloc (.cells #[.int .i64 who, .int .i64 n, .int .i64 what, .string p, .int .i64 letter, .slice V2 seen.length c2'] 30)).cell? ⟨b, 3, none⟩ = some (.slice D1.a4 kt.ops.length D1.c4) := by rw [(HD7.out.blk.alloc _).cell]; rfl
            clear hW6
            go_region_law ((
              refine step_app _ (.tmp 70) (.tmp 72) rfl rfl elemO_ rfl rfl ((HD7.out.ops.drew).alloc _) (Reads.row W6.drew 30 #[.int .i64 who, .int .i64 n, .int .i64 what, .string p, .int .i64 letter, .slice V2 seen.length c2']) HONE.out HFIT.out (by simp; omega) ?_
              intro V cV w8 hO hL hg
              have hb8 := hL.blk ((HD7.out.blk.drew).alloc _) hb4
              have n2 : w8.cell? ⟨b, 2, none⟩ = some (.slice D1.a3 kt.known.length D1.c3) := by { rw [hb8.cell]; rfl }
              have n3 : w8.cell? ⟨b, 3, none⟩ = some (.slice D1.a4 kt.ops.length D1.c4) := by { rw [hb8.cell]; rfl }
              have m2 := hb8.frozen 2
              have m3 := hb8.frozen 3))
            all_goals
              go_wp2_with fail
              go_ret2
              exact ⟨rfl, apply_close (o := ⟨⟨who, n⟩, what, p, letter, seen⟩) HSB.out HO5.out HS5.out HD5.out HK5.out HB56.out HY.out hbx5 HW6.out hO hL hg HBX.out⟩
          · obtain ⟨k1, k2, k3⟩ := LDoc.apply_bad3 ok h1 h2 h3 (by omega) h5
            have hsame := LDoc.turn_same h5
            rw [k1, k2, k3]
            rw [hsame] at HCT
            have HET := Lib.hid (errV_ne h5)
            generalize addRes st.known o.dot = kn at *
            generalize st.turnE o = te at *
            clear h ok hp hr hns k1 k2 k3 HBAD1 hE hkl HB h1 h2 hv h3 hal h4 h5 hol hsame
            obtain ⟨⟨who, n⟩, what, p, letter, seen⟩ := o
            unfold LOp.val at *
            unfold LOp.cells at hW0 HBOX
            simp only at *
            obtain ⟨c0, c1, c2, c3, c4, d0, d1, d2, d3, d4, d5⟩ := HCEL.out _ HBR.out
            go_enter Tryz.func36, Tryz.ntmps36
            go_wp2_with fail
            rw [← hW0]
            clear hW0
            refine (HCK.out _ HBR.out).mono ?_
            rintro e w1 ⟨rfl, hb1⟩
            rw [HE.out]
            have HB1 := Lib.hid hb1
            clear hb1
            clear c0 c1 c2 c3 c4 d0 d1 d2 d3 d4 d5
            obtain ⟨c0, c1, c2, c3, c4, d0, d1, d2, d3, d4, d5⟩ := HCEL.out _ HB1.out
            go_wp2_with fail
            go_region_held3 (fun w' => w'.cell? ⟨b, 2, none⟩ = some (.slice D.a3 st.known.length D.c3) ∧ w'.cell? ⟨w.heap.size, 0, none⟩ = some (.int .i64 who) ∧ w'.cell? ⟨w.heap.size, 1, none⟩ = some (.int .i64 n))
              (first | go_keep | (refine ⟨?_, ?_, ?_⟩ <;> assumption))
              ((go_at_call 82; refine (HCH.out _ (by first | exact HB1.out | exact below_drewN HB1.out _ | exact HB1.out.drew)).mono ?_; rintro e w2 ⟨rfl, hb2⟩
                have HB2 : Hid (Below W0.heap.size W0 w2) := HB1.out.trans (Below.mono (by first | exact hb2 | exact below_of_drewN (n := 1) hb2) HB1.out.size)
                obtain ⟨e0, e1, e2, e3, e4, f0, f1, f2, f3, f4, f5⟩ := HCEL.out _ HB2.out
                clear hb2))
            rw [HV.out, HH.out]
            go_wp2_with fail
            go_region_held3 (fun w' => w'.cell? ⟨b, 2, none⟩ = some (.slice D.a3 st.known.length D.c3) ∧ w'.cell? ⟨w.heap.size, 0, none⟩ = some (.int .i64 who) ∧ w'.cell? ⟨w.heap.size, 1, none⟩ = some (.int .i64 n))
              (first | go_keep | (refine ⟨?_, ?_, ?_⟩ <;> assumption))
              ((go_at_call 83; refine (HCA.out _ (by first | exact HB2.out | exact below_drewN HB2.out _ | exact HB2.out.drew)).mono ?_; rintro e w3 ⟨K, cK, rfl, hK, hb3⟩
                have HB3 : Hid (Below W0.heap.size W0 w3) := HB2.out.trans (Below.mono (by first | exact hb3 | exact below_of_drewN (n := 1) hb3) HB2.out.size)
                have HK3 : Hid (Own w3 (w.heap.size + 1) 3 1 K kn.length cK (ints kn)) := hK.mono HKB.out
                obtain ⟨g0, g1, g2, g3, g4, i0, i1, i2, i3, i4, i5⟩ := HCEL.out _ HB3.out
                clear hb3 hK c0 c1 c2 c3 c4 d0 d1 d2 d3 d4 d5 e0 e1 e2 e3 e4 f0 f1 f2 f3 f4 f5))
            go_wp2_with fail
            refine (HCT.out _ HB3.out).mono ?_
            rintro e w5 ⟨rfl, hd5⟩
            rw [HET.out]
            have HD5 := Lib.hid (DocTo.back (Only.of_below (HBK.out _ HB3.out)) (fun g hg => .inl hg) hd5)
            clear hd5 HB3 HK3
            go_wp2_with fail
            go_ret2
            exact ⟨by rw [HET.out]; rfl, HD5.out⟩
      · obtain ⟨k1, k2, k3⟩ := LDoc.apply_bad2 ok h1 h2 h3
        rw [k1, k2, k3]
        have HEA := Lib.hid (errV_ne h3)
        have HCA : Hid (∀ W, Below W0.heap.size W0 W → Calls Tryz.prog 83 #[.slice D.a3 st.known.length D.c3, .agg #[.int .i64 o.dot.who, .int .i64 o.dot.n]] W fun e w' => e = .returned (.tuple #[.slice none 0 0, errV (addErr st.known o.dot)]) ∧ Below W.heap.size W w') :=
          fun W hb => (HCA.out W hb).mono fun e w' hh => by unfold AddPost at hh; rw [if_neg h3] at hh; exact hh
        clear h ok hp hr hns k1 k2 k3 HBAD1 hE hkl HB h1 h2 hv h3
        obtain ⟨⟨who, n⟩, what, p, letter, seen⟩ := o
        unfold LOp.val at *
        unfold LOp.cells at hW0
        simp only at *
        obtain ⟨c0, c1, c2, c3, c4, d0, d1, d2, d3, d4, d5⟩ := HCEL.out _ HBR.out
        go_enter Tryz.func36, Tryz.ntmps36
        go_wp2_with fail
        rw [← hW0]
        clear hW0
        refine (HCK.out _ HBR.out).mono ?_
        rintro e w1 ⟨rfl, hb1⟩
        rw [HE.out]
        have HB1 := Lib.hid hb1
        clear hb1
        clear c0 c1 c2 c3 c4 d0 d1 d2 d3 d4 d5
        obtain ⟨c0, c1, c2, c3, c4, d0, d1, d2, d3, d4, d5⟩ := HCEL.out _ HB1.out
        go_wp2_with fail
        go_region_held3 (fun w' => w'.cell? ⟨b, 2, none⟩ = some (.slice D.a3 st.known.length D.c3) ∧ w'.cell? ⟨w.heap.size, 0, none⟩ = some (.int .i64 who) ∧ w'.cell? ⟨w.heap.size, 1, none⟩ = some (.int .i64 n))
          (first | go_keep | (refine ⟨?_, ?_, ?_⟩ <;> assumption))
          ((go_at_call 82; refine (HCH.out _ (by first | exact HB1.out | exact below_drewN HB1.out _ | exact HB1.out.drew)).mono ?_; rintro e w2 ⟨rfl, hb2⟩
            have HB2 : Hid (Below W0.heap.size W0 w2) := HB1.out.trans (Below.mono (by first | exact hb2 | exact below_of_drewN (n := 1) hb2) HB1.out.size)
            obtain ⟨e0, e1, e2, e3, e4, f0, f1, f2, f3, f4, f5⟩ := HCEL.out _ HB2.out
            clear hb2))
        rw [HV.out, HH.out]
        go_wp2_with fail
        go_region_held3 (fun w' => w'.cell? ⟨b, 2, none⟩ = some (.slice D.a3 st.known.length D.c3) ∧ w'.cell? ⟨w.heap.size, 0, none⟩ = some (.int .i64 who) ∧ w'.cell? ⟨w.heap.size, 1, none⟩ = some (.int .i64 n))
          (first | go_keep | (refine ⟨?_, ?_, ?_⟩ <;> assumption))
          ((go_at_call 83; refine (HCA.out _ (by first | exact HB2.out | exact below_drewN HB2.out _ | exact HB2.out.drew)).mono ?_; rintro e w3 ⟨rfl, hb3⟩
            have HB3 : Hid (Below W0.heap.size W0 w3) := HB2.out.trans (Below.mono (by first | exact hb3 | exact below_of_drewN (n := 1) hb3) HB2.out.size)
            obtain ⟨g0, g1, g2, g3, g4, i0, i1, i2, i3, i4, i5⟩ := HCEL.out _ HB3.out
            clear hb3 c0 c1 c2 c3 c4 d0 d1 d2 d3 d4 d5 e0 e1 e2 e3 e4 f0 f1 f2 f3 f4 f5))
        rw [HEA.out]
        go_wp2_with fail
        go_ret2
        exact ⟨by rw [HEA.out]; rfl, DocTo.same HDW.out (HBK.out _ HB3.out)⟩
  · obtain ⟨k1, k2, k3⟩ := LDoc.apply_bad1 (d := st) h1
    rw [k1, k2, k3]
    have HE := Lib.hid (errV_ne h1)
    clear h ok hp hr hns k1 k2 k3 HBAD1 hE HCH HCA hkl HB h1
    obtain ⟨⟨who, n⟩, what, p, letter, seen⟩ := o
    unfold LOp.val at *
    unfold LOp.cells at hW0
    simp only at *
    obtain ⟨c0, c1, c2, c3, c4, d0, d1, d2, d3, d4, d5⟩ := HCEL.out _ HBR.out
    go_enter Tryz.func36, Tryz.ntmps36
    go_wp2_with fail
    rw [← hW0]
    clear hW0
    refine (HCK.out _ HBR.out).mono ?_
    rintro e w1 ⟨rfl, hb1⟩
    rw [HE.out]
    have HB1 := Lib.hid hb1
    clear hb1
    go_wp2_with fail
    go_ret2
    exact ⟨by rw [HE.out]; rfl, DocTo.same HDW.out (HBK.out _ HB1.out)⟩
end Go.Proofs.YthfbjfocmnikaaaGreatDoor
