/- A document in memory, and which blocks are its own. Plain lemmas. Conditions: none. -/
import Derived.Test.YtmpkgbkdndpnlaaGreatDoorDocLaw
import Derived.Test.YtmpkgbkdndpnlaaGreatDoorOpenOps
namespace Go.Proofs.YtmpkgbkdndpnlaaGreatDoor
open Go.RowKit
set_option linter.unusedVariables false
/-- Where the parts of a document lie. -/
structure DLay where
  a1 : Option Addr
  c1 : Nat
  a2 : Option Addr
  c2 : Nat
  a3 : Option Addr
  c3 : Nat
  a4 : Option Addr
  c4 : Nat
  r : Nat
  ys : List OpAt
def DLay.cells (D : DLay) (st : LDoc) : Array Value := #[.slice D.a1 st.book.length D.c1, .slice D.a2 st.marks.length D.c2, .slice D.a3 st.known.length D.c3, .slice D.a4 st.ops.length D.c4, .map (some D.r)]
/-- The document in block b reads as st; its blocks are the blocks S, all from B on. -/
structure DocIs (w : World) (B : Nat) (S : List Nat) (b : Nat) (st : LDoc) (D : DLay) : Prop where
  blk : Blk w b 90 (D.cells st)
  book : Own w B 102 3 D.a1 st.book.length D.c1 (lcells st.book)
  marks : Own w B 99 3 D.a2 st.marks.length D.c2 (mcells st.marks)
  known : Own w B 3 1 D.a3 st.known.length D.c3 (ints st.known)
  ops : Own w B 34 6 D.a4 st.ops.length D.c4 (ocells D.ys)
  same : D.ys.map OpAt.op = st.ops
  seen : ∀ y ∈ D.ys, Own w B 31 2 y.at_ y.op.seen.length y.cap (dcells y.op.seen)
  joined : MapAt w D.r JKey.val boolV st.joined
  sub1 : ∀ g ∈ ob D.a1, g ∈ S
  sub2 : ∀ g ∈ ob D.a2, g ∈ S
  sub3 : ∀ g ∈ ob D.a3, g ∈ S
  sub4 : ∀ g ∈ ob D.a4, g ∈ S
  subs : ∀ y ∈ D.ys, ∀ g ∈ ob y.at_, g ∈ S
  subb : b ∈ S
  subr : D.r ∈ S
  own : ∀ g ∈ S, B ≤ g ∧ g < w.heap.size
namespace DocIs
variable {w w' : World} {B : Nat} {S T : List Nat} {b : Nat} {st : LDoc} {D : DLay}
theorem only (h : DocIs w B S b st D) (ho : Only T w w') (hT : ∀ g ∈ T, g ∉ S) : DocIs w' B S b st D where
  blk := ho.blk h.blk (fun hm => hT _ hm h.subb)
  book := h.book.only ho (fun g hg hm => hT g hm (h.sub1 g hg))
  marks := h.marks.only ho (fun g hg hm => hT g hm (h.sub2 g hg))
  known := h.known.only ho (fun g hg hm => hT g hm (h.sub3 g hg))
  ops := h.ops.only ho (fun g hg hm => hT g hm (h.sub4 g hg))
  same := h.same
  seen := fun y hy => (h.seen y hy).only ho (fun g hg hm => hT g hm (h.subs y hy g hg))
  joined := h.joined.only ho (fun hm => hT _ hm h.subr)
  sub1 := h.sub1
  sub2 := h.sub2
  sub3 := h.sub3
  sub4 := h.sub4
  subs := h.subs
  subb := h.subb
  subr := h.subr
  own := fun g hg => ⟨(h.own g hg).1, Nat.lt_of_lt_of_le (h.own g hg).2 ho.size⟩
theorem below (h : DocIs w B S b st D) (hb : Below w.heap.size w w') : DocIs w' B S b st D := h.only (T := []) (Only.of_below hb) (by simp)
theorem ys_len (h : DocIs w B S b st D) : D.ys.length = st.ops.length := by rw [← h.same, List.length_map]
theorem rb (h : DocIs w B S b st D) : D.r ≠ b := h.joined.not_blk h.blk
/-- The map has been written. -/
theorem setMap (h : DocIs w B S b st D) (ho : Only [D.r] w w') {j : List (JKey × Bool)} (hj : MapAt w' D.r JKey.val boolV j) : DocIs w' B S b { st with joined := j } D where
  blk := ho.blk h.blk (by simpa using Ne.symm h.rb)
  book := h.book.only ho (fun g hg hm => h.joined.not_own h.book (by simp at hm; exact hm ▸ hg))
  marks := h.marks.only ho (fun g hg hm => h.joined.not_own h.marks (by simp at hm; exact hm ▸ hg))
  known := h.known.only ho (fun g hg hm => h.joined.not_own h.known (by simp at hm; exact hm ▸ hg))
  ops := h.ops.only ho (fun g hg hm => h.joined.not_own h.ops (by simp at hm; exact hm ▸ hg))
  same := h.same
  seen := fun y hy => (h.seen y hy).only ho (fun g hg hm => h.joined.not_own (h.seen y hy) (by simp at hm; exact hm ▸ hg))
  joined := hj
  sub1 := h.sub1
  sub2 := h.sub2
  sub3 := h.sub3
  sub4 := h.sub4
  subs := h.subs
  subb := h.subb
  subr := h.subr
  own := fun g hg => ⟨(h.own g hg).1, Nat.lt_of_lt_of_le (h.own g hg).2 ho.size⟩
theorem moved (h : DocIs w B S b st D) (p : Addr) (hp : p.block = b) (u : Value) : Only [b] w (w.setCell p u) := (Only.refl _ _).setCell (.inl (by simp [hp])) u
theorem keepL (h : DocIs w B S b st D) (ho : Only [b] w w') : Own w' B 102 3 D.a1 st.book.length D.c1 (lcells st.book) := h.book.only ho (fun g hg hm => h.book.blk_ne h.blk (by decide) (by simp at hm; exact hm ▸ hg))
theorem keepM (h : DocIs w B S b st D) (ho : Only [b] w w') : Own w' B 99 3 D.a2 st.marks.length D.c2 (mcells st.marks) := h.marks.only ho (fun g hg hm => h.marks.blk_ne h.blk (by decide) (by simp at hm; exact hm ▸ hg))
theorem keepK (h : DocIs w B S b st D) (ho : Only [b] w w') : Own w' B 3 1 D.a3 st.known.length D.c3 (ints st.known) := h.known.only ho (fun g hg hm => h.known.blk_ne h.blk (by decide) (by simp at hm; exact hm ▸ hg))
theorem keepO (h : DocIs w B S b st D) (ho : Only [b] w w') : Own w' B 34 6 D.a4 st.ops.length D.c4 (ocells D.ys) := h.ops.only ho (fun g hg hm => h.ops.blk_ne h.blk (by decide) (by simp at hm; exact hm ▸ hg))
theorem keepS (h : DocIs w B S b st D) (ho : Only [b] w w') : ∀ y ∈ D.ys, Own w' B 31 2 y.at_ y.op.seen.length y.cap (dcells y.op.seen) := fun y hy => (h.seen y hy).only ho (fun g hg hm => (h.seen y hy).blk_ne h.blk (by decide) (by simp at hm; exact hm ▸ hg))
/-- Another book has been laid. -/
theorem setBook (h : DocIs w B S b st D) {V : Option Addr} {c : Nat} {l : List LLeaf} (hV : Own w B 102 3 V l.length c (lcells l)) : DocIs (w.setCell ⟨b, 0, none⟩ (.slice V l.length c)) B (ob V ++ S) b { st with book := l } { D with a1 := V, c1 := c } := by
  have ho := h.moved ⟨b, 0, none⟩ rfl (.slice V l.length c)
  refine ⟨?_, hV.only ho (fun g hg hm => hV.blk_ne h.blk (by decide) (by simp at hm; exact hm ▸ hg)), h.keepM ho, h.keepK ho, h.keepO ho, h.same, h.keepS ho, h.joined.only ho (by simpa using h.rb), fun g hg => by simp [hg], fun g hg => by simp [h.sub2 g hg], fun g hg => by simp [h.sub3 g hg], fun g hg => by simp [h.sub4 g hg], fun y hy g hg => by simp [h.subs y hy g hg], by simp [h.subb], by simp [h.subr], fun g hg => ?_⟩
  · have := h.blk.set_ 0 (.slice V l.length c)
    exact this
  · rcases List.mem_append.1 hg with hg | hg
    · exact ⟨(hV.lt g hg).1, Nat.lt_of_lt_of_le (hV.lt g hg).2 ho.size⟩
    · exact ⟨(h.own g hg).1, Nat.lt_of_lt_of_le (h.own g hg).2 ho.size⟩
/-- Other marks have been laid. -/
theorem setMarks (h : DocIs w B S b st D) {V : Option Addr} {c : Nat} {l : List LMark} (hV : Own w B 99 3 V l.length c (mcells l)) : DocIs (w.setCell ⟨b, 1, none⟩ (.slice V l.length c)) B (ob V ++ S) b { st with marks := l } { D with a2 := V, c2 := c } := by
  have ho := h.moved ⟨b, 1, none⟩ rfl (.slice V l.length c)
  refine ⟨?_, h.keepL ho, hV.only ho (fun g hg hm => hV.blk_ne h.blk (by decide) (by simp at hm; exact hm ▸ hg)), h.keepK ho, h.keepO ho, h.same, h.keepS ho, h.joined.only ho (by simpa using h.rb), fun g hg => by simp [h.sub1 g hg], fun g hg => by simp [hg], fun g hg => by simp [h.sub3 g hg], fun g hg => by simp [h.sub4 g hg], fun y hy g hg => by simp [h.subs y hy g hg], by simp [h.subb], by simp [h.subr], fun g hg => ?_⟩
  · have := h.blk.set_ 1 (.slice V l.length c)
    exact this
  · rcases List.mem_append.1 hg with hg | hg
    · exact ⟨(hV.lt g hg).1, Nat.lt_of_lt_of_le (hV.lt g hg).2 ho.size⟩
    · exact ⟨(h.own g hg).1, Nat.lt_of_lt_of_le (h.own g hg).2 ho.size⟩
/-- Another vector has been laid. -/
theorem setKnown (h : DocIs w B S b st D) {V : Option Addr} {c : Nat} {l : List Int} (hV : Own w B 3 1 V l.length c (ints l)) : DocIs (w.setCell ⟨b, 2, none⟩ (.slice V l.length c)) B (ob V ++ S) b { st with known := l } { D with a3 := V, c3 := c } := by
  have ho := h.moved ⟨b, 2, none⟩ rfl (.slice V l.length c)
  refine ⟨?_, h.keepL ho, h.keepM ho, hV.only ho (fun g hg hm => hV.blk_ne h.blk (by decide) (by simp at hm; exact hm ▸ hg)), h.keepO ho, h.same, h.keepS ho, h.joined.only ho (by simpa using h.rb), fun g hg => by simp [h.sub1 g hg], fun g hg => by simp [h.sub2 g hg], fun g hg => by simp [hg], fun g hg => by simp [h.sub4 g hg], fun y hy g hg => by simp [h.subs y hy g hg], by simp [h.subb], by simp [h.subr], fun g hg => ?_⟩
  · have := h.blk.set_ 2 (.slice V l.length c)
    exact this
  · rcases List.mem_append.1 hg with hg | hg
    · exact ⟨(hV.lt g hg).1, Nat.lt_of_lt_of_le (hV.lt g hg).2 ho.size⟩
    · exact ⟨(h.own g hg).1, Nat.lt_of_lt_of_le (h.own g hg).2 ho.size⟩
/-- An op more: the row has been appended to, then it and another vector are laid. -/
theorem setOps (h : DocIs w B S b st D) {y : OpAt} (hy : Own w B 31 2 y.at_ y.op.seen.length y.cap (dcells y.op.seen)) {K : Option Addr} {ck : Nat} {kn : List Int} (hK : Own w B 3 1 K kn.length ck (ints kn)) {V : Option Addr} {c : Nat} {w1 w2 : World}
    (hV : Own w1 B 34 6 V (st.ops.length + 1) c (ocells D.ys ++ y.cells)) (ho1 : Only (ob D.a4) w w1) (ho2 : Only [b] w1 w2)
    (hb2 : Blk w2 b 90 (DLay.cells { D with a3 := K, c3 := ck, a4 := V, c4 := c, ys := D.ys ++ [y] } { st with known := kn, ops := st.ops ++ [y.op] })) :
    DocIs w2 B (ob K ++ (ob V ++ (ob y.at_ ++ S))) b { st with known := kn, ops := st.ops ++ [y.op] } { D with a3 := K, c3 := ck, a4 := V, c4 := c, ys := D.ys ++ [y] } := by
  have hb4 : b ∉ ob D.a4 := h.ops.blk_ne h.blk (by decide)
  have hb1 := ho1.blk h.blk hb4
  have ne4 : ∀ {e : TypeId} {sz n c : Nat} {A : Option Addr} {xs : List Value}, Own w B e sz A n c xs → e ≠ 34 → ∀ g ∈ ob A, g ∉ ob D.a4 := fun hO hne g hg hm => by
    have hh : ∃ cs, Blk w g 34 cs := by
      rcases h.ops.2 with ⟨h2, _⟩ | ⟨g', cap, cur, he, _, hh, _⟩
      · injection h2 with h2
        rw [h2] at hm; simp [ob] at hm
      · injection he with he
        rw [he] at hm; simp [ob] at hm; subst hm
        exact ⟨cur, hh⟩
    obtain ⟨cs, hh⟩ := hh
    exact hO.blk_ne hh hne hg
  have ho : Only (ob D.a4 ++ [b]) w w2 := (ho1.mono (by intro i hi; simp [hi])).trans (ho2.mono (by intro i hi; simp at hi; simp [hi]))
  have kp : ∀ {e : TypeId} {sz n c' : Nat} {A : Option Addr} {xs : List Value}, Own w B e sz A n c' xs → e ≠ 34 → e ≠ 90 → Own w2 B e sz A n c' xs := fun hO h1 h2 => hO.only ho (fun g hg hm => by
    rcases List.mem_append.1 hm with hm | hm
    · exact ne4 hO h1 g hg hm
    · exact hO.blk_ne h.blk h2 (by simp at hm; exact hm ▸ hg))
  refine ⟨hb2, kp h.book (by decide) (by decide), kp h.marks (by decide) (by decide), kp hK (by decide) (by decide), ?_, ?_, ?_, ?_, ?_, ?_, ?_, ?_, ?_, ?_, ?_, ?_⟩
  · have e : (st.ops ++ [y.op]).length = st.ops.length + 1 := by simp
    simp only [e]
    have : ocells (D.ys ++ [y]) = ocells D.ys ++ y.cells := by simp [ocells]
    rw [this]
    exact hV.only ho2 (fun g hg hm => hV.blk_ne hb1 (by decide) (by simp at hm; exact hm ▸ hg))
  · simp [h.same]
  · intro z hz
    rcases List.mem_append.1 hz with hz | hz
    · exact kp (h.seen z hz) (by decide) (by decide)
    · simp at hz; subst hz
      exact kp hy (by decide) (by decide)
  · refine h.joined.only ho (fun hm => ?_)
    rcases List.mem_append.1 hm with hm | hm
    · exact h.joined.not_own h.ops hm
    · simp at hm; exact h.rb hm
  · exact fun g hg => by simp [h.sub1 g hg]
  · exact fun g hg => by simp [h.sub2 g hg]
  · exact fun g hg => by simp only at hg; simp [hg]
  · exact fun g hg => by simp only at hg; simp [hg]
  · intro z hz g hg
    rcases List.mem_append.1 hz with hz | hz
    · simp [h.subs z hz g hg]
    · simp at hz; subst hz; simp [hg]
  · simp [h.subb]
  · simp [h.subr]
  · intro g hg
    have hsz := ho.size
    rcases List.mem_append.1 hg with hg | hg
    · exact ⟨(hK.lt g hg).1, Nat.lt_of_lt_of_le (hK.lt g hg).2 hsz⟩
    rcases List.mem_append.1 hg with hg | hg
    · exact ⟨(hV.lt g hg).1, Nat.lt_of_lt_of_le (hV.lt g hg).2 ho2.size⟩
    · rcases List.mem_append.1 hg with hg | hg
      · exact ⟨(hy.lt g hg).1, Nat.lt_of_lt_of_le (hy.lt g hg).2 hsz⟩
      · exact ⟨(h.own g hg).1, Nat.lt_of_lt_of_le (h.own g hg).2 hsz⟩
end DocIs
/-- A row that reads, not in the blocks that may turn. -/
theorem Reads.only {w w' : World} {S : List Nat} {size n : Nat} {A : Option Addr} {xs : List Value} (h : Reads w w.heap.size size A n xs) (ho : Only S w w') (hS : 0 < n → ∀ g ∈ ob A, g ∉ S) : Reads w' w'.heap.size size A n xs :=
  ⟨h.1, fun hn => by
    obtain ⟨ad, e, hb, hc⟩ := h.2 hn
    refine ⟨ad, e, Nat.lt_of_lt_of_le hb ho.size, fun j u hu => (ho.cell (by rw [block_of_add]; exact hb) ?_).trans (hc j u hu)⟩
    rw [block_of_add]
    exact hS hn _ (by rw [e]; simp [ob])⟩
/-- A row that lies further back is none of these blocks. -/
theorem Reads.far {w : World} {B : Nat} {S : List Nat} {size n : Nat} {A : Option Addr} {xs : List Value} (h : Reads w B size A n xs) (hS : ∀ g ∈ S, B ≤ g) (hn : 0 < n) : ∀ g ∈ ob A, g ∉ S := by
  obtain ⟨ad, e, hb, _⟩ := h.2 hn
  intro g hg hm
  rw [e] at hg
  simp [ob] at hg
  have := hS g hm
  omega
end Go.Proofs.YtmpkgbkdndpnlaaGreatDoor
