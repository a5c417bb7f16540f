/- 4 texts in one: each says ahead of itself what is proved, and its conditions. -/
import Derived.Below
import Derived.Deep.CutBlock
import Derived.ProofKit
import Derived.Test.YtgmdnmdniidngaaRows
import Derived.WalkKit
import Derived.Test.YtgmdnmdniidngaaCutsLaw
import Derived.Test.YtgmdnmdniidngaaDirStr
import Derived.Test.YtgmdnmdniidngaaDocRow
import Derived.Test.YtgmdnmdniidngaaEditDo
import Derived.Test.YtgmdnmdniidngaaEditInsert
import Derived.Test.YtgmdnmdniidngaaHi
import Derived.Test.YtgmdnmdniidngaaOpen
import Derived.Test.YtgmdnmdniidngaaStrs
/- Two documents beside each other; a row of ops apart from them. Plain, and by the contract of Apply. Conditions: none of our own. -/
namespace Go.Proofs.Ytgmdnmdniidngaa
open Go.RowKit
set_option linter.unusedVariables false
/-- Two documents of the call's own that share no block. -/
structure Docs2 (w : World) (B b1 b2 : Nat) (s1 s2 : LDoc) (wr : World) (S1 S2 : List Nat) (D1 D2 : DLay) : Prop where
  one : DocIs wr B S1 b1 s1 D1
  two : DocIs wr B S2 b2 s2 D2
  apart : ∀ g ∈ S1, g ∉ S2
  below : Below w.heap.size w wr
  base : w.heap.size ≤ B
namespace Docs2
variable {w wr w' : World} {B b1 b2 : Nat} {s1 s2 s : LDoc} {S1 S2 : List Nat} {D1 D2 : DLay}
theorem left (h : Docs2 w B b1 b2 s1 s2 wr S1 S2 D1 D2) (ht : DocTo wr B S1 b1 s w') : ∃ S' D', Docs2 w B b1 b2 s s2 w' S' S2 D' D2 ∧ Only S1 wr w' ∧ ∀ g ∈ S', g ∈ S1 ∨ wr.heap.size ≤ g := by
  obtain ⟨S', D', h1, h2, h3⟩ := ht
  refine ⟨S', D', ⟨h1, h.two.only h2 (fun g hg => h.apart g hg), fun g hg hm => ?_, h.below.trans (h2.below h.below.size (fun g hg => by have := (h.one.own g hg).1; have := h.base; omega)), h.base⟩, h2, h3⟩
  rcases h3 g hg with h4 | h4
  · exact h.apart g h4 hm
  · have := (h.two.own g hm).2; omega
theorem right (h : Docs2 w B b1 b2 s1 s2 wr S1 S2 D1 D2) (ht : DocTo wr B S2 b2 s w') : ∃ S' D', Docs2 w B b1 b2 s1 s w' S1 S' D1 D' ∧ Only S2 wr w' ∧ ∀ g ∈ S', g ∈ S2 ∨ wr.heap.size ≤ g := by
  obtain ⟨S', D', h1, h2, h3⟩ := ht
  refine ⟨S', D', ⟨h.one.only h2 (fun g hg hm => h.apart g hm hg), h1, fun g hg hm => ?_, h.below.trans (h2.below h.below.size (fun g hg => by have := (h.two.own g hg).1; have := h.base; omega)), h.base⟩, h2, h3⟩
  rcases h3 g hm with h4 | h4
  · exact h.apart g hg h4
  · have := (h.one.own g hg).2; omega
theorem step (h : Docs2 w B b1 b2 s1 s2 wr S1 S2 D1 D2) (hb : Below wr.heap.size wr w') : Docs2 w B b1 b2 s1 s2 w' S1 S2 D1 D2 :=
  ⟨h.one.below hb, h.two.below hb, h.apart, h.below.trans (hb.mono h.below.size), h.base⟩
theorem drewN (h : Docs2 w B b1 b2 s1 s2 wr S1 S2 D1 D2) (n : Nat) : Docs2 w B b1 b2 s1 s2 (wr.drewN n) S1 S2 D1 D2 :=
  ⟨h.one.drewN n, h.two.drewN n, h.apart, below_drewN h.below n, h.base⟩
theorem swap (h : Docs2 w B b1 b2 s1 s2 wr S1 S2 D1 D2) : Docs2 w B b2 b1 s2 s1 wr S2 S1 D2 D1 :=
  ⟨h.two, h.one, fun g h1 h2 => h.apart g h2 h1, h.below, h.base⟩
/-- The first is there; the second is newly made. -/
theorem make (hw : Below w.heap.size w wr) (hB : w.heap.size ≤ B) (h1 : DocIs wr B S1 b1 s1 D1) (hb : Below wr.heap.size wr w') (h2 : DocIs w' wr.heap.size S2 b2 s2 D2) : Docs2 w B b1 b2 s1 s2 w' S1 S2 D1 D2 :=
  ⟨h1.below hb, { h2 with book := h2.book.mono h1.size, marks := h2.marks.mono h1.size, known := h2.known.mono h1.size, ops := h2.ops.mono h1.size, seen := fun y hy => (h2.seen y hy).mono h1.size, own := fun g hg => by have := h2.own g hg; have := h1.size; omega },
    fun g hg hm => by have := (h1.own g hg).2; have := (h2.own g hm).1; omega, hw.trans (hb.mono hw.size), hB⟩
end Docs2
/-- A row of ops that reads, apart from the blocks S. -/
structure OpsBy (wr : World) (S : List Nat) (V : Option Addr) (zs : List OpAt) : Prop where
  row : Reads wr wr.heap.size 6 V zs.length (ocells zs)
  far : 0 < zs.length → ∀ g ∈ ob V, g ∉ S
  each : ∀ y ∈ zs, OpFar wr S y
namespace OpsBy
variable {wr w' : World} {S S' T : List Nat} {V : Option Addr} {zs : List OpAt}
theorem only (h : OpsBy wr S V zs) (ho : Only T wr w') (hT : ∀ g ∈ T, g ∈ S ∨ wr.heap.size ≤ g) (hS : ∀ g ∈ S', g ∈ S ∨ wr.heap.size ≤ g) : OpsBy w' S' V zs := by
  have key : ∀ {size n : Nat} {A : Option Addr} {xs : List Value}, Reads wr wr.heap.size size A n xs → (0 < n → ∀ g ∈ ob A, g ∉ S) → (0 < n → ∀ g ∈ ob A, g ∉ T) ∧ (0 < n → ∀ g ∈ ob A, g ∉ S') := fun {size n A xs} hr hf => by
    have hl : 0 < n → ∀ g ∈ ob A, g < wr.heap.size := fun hn g hg => by
      obtain ⟨ad, e, hb, _⟩ := hr.2 hn
      rw [e] at hg; simp [ob] at hg; omega
    refine ⟨fun hn g hg hm => ?_, fun hn g hg hm => ?_⟩
    · rcases hT g hm with h1 | h1
      · exact hf hn g hg h1
      · have := hl hn g hg; omega
    · rcases hS g hm with h1 | h1
      · exact hf hn g hg h1
      · have := hl hn g hg; omega
  obtain ⟨k1, k2⟩ := key h.row h.far
  refine ⟨h.row.only ho k1, k2, fun y hy => ?_⟩
  obtain ⟨f1, f2, f3⟩ := h.each y hy
  obtain ⟨k3, k4⟩ := key f1 f3
  exact ⟨f1.only ho k3, f2, k4⟩
theorem below (h : OpsBy wr S V zs) (hb : Below wr.heap.size wr w') : OpsBy w' S V zs := h.only (Only.of_below (S := []) hb) (by simp) (fun g hg => .inl hg)
theorem sub (h : OpsBy wr S V zs) (hs : ∀ g ∈ S', g ∈ S) : OpsBy wr S' V zs :=
  ⟨h.row, fun hn g hg hm => h.far hn g hg (hs g hm), fun y hy => ⟨(h.each y hy).1, (h.each y hy).2.1, fun hn g hg hm => (h.each y hy).2.2 hn g hg (hs g hm)⟩⟩
theorem of_own {N : Nat} {c : Nat} (h : OwnOps wr N V c zs) (hp : ∀ o ∈ zs.map OpAt.op, o.place.size ≤ 12) (hS : ∀ g ∈ S, g < N) : OpsBy wr S V zs := by
  refine ⟨h.row.reads, fun _ g hg hm => ?_, fun y hy => ⟨(h.seen y hy).reads, ?_, fun _ g hg hm => ?_⟩⟩
  · have := (h.row.lt g hg).1; have := hS g hm; omega
  · have := hp y.op (List.mem_map.2 ⟨y, hy, rfl⟩); omega
  · have := ((h.seen y hy).lt g hg).1; have := hS g hm; omega
theorem do_ (h : OpsBy wr S V zs) {B b : Nat} {st : LDoc} {D : DLay} (hd : DocIs wr B S b st D) (ok : st.Ok) (c : Nat) (hl : zs.length ≤ 1000000) :
    Calls Try.prog 23 #[.pointer (some ⟨b, 0, none⟩), .slice V zs.length c] wr (DoPost wr B S b (st.doE (zs.map OpAt.op)) (st.doR (zs.map OpAt.op))) :=
  do_any wr B S b st D hd ok V c zs h.row h.far h.each hl
end OpsBy
/-- Two documents to which the same ops were applied. -/
def PairAt (w : World) (B b1 b2 n : Nat) (wr : World) : Prop := ∃ st S1 S2 D1 D2, Docs2 w B b1 b2 st st wr S1 S2 D1 D2 ∧ st.Ok ∧ Says st.ops st ∧ st.ops.length ≤ n
def PairLoop (w : World) (B b1 b2 : Nat) (i : Value) (wr : World) : Prop := ∃ k : Nat, k ≤ 60 ∧ i = .int .i64 k ∧ Hid (PairAt w B b1 b2 k wr)
theorem PairAt.more {w wr : World} {B b1 b2 n m : Nat} (h : PairAt w B b1 b2 n wr) (hm : n ≤ m) : PairAt w B b1 b2 m wr := by
  obtain ⟨st, S1, S2, D1, D2, h1, h2, h3, h4⟩ := h
  exact ⟨st, S1, S2, D1, D2, h1, h2, h3, by omega⟩
theorem PairAt.round {w wr : World} {B b1 b2 n : Nat} (h : PairAt w B b1 b2 n wr) {A : Option Addr} {ys : List OpAt} (hr : Reads w w.heap.size 6 A ys.length (ocells ys)) (hg : ∀ y ∈ ys, y.Good w) {k : Nat} (hk : k < ys.length) :
    ∃ ad who nn what p letter seen ya yc, A = some ad ∧ Below w.heap.size w wr ∧ Hid (∀ W, Below w.heap.size w W → W.cell? (ad.add (k * 6)) = some (.int .i64 who) ∧ W.cell? ⟨(ad.add (k * 6)).block, (ad.add (k * 6)).off + 1, none⟩ = some (.int .i64 nn) ∧ W.cell? ⟨(ad.add (k * 6)).block, (ad.add (k * 6)).off + 2, none⟩ = some (.int .i64 what) ∧
      W.cell? ⟨(ad.add (k * 6)).block, (ad.add (k * 6)).off + 3, none⟩ = some (.string p) ∧ W.cell? ⟨(ad.add (k * 6)).block, (ad.add (k * 6)).off + 4, none⟩ = some (.int .i64 letter) ∧ W.cell? ⟨(ad.add (k * 6)).block, (ad.add (k * 6)).off + 5, none⟩ = some (.slice ya seen yc)) ∧
      Hid (Calls Try.prog 30 #[.pointer (some ⟨b1, 0, none⟩), .agg #[.int .i64 who, .int .i64 nn, .int .i64 what, .string p, .int .i64 letter, .slice ya seen yc]] wr (fun e w1 => (∃ (is : Bool) (ke : Int), e = .returned (.tuple #[.bool is, errV ke])) ∧ Below w.heap.size w w1 ∧
        Calls Try.prog 30 #[.pointer (some ⟨b2, 0, none⟩), .agg #[.int .i64 who, .int .i64 nn, .int .i64 what, .string p, .int .i64 letter, .slice ya seen yc]] w1 (fun e w2 => (∃ (is : Bool) (ke : Int), e = .returned (.tuple #[.bool is, errV ke])) ∧ PairAt w B b1 b2 (n + 1) w2))) := by
  obtain ⟨st, S1, S2, D1, D2, hd, hok, hs, hl⟩ := h
  obtain ⟨ad, rfl, hcel⟩ : ∃ ad, A = some ad ∧ ∀ W, Below w.heap.size w W → W.cell? (ad.add (k * 6)) = some (.int .i64 ys[k].op.dot.who) ∧ W.cell? ⟨(ad.add (k * 6)).block, (ad.add (k * 6)).off + 1, none⟩ = some (.int .i64 ys[k].op.dot.n) ∧ W.cell? ⟨(ad.add (k * 6)).block, (ad.add (k * 6)).off + 2, none⟩ = some (.int .i64 ys[k].op.what) ∧
      W.cell? ⟨(ad.add (k * 6)).block, (ad.add (k * 6)).off + 3, none⟩ = some (.string ys[k].op.place) ∧ W.cell? ⟨(ad.add (k * 6)).block, (ad.add (k * 6)).off + 4, none⟩ = some (.int .i64 ys[k].op.letter) ∧ W.cell? ⟨(ad.add (k * 6)).block, (ad.add (k * 6)).off + 5, none⟩ = some (.slice ys[k].at_ ys[k].op.seen.length ys[k].cap) := by
    obtain ⟨ad, e, _⟩ := hr.op hk
    refine ⟨ad, e, fun W hW => ?_⟩
    obtain ⟨ad', e', _, hh⟩ := (hr.below hW).op hk
    rw [e] at e'
    injection e' with e'
    subst e'
    exact hh
  have hgood := fun W (hW : Below w.heap.size w W) => (hg _ (List.getElem_mem hk)).below hW
  have hfar : ∀ S : List Nat, (∀ g ∈ S, B ≤ g) → 0 < ys[k].op.seen.length → ∀ g ∈ ob ys[k].at_, g ∉ S := fun S hS => (hg _ (List.getElem_mem hk)).1.far (fun g hg => by have := hS g hg; have := hd.base; omega)
  have hps := (hgood wr hd.below).2.1
  have HA := apply_doc wr _ _ _ _ _ hd.one hok ys[k].op ys[k].at_ ys[k].cap (by unfold maxLen at hps; omega) (hgood wr hd.below).1 (hfar S1 (fun g hg => (hd.one.own g hg).1))
  refine ⟨ad, _, _, _, _, _, _, _, _, rfl, hd.below, hcel, HA.mono ?_⟩
  rintro e w1 ⟨rfl, ht⟩
  obtain ⟨S', D', hd', ho', _⟩ := hd.left ht
  refine ⟨⟨_, _, rfl⟩, hd'.below, ?_⟩
  have HA2 := apply_doc w1 _ _ _ _ _ hd'.two hok ys[k].op ys[k].at_ ys[k].cap (by unfold maxLen at hps; omega) (hgood w1 hd'.below).1 (hfar S2 (fun g hg => (hd'.two.own g hg).1))
  refine HA2.mono ?_
  rintro e w2 ⟨rfl, ht2⟩
  obtain ⟨S'', D'', hd'', _, _⟩ := hd'.right ht2
  refine ⟨⟨_, _, rfl⟩, _, S', S'', D', D'', hd'', LDoc.apply_ok hok _, LDoc.apply_says hok hs _, ?_⟩
  rcases LDoc.apply_three (d := st) ys[k].op with ⟨_, _, q⟩ | ⟨_, _, q⟩ | ⟨_, _, q⟩
  · rw [q]; simp; omega
  · rw [q]; omega
  · rw [q]; omega
/-- Two documents, and rows of ops apart from both. -/
def Scene (w : World) (B b1 b2 : Nat) (s1 s2 : LDoc) (rows : List (Option Addr × List OpAt)) (wr : World) : Prop :=
  ∃ S1 S2 D1 D2, Docs2 w B b1 b2 s1 s2 wr S1 S2 D1 D2 ∧ ∀ r ∈ rows, OpsBy wr (S1 ++ S2) r.1 r.2
namespace Scene
variable {w wr w' : World} {B b1 b2 : Nat} {s1 s2 s : LDoc} {rows : List (Option Addr × List OpAt)}
theorem of_docs {S1 S2 : List Nat} {D1 D2 : DLay} (h : Docs2 w B b1 b2 s1 s2 wr S1 S2 D1 D2) : Scene w B b1 b2 s1 s2 [] wr := ⟨S1, S2, D1, D2, h, by simp⟩
theorem below (h : Scene w B b1 b2 s1 s2 rows wr) : Below w.heap.size w wr := by
  obtain ⟨S1, S2, D1, D2, h1, h2⟩ := h
  exact h1.below
theorem step (h : Scene w B b1 b2 s1 s2 rows wr) (hb : Below wr.heap.size wr w') : Scene w B b1 b2 s1 s2 rows w' := by
  obtain ⟨S1, S2, D1, D2, h1, h2⟩ := h
  exact ⟨S1, S2, D1, D2, h1.step hb, fun r hr => (h2 r hr).below hb⟩
theorem drewN (h : Scene w B b1 b2 s1 s2 rows wr) (n : Nat) : Scene w B b1 b2 s1 s2 rows (wr.drewN n) := h.step (below_drewN (Below.refl _ _) n)
theorem drew (h : Scene w B b1 b2 s1 s2 rows wr) : Scene w B b1 b2 s1 s2 rows wr.drew := h.step ((Below.refl _ _).drew)
theorem swap (h : Scene w B b1 b2 s1 s2 rows wr) : Scene w B b2 b1 s2 s1 rows wr := by
  obtain ⟨S1, S2, D1, D2, h1, h2⟩ := h
  exact ⟨S2, S1, D2, D1, h1.swap, fun r hr => (h2 r hr).sub (fun g hg => by rcases List.mem_append.1 hg with h | h <;> simp [h])⟩
theorem left (h : Scene w B b1 b2 s1 s2 rows wr) {Q : LDoc → Ending → World → Prop} :
    ∃ S1 D1, DocIs wr B S1 b1 s1 D1 ∧ (∀ r ∈ rows, OpsBy wr S1 r.1 r.2) ∧ ∀ s w', DocTo wr B S1 b1 s w' → Scene w B b1 b2 s s2 rows w' := by
  obtain ⟨S1, S2, D1, D2, h1, h2⟩ := h
  refine ⟨S1, D1, h1.one, fun r hr => (h2 r hr).sub (fun g hg => by simp [hg]), fun s w' ht => ?_⟩
  obtain ⟨S', D', g1, g2, g3⟩ := h1.left ht
  refine ⟨S', S2, D', D2, g1, fun r hr => (h2 r hr).only g2 (fun g hg => .inl (by simp [hg])) (fun g hg => ?_)⟩
  rcases List.mem_append.1 hg with h | h
  · rcases g3 g h with h3 | h3
    · exact .inl (by simp [h3])
    · exact .inr h3
  · exact .inl (by simp [h])
theorem doL (h : Scene w B b1 b2 s1 s2 rows wr) (ok : s1.Ok) {V : Option Addr} {zs : List OpAt} (hr : (V, zs) ∈ rows) (c : Nat) (hl : zs.length ≤ 1000000) :
    Calls Try.prog 23 #[.pointer (some ⟨b1, 0, none⟩), .slice V zs.length c] wr (fun e w' => e = .returned (errV (s1.doE (zs.map OpAt.op))) ∧ Scene w B b1 b2 (s1.doR (zs.map OpAt.op)) s2 rows w') := by
  obtain ⟨S1, D1, h1, h2, h3⟩ := h.left (Q := fun _ _ _ => True)
  exact ((h2 _ hr).do_ h1 ok c hl).mono fun e w' hh => ⟨hh.1, h3 _ _ hh.2⟩
theorem doR (h : Scene w B b1 b2 s1 s2 rows wr) (ok : s2.Ok) {V : Option Addr} {zs : List OpAt} (hr : (V, zs) ∈ rows) (c : Nat) (hl : zs.length ≤ 1000000) :
    Calls Try.prog 23 #[.pointer (some ⟨b2, 0, none⟩), .slice V zs.length c] wr (fun e w' => e = .returned (errV (s2.doE (zs.map OpAt.op))) ∧ Scene w B b1 b2 s1 (s2.doR (zs.map OpAt.op)) rows w') :=
  (h.swap.doL ok hr c hl).mono fun e w' hh => ⟨hh.1, hh.2.swap⟩
theorem insL (h : Scene w B b1 b2 s1 s2 rows wr) (ok : s1.Ok) (who off : Int) (text : ByteArray) (hw0 : -9223372036854775808 ≤ who) (hw1 : who ≤ 9223372036854775807) (ho : off ≤ 9223372036854775807) (ht : text.size ≤ 9223372036854775807) :
    Calls Try.prog 22 #[.pointer (some ⟨b1, 0, none⟩), .int .i64 who, .int .i64 off, .string text] wr (fun e w' => ∃ V c zs, e = .returned (.tuple #[.slice V zs.length c, errV (s1.insE who off text)]) ∧ zs.map OpAt.op = s1.insR who off text ∧ zs.length ≤ 200 ∧ Scene w B b1 b2 s1 s2 ((V, zs) :: rows) w') := by
  obtain ⟨S1, S2, D1, D2, h1, h2⟩ := h
  refine (insert_any wr _ _ _ _ _ h1.one ok who off text hw0 hw1 ho ht).mono ?_
  rintro e w' ⟨V, c, zs, rfl, z1, z2, hb⟩
  refine ⟨V, c, zs, rfl, z1, by have := insR_len (d := s1) (who := who) (off := off) (text := text); rw [← z1, List.length_map] at this; exact this, S1, S2, D1, D2, h1.step hb, fun r hr => ?_⟩
  rcases List.mem_cons.1 hr with rfl | hr
  · exact OpsBy.of_own z2 (by rw [z1]; exact insR_small) (fun g hg => by
      rcases List.mem_append.1 hg with h | h
      · exact (h1.one.own g h).2
      · exact (h1.two.own g h).2)
  · exact (h2 r hr).below hb
theorem insR (h : Scene w B b1 b2 s1 s2 rows wr) (ok : s2.Ok) (who off : Int) (text : ByteArray) (hw0 : -9223372036854775808 ≤ who) (hw1 : who ≤ 9223372036854775807) (ho : off ≤ 9223372036854775807) (ht : text.size ≤ 9223372036854775807) :
    Calls Try.prog 22 #[.pointer (some ⟨b2, 0, none⟩), .int .i64 who, .int .i64 off, .string text] wr (fun e w' => ∃ V c zs, e = .returned (.tuple #[.slice V zs.length c, errV (s2.insE who off text)]) ∧ zs.map OpAt.op = s2.insR who off text ∧ zs.length ≤ 200 ∧ Scene w B b1 b2 s1 s2 ((V, zs) :: rows) w') :=
  (h.swap.insL ok who off text hw0 hw1 ho ht).mono fun e w' ⟨V, c, zs, h1, h2, h3, h4⟩ => ⟨V, c, zs, h1, h2, h3, h4.swap⟩
theorem bookL (h : Scene w B b1 b2 s1 s2 rows wr) (ok : s1.Ok) : Calls Try.prog 26 #[.pointer (some ⟨b1, 0, none⟩)] wr (fun e w' => ∃ V c, e = .returned (.slice V s1.book.length c) ∧ Own w' wr.heap.size 106 3 V s1.book.length c (lcells s1.book) ∧ Below wr.heap.size wr w' ∧ Scene w B b1 b2 s1 s2 rows w') := by
  obtain ⟨S1, D1, h1, h2, h3⟩ := h.left (Q := fun _ _ _ => True)
  exact (book_doc wr _ _ _ _ _ h1 ok).mono fun e w' ⟨V, c, g1, g2, g3⟩ => ⟨V, c, g1, g2, g3, h.step g3⟩
theorem bookR (h : Scene w B b1 b2 s1 s2 rows wr) (ok : s2.Ok) : Calls Try.prog 26 #[.pointer (some ⟨b2, 0, none⟩)] wr (fun e w' => ∃ V c, e = .returned (.slice V s2.book.length c) ∧ Own w' wr.heap.size 106 3 V s2.book.length c (lcells s2.book) ∧ Below wr.heap.size wr w' ∧ Scene w B b1 b2 s1 s2 rows w') :=
  (h.swap.bookL ok).mono fun e w' ⟨V, c, h1, h2, h3, h4⟩ => ⟨V, c, h1, h2, h3, h4.swap⟩
theorem marksL (h : Scene w B b1 b2 s1 s2 rows wr) (ok : s1.Ok) : Calls Try.prog 27 #[.pointer (some ⟨b1, 0, none⟩)] wr (fun e w' => ∃ V c, e = .returned (.slice V s1.marks.length c) ∧ Own w' wr.heap.size 109 3 V s1.marks.length c (mcells s1.marks) ∧ Below wr.heap.size wr w' ∧ Scene w B b1 b2 s1 s2 rows w') := by
  obtain ⟨S1, D1, h1, h2, h3⟩ := h.left (Q := fun _ _ _ => True)
  exact (marks_doc wr _ _ _ _ _ h1 ok).mono fun e w' ⟨V, c, g1, g2, g3⟩ => ⟨V, c, g1, g2, g3, h.step g3⟩
theorem marksR (h : Scene w B b1 b2 s1 s2 rows wr) (ok : s2.Ok) : Calls Try.prog 27 #[.pointer (some ⟨b2, 0, none⟩)] wr (fun e w' => ∃ V c, e = .returned (.slice V s2.marks.length c) ∧ Own w' wr.heap.size 109 3 V s2.marks.length c (mcells s2.marks) ∧ Below wr.heap.size wr w' ∧ Scene w B b1 b2 s1 s2 rows w') :=
  (h.swap.marksL ok).mono fun e w' ⟨V, c, h1, h2, h3, h4⟩ => ⟨V, c, h1, h2, h3, h4.swap⟩
theorem textL (h : Scene w B b1 b2 s1 s2 rows wr) (ok : s1.Ok) : Calls Try.prog 28 #[.pointer (some ⟨b1, 0, none⟩)] wr (fun e w' => e = .returned (.string (textOf s1.book)) ∧ Below wr.heap.size wr w' ∧ Scene w B b1 b2 s1 s2 rows w') := by
  obtain ⟨S1, D1, h1, h2, h3⟩ := h.left (Q := fun _ _ _ => True)
  exact (text_doc wr _ _ _ _ _ h1 ok).mono fun e w' ⟨g1, g2⟩ => ⟨g1, g2, h.step g2⟩
theorem textR (h : Scene w B b1 b2 s1 s2 rows wr) (ok : s2.Ok) : Calls Try.prog 28 #[.pointer (some ⟨b2, 0, none⟩)] wr (fun e w' => e = .returned (.string (textOf s2.book)) ∧ Below wr.heap.size wr w' ∧ Scene w B b1 b2 s1 s2 rows w') :=
  (h.swap.textL ok).mono fun e w' ⟨h1, h2, h3⟩ => ⟨h1, h2, h3.swap⟩
theorem rows_ (h : Scene w B b1 b2 s1 s2 rows wr) {V : Option Addr} {zs : List OpAt} (hr : (V, zs) ∈ rows) : Reads wr wr.heap.size 6 V zs.length (ocells zs) := by
  obtain ⟨S1, S2, D1, D2, h1, h2⟩ := h
  exact (h2 _ hr).row
end Scene
end Go.Proofs.Ytgmdnmdniidngaa
/- From a walk to a given statement: one theorem that serves every law of the seat. Conditions: none of our own. -/
namespace Go.Proofs.Ytgmdnmdniidngaa
open Go.RowKit Go.WideShapes Go.ChangeShapes Go.ChangeAt
set_option linter.unusedVariables false

section
variable {H : Type} {enc : TypeId × Value → H} {P : Program}

theorem post_of_below {f : Func} {s : ChangeSpec} {apart fresh handsOn again : Bool} {W W' : World} {args : Array Value} {v : Value} {ds gs : List (DataW H)} {before pa pv : List MemPlace}
    (hW : DataW.Whole enc P f.params.toList s.vars apart W args.toList ds gs before)
    (hres : ∀ (b : Nat) (sp : Nat → Bool) (hd : Bool), DataW.TrodAll enc P W' b sp hd f.resultTypes.toList (v.resultList f.resultTypes.size) (s.fn H (ds ++ gs)).results [])
    (hargs : ∀ sp : Nat → Bool, (∀ p ∈ before, sp p.block = true) → DataW.TrodAll enc P W' 0 sp true f.params.toList args.toList (s.fn H (ds ++ gs)).args pa)
    (hvars : ∀ sp : Nat → Bool, (∀ p ∈ before, sp p.block = true) → DataW.TrodVars enc P W' sp s.vars (s.fn H (ds ++ gs)).vars pv)
    (hps : before = pa ++ pv) (hb : Below W.heap.size W W')
    (hok : ∀ (j : Nat) (t : TypeId) (r : Value), f.resultTypes[j]? = some t → (v.resultList f.resultTypes.size)[j]? = some r → Value.okWide P W' .any 0 t r) :
    s.post enc P f apart fresh handsOn again W args v W' := by
  have hlt : ∀ p ∈ before, p.block < W.heap.size := fun p hp => hW.lt p hp
  have hold : ∀ p ∈ before, (fun b => decide (b < W.heap.size)) p.block = true := fun p hp => by simpa using hlt p hp
  refine ⟨ds, gs, before, [], pa, pv, hW, hres _ _ _, hargs _ hold, hvars _ hold, World.keptBut_mono (fun p hp => ⟨hp, ?_⟩) (hb.frame (· ∈ before)), fun _ => ?_⟩
  · rw [hps, List.mem_append] at hp
    exact Or.inr hp
  · obtain ⟨_, _, _, _, _, hz, hn⟩ := hW
    refine ⟨hok, _, _, ([] ++ pa) ++ pv, ⟨[] ++ pa, pv, trodAll_append (hargs _ (fun _ _ => rfl)) (hres _ _ _), hvars _ (fun _ _ => rfl), rfl, ?_, ?_⟩, ?_⟩
    · intro b off hp
      have hin : MemPlace.cell b off ∈ before := by rw [hps]; simpa using hp
      rw [hb.frozen (hlt _ hin)]
      exact hz b off hin
    · intro ha
      have := hn ha
      rw [hps] at this
      simpa using this
    · intro p hp _
      rw [hps]
      simpa using hp

theorem trodAll_below (hl : laidOutB P = true) {W W' : World} (hb : Below W.heap.size W W') {sp : Nat → Bool} :
    ∀ (ts : List TypeId) (vs : List Value) (ds : List (DataW H)) (ps : List MemPlace), (∀ t ∈ ts, P.readableRec t = true ∧ t < P.types.size) → (∀ p ∈ ps, p.block < W.heap.size) → (∀ p ∈ ps, sp p.block = true) →
      DataW.TrodAll enc P W 0 (fun _ => true) true ts vs ds ps → DataW.TrodAll enc P W' 0 sp true ts vs ds ps := by
  intro ts
  induction ts with
  | nil => intro vs ds ps _ _ _ h; cases vs <;> cases ds <;> simp_all [DataW.TrodAll]
  | cons t ts ih =>
    intro vs ds ps ht hlt hs h
    cases vs with
    | nil => simp [DataW.TrodAll] at h
    | cons v vs =>
      cases ds with
      | nil => simp [DataW.TrodAll] at h
      | cons d ds =>
        obtain ⟨p, q, h1, h2, rfl⟩ := h
        exact ⟨p, q, WideElems.Trod_stays hl (ht t (by simp)).1 (ht t (by simp)).2 h1 (fun x hx => hb.same (hlt x (by simp [hx]))) (fun x hx => hs x (by simp [hx])),
          ih vs ds q (fun t' h' => ht t' (by simp [h'])) (fun x hx => hlt x (by simp [hx])) (fun x hx => hs x (by simp [hx])) h2, rfl⟩

/-- A law: it answered true, and nothing that was there has turned. -/
theorem law_post (hl : laidOutB P = true) {f : Func} {s : ChangeSpec} {apart fresh handsOn again : Bool} {tb : TypeId} {W W' : World} {args : Array Value} {ds gs : List (DataW H)} {before : List MemPlace}
    (hr : f.resultTypes = #[tb]) (htb : P.underlying tb = some .bool) (hp : ∀ t ∈ f.params.toList, P.readableRec t = true ∧ t < P.types.size) (hv : s.vars = [])
    (hfn : s.fn H ds = { results := [.lit (.bool true)], args := ds })
    (hW : DataW.Whole enc P f.params.toList s.vars apart W args.toList ds gs before) (hb : Below W.heap.size W W') :
    s.post enc P f apart fresh handsOn again W args (.bool true) W' := by
  have hW' := hW
  obtain ⟨p, q, hA, hV, hpq, hfz, hnd⟩ := hW
  have hlt : ∀ x ∈ before, x.block < W.heap.size := fun x hx => hW'.lt x hx
  rw [hv] at hV
  obtain ⟨hgs, hq⟩ := trodVars_none hV
  subst hgs; subst hq
  simp only [List.append_nil] at hpq
  subst hpq
  refine post_of_below (pa := before) (pv := []) hW' ?_ ?_ ?_ (by simp) hb ?_
  · intro b sp hd
    rw [List.append_nil, hfn, hr]
    exact trodAll_mk1 (shut_bool htb _)
  · intro sp hs
    rw [List.append_nil, hfn]
    exact trodAll_below hl hb _ _ _ _ hp hlt hs hA
  · intro sp hs
    rw [List.append_nil, hfn, hv]
    exact rfl
  · exact ok_one hr rfl (okWide_bool_mk htb _)
end

theorem Try.own : ownKnob Try.prog.godebug = none := by kernel_rfl
theorem Try.laidOut : laidOutB Try.prog = true := by kernel_rfl
end Go.Proofs.Ytgmdnmdniidngaa
/- Arguments opened: texts, numbers. Plain lemmas. Conditions: none of our own. -/
namespace Go.Proofs.Ytgmdnmdniidngaa
open Go.RowKit Go.WideShapes Go.ChangeShapes Go.Deep
set_option linter.unusedVariables false
theorem cellsFInt : Try.prog.cellsOf 3 = 1 := by kernel_rfl
theorem cellsFStr : Try.prog.cellsOf 9 = 1 := by kernel_rfl
section
variable {H : Type} {enc : TypeId × Value → H} {w : World} {base : Nat} {spare : Nat → Bool} {held : Bool}
theorem flat_one {α : Type} (f : α → Value) (l : List α) : l.flatMap (fun x => [f x]) = l.map f := by
  induction l with
  | nil => rfl
  | cons x l ih => simp [List.flatMap_cons, ih]
set_option maxRecDepth 100000 in
theorem arg_strs {r : Reach} {b0 : Nat} {v : Value} {d : DataW H} {p : List MemPlace} (hv : Value.okWide Try.prog w r b0 22 v) (h : DataW.Trod enc Try.prog w base spare held 22 v d p) :
    ∃ (A : Option Addr) (cap : Nat) (l : List ByteArray), v = .slice A l.length cap ∧ Reads w w.heap.size 1 A l.length (strs l) ∧ (∀ y ∈ l, y.size ≤ maxLen) ∧ l.length ≤ cap ∧ cap ≤ maxLen := by
  obtain ⟨a, len, c, rfl⟩ := okWide_slice Try.underlying22 hv
  obtain ⟨fuel, hf⟩ := h
  obtain ⟨A, cap, l, e, hr, h2⟩ := open_list (α := ByteArray) (fun s => [.string s]) (fun s => s.size ≤ maxLen) Try.underlying22 cellsFStr (by decide) (fun _ => rfl) (fun _ cs _ h => by
    obtain ⟨s, e, _, hs⟩ := DataW.trod_string Try.underlying9 h
    exact ⟨s, e, hs⟩) hf
  rw [flat_one] at hr
  refine ⟨A, cap, l, ?_, hr, h2⟩
  have e' : [Value.slice a len c] = [.slice A l.length cap] := e
  injection e'
set_option maxRecDepth 100000 in
theorem arg_ints {r : Reach} {b0 : Nat} {v : Value} {d : DataW H} {p : List MemPlace} (hv : Value.okWide Try.prog w r b0 23 v) (h : DataW.Trod enc Try.prog w base spare held 23 v d p) :
    ∃ (A : Option Addr) (cap : Nat) (l : List Int), v = .slice A l.length cap ∧ Reads w w.heap.size 1 A l.length (l.map (Value.int .i64)) ∧ (∀ y ∈ l, I64 y) ∧ l.length ≤ cap ∧ cap ≤ maxLen := by
  obtain ⟨a, len, c, rfl⟩ := okWide_slice Try.underlying23 hv
  obtain ⟨fuel, hf⟩ := h
  obtain ⟨A, cap, l, e, hr, h2⟩ := open_list (α := Int) (fun s => [.int .i64 s]) I64 Try.underlying23 cellsFInt (by decide) (fun _ => rfl) (fun _ cs _ h => by
    obtain ⟨s, e, _, hs⟩ := DataW.trod_int Try.underlying3 h
    exact ⟨s, e, i64_of_wf hs⟩) hf
  rw [flat_one] at hr
  refine ⟨A, cap, l, ?_, hr, h2⟩
  have e' : [Value.slice a len c] = [.slice A l.length cap] := e
  injection e'
end
end Go.Proofs.Ytgmdnmdniidngaa
/- leaflaw4.DirCuts, proved: cut ahead of some letters, all but the first of them once, a book has as many stretches more. Conditions: none of our own. -/
namespace Go.Proofs.Ytgmdnmdniidngaa
open Go.RowKit Go.WideShapes Go.ChangeShapes Go.ChangeAt
set_option linter.unusedVariables false
namespace lawDirCuts
def bools (L : List Bool) : Array Value := (L.map Value.bool).toArray
theorem bools_at {L : List Bool} {o : Nat} (h : o < L.length) : (bools L)[o]? = some (.bool (L.getD o false)) := by
  unfold bools
  simp [List.getD, h]
theorem bools_set (L : List Bool) (o : Nat) (v : Bool) : (bools L).setIfInBounds o (.bool v) = bools (L.set o v) := by
  unfold bools
  simp [List.map_set]
theorem set_same {L : List Bool} {o : Nat} (h : o < L.length) (hv : L.getD o false = true) : L.set o true = L := by
  have : L[o] = true := by simpa [List.getD, h] using hv
  rw [← this]
  exact List.set_getElem_self h
/-- A book with cuts, and the row of those that were made. -/
structure CutAt (w : World) (B b g : Nat) (bk : List LLeaf) (k n : Nat) (L M : List Bool) (st : LDoc) (S : List Nat) (D : DLay) (wr : World) : Prop where
  doc : DocIs wr B S b st D
  cuts : Cuts bk 60 L k st
  many : (places st.marks).length = n
  len : L.length = 60
  len2 : M.length = 60
  is : Blk wr g 60 (bools M)
  far : g ∉ S
  below : Below w.heap.size w wr
  base : w.heap.size ≤ B
  new_ : w.heap.size ≤ g
def CutS (w : World) (B b g : Nat) (bk : List LLeaf) (k n : Nat) (L M : List Bool) (wr : World) : Prop := ∃ st S D, CutAt w B b g bk k n L M st S D wr
theorem CutS.step {w wr w' : World} {B b g k n : Nat} {bk : List LLeaf} {L M : List Bool} (h : CutS w B b g bk k n L M wr) (hb : Below wr.heap.size wr w') : CutS w B b g bk k n L M w' := by
  obtain ⟨st, S, D, h⟩ := h
  exact ⟨st, S, D, h.doc.below hb, h.cuts, h.many, h.len, h.len2, h.is.below hb h.is.lt, h.far, h.below.trans (hb.mono h.below.size), h.base, h.new_⟩
theorem CutS.drewN {w wr : World} {B b g k n : Nat} {bk : List LLeaf} {L M : List Bool} (h : CutS w B b g bk k n L M wr) (j : Nat) : CutS w B b g bk k n L M (wr.drewN j) := h.step (below_drewN (Below.refl _ _) j)
theorem CutS.below {w wr : World} {B b g k n : Nat} {bk : List LLeaf} {L M : List Bool} (h : CutS w B b g bk k n L M wr) : Below w.heap.size w wr := by
  obtain ⟨st, S, D, h⟩ := h
  exact h.below
theorem CutS.more {w wr : World} {B b g k j n : Nat} {bk : List LLeaf} {L M : List Bool} (h : CutS w B b g bk k n L M wr) (hj : k ≤ j) : CutS w B b g bk j n L M wr := by
  obtain ⟨st, S, D, h⟩ := h
  exact ⟨st, S, D, h.doc, h.cuts.more hj, h.many, h.len, h.len2, h.is, h.far, h.below, h.base, h.new_⟩
theorem CutS.few {w wr : World} {B b g k n : Nat} {bk : List LLeaf} {L M : List Bool} (h : CutS w B b g bk k n L M wr) : n ≤ k := by
  obtain ⟨st, S, D, h⟩ := h
  have h1 := places_le st.marks st.marks.length (Nat.le_refl _)
  rw [List.take_length] at h1
  have := h.cuts.few
  have := h.many
  omega
theorem CutS.set_ {w wr : World} {B b g k n o : Nat} {bk : List LLeaf} {L M : List Bool} (h : CutS w B b g bk k n L M wr) : CutS w B b g bk k n L (M.set o true) (wr.setCell ⟨g, o, none⟩ (.bool true)) := by
  obtain ⟨st, S, D, h⟩ := h
  have ho : Only [g] wr (wr.setCell ⟨g, o, none⟩ (.bool true)) := (Only.refl _ _).setCell (.inl (by simp)) _
  refine ⟨st, S, D, h.doc.only ho (fun x hx => by simp at hx; subst hx; exact h.far), h.cuts, h.many, h.len, by simpa using h.len2, ?_, h.far, h.below.trans (ho.below h.below.size (fun x hx => by simp at hx; subst hx; exact h.new_)), h.base, h.new_⟩
  rw [← bools_set]
  exact h.is.set_ o _
theorem CutS.cell {w wr : World} {B b g k n o : Nat} {bk : List LLeaf} {L M : List Bool} (h : CutS w B b g bk k n L M wr) (ho : o < 60) : wr.cell? ⟨g, o, none⟩ = some (.bool (M.getD o false)) := by
  obtain ⟨st, S, D, h⟩ := h
  rw [h.is.cell, bools_at (by rw [h.len2]; exact ho)]
theorem CutS.frozen {w wr : World} {B b g k n o : Nat} {bk : List LLeaf} {L M : List Bool} (h : CutS w B b g bk k n L M wr) : wr.frozen? ⟨g, o, none⟩ = false := by
  obtain ⟨st, S, D, h⟩ := h
  exact h.is.frozen o
/-- A cut, and its op done. -/
theorem CutS.cut {w wr : World} {B b g k n o : Nat} {bk : List LLeaf} {L M : List Bool} (h : CutS w B b g bk k n L M wr) (hk : k < 20) (ho : o < (textL bk).length) (h6 : o < 60) :
    Calls Try.prog 24 #[.pointer (some ⟨b, 0, none⟩), .int .i64 2, .int .i64 o] wr (fun e w1 => ∃ V c, e = .returned (.tuple #[.slice V 1 c, .nilIface]) ∧ Below wr.heap.size wr w1 ∧ CutS w B b g bk k n L M w1 ∧
      ∀ j, Calls Try.prog 23 #[.pointer (some ⟨b, 0, none⟩), .slice V 1 c] (w1.drewN j) (fun e w2 => e = .returned .nilIface ∧ CutS w B b g bk (k + 1) (n + if L.getD o false = true then 0 else 1) (L.set o true) M w2)) := by
  obtain ⟨st, S, D, h⟩ := h
  obtain ⟨c1, c2, c3, c4, c5, c6⟩ := h.cuts.step (Nat.le_refl _) hk ho (by rw [h.len]; exact h6)
  refine (split_any wr B S b st D h.doc h.cuts.ok 2 o (by decide) (by decide) (by omega)).mono ?_
  rintro e w1 ⟨V, c, ys, rfl, hy, hO, hb⟩
  rw [c1, c2] at *
  have hl : ys.length = 1 := by rw [← List.length_map (f := OpAt.op), hy]; rfl
  rw [hl]
  refine ⟨V, c, rfl, hb, CutS.step ⟨st, S, D, h⟩ hb, fun j => ?_⟩
  have hbj : Below wr.heap.size wr (w1.drewN j) := below_drewN hb j
  have hd := h.doc.below hbj
  have hOj : OwnOps (w1.drewN j) wr.heap.size V c ys := ⟨hO.row, hO.seen⟩
  have hby : OpsBy (w1.drewN j) S V ys := OpsBy.of_own hOj (fun o' ho' => by
    rw [hy] at ho'
    simp only [List.mem_singleton] at ho'
    subst ho'
    exact place_small c6) (fun g' hg => (h.doc.own g' hg).2)
  have hdo := hby.do_ hd h.cuts.ok c (by omega)
  rw [hl, hy, c3] at hdo
  refine hdo.mono ?_
  rintro e w2 ⟨rfl, S', D', h1, h2, h3⟩
  refine ⟨rfl, _, S', D', h1, c4, by rw [c5, h.many], by simpa using h.len, h.len2, h2.blk (h.is.below hbj h.is.lt) h.far, fun hm => ?_, (h.below.trans (hbj.mono h.below.size)).trans (h2.below (Nat.le_trans h.below.size hbj.size) (fun x hx => by have := (h.doc.own x hx).1; have := h.base; omega)), h.base, h.new_⟩
  rcases h3 g hm with h4 | h4
  · exact h.far h4
  · have := h.is.lt; have := hbj.size; omega
/-- No such letter. -/
theorem CutS.not_ {w wr : World} {B b g k n : Nat} {off : Int} {bk : List LLeaf} {L M : List Bool} (h : CutS w B b g bk k n L M wr) (ho : off < 0 ∨ ((textL bk).length : Int) ≤ off) (h1 : off ≤ 9223372036854775807) :
    Calls Try.prog 24 #[.pointer (some ⟨b, 0, none⟩), .int .i64 2, .int .i64 off] wr (fun e w1 => ∃ V c m, e = .returned (.tuple #[.slice V m c, errV 1]) ∧ CutS w B b g bk k n L M w1) := by
  obtain ⟨st, S, D, h⟩ := h
  refine (split_any wr B S b st D h.doc h.cuts.ok 2 off (by decide) (by decide) h1).mono ?_
  rintro e w1 ⟨V, c, ys, rfl, hy, hO, hb⟩
  rw [h.cuts.far ho]
  exact ⟨V, c, _, rfl, CutS.step ⟨st, S, D, h⟩ hb⟩
def CLoop (w : World) (B b g : Nat) (bk : List LLeaf) (many i : Value) (wr : World) : Prop :=
  ∃ (k n : Nat) (L : List Bool), k ≤ 20 ∧ n ≤ k ∧ many = .int .i64 ((n : Int) + 1) ∧ i = .int .i64 k ∧ Hid (CutS w B b g bk k n L L wr)
/-- What stands behind all cuts. -/
theorem CutS.ends {w wr : World} {B b g k n : Nat} {bk : List LLeaf} {L M : List Bool} (h : CutS w B b g bk k n L M wr) : ∃ st S D, DocIs wr B S b st D ∧ st.Ok ∧ (strL st.book (places st.marks)).length = n + 1 ∧ st.book = bk ∧ Below w.heap.size w wr ∧ dirErr st.book st.marks = 0 := by
  obtain ⟨st, S, D, h⟩ := h
  exact ⟨st, S, D, h.doc, h.cuts.ok, by rw [strL_len, h.many], h.cuts.book, h.below, by unfold dirErr; rw [if_neg (fun x => x (bookErr_zero h.cuts.ok.book)), marks_zero h.cuts.ok.marks]⟩
set_option maxRecDepth 100000 in
set_option maxHeartbeats 8000000 in
theorem walk (w : World) (text : ByteArray) (A1 : Option Addr) (c1 : Nat) (ats : List Int) (h1 : Reads w w.heap.size 1 A1 ats.length (ints ats)) (hg1 : ∀ n ∈ ats, -9223372036854775808 ≤ n ∧ n ≤ 9223372036854775807)
    (hn1 : ats.length ≤ 9223372036854775807) (ht : text.size ≤ 9223372036854775807) :
    Calls Try.prog 5 #[.string text, .slice A1 ats.length c1] w (CheckPost w (.bool true)) := by
  have HR1 := Lib.hid h1
  have HG1 := Lib.hid hg1
  have HE0 : errV 0 = .nilIface := rfl
  have HE1 := errV_ne (show (1 : Int) ≠ 0 by decide)
  have HN := Lib.hid (new_doc w)
  clear h1 hg1
  go_enter Try.func5, Try.ntmps5
  go_wp2_with fail
  refine HN.out.mono ?_
  rintro e w1 ⟨b1, S1, D1, rfl, hd1, hb1⟩
  have HD1 := Lib.hid hd1
  have HB1 := Lib.hid hb1
  have HI := Lib.hid (insert_any w1 _ _ _ _ _ hd1 LDoc.new_ok 1 0 text (by decide) (by decide) (by decide) ht)
  clear hd1 hb1 HN
  go_wp2_with fail
  refine HI.out.mono ?_
  rintro e w2 ⟨V2, c2, zs, rfl, hz1, hz2, hb2⟩
  have HDO := Lib.hid (do_ins HD1.out LDoc.new_ok hz1 hz2 hb2)
  have HB2 := Lib.hid (HB1.out.trans (hb2.mono HB1.out.size))
  have HS1 : Hid (∀ g ∈ S1, w.heap.size ≤ g) := fun g hg => (HD1.out.own g hg).1
  clear hz1 hz2 hb2 HI HD1 HB1
  by_cases hie : LDoc.new.insE 1 0 text = 0
  · rw [hie, HE0]
    by_cases h6 : text.size ≤ 60
    · have t6 : ¬ (60 : Int) < (text.size : Int) := by omega
      have t7 : ¬ (text.size : Int) > 60 := by omega
      have t8 : decide ((text.size : Int) > 60) = false := decide_eq_false t7
      by_cases hde : LDoc.new.doE (LDoc.new.insR 1 0 text) = 0
      · obtain ⟨p1, p2, p3⟩ := Cuts.start hie hde h6
        rw [hde] at HDO
        generalize LDoc.new.doR (LDoc.new.insR 1 0 text) = st0 at *
        clear hie hde
        have P1 := Lib.hid p1
        have P2 := Lib.hid p2
        have P3 := Lib.hid p3
        clear p1 p2 p3
        go_wp2_with fail
        refine HDO.out.mono ?_
        rintro e w3 ⟨rfl, S3, D3, hd3, ho3, hs3⟩
        rw [HE0]
        have HB3 := Lib.hid (HB2.out.trans (ho3.below HB2.out.size HS1.out))
        have HC0 : Hid (CutS w w.heap.size b1 w3.heap.size st0.book 0 0 (List.replicate 60 false) (List.replicate 60 false) (w3.alloc (.cells (bools (List.replicate 60 false)) 60))) := by
          refine ⟨st0, S3, D3, hd3.below ((Below.refl _ _).alloc (Nat.le_refl _) _), P3.out, ?_, by simp, by simp, Blk.new _ _ _, fun hm => ?_, HB3.out.alloc HB3.out.size _, Nat.le_refl _, HB3.out.size⟩
          · have h1 := places_le st0.marks st0.marks.length (Nat.le_refl _)
            rw [List.take_length] at h1
            have := P3.out.few
            omega
          · have := (hd3.own _ hm).2; omega
        clear hd3 ho3 hs3 HDO HB2 HB3 HS1 P3
        have HBL : bools (List.replicate 60 false) = Array.replicate 60 (.bool false) := by apply Array.ext'; simp [bools]
        rw [HBL] at HC0
        have HBL := Lib.hid HBL
        generalize hbk : st0.book = bk at *
        clear hbk
        go_upto_block 0 with (fail)
        go_cut [8] (fun many wx => ∃ (n k : Nat) (L : List Bool), many = .int .i64 ((n : Int) + 1) ∧ n ≤ k ∧ k ≤ 20 ∧ Hid (CutS w w.heap.size b1 w3.heap.size bk k n L L wx))
        case first =>
          go_wp2_with fail
          go_loopw [8, 10] (fun many i wr => CLoop w w.heap.size b1 w3.heap.size bk many i wr) (fun _ i _ => 20 - (intOf i).toNat)
          case atStart => exact ⟨0, 0, _, by omega, by omega, rfl, rfl, by rw [← HBL.out] at HC0; exact HC0⟩
          case round =>
            obtain ⟨k, n, L, hk, hn, rfl, rfl, HK⟩ := hrel
            have k0 : (0 : Int) ≤ (k : Int) := by omega
            by_cases h1 : k < ats.length
            · have k1 : (k : Int) < (ats.length : Int) := by omega
              by_cases h2 : k < 20
              · have k2 : (k : Int) < 20 := by omega
                have hA1 : ∃ ad, A1 = some ad ∧ Hid (∀ W, Below w.heap.size w W → W.cell? (ad.add k) = some (.int .i64 ats[k])) := by
                  obtain ⟨ad, e, hb, hc⟩ := HR1.out.int h1
                  exact ⟨ad, e, fun W hW => (hW.cell (by rw [block_of_add]; exact hb)).trans hc⟩
                obtain ⟨ad, rfl, HAT⟩ := hA1
                obtain ⟨hg0, hg1⟩ := HG1.out _ (List.getElem_mem h1)
                have d0 := HAT.out _ HK.out.below
                generalize ats[k] = off at *
                by_cases hin : 0 ≤ off ∧ off < (text.size : Int)
                · obtain ⟨o, rfl⟩ : ∃ o : Nat, off = (o : Int) := ⟨off.toNat, by omega⟩
                  have ho : o < text.size := by omega
                  have HCUT := Lib.hid (HK.out.cut (o := o) h2 (by rw [P2.out]; exact ho) (by omega))
                  have o0 : (0 : Int) ≤ (o : Int) := by omega
                  have o1 : (o : Int) < 60 := by omega
                  have ho60 : o < 60 := by omega
                  have HLL : Hid (60 ≤ L.length) := by obtain ⟨_, _, _, h⟩ := HK.out; show _ ≤ _; rw [h.len]; omega
                  clear hin hg0 hg1 HK
                  go_wp2_with fail
                  refine HCUT.out.mono ?_
                  rintro e w4 ⟨V, c, rfl, hb, hs, hdo⟩
                  have HS4 := Lib.hid hs
                  have HD4 := Lib.hid (hdo 0)
                  clear hb hs hdo HCUT d0
                  go_wp2_with fail
                  refine HD4.out.mono ?_
                  rintro e w5 ⟨rfl, hs⟩
                  have HS5 := Lib.hid hs
                  have d0 := HAT.out _ hs.below
                  have d1 := hs.cell ho60
                  have d2 := hs.frozen (o := o)
                  clear hs HD4 HS4
                  cases hv : L.getD o false with
                  | true =>
                    rw [hv] at d1 HS5
                    have HV := Lib.hid hv
                    clear hv
                    go_wp2_with fail
                    go_roundw
                    case rel => exact ⟨k + 1, n, L, by omega, by omega, rfl, by go_num, by
                      have := HS5.out
                      rw [set_same (by have := HLL.out; omega) HV.out] at this
                      exact this⟩
                    case measure => simp [intOf]; omega
                  | false =>
                    rw [hv] at d1 HS5
                    have HST := Lib.hid (HS5.out.set_ (o := o))
                    clear hv
                    go_wp2_with fail
                    go_roundw
                    case rel => exact ⟨k + 1, n + 1, _, by omega, by omega, by go_num, by go_num, HST.out⟩
                    case measure => simp [intOf]; omega
                · have HNO := Lib.hid (HK.out.not_ (off := off) (by rw [P2.out]; omega) hg1)
                  rw [HE1] at HNO
                  by_cases hin0 : 0 ≤ off
                  · have hin1 : ¬ off < (text.size : Int) := by omega
                    have hin2 : off ≥ 0 := hin0
                    have t0 : decide (off ≥ 0) = true := decide_eq_true hin0
                    have t1 : decide (off < (text.size : Int)) = false := decide_eq_false hin1
                    clear hin hg0 hg1 HK
                    go_wp2_with fail
                    refine HNO.out.mono ?_
                    rintro e w4 ⟨V, c, m, rfl, hs⟩
                    have HS4 := Lib.hid hs
                    clear hs HNO d0
                    have d0 := HAT.out _ HS4.out.below
                    go_wp2_with fail
                    go_roundw
                    case rel => exact ⟨k + 1, n, L, by omega, by omega, rfl, by go_num, HS4.out.more (by omega)⟩
                    case measure => simp [intOf]; omega
                  · have hin2 : ¬ off ≥ 0 := hin0
                    have t0 : decide (off ≥ 0) = false := decide_eq_false hin0
                    clear hin hg0 hg1 HK
                    go_wp2_with fail
                    refine HNO.out.mono ?_
                    rintro e w4 ⟨V, c, m, rfl, hs⟩
                    have HS4 := Lib.hid hs
                    clear hs HNO d0
                    have d0 := HAT.out _ HS4.out.below
                    go_wp2_with fail
                    go_roundw
                    case rel => exact ⟨k + 1, n, L, by omega, by omega, rfl, by go_num, HS4.out.more (by omega)⟩
                    case measure => simp [intOf]; omega
              · have k2 : ¬ (k : Int) < 20 := by omega
                go_wp2_with fail
                go_meet
                case rel => exact ⟨n, k, L, rfl, hn, hk, HK⟩
            · have k1 : ¬ (k : Int) < (ats.length : Int) := by omega
              go_wp2_with fail
              go_meet
              case rel => exact ⟨n, k, L, rfl, hn, hk, HK⟩
        case rest =>
          obtain ⟨n, k, L, rfl, hn, hk, HK⟩ := hcut
          obtain ⟨wm, hwm⟩ : ∃ x : World, x = wc := ⟨_, rfl⟩
          subst hwm
          obtain ⟨st, S, D, hd, hok, hlen, hbk, hbel, hde⟩ := HK.out.ends
          have HD := Lib.hid hd
          have OK := Lib.hid hok
          have HBM := Lib.hid hbel
          have HLEN := Lib.hid hlen
          have HDE := Lib.hid hde
          have HTX : Hid (textOf st.book = text) := by show _ = _; rw [hbk]; exact P1.out
          have HBK := Lib.hid (book_doc wm _ _ _ _ _ hd hok)
          have few1 := hok.book.few
          have few2 := hok.marks.few
          clear hd hok hlen hbk hbel hde HK HC0
          go_wp2_with fail
          refine HBK.out.mono ?_
          rintro e w4 ⟨VB, cb, rfl, hO, hb⟩
          have HO4 := Lib.hid hO
          have HD4 := Lib.hid (HD.out.below hb)
          have HB4 := Lib.hid (HBM.out.trans (hb.mono HBM.out.size))
          have HMK := Lib.hid (marks_doc w4 _ _ _ _ _ HD4.out OK.out)
          clear hO hb HBK HD HBM
          go_wp2_with fail
          refine HMK.out.mono ?_
          rintro e w5 ⟨VM, cm, rfl, hO, hb⟩
          have HI5 : Hid (DirIn w5 VB cb st.book VM cm st.marks) := ⟨(HO4.out.below hb).reads, hO.reads, sized_ok OK.out.book, msized OK.out.marks, by omega, by omega, HO4.out.cap_le⟩
          have HD5 := Lib.hid (HD4.out.below hb)
          have HB5 := Lib.hid (HB4.out.trans (hb.mono HB4.out.size))
          have HSS : Hid (Calls Try.prog 25 #[.slice VB st.book.length cb, .slice VM st.marks.length cm] w5 (fun e w' => ∃ V cv, e = .returned (.tuple #[.slice V (n + 1) cv, .nilIface]) ∧ Below w5.heap.size w5 w')) := (stretches_ok HI5.out HDE.out).mono fun e w' ⟨V, cv, h1, h2, h3⟩ => ⟨V, cv, by rw [h1, HLEN.out], h3⟩
          clear hO hb HMK HD4 HB4 HO4
          go_wp2_with fail
          refine HSS.out.mono ?_
          rintro e w6 ⟨V, cv, rfl, hb⟩
          have HD6 := Lib.hid (HD5.out.below hb)
          have HB6 := Lib.hid (HB5.out.trans (hb.mono HB5.out.size))
          have HT := Lib.hid (text_doc w6 _ _ _ _ _ HD6.out OK.out)
          rw [HTX.out] at HT
          have g1 : (((n + 1 : Nat) : Int) == (n : Int) + 1) = true := by simp
          have g2 : ((n : Int) + 1 == (n : Int) + 1) = true := by simp
          have gt : (text.toList == text.toList) = true := by simp
          clear hb HSS HD5 HB5
          go_wp2_with fail
          refine HT.out.mono ?_
          rintro e w7 ⟨rfl, hb⟩
          have HB7 := Lib.hid (HB6.out.trans (hb.mono HB6.out.size))
          clear hb HT
          go_wp2_with fail
          go_ret
          exact ⟨rfl, HB7.out⟩
      · rw [errV_ne hde] at HDO
        clear hie hde
        go_wp2_with fail
        refine HDO.out.mono ?_
        rintro e w3 ⟨rfl, S3, D3, hd3, ho3, hs3⟩
        have HB3 := Lib.hid (HB2.out.trans (ho3.below HB2.out.size HS1.out))
        clear hd3 ho3 hs3
        go_wp2_with fail
        go_ret
        exact ⟨rfl, HB3.out⟩
    · have t6 : (60 : Int) < (text.size : Int) := by omega
      have t7 : (text.size : Int) > 60 := by omega
      have t8 : decide ((text.size : Int) > 60) = true := decide_eq_true t7
      go_wp2_with fail
      go_ret
      exact ⟨rfl, HB2.out⟩
  · rw [errV_ne hie]
    clear hie
    go_wp2_with fail
    go_ret
    exact ⟨rfl, HB2.out⟩
set_option maxRecDepth 100000 in
theorem lifted (os : Os) (started : os.Started) (H : Type) (enc : TypeId × Value → H) :
    ReturnsInHanded {} Try.checked os 5 .any (Rows.dirCutsSpec.pre6 enc Try.prog Try.f5 Rows.dirCutsRow.domain false) (Rows.dirCutsSpec.post enc Try.prog Try.f5 false true false false) := by
  refine returnsInHanded_of_change (C := Try.checked) Try.own started (by kernel_rfl) Try.func5
    (ChangeSpec.witness6 (enc := enc) (C := Try.checked) false ⟨#[], #[.string ⟨#[]⟩, .slice none 0 0], []⟩ 8 (by kernel_rfl) (by kernel_rfl) (by kernel_rfl) (by kernel_rfl)) ?_
  intro W base args ds gs before hval0 hW _ _
  have hval : ∀ (j : Nat) t v, Try.f5.params[j]? = some t → args[j]? = some v → Value.okWide Try.prog W .any base t v := hval0
  obtain ⟨p, q, hA0, _⟩ := id hW
  have hA : DataW.TrodAll enc Try.prog W 0 (fun _ => true) true Try.f5.params.toList args.toList ds p := hA0
  rw [Try.params5] at hA hval
  obtain ⟨v0, v1, d0, d1, p0, p1, rfl, rfl, rfl, h0, h1⟩ := trodAll_two hA
  obtain ⟨a0, rfl, rfl, rfl, wa0⟩ := Go.ChangeMaps.open_string Try.underlying9 (hval 0 9 v0 rfl rfl) h0
  obtain ⟨A1, c1, l1, rfl, r1, g1, lc1, cm1⟩ := arg_ints (hval 1 23 v1 rfl rfl) h1
  refine (walk W a0 A1 c1 l1 r1 g1 (by unfold maxLen at cm1; omega) (by unfold maxLen at wa0; exact wa0)).mono fun e W' ⟨he, hb⟩ => ⟨_, he, ?_⟩
  exact law_post Try.laidOut (tb := 4) (by kernel_rfl) Try.underlying4 (by rw [Try.params5]; simp only [List.mem_cons, List.not_mem_nil, or_false]; rintro t (rfl | rfl) <;> exact ⟨by kernel_rfl, of_decide_eq_true (by kernel_rfl)⟩) rfl rfl hW hb

theorem holds : Rows.DirCutsSaid :=
  OpenClaim.holds_of_wide 5 Try.f5 rfl rfl rfl rfl rfl rfl rfl ⟨rfl, rfl, rfl, rfl, rfl⟩ rfl rfl rfl rfl rfl (by kernel_rfl) Try.func5 (by kernel_rfl)
    (of_decide_eq_true (by kernel_rfl)) (by unfold Func.isWrapper; first | (rw [if_pos (by decide +kernel)]; kernel_rfl) | (rw [if_neg (by decide +kernel)]; exact ⟨rfl, rfl⟩))
    (fun os started H enc _ => lifted os started H enc)
#print axioms holds

end lawDirCuts
end Go.Proofs.Ytgmdnmdniidngaa
