/- 2 texts in one: each says ahead of itself what is proved, and its conditions. -/
import Derived.Test.YthfbjfocmnikaaaGreatDoorBook
import Derived.Test.YthfbjfocmnikaaaGreatDoorDocKnown
import Derived.Test.YthfbjfocmnikaaaGreatDoorEditInsert
import Derived.Test.YthfbjfocmnikaaaGreatDoorHi
/- Two documents beside each other; a row of ops apart from them. Plain, and by the contract of Apply. Conditions: none of our own. -/
namespace Go.Proofs.YthfbjfocmnikaaaGreatDoor
open Go.RowKit
set_option linter.unusedVariables false
/-- Two documents of the call's own that share no block. -/
structure Docs2 (w : World) (B b1 b2 : Nat) (s1 s2 : LDoc) (wr : World) (S1 S2 : List Nat) (D1 D2 : DLay) : Prop where
  one : DocIs wr B S1 b1 s1 D1
  two : DocIs wr B S2 b2 s2 D2
  apart : ∀ g ∈ S1, g ∉ S2
  below : Below w.heap.size w wr
  base : w.heap.size ≤ B
namespace Docs2
variable {w wr w' : World} {B b1 b2 : Nat} {s1 s2 s : LDoc} {S1 S2 : List Nat} {D1 D2 : DLay}
theorem left (h : Docs2 w B b1 b2 s1 s2 wr S1 S2 D1 D2) (ht : DocTo wr B S1 b1 s w') : ∃ S' D', Docs2 w B b1 b2 s s2 w' S' S2 D' D2 ∧ Only S1 wr w' ∧ ∀ g ∈ S', g ∈ S1 ∨ wr.heap.size ≤ g := by
  obtain ⟨S', D', h1, h2, h3⟩ := ht
  refine ⟨S', D', ⟨h1, h.two.only h2 (fun g hg => h.apart g hg), fun g hg hm => ?_, h.below.trans (h2.below h.below.size (fun g hg => by have := (h.one.own g hg).1; have := h.base; omega)), h.base⟩, h2, h3⟩
  rcases h3 g hg with h4 | h4
  · exact h.apart g h4 hm
  · have := (h.two.own g hm).2; omega
theorem right (h : Docs2 w B b1 b2 s1 s2 wr S1 S2 D1 D2) (ht : DocTo wr B S2 b2 s w') : ∃ S' D', Docs2 w B b1 b2 s1 s w' S1 S' D1 D' ∧ Only S2 wr w' ∧ ∀ g ∈ S', g ∈ S2 ∨ wr.heap.size ≤ g := by
  obtain ⟨S', D', h1, h2, h3⟩ := ht
  refine ⟨S', D', ⟨h.one.only h2 (fun g hg hm => h.apart g hm hg), h1, fun g hg hm => ?_, h.below.trans (h2.below h.below.size (fun g hg => by have := (h.two.own g hg).1; have := h.base; omega)), h.base⟩, h2, h3⟩
  rcases h3 g hm with h4 | h4
  · exact h.apart g hg h4
  · have := (h.one.own g hg).2; omega
theorem step (h : Docs2 w B b1 b2 s1 s2 wr S1 S2 D1 D2) (hb : Below wr.heap.size wr w') : Docs2 w B b1 b2 s1 s2 w' S1 S2 D1 D2 :=
  ⟨h.one.below hb, h.two.below hb, h.apart, h.below.trans (hb.mono h.below.size), h.base⟩
theorem drewN (h : Docs2 w B b1 b2 s1 s2 wr S1 S2 D1 D2) (n : Nat) : Docs2 w B b1 b2 s1 s2 (wr.drewN n) S1 S2 D1 D2 :=
  ⟨h.one.drewN n, h.two.drewN n, h.apart, below_drewN h.below n, h.base⟩
theorem swap (h : Docs2 w B b1 b2 s1 s2 wr S1 S2 D1 D2) : Docs2 w B b2 b1 s2 s1 wr S2 S1 D2 D1 :=
  ⟨h.two, h.one, fun g h1 h2 => h.apart g h2 h1, h.below, h.base⟩
/-- The first is there; the second is newly made. -/
theorem make (hw : Below w.heap.size w wr) (hB : w.heap.size ≤ B) (h1 : DocIs wr B S1 b1 s1 D1) (hb : Below wr.heap.size wr w') (h2 : DocIs w' wr.heap.size S2 b2 s2 D2) : Docs2 w B b1 b2 s1 s2 w' S1 S2 D1 D2 :=
  ⟨h1.below hb, { h2 with book := h2.book.mono h1.size, marks := h2.marks.mono h1.size, known := h2.known.mono h1.size, ops := h2.ops.mono h1.size, seen := fun y hy => (h2.seen y hy).mono h1.size, own := fun g hg => by have := h2.own g hg; have := h1.size; omega },
    fun g hg hm => by have := (h1.own g hg).2; have := (h2.own g hm).1; omega, hw.trans (hb.mono hw.size), hB⟩
end Docs2
/-- A row of ops that reads, apart from the blocks S. -/
structure OpsBy (wr : World) (S : List Nat) (V : Option Addr) (zs : List OpAt) : Prop where
  row : Reads wr wr.heap.size 6 V zs.length (ocells zs)
  far : 0 < zs.length → ∀ g ∈ ob V, g ∉ S
  each : ∀ y ∈ zs, OpFar wr S y
namespace OpsBy
variable {wr w' : World} {S S' T : List Nat} {V : Option Addr} {zs : List OpAt}
theorem only (h : OpsBy wr S V zs) (ho : Only T wr w') (hT : ∀ g ∈ T, g ∈ S ∨ wr.heap.size ≤ g) (hS : ∀ g ∈ S', g ∈ S ∨ wr.heap.size ≤ g) : OpsBy w' S' V zs := by
  have key : ∀ {size n : Nat} {A : Option Addr} {xs : List Value}, Reads wr wr.heap.size size A n xs → (0 < n → ∀ g ∈ ob A, g ∉ S) → (0 < n → ∀ g ∈ ob A, g ∉ T) ∧ (0 < n → ∀ g ∈ ob A, g ∉ S') := fun {size n A xs} hr hf => by
    have hl : 0 < n → ∀ g ∈ ob A, g < wr.heap.size := fun hn g hg => by
      obtain ⟨ad, e, hb, _⟩ := hr.2 hn
      rw [e] at hg; simp [ob] at hg; omega
    refine ⟨fun hn g hg hm => ?_, fun hn g hg hm => ?_⟩
    · rcases hT g hm with h1 | h1
      · exact hf hn g hg h1
      · have := hl hn g hg; omega
    · rcases hS g hm with h1 | h1
      · exact hf hn g hg h1
      · have := hl hn g hg; omega
  obtain ⟨k1, k2⟩ := key h.row h.far
  refine ⟨h.row.only ho k1, k2, fun y hy => ?_⟩
  obtain ⟨f1, f2, f3⟩ := h.each y hy
  obtain ⟨k3, k4⟩ := key f1 f3
  exact ⟨f1.only ho k3, f2, k4⟩
theorem below (h : OpsBy wr S V zs) (hb : Below wr.heap.size wr w') : OpsBy w' S V zs := h.only (Only.of_below (S := []) hb) (by simp) (fun g hg => .inl hg)
theorem sub (h : OpsBy wr S V zs) (hs : ∀ g ∈ S', g ∈ S) : OpsBy wr S' V zs :=
  ⟨h.row, fun hn g hg hm => h.far hn g hg (hs g hm), fun y hy => ⟨(h.each y hy).1, (h.each y hy).2.1, fun hn g hg hm => (h.each y hy).2.2 hn g hg (hs g hm)⟩⟩
theorem of_own {N : Nat} {c : Nat} (h : OwnOps wr N V c zs) (hp : ∀ o ∈ zs.map OpAt.op, o.place.size ≤ 12) (hS : ∀ g ∈ S, g < N) : OpsBy wr S V zs := by
  refine ⟨h.row.reads, fun _ g hg hm => ?_, fun y hy => ⟨(h.seen y hy).reads, ?_, fun _ g hg hm => ?_⟩⟩
  · have := (h.row.lt g hg).1; have := hS g hm; omega
  · have := hp y.op (List.mem_map.2 ⟨y, hy, rfl⟩); omega
  · have := ((h.seen y hy).lt g hg).1; have := hS g hm; omega
theorem do_ (h : OpsBy wr S V zs) {B b : Nat} {st : LDoc} {D : DLay} (hd : DocIs wr B S b st D) (ok : st.Ok) (c : Nat) (hl : zs.length ≤ 1000000) :
    Calls Tryz.prog 90 #[.pointer (some ⟨b, 0, none⟩), .slice V zs.length c] wr (DoPost wr B S b (st.doE (zs.map OpAt.op)) (st.doR (zs.map OpAt.op))) :=
  do_any wr B S b st D hd ok V c zs h.row h.far h.each (by omega)
end OpsBy
/-- Two documents to which the same ops were applied. -/
def PairAt (w : World) (B b1 b2 n : Nat) (wr : World) : Prop := ∃ st S1 S2 D1 D2, Docs2 w B b1 b2 st st wr S1 S2 D1 D2 ∧ st.Ok ∧ Says st.ops st ∧ st.ops.length ≤ n
theorem PairAt.more {w wr : World} {B b1 b2 n m : Nat} (h : PairAt w B b1 b2 n wr) (hm : n ≤ m) : PairAt w B b1 b2 m wr := by
  obtain ⟨st, S1, S2, D1, D2, h1, h2, h3, h4⟩ := h
  exact ⟨st, S1, S2, D1, D2, h1, h2, h3, by omega⟩
theorem PairAt.round {w wr : World} {B b1 b2 n : Nat} (h : PairAt w B b1 b2 n wr) {A : Option Addr} {ys : List OpAt} (hr : Reads w w.heap.size 6 A ys.length (ocells ys)) (hg : ∀ y ∈ ys, y.Good w) {k : Nat} (hk : k < ys.length) :
    ∃ ad who nn what p letter seen ya yc, A = some ad ∧ Below w.heap.size w wr ∧ Hid (∀ W, Below w.heap.size w W → W.cell? (ad.add (k * 6)) = some (.int .i64 who) ∧ W.cell? ⟨(ad.add (k * 6)).block, (ad.add (k * 6)).off + 1, none⟩ = some (.int .i64 nn) ∧ W.cell? ⟨(ad.add (k * 6)).block, (ad.add (k * 6)).off + 2, none⟩ = some (.int .i64 what) ∧
      W.cell? ⟨(ad.add (k * 6)).block, (ad.add (k * 6)).off + 3, none⟩ = some (.string p) ∧ W.cell? ⟨(ad.add (k * 6)).block, (ad.add (k * 6)).off + 4, none⟩ = some (.int .i64 letter) ∧ W.cell? ⟨(ad.add (k * 6)).block, (ad.add (k * 6)).off + 5, none⟩ = some (.slice ya seen yc)) ∧
      Hid (Calls Tryz.prog 36 #[.pointer (some ⟨b1, 0, none⟩), .agg #[.int .i64 who, .int .i64 nn, .int .i64 what, .string p, .int .i64 letter, .slice ya seen yc]] wr (fun e w1 => (∃ (is : Bool) (ke : Int), e = .returned (.tuple #[.bool is, errV ke])) ∧ Below w.heap.size w w1 ∧
        Calls Tryz.prog 36 #[.pointer (some ⟨b2, 0, none⟩), .agg #[.int .i64 who, .int .i64 nn, .int .i64 what, .string p, .int .i64 letter, .slice ya seen yc]] w1 (fun e w2 => (∃ (is : Bool) (ke : Int), e = .returned (.tuple #[.bool is, errV ke])) ∧ PairAt w B b1 b2 (n + 1) w2))) := by
  obtain ⟨st, S1, S2, D1, D2, hd, hok, hs, hl⟩ := h
  obtain ⟨ad, rfl, hcel⟩ : ∃ ad, A = some ad ∧ ∀ W, Below w.heap.size w W → W.cell? (ad.add (k * 6)) = some (.int .i64 ys[k].op.dot.who) ∧ W.cell? ⟨(ad.add (k * 6)).block, (ad.add (k * 6)).off + 1, none⟩ = some (.int .i64 ys[k].op.dot.n) ∧ W.cell? ⟨(ad.add (k * 6)).block, (ad.add (k * 6)).off + 2, none⟩ = some (.int .i64 ys[k].op.what) ∧
      W.cell? ⟨(ad.add (k * 6)).block, (ad.add (k * 6)).off + 3, none⟩ = some (.string ys[k].op.place) ∧ W.cell? ⟨(ad.add (k * 6)).block, (ad.add (k * 6)).off + 4, none⟩ = some (.int .i64 ys[k].op.letter) ∧ W.cell? ⟨(ad.add (k * 6)).block, (ad.add (k * 6)).off + 5, none⟩ = some (.slice ys[k].at_ ys[k].op.seen.length ys[k].cap) := by
    obtain ⟨ad, e, _⟩ := hr.op hk
    refine ⟨ad, e, fun W hW => ?_⟩
    obtain ⟨ad', e', _, hh⟩ := (hr.below hW).op hk
    rw [e] at e'
    injection e' with e'
    subst e'
    exact hh
  have hgood := fun W (hW : Below w.heap.size w W) => (hg _ (List.getElem_mem hk)).below hW
  have hfar : ∀ S : List Nat, (∀ g ∈ S, B ≤ g) → 0 < ys[k].op.seen.length → ∀ g ∈ ob ys[k].at_, g ∉ S := fun S hS => (hg _ (List.getElem_mem hk)).1.far (fun g hg => by have := hS g hg; have := hd.base; omega)
  have hps := (hgood wr hd.below).2.1
  have HA := apply_doc wr _ _ _ _ _ hd.one hok ys[k].op ys[k].at_ ys[k].cap (by unfold maxLen at hps; omega) (hgood wr hd.below).1 (hfar S1 (fun g hg => (hd.one.own g hg).1))
  refine ⟨ad, _, _, _, _, _, _, _, _, rfl, hd.below, hcel, HA.mono ?_⟩
  rintro e w1 ⟨rfl, ht⟩
  obtain ⟨S', D', hd', ho', _⟩ := hd.left ht
  refine ⟨⟨_, _, rfl⟩, hd'.below, ?_⟩
  have HA2 := apply_doc w1 _ _ _ _ _ hd'.two hok ys[k].op ys[k].at_ ys[k].cap (by unfold maxLen at hps; omega) (hgood w1 hd'.below).1 (hfar S2 (fun g hg => (hd'.two.own g hg).1))
  refine HA2.mono ?_
  rintro e w2 ⟨rfl, ht2⟩
  obtain ⟨S'', D'', hd'', _, _⟩ := hd'.right ht2
  refine ⟨⟨_, _, rfl⟩, _, S', S'', D', D'', hd'', LDoc.apply_ok hok _, LDoc.apply_says hok hs _, ?_⟩
  rcases LDoc.apply_three (d := st) ys[k].op with ⟨_, _, q⟩ | ⟨_, _, q⟩ | ⟨_, _, q⟩
  · rw [q]; simp; omega
  · rw [q]; omega
  · rw [q]; omega
/-- Two documents, and rows of ops apart from both. -/
def Scene (w : World) (B b1 b2 : Nat) (s1 s2 : LDoc) (rows : List (Option Addr × List OpAt)) (wr : World) : Prop :=
  ∃ S1 S2 D1 D2, Docs2 w B b1 b2 s1 s2 wr S1 S2 D1 D2 ∧ ∀ r ∈ rows, OpsBy wr (S1 ++ S2) r.1 r.2
namespace Scene
variable {w wr w' : World} {B b1 b2 : Nat} {s1 s2 s : LDoc} {rows : List (Option Addr × List OpAt)}
theorem below (h : Scene w B b1 b2 s1 s2 rows wr) : Below w.heap.size w wr := by
  obtain ⟨S1, S2, D1, D2, h1, h2⟩ := h
  exact h1.below
theorem step (h : Scene w B b1 b2 s1 s2 rows wr) (hb : Below wr.heap.size wr w') : Scene w B b1 b2 s1 s2 rows w' := by
  obtain ⟨S1, S2, D1, D2, h1, h2⟩ := h
  exact ⟨S1, S2, D1, D2, h1.step hb, fun r hr => (h2 r hr).below hb⟩
theorem drewN (h : Scene w B b1 b2 s1 s2 rows wr) (n : Nat) : Scene w B b1 b2 s1 s2 rows (wr.drewN n) := h.step (below_drewN (Below.refl _ _) n)
theorem drew (h : Scene w B b1 b2 s1 s2 rows wr) : Scene w B b1 b2 s1 s2 rows wr.drew := h.step ((Below.refl _ _).drew)
theorem swap (h : Scene w B b1 b2 s1 s2 rows wr) : Scene w B b2 b1 s2 s1 rows wr := by
  obtain ⟨S1, S2, D1, D2, h1, h2⟩ := h
  exact ⟨S2, S1, D2, D1, h1.swap, fun r hr => (h2 r hr).sub (fun g hg => by rcases List.mem_append.1 hg with h | h <;> simp [h])⟩
theorem left (h : Scene w B b1 b2 s1 s2 rows wr) {Q : LDoc → Ending → World → Prop} :
    ∃ S1 D1, DocIs wr B S1 b1 s1 D1 ∧ (∀ r ∈ rows, OpsBy wr S1 r.1 r.2) ∧ ∀ s w', DocTo wr B S1 b1 s w' → Scene w B b1 b2 s s2 rows w' := by
  obtain ⟨S1, S2, D1, D2, h1, h2⟩ := h
  refine ⟨S1, D1, h1.one, fun r hr => (h2 r hr).sub (fun g hg => by simp [hg]), fun s w' ht => ?_⟩
  obtain ⟨S', D', g1, g2, g3⟩ := h1.left ht
  refine ⟨S', S2, D', D2, g1, fun r hr => (h2 r hr).only g2 (fun g hg => .inl (by simp [hg])) (fun g hg => ?_)⟩
  rcases List.mem_append.1 hg with h | h
  · rcases g3 g h with h3 | h3
    · exact .inl (by simp [h3])
    · exact .inr h3
  · exact .inl (by simp [h])
theorem doL (h : Scene w B b1 b2 s1 s2 rows wr) (ok : s1.Ok) {V : Option Addr} {zs : List OpAt} (hr : (V, zs) ∈ rows) (c : Nat) (hl : zs.length ≤ 1000000) :
    Calls Tryz.prog 90 #[.pointer (some ⟨b1, 0, none⟩), .slice V zs.length c] wr (fun e w' => e = .returned (errV (s1.doE (zs.map OpAt.op))) ∧ Scene w B b1 b2 (s1.doR (zs.map OpAt.op)) s2 rows w') := by
  obtain ⟨S1, D1, h1, h2, h3⟩ := h.left (Q := fun _ _ _ => True)
  exact ((h2 _ hr).do_ h1 ok c hl).mono fun e w' hh => ⟨hh.1, h3 _ _ hh.2⟩
theorem doR (h : Scene w B b1 b2 s1 s2 rows wr) (ok : s2.Ok) {V : Option Addr} {zs : List OpAt} (hr : (V, zs) ∈ rows) (c : Nat) (hl : zs.length ≤ 1000000) :
    Calls Tryz.prog 90 #[.pointer (some ⟨b2, 0, none⟩), .slice V zs.length c] wr (fun e w' => e = .returned (errV (s2.doE (zs.map OpAt.op))) ∧ Scene w B b1 b2 s1 (s2.doR (zs.map OpAt.op)) rows w') :=
  (h.swap.doL ok hr c hl).mono fun e w' hh => ⟨hh.1, hh.2.swap⟩
theorem insL (h : Scene w B b1 b2 s1 s2 rows wr) (ok : s1.Ok) (who off : Int) (text : ByteArray) (hw0 : -9223372036854775808 ≤ who) (hw1 : who ≤ 9223372036854775807) (ho : off ≤ 9223372036854775807) (ht : text.size ≤ 9223372036854775807) :
    Calls Tryz.prog 115 #[.pointer (some ⟨b1, 0, none⟩), .int .i64 who, .int .i64 off, .string text] wr (fun e w' => ∃ V c zs, e = .returned (.tuple #[.slice V zs.length c, errV (s1.insE who off text)]) ∧ zs.map OpAt.op = s1.insR who off text ∧ zs.length ≤ 200 ∧ Scene w B b1 b2 s1 s2 ((V, zs) :: rows) w') := by
  obtain ⟨S1, S2, D1, D2, h1, h2⟩ := h
  refine (insert_any wr _ _ _ _ _ h1.one ok who off text hw0 hw1 ho ht).mono ?_
  rintro e w' ⟨V, c, zs, rfl, z1, z2, hb⟩
  refine ⟨V, c, zs, rfl, z1, by have := insR_len (d := s1) (who := who) (off := off) (text := text); rw [← z1, List.length_map] at this; exact this, S1, S2, D1, D2, h1.step hb, fun r hr => ?_⟩
  rcases List.mem_cons.1 hr with rfl | hr
  · exact OpsBy.of_own z2 (by rw [z1]; exact insR_small) (fun g hg => by
      rcases List.mem_append.1 hg with h | h
      · exact (h1.one.own g h).2
      · exact (h1.two.own g h).2)
  · exact (h2 r hr).below hb
theorem insR (h : Scene w B b1 b2 s1 s2 rows wr) (ok : s2.Ok) (who off : Int) (text : ByteArray) (hw0 : -9223372036854775808 ≤ who) (hw1 : who ≤ 9223372036854775807) (ho : off ≤ 9223372036854775807) (ht : text.size ≤ 9223372036854775807) :
    Calls Tryz.prog 115 #[.pointer (some ⟨b2, 0, none⟩), .int .i64 who, .int .i64 off, .string text] wr (fun e w' => ∃ V c zs, e = .returned (.tuple #[.slice V zs.length c, errV (s2.insE who off text)]) ∧ zs.map OpAt.op = s2.insR who off text ∧ zs.length ≤ 200 ∧ Scene w B b1 b2 s1 s2 ((V, zs) :: rows) w') :=
  (h.swap.insL ok who off text hw0 hw1 ho ht).mono fun e w' ⟨V, c, zs, h1, h2, h3, h4⟩ => ⟨V, c, zs, h1, h2, h3, h4.swap⟩
theorem textL (h : Scene w B b1 b2 s1 s2 rows wr) (ok : s1.Ok) : Calls Tryz.prog 14 #[.pointer (some ⟨b1, 0, none⟩)] wr (fun e w' => e = .returned (.string (textOf s1.book)) ∧ Below wr.heap.size wr w' ∧ Scene w B b1 b2 s1 s2 rows w') := by
  obtain ⟨S1, D1, h1, h2, h3⟩ := h.left (Q := fun _ _ _ => True)
  exact (text_doc wr _ _ _ _ _ h1 ok).mono fun e w' ⟨g1, g2⟩ => ⟨g1, g2, h.step g2⟩
end Scene
end Go.Proofs.YthfbjfocmnikaaaGreatDoor
/- The document's Place, Letter, Seen, walked. Conditions: a text that an int may count. -/
namespace Go.Proofs.YthfbjfocmnikaaaGreatDoor
open Go.RowKit
set_option linter.unusedVariables false
set_option maxRecDepth 100000 in
theorem rseen_any (w : World) (x : LLeaf) : Calls Tryz.prog 62 #[.agg #[.string x.place, .int .i64 x.letter, .bool x.struck]] w (CheckPost w (.bool (seenB x))) := by
  obtain ⟨p, n, s⟩ := x
  by_cases h : n = 0
  · have hb : (n != 0) = false := by simp [h]
    have HS : Hid (seenB ⟨p, n, s⟩ = false) := by show _ = _; unfold seenB; rw [hb]; rfl
    clear h
    go_enter Tryz.func62, Tryz.ntmps62
    go_wp2_with fail
    go_ret
    exact ⟨by rw [HS.out]; rfl, (Below.refl _ _).alloc (Nat.le_refl _) _⟩
  · have hb : (n != 0) = true := by simp [h]
    have HS : Hid (seenB ⟨p, n, s⟩ = !s) := by show _ = _; unfold seenB; rw [hb]; rfl
    clear h
    go_enter Tryz.func62, Tryz.ntmps62
    go_wp2_with fail
    go_ret
    exact ⟨by rw [HS.out]; rfl, (Below.refl _ _).alloc (Nat.le_refl _) _⟩
end Go.Proofs.YthfbjfocmnikaaaGreatDoor
