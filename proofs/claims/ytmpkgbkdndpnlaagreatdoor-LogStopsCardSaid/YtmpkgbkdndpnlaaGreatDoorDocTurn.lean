/- 4 texts in one: each says ahead of itself what is proved, and its conditions. -/
import Derived.Test.YtmpkgbkdndpnlaaGreatDoorDocAt
import Derived.Test.YtmpkgbkdndpnlaaGreatDoorDocSpec
import Derived.Test.YtmpkgbkdndpnlaaGreatDoorSame0
import Derived.Test.YtmpkgbkdndpnlaaGreatDoorSmall
/- The keys of the map of joined cuts, asked by the model. Conditions: none. -/
namespace Go.Proofs.YtmpkgbkdndpnlaaGreatDoor
open Go.RowKit
set_option linter.unusedVariables false
namespace JKey
theorem same_one {x0 y0 : ByteArray} {x1 y1 : Int} {x2 y2 : Int} : (x0.toList == y0.toList && (x1 == y1 && (x2 == y2))) = decide ((⟨x0, ⟨x1, x2⟩⟩ : JKey) = ⟨y0, ⟨y1, y2⟩⟩) := by
  rw [Bool.eq_iff_iff]
  simp only [Bool.and_eq_true, beq_iff_eq, decide_eq_true_eq, JKey.mk.injEq, LDot.mk.injEq, same_toList]
set_option maxRecDepth 100000 in
theorem eq_key (W : World) (a b : JKey) : (Op.equal 193 a.val b.val).run Tryz.prog W = .ok (decide (a = b)) W := by
  obtain ⟨x0, x1, x2⟩ := a
  obtain ⟨y0, y1, y2⟩ := b
  have ui := Tryz.underlying3
  have us := Tryz.underlying9
  have hDD : ∀ (a b c d : Int) (W : World), (Op.equalIn 9999 31 (.agg #[.int .i64 a, .int .i64 b]) (.agg #[.int .i64 c, .int .i64 d])).run Tryz.prog W = .ok (a == c && b == d) W := fun a b c d W => by
    have hD : Tryz.prog.underlying 31 = some (.struct (Tryz.prog.fieldsOf 31)) := by kernel_rfl
    have hpD : Tryz.prog.stoodInHeld 31 = false := by kernel_rfl
    rw [show (9999 : Nat) = 9998 + 1 from rfl, run_equalIn_agg W 9998 31 _ _ hD hpD]
    simp only [Program.fieldsOf, Tryz.underlying31]
    clear hD hpD
    go_simp
    by_cases h1 : a = c <;> by_cases h2 : b = d <;> simp [h1, h2]
  have haD := Tryz.isAgg31
  have hS : Tryz.prog.underlying 193 = some (.struct (Tryz.prog.fieldsOf 193)) := by kernel_rfl
  have hp : Tryz.prog.stoodInHeld 193 = false := by kernel_rfl
  rw [← same_one]
  unfold Op.equal Op.maxDepth JKey.val
  simp only
  rw [show (10000 : Nat) = 9999 + 1 from rfl, run_equalIn_agg W 9999 193 _ _ hS hp]
  simp only [Program.fieldsOf, Tryz.underlying193]
  go_simp
  by_cases h0 : x0.toList = y0.toList <;> by_cases h1 : x1 = y1 <;> by_cases h2 : x2 = y2 <;> simp [h0, h1, h2]
set_option maxRecDepth 100000 in
theorem check_key (W : World) (em : Bool) (a : JKey) : (Instr.checkKey em 10000 193 a.val).run Tryz.prog W = .ok () W := by
  obtain ⟨x0, x1, x2⟩ := a
  have ui := Tryz.underlying3
  have us := Tryz.underlying9
  have uD := Tryz.underlying31
  have uK := Tryz.underlying193
  have haD := Tryz.isAgg31
  have hI : ∀ (n : Nat) (k : Int), (Instr.checkKey em (n + 1) 3 (.int .i64 k)).run Tryz.prog W = .ok () W := fun n k => by simp [Instr.checkKey, run_underlying ui]
  have hT : ∀ (n : Nat) (k : ByteArray), (Instr.checkKey em (n + 1) 9 (.string k)).run Tryz.prog W = .ok () W := fun n k => by simp [Instr.checkKey, run_underlying us]
  have hD : ∀ (n : Nat) (a b : Int), (Instr.checkKey em (n + 1 + 1) 31 (.agg #[.int .i64 a, .int .i64 b])).run Tryz.prog W = .ok () W := fun n a b => by
    unfold Instr.checkKey
    simp only [Sem.run_bind, run_underlying uD, Result.andThen_ok]
    go_simp
  unfold JKey.val
  rw [show (10000 : Nat) = 9997 + 1 + 1 + 1 from rfl]
  unfold Instr.checkKey
  simp only [Sem.run_bind, run_underlying uK, Result.andThen_ok]
  go_simp
theorem bits_key (a : JKey) : Instr.sameBits 10000 a.val a.val = true := by
  rw [show (10000 : Nat) = 9999 + 1 from rfl]
  unfold JKey.val
  simp [Instr.sameBits]
  have h : ∀ x : ByteArray, (x == x) = true := fun x => by
    rcases x with ⟨⟨l⟩⟩
    show (ByteArray.beq _ _) = true
    simp [ByteArray.beq]
  exact h _
theorem keyOk : KeyOk Tryz.prog 193 JKey.val := KeyOk.of_wide (by simp only [Tryz.underlying193]) eq_key check_key bits_key
end JKey
end Go.Proofs.YtmpkgbkdndpnlaaGreatDoor
/- What an op does to the marks of a document: cut, walked. Conditions: the document is right. -/
namespace Go.Proofs.YtmpkgbkdndpnlaaGreatDoor
open Go.RowKit
set_option linter.unusedVariables false
theorem bsized {l : List LLeaf} (h : BookOk l) : Sized l := fun x hx => by have := place_small (h.leafs x hx).place; omega
theorem msized {l : List LMark} (h : MarksOk l) : MSized l := fun x hx => by
  have h1 := h.marks x hx
  unfold markErr at h1
  have : placeErr x.place = 0 := by
    by_cases h2 : placeErr x.place ≠ 0
    · rw [if_pos h2] at h1; exact h1
    · omega
  have := place_small this
  omega
/-- The document in b is another one now; what else turned is its own, or new. -/
def DocTo (w : World) (B : Nat) (S : List Nat) (b : Nat) (st : LDoc) (w' : World) : Prop := ∃ S' D', DocIs w' B S' b st D' ∧ Only S w w' ∧ ∀ g ∈ S', g ∈ S ∨ w.heap.size ≤ g
def TurnPost (w : World) (B : Nat) (S : List Nat) (b : Nat) (k : Int) (st : LDoc) (e : Ending) (w' : World) : Prop := e = .returned (errV k) ∧ DocTo w B S b st w'
theorem DocTo.same {w w' : World} {B : Nat} {S : List Nat} {b : Nat} {st : LDoc} {D : DLay} (h : DocIs w B S b st D) (hb : Below w.heap.size w w') : DocTo w B S b st w' :=
  ⟨S, D, h.below hb, Only.of_below hb, fun g hg => .inl hg⟩
theorem DocIs.drewN {w : World} {B : Nat} {S : List Nat} {b : Nat} {st : LDoc} {D : DLay} (h : DocIs w B S b st D) (n : Nat) : DocIs (w.drewN n) B S b st D := h.only (T := []) ((Only.refl [] w).drewN n) (by simp)
theorem DocIs.bS {w : World} {B : Nat} {S : List Nat} {b : Nat} {st : LDoc} {D : DLay} (h : DocIs w B S b st D) : B ≤ b ∧ b < w.heap.size := h.own b h.subb
theorem DocIs.size {w : World} {B : Nat} {S : List Nat} {b : Nat} {st : LDoc} {D : DLay} (h : DocIs w B S b st D) : B ≤ w.heap.size := by have := h.bS; omega
/-- A step of a document, seen from further back. -/
theorem DocTo.back {w w1 w' : World} {B : Nat} {S S1 : List Nat} {b : Nat} {st : LDoc} (ho : Only S w w1) (hs : ∀ g ∈ S1, g ∈ S ∨ w.heap.size ≤ g) (h : DocTo w1 B S1 b st w') : DocTo w B S b st w' := by
  obtain ⟨S', D', h1, h2, h3⟩ := h
  refine ⟨S', D', h1, ho.trans_new h2 hs, fun g hg => ?_⟩
  have := ho.size
  rcases h3 g hg with h4 | h4
  · exact hs g h4
  · exact .inr (by omega)
theorem DocIs.setMarks' {w w' : World} {B : Nat} {S : List Nat} {b : Nat} {st : LDoc} {D : DLay} (h : DocIs w B S b st D) (hb : Below w.heap.size w w') {V : Option Addr} {c : Nat} {l : List LMark} (hV : Own w' w.heap.size 99 3 V l.length c (mcells l)) :
    DocTo w B S b { st with marks := l } (w'.setCell ⟨b, 1, none⟩ (.slice V l.length c)) := by
  refine ⟨_, _, (h.below hb).setMarks (hV.mono h.size), (Only.of_below hb).setCell (.inl h.subb) _, fun g hg => ?_⟩
  rcases List.mem_append.1 hg with hg | hg
  · exact .inr (hV.lt g hg).1
  · exact .inl hg
theorem DocIs.setBook' {w w' : World} {B : Nat} {S : List Nat} {b : Nat} {st : LDoc} {D : DLay} (h : DocIs w B S b st D) (hb : Below w.heap.size w w') {V : Option Addr} {c : Nat} {l : List LLeaf} (hV : Own w' w.heap.size 102 3 V l.length c (lcells l)) :
    DocTo w B S b { st with book := l } (w'.setCell ⟨b, 0, none⟩ (.slice V l.length c)) := by
  refine ⟨_, _, (h.below hb).setBook (hV.mono h.size), (Only.of_below hb).setCell (.inl h.subb) _, fun g hg => ?_⟩
  rcases List.mem_append.1 hg with hg | hg
  · exact .inr (hV.lt g hg).1
  · exact .inl hg
theorem giveM_ok {k : Int} (h : k = 0) (l : List LMark) : giveM k l = l := if_pos h
theorem giveL_ok {k : Int} (h : k = 0) (l : List LLeaf) : giveL k l = l := if_pos h
theorem zero_bool (w : World) : (zeroValue 4).run Tryz.prog w = .ok (.bool false) w := by go_simp
/-- A box of an op, and the document beside it. -/
structure Beside (w : World) (B : Nat) (S : List Nat) (b : Nat) (st : LDoc) (D : DLay) (o : LOp) (A : Option Addr) (c : Nat) (W0 : World) : Prop where
  was : DocIs w B S b st D
  doc : DocIs W0 B S b st D
  box : Blk W0 w.heap.size 34 (o.cells A c)
  below : Below w.heap.size w W0
  size : W0.heap.size = w.heap.size + 1
theorem Beside.new {w : World} {B : Nat} {S : List Nat} {b : Nat} {st : LDoc} {D : DLay} (h : DocIs w B S b st D) (o : LOp) (A : Option Addr) (c : Nat) : Beside w B S b st D o A c (w.alloc (.cells (o.cells A c) 34)) :=
  ⟨h, h.below ((Below.refl _ _).alloc (Nat.le_refl _) _), Blk.new w _ _, (Below.refl _ _).alloc (Nat.le_refl _) _, by simp⟩
section
variable {w : World} {B : Nat} {S : List Nat} {b : Nat} {st : LDoc} {D : DLay} {o : LOp} {A : Option Addr} {c : Nat} {W0 : World}
theorem Beside.cells (h : Beside w B S b st D o A c W0) {W : World} (hb : Below W0.heap.size W0 W) :
    W.cell? ⟨b, 0, none⟩ = some (.slice D.a1 st.book.length D.c1) ∧ W.cell? ⟨b, 1, none⟩ = some (.slice D.a2 st.marks.length D.c2) ∧ W.cell? ⟨b, 2, none⟩ = some (.slice D.a3 st.known.length D.c3) ∧ W.cell? ⟨b, 3, none⟩ = some (.slice D.a4 st.ops.length D.c4) ∧ W.cell? ⟨b, 4, none⟩ = some (.map (some D.r)) ∧
    W.cell? ⟨w.heap.size, 0, none⟩ = some (.int .i64 o.dot.who) ∧ W.cell? ⟨w.heap.size, 1, none⟩ = some (.int .i64 o.dot.n) ∧ W.cell? ⟨w.heap.size, 2, none⟩ = some (.int .i64 o.what) ∧ W.cell? ⟨w.heap.size, 3, none⟩ = some (.string o.place) ∧ W.cell? ⟨w.heap.size, 4, none⟩ = some (.int .i64 o.letter) ∧ W.cell? ⟨w.heap.size, 5, none⟩ = some (.slice A o.seen.length c) := by
  have h1 := h.doc.blk.below hb h.doc.blk.lt
  have h2 := h.box.below hb h.box.lt
  refine ⟨?_, ?_, ?_, ?_, ?_, ?_, ?_, ?_, ?_, ?_, ?_⟩
  · rw [h1.cell]; rfl
  · rw [h1.cell]; rfl
  · rw [h1.cell]; rfl
  · rw [h1.cell]; rfl
  · rw [h1.cell]; rfl
  · rw [h2.cell]; rfl
  · rw [h2.cell]; rfl
  · rw [h2.cell]; rfl
  · rw [h2.cell]; rfl
  · rw [h2.cell]; rfl
  · rw [h2.cell]; rfl
theorem Beside.frozen (h : Beside w B S b st D o A c W0) {W : World} (hb : Below W0.heap.size W0 W) (i : Nat) : W.frozen? ⟨b, i, none⟩ = false := (h.doc.blk.below hb h.doc.blk.lt).frozen i
theorem Beside.frozenBox (h : Beside w B S b st D o A c W0) {W : World} (hb : Below W0.heap.size W0 W) (i : Nat) : W.frozen? ⟨w.heap.size, i, none⟩ = false := (h.box.below hb h.box.lt).frozen i
theorem Beside.back (h : Beside w B S b st D o A c W0) {W : World} (hb : Below W0.heap.size W0 W) : Below w.heap.size w W := h.below.trans (hb.mono (by have := h.size; omega))
theorem Beside.lt (h : Beside w B S b st D o A c W0) : b < w.heap.size ∧ w.heap.size < W0.heap.size := ⟨h.was.bS.2, by have := h.size; omega⟩
/-- The lookup of a cut. -/
theorem Beside.gone (h : Beside w B S b st D o A c W0) {W : World} (hb : Below W0.heap.size W0 W) : (Instr.lookup 88 (.map (some D.r)) (.agg #[.string o.place, .int .i64 o.dot.who, .int .i64 o.dot.n]) false).run Tryz.prog W = .ok (.bool (st.gone o)) W := by
  have := lookup_run JKey.keyOk Tryz.underlying88 zero_bool (h.doc.below hb).joined ⟨o.place, o.dot⟩
  unfold LDoc.gone
  cases hg : get (⟨o.place, o.dot⟩ : JKey) st.joined with
  | none => rw [hg] at this; exact this
  | some v => rw [hg] at this; exact this
end
set_option maxRecDepth 100000 in
set_option maxHeartbeats 2000000 in
theorem cut_doc (w : World) (B : Nat) (S : List Nat) (b : Nat) (st : LDoc) (D : DLay) (h : DocIs w B S b st D) (ok : st.Ok) (o : LOp) (A : Option Addr) (c : Nat) (hp : o.place.size ≤ 9223372036854775807) :
    Calls Tryz.prog 91 #[.pointer (some ⟨b, 0, none⟩), o.val A c] w (TurnPost w B S b (st.cutE o) (st.cut o)) := by
  obtain ⟨W0, hW0⟩ : ∃ W0, W0 = w.alloc (.cells (o.cells A c) 34) := ⟨_, rfl⟩
  have HB : Hid (Beside w B S b st D o A c W0) := by show Beside _ _ _ _ _ _ _ _ _ _; rw [hW0]; exact Beside.new h o A c
  have hl := fun k => HB.out.gone (below_drewN (Below.refl W0.heap.size W0) k)
  have hcut := fun W (hb : Below W0.heap.size W0 W) => cut_any W D.a2 D.c2 st.marks ⟨o.place, o.dot⟩ (HB.out.doc.below hb).marks.reads (msized ok.marks) (by have := ok.marks.few; omega) hp
  have HEE := Lib.hid (show st.cutE o = (if st.gone o = true then 0 else cutErr st.marks ⟨o.place, o.dot⟩) from rfl)
  have HCC := Lib.hid (show st.cut o = (if st.gone o = true then st else if cutErr st.marks ⟨o.place, o.dot⟩ = 0 then { st with marks := cutRes st.marks ⟨o.place, o.dot⟩ } else st) from rfl)
  have HC := Lib.hid hcut
  obtain ⟨hbs, hb0⟩ := HB.out.lt
  have HBR : Hid (Below W0.heap.size W0 W0) := Below.refl _ _
  generalize st.cutE o = ke at *
  generalize st.cut o = kt at *
  have HCEL := Lib.hid (fun W (hb : Below W0.heap.size W0 W) => HB.out.cells hb)
  have HFR := Lib.hid (fun W (hb : Below W0.heap.size W0 W) => HB.out.frozen hb)
  have HBK := Lib.hid (fun W (hb : Below W0.heap.size W0 W) => HB.out.back hb)
  have HBW := Lib.hid HB.out.below
  have HDW := Lib.hid h
  have HDO := Lib.hid HB.out.doc
  clear h ok hcut HB
  obtain ⟨⟨who, n⟩, what, p, letter, seen⟩ := o
  unfold LOp.val
  unfold LOp.cells at hW0
  simp only at *
  obtain ⟨c0, c1, c2, c3, c4, d0, d1, d2, d3, d4, d5⟩ := HCEL.out _ HBR.out
  cases hg : st.gone ⟨⟨who, n⟩, what, p, letter, seen⟩ with
  | true =>
    rw [hg] at hl HEE HCC
    clear hg HC
    go_enter Tryz.func91, Tryz.ntmps91
    go_wp2_with fail
    rw [← hW0]
    clear hW0
    go_quiet (fail)
    go_wp2_with fail
    go_ret
    exact ⟨by rw [HEE.out]; rfl, by rw [HCC.out]; exact DocTo.same HDW.out (below_drewN (HBK.out _ HBR.out) _)⟩
  | false =>
    rw [hg] at hl HEE HCC
    clear hg
    by_cases hk : cutErr st.marks ⟨p, ⟨who, n⟩⟩ = 0
    · rw [giveM_ok hk, hk] at HC
      rw [hk] at HEE HCC
      have HT : Hid (kt = { st with marks := cutRes st.marks ⟨p, ⟨who, n⟩⟩ }) := by rw [HCC.out]; rfl
      clear hk HCC
      go_enter Tryz.func91, Tryz.ntmps91
      go_wp2_with fail
      rw [← hW0]
      clear hW0
      go_quiet (fail)
      go_wp2_with fail
      go_region_held3 (fun w' => w'.cell? ⟨b, 1, none⟩ = some (.slice D.a2 st.marks.length D.c2) ∧ w'.cell? ⟨w.heap.size, 0, none⟩ = some (.int .i64 who) ∧ w'.cell? ⟨w.heap.size, 1, none⟩ = some (.int .i64 n) ∧ w'.cell? ⟨w.heap.size, 3, none⟩ = some (.string p))
        (first | go_keep | (refine ⟨?_, ?_, ?_, ?_⟩ <;> assumption))
        ((go_at_call 123; refine (HC.out _ (by first | exact HBR.out | exact below_drewN HBR.out _ | exact (below_drewN HBR.out _).drew)).mono ?_; rintro e w3 ⟨V, cV, rfl, hV, hb3⟩
          have HB3 : Hid (Below W0.heap.size W0 w3) := below_of_drewN (B := W0.heap.size) hb3
          obtain ⟨e0, e1, e2, e3, e4, f0, f1, f2, f3, f4, f5⟩ := HCEL.out _ HB3.out
          have HV3 : Hid (Own w3 W0.heap.size 99 3 V (cutRes st.marks ⟨p, ⟨who, n⟩⟩).length cV (mcells (cutRes st.marks ⟨p, ⟨who, n⟩⟩))) := hV
          clear hb3 hV))
      rw [show errV 0 = .nilIface from rfl]
      have fz := HFR.out _ HB3.out 1
      go_wp2_with fail
      go_ret
      refine ⟨by rw [HEE.out]; rfl, ?_⟩
      rw [HT.out]
      exact DocTo.back (Only.of_below HBW.out) (fun g hg => .inl hg) (DocIs.setMarks' HDO.out HB3.out HV3.out)
    · rw [giveM_bad hk] at HC
      have HT : Hid (kt = st) := by rw [HCC.out, if_neg (by decide), if_neg hk]; rfl
      have HK : Hid (errV ke = .iface 79 (.int .i64 (cutErr st.marks ⟨p, ⟨who, n⟩⟩))) := by rw [HEE.out, if_neg (by decide)]; exact errV_ne hk
      have HKV := Lib.hid (errV_ne hk)
      clear hk HCC HEE
      go_enter Tryz.func91, Tryz.ntmps91
      go_wp2_with fail
      rw [← hW0]
      clear hW0
      go_quiet (fail)
      go_wp2_with fail
      go_region_held3 (fun w' => w'.cell? ⟨b, 1, none⟩ = some (.slice D.a2 st.marks.length D.c2) ∧ w'.cell? ⟨w.heap.size, 0, none⟩ = some (.int .i64 who) ∧ w'.cell? ⟨w.heap.size, 1, none⟩ = some (.int .i64 n) ∧ w'.cell? ⟨w.heap.size, 3, none⟩ = some (.string p))
        (first | go_keep | (refine ⟨?_, ?_, ?_, ?_⟩ <;> assumption))
        ((go_at_call 123; refine (HC.out _ (by first | exact HBR.out | exact below_drewN HBR.out _ | exact (below_drewN HBR.out _).drew)).mono ?_; rintro e w3 ⟨V, cV, rfl, hV, hb3⟩
          have HB3 : Hid (Below W0.heap.size W0 w3) := below_of_drewN (B := W0.heap.size) hb3
          obtain ⟨e0, e1, e2, e3, e4, f0, f1, f2, f3, f4, f5⟩ := HCEL.out _ HB3.out
          clear hb3 hV))
      rw [HKV.out]
      go_wp2_with fail
      go_ret
      exact ⟨by rw [HK.out]; rfl, by rw [HT.out]; exact DocTo.same HDW.out (HBK.out _ HB3.out)⟩
end Go.Proofs.YtmpkgbkdndpnlaaGreatDoor
/- What an op does to the marks of a document: joined, walked. Conditions: the document is right. -/
namespace Go.Proofs.YtmpkgbkdndpnlaaGreatDoor
open Go.RowKit
set_option linter.unusedVariables false
theorem insAll_succ (p : ByteArray) (j : List (JKey × Bool)) (l : List LDot) {k : Nat} (hk : k < l.length) : LDoc.insAll p j (l.take (k + 1)) = ins ⟨p, l[k]⟩ true (LDoc.insAll p j (l.take k)) := by
  unfold LDoc.insAll
  rw [List.take_succ_eq_append_getElem hk, List.foldl_append]
  rfl
theorem DocIs.setMap' {w w' : World} {B : Nat} {S : List Nat} {b : Nat} {st : LDoc} {D : DLay} (h : DocIs w B S b st D) (ho : Only [D.r] w w') {j : List (JKey × Bool)} (hj : MapAt w' D.r JKey.val boolV j) : DocTo w B S b { st with joined := j } w' :=
  ⟨S, D, h.setMap ho hj, ho.mono (fun i hi => by simp at hi; subst hi; exact .inl h.subr), fun g hg => .inl hg⟩
/-- Rounds of the walk through what a join saw. -/
def JoinLoop (W0 : World) (B : Nat) (S : List Nat) (b : Nat) (st : LDoc) (o : LOp) (i : Value) (wr : World) : Prop :=
  ∃ k : Nat, k ≤ o.seen.length ∧ i = .int .i64 k ∧ Hid (DocTo W0 B S b { st with marks := joinRes st.marks o.place o.seen, joined := LDoc.insAll o.place st.joined (o.seen.take k) } wr)
set_option maxRecDepth 100000 in
set_option maxHeartbeats 4000000 in
theorem join_doc (w : World) (B : Nat) (S : List Nat) (b : Nat) (st : LDoc) (D : DLay) (h : DocIs w B S b st D) (ok : st.Ok) (o : LOp) (A : Option Addr) (c : Nat) (hp : o.place.size ≤ 9223372036854775807)
    (hr : Reads w w.heap.size 2 A o.seen.length (dcells o.seen)) (hn : o.seen.length ≤ 9223372036854775807) (hns : 0 < o.seen.length → ∀ g ∈ ob A, g ∉ S) :
    Calls Tryz.prog 92 #[.pointer (some ⟨b, 0, none⟩), o.val A c] w (TurnPost w B S b (st.joinE o) (st.join o)) := by
  obtain ⟨W0, hW0⟩ : ∃ W0, W0 = w.alloc (.cells (o.cells A c) 34) := ⟨_, rfl⟩
  have HB : Hid (Beside w B S b st D o A c W0) := by show Beside _ _ _ _ _ _ _ _ _ _; rw [hW0]; exact Beside.new h o A c
  have HRS : Hid (Reads W0 W0.heap.size 2 A o.seen.length (dcells o.seen)) := (hr.below HB.out.below).more HB.out.below.size
  have hcut := fun W (hb : Below W0.heap.size W0 W) => join_any W D.a2 D.c2 st.marks o.place A c o.seen (HB.out.doc.below hb).marks.reads (msized ok.marks) (by have := ok.marks.few; omega) hp ((HRS.out.below hb).more hb.size) hn
  have HEE := Lib.hid (show st.joinE o = joinErr st.marks o.place o.seen from rfl)
  have HCC := Lib.hid (show st.join o = (if st.joinE o = 0 then { st with marks := joinRes st.marks o.place o.seen, joined := LDoc.insAll o.place st.joined o.seen } else st) from rfl)
  have HC := Lib.hid hcut
  obtain ⟨hbs, hb0⟩ := HB.out.lt
  have HBR : Hid (Below W0.heap.size W0 W0) := Below.refl _ _
  have HBOX : Hid (∀ W, Only S W0 W → Blk W w.heap.size 34 (o.cells A c)) := fun W ho => ho.blk HB.out.box (fun hm => by have := (h.own _ hm).2; omega)
  have HNS := Lib.hid hns
  generalize st.joinE o = ke at *
  generalize st.join o = kt at *
  have HCEL := Lib.hid (fun W (hb : Below W0.heap.size W0 W) => HB.out.cells hb)
  have HFR := Lib.hid (fun W (hb : Below W0.heap.size W0 W) => HB.out.frozen hb)
  have HBK := Lib.hid (fun W (hb : Below W0.heap.size W0 W) => HB.out.back hb)
  have HBW := Lib.hid HB.out.below
  have HDW := Lib.hid h
  have HDO := Lib.hid HB.out.doc
  have HOWN : Hid (∀ g ∈ S, g < w.heap.size) := fun g hg => (h.own g hg).2
  clear h ok hcut HB hr hns
  obtain ⟨⟨who, n⟩, what, p, letter, seen⟩ := o
  unfold LOp.val
  unfold LOp.cells at hW0 HBOX
  simp only at *
  obtain ⟨c0, c1, c2, c3, c4, d0, d1, d2, d3, d4, d5⟩ := HCEL.out _ HBR.out
  by_cases hk : joinErr st.marks p seen = 0
  · rw [giveM_ok hk, hk] at HC
    rw [hk] at HEE
    have HT : Hid (kt = { st with marks := joinRes st.marks p seen, joined := LDoc.insAll p st.joined seen }) := by rw [HCC.out, HEE.out]; rfl
    clear hk HCC
    go_enter Tryz.func92, Tryz.ntmps92
    go_wp2_with fail
    rw [← hW0]
    clear hW0
    go_region_held3 (fun w' => w'.cell? ⟨b, 1, none⟩ = some (.slice D.a2 st.marks.length D.c2) ∧ w'.cell? ⟨w.heap.size, 3, none⟩ = some (.string p) ∧ w'.cell? ⟨w.heap.size, 5, none⟩ = some (.slice A seen.length c))
      (first | go_keep | (refine ⟨?_, ?_, ?_⟩ <;> assumption))
      ((go_at_call 124; refine (HC.out _ (by first | exact HBR.out | exact below_drewN HBR.out _ | exact HBR.out.drew)).mono ?_; rintro e w3 ⟨V, cV, rfl, hV, hb3⟩
        have HB3 : Hid (Below W0.heap.size W0 w3) := by first | exact hb3 | exact below_of_drewN (B := W0.heap.size) (n := 1) hb3
        have HV3 : Hid (Own w3 W0.heap.size 99 3 V (joinRes st.marks p seen).length cV (mcells (joinRes st.marks p seen))) := hV
        obtain ⟨e0, e1, e2, e3, e4, f0, f1, f2, f3, f4, f5⟩ := HCEL.out _ HB3.out
        clear hb3 hV))
    rw [show errV 0 = .nilIface from rfl]
    have fz := HFR.out _ HB3.out 1
    have HM3 := Lib.hid (DocIs.setMarks' HDO.out HB3.out HV3.out)
    have hbx : (⟨w.heap.size, 5, none⟩ : Addr) ≠ ⟨b, 1, none⟩ := by intro h; injection h; omega
    go_wp2_with fail
    go_loopw [31] (fun i wr => JoinLoop W0 B S b st ⟨⟨who, n⟩, what, p, letter, seen⟩ i wr) (fun i _ => seen.length - (intOf i).toNat)
    case atStart => exact ⟨0, Nat.zero_le _, rfl, HM3.out⟩
    case round =>
      obtain ⟨k, hk, rfl, HD⟩ := hrel
      simp only at hk
      by_cases hkn : k < seen.length
      · obtain ⟨S1, D1, HD1, HO1, HS1⟩ := HD.out
        have hbx1 := HBOX.out _ HO1
        have HR1 : Reads wr wr.heap.size 2 A seen.length (dcells seen) := HRS.out.only HO1 HNS.out
        obtain ⟨ad, rfl, hb, x0, x1⟩ := HR1.dot hkn
        have hlt : (k : Int) < (seen.length : Int) := by omega
        have hk0 : (0 : Int) ≤ (k : Int) := by omega
        have hmap := insAll_succ p st.joined seen hkn
        generalize seen[k] = x at *
        obtain ⟨x0', x1'⟩ := x
        simp only at x0 x1 hmap
        obtain ⟨WX, hWX⟩ : ∃ WX, WX = wr.alloc (.cells #[.int .i64 x0', .int .i64 x1'] 31) := ⟨_, rfl⟩
        have hbX : Below wr.heap.size wr WX := by rw [hWX]; exact (Below.refl _ _).alloc (Nat.le_refl _) _
        have hDX := HD1.below hbX
        obtain ⟨wu, hwu⟩ : ∃ wu : Nat → World, ∀ m, (Instr.mapUpdate 88 (.map (some D1.r)) (.agg #[.string p, .int .i64 x0', .int .i64 x1']) (.bool true)).run Tryz.prog (WX.drewN m) = .ok () (wu m) ∧
            MapAt (wu m) D1.r JKey.val boolV (ins ⟨p, ⟨x0', x1'⟩⟩ true (LDoc.insAll p st.joined (seen.take k))) ∧ Only [D1.r] (WX.drewN m) (wu m) :=
          ⟨fun m => Classical.choose (update_run JKey.keyOk Tryz.underlying88 (hDX.drewN m).joined ⟨p, ⟨x0', x1'⟩⟩ true), fun m => Classical.choose_spec (update_run JKey.keyOk Tryz.underlying88 (hDX.drewN m).joined ⟨p, ⟨x0', x1'⟩⟩ true)⟩
        have hu1 : (Instr.mapUpdate 88 (.map (some D1.r)) (.agg #[.string p, .int .i64 x0', .int .i64 x1']) (.bool true)).run Tryz.prog WX.drew = .ok () (wu 1) := (hwu 1).1
        have HU := Lib.hid (hwu 1).2
        generalize wu 1 = wv at *
        have HDX := Lib.hid hDX
        have hw4 : WX.cell? ⟨b, 4, none⟩ = some (.map (some D1.r)) := by rw [hDX.blk.cell]; rfl
        have hw3 : WX.cell? ⟨w.heap.size, 3, none⟩ = some (.string p) := by rw [(hbx1.below hbX hbx1.lt).cell]; rfl
        have hx0 : WX.cell? ⟨wr.heap.size, 0, none⟩ = some (.int .i64 x0') := by rw [hWX, (Blk.new wr _ _).cell]; rfl
        have hx1 : WX.cell? ⟨wr.heap.size, 1, none⟩ = some (.int .i64 x1') := by rw [hWX, (Blk.new wr _ _).cell]; rfl
        have HBX := Lib.hid hbX
        have HO1' := Lib.hid HO1
        have HS1' := Lib.hid HS1
        have HM := Lib.hid hmap
        clear hwu hDX hbX hbx1 HO1 HS1 hmap HD HR1 hk
        go_wp2_with fail
        rw [← hWX]
        clear hWX
        go_region
        all_goals
          go_wp2_with fail
          go_roundw
          case rel =>
            refine ⟨k + 1, by simp only; omega, by go_num, ?_⟩
            show DocTo _ _ _ _ _ _
            rw [HM.out]
            exact DocTo.back ((HO1'.out.below_step HBX.out).drewN 1) HS1'.out ((HDX.out.drewN 1).setMap' HU.out.2 HU.out.1)
          case measure => simp [intOf]; omega
      · have hd : decide ((k : Int) < (seen.length : Int)) = false := by simp; omega
        have hke : k = seen.length := by omega
        subst hke
        have HD2 := Lib.hid (DocTo.back (Only.of_below HBW.out) (fun g hg => .inl hg) HD.out)
        rw [List.take_length] at HD2
        clear HD
        go_wp2_with fail
        go_ret
        exact ⟨by rw [HEE.out]; rfl, by rw [HT.out]; exact HD2.out⟩
  · rw [giveM_bad hk] at HC
    have HT : Hid (kt = st) := by rw [HCC.out, HEE.out, if_neg hk]; rfl
    have HK : Hid (errV ke = .iface 79 (.int .i64 (joinErr st.marks p seen))) := by rw [HEE.out]; exact errV_ne hk
    have HKV := Lib.hid (errV_ne hk)
    clear hk HCC HEE
    go_enter Tryz.func92, Tryz.ntmps92
    go_wp2_with fail
    rw [← hW0]
    clear hW0
    go_region_held3 (fun w' => w'.cell? ⟨b, 1, none⟩ = some (.slice D.a2 st.marks.length D.c2) ∧ w'.cell? ⟨w.heap.size, 3, none⟩ = some (.string p) ∧ w'.cell? ⟨w.heap.size, 5, none⟩ = some (.slice A seen.length c))
      (first | go_keep | (refine ⟨?_, ?_, ?_⟩ <;> assumption))
      ((go_at_call 124; refine (HC.out _ (by first | exact HBR.out | exact below_drewN HBR.out _ | exact HBR.out.drew)).mono ?_; rintro e w3 ⟨V, cV, rfl, hV, hb3⟩
        have HB3 : Hid (Below W0.heap.size W0 w3) := by first | exact hb3 | exact below_of_drewN (B := W0.heap.size) (n := 1) hb3
        obtain ⟨e0, e1, e2, e3, e4, f0, f1, f2, f3, f4, f5⟩ := HCEL.out _ HB3.out
        clear hb3 hV))
    rw [HKV.out]
    go_wp2_with fail
    go_ret
    exact ⟨by rw [HK.out]; rfl, by rw [HT.out]; exact DocTo.same HDW.out (HBK.out _ HB3.out)⟩
end Go.Proofs.YtmpkgbkdndpnlaaGreatDoor
/- What an op does to a document, walked. Conditions: the document is right, the op is right. -/
namespace Go.Proofs.YtmpkgbkdndpnlaaGreatDoor
open Go.RowKit
set_option linter.unusedVariables false
namespace LDoc
theorem turn_same {d : LDoc} {o : LOp} (h : d.turnE o ≠ 0) : d.turn o = d := by
  unfold turnE at h
  unfold turn
  by_cases h1 : o.what = 1
  · rw [if_pos h1] at h; rw [if_pos h1, if_neg h]
  rw [if_neg h1] at h
  rw [if_neg h1]
  by_cases h2 : o.what = 2
  · rw [if_pos h2] at h; rw [if_pos h2, if_neg h]
  rw [if_neg h2] at h
  rw [if_neg h2]
  by_cases h3 : o.what = 3
  · rw [if_pos h3] at h
    rw [if_pos h3]
    unfold cutE at h
    unfold cut
    by_cases hg : d.gone o = true
    · rw [if_pos hg] at h; exact absurd rfl h
    · rw [if_neg hg] at h; rw [if_neg hg, if_neg h]
  rw [if_neg h3] at h
  rw [if_neg h3]
  by_cases h4 : o.what = 4
  · rw [if_pos h4] at h
    rw [if_pos h4]
    unfold join
    rw [if_neg h]
  · rw [if_neg h4] at h; exact absurd rfl h
end LDoc
set_option maxRecDepth 100000 in
set_option maxHeartbeats 4000000 in
theorem turn_doc (w : World) (B : Nat) (S : List Nat) (b : Nat) (st : LDoc) (D : DLay) (h : DocIs w B S b st D) (ok : st.Ok) (o : LOp) (A : Option Addr) (c : Nat) (hp : opErr o = 0)
    (hr : Reads w w.heap.size 2 A o.seen.length (dcells o.seen)) (hns : 0 < o.seen.length → ∀ g ∈ ob A, g ∉ S) :
    Calls Tryz.prog 58 #[.pointer (some ⟨b, 0, none⟩), o.val A c] w (TurnPost w B S b (st.turnE o) (st.turn o)) := by
  obtain ⟨W0, hW0⟩ : ∃ W0, W0 = w.alloc (.cells (o.cells A c) 34) := ⟨_, rfl⟩
  have HB : Hid (Beside w B S b st D o A c W0) := by show Beside _ _ _ _ _ _ _ _ _ _; rw [hW0]; exact Beside.new h o A c
  obtain ⟨q1, hwh, hpl, hlt, q5, q6, hsl, q8⟩ := op_ok hp
  have hps := place_small hpl
  have HRS : Hid (Reads W0 W0.heap.size 2 A o.seen.length (dcells o.seen)) := (hr.below HB.out.below).more HB.out.below.size
  have hfew := ok.book.few
  have HCW := Lib.hid (fun W (hb : Below W0.heap.size W0 W) => write_any W D.a1 D.c1 st.book o.place o.letter (HB.out.doc.below hb).book.reads (bsized ok.book) (by omega) (by omega))
  have HCS := Lib.hid (fun W (hb : Below W0.heap.size W0 W) => strike_any W D.a1 D.c1 st.book o.place (HB.out.doc.below hb).book.reads (bsized ok.book) (by omega) (by omega))
  have HCC := Lib.hid (fun W (hb : Below W0.heap.size W0 W) => cut_doc W B S b st D (HB.out.doc.below hb) ok o A c (by omega))
  have HCJ := Lib.hid (fun W (hb : Below W0.heap.size W0 W) => join_doc W B S b st D (HB.out.doc.below hb) ok o A c (by omega) ((HRS.out.below hb).more hb.size) (by omega) hns)
  obtain ⟨hbs, hb0⟩ := HB.out.lt
  have HBR : Hid (Below W0.heap.size W0 W0) := Below.refl _ _
  have HCEL := Lib.hid (fun W (hb : Below W0.heap.size W0 W) => HB.out.cells hb)
  have HFR := Lib.hid (fun W (hb : Below W0.heap.size W0 W) => HB.out.frozen hb)
  have HBK := Lib.hid (fun W (hb : Below W0.heap.size W0 W) => HB.out.back hb)
  have HBW := Lib.hid HB.out.below
  have HDW := Lib.hid h
  have HDO := Lib.hid HB.out.doc
  have HE1 : Hid (o.what = 1 → st.turnE o = writeErr st.book o.place o.letter ∧ (writeErr st.book o.place o.letter = 0 → st.turn o = { st with book := writeRes st.book o.place o.letter })) := fun h1 =>
    ⟨by unfold LDoc.turnE; rw [if_pos h1], fun h2 => by unfold LDoc.turn; rw [if_pos h1, if_pos h2]⟩
  have HE2 : Hid (o.what = 2 → st.turnE o = strikeErr st.book o.place ∧ (strikeErr st.book o.place = 0 → st.turn o = { st with book := strikeRes st.book o.place })) := fun h1 =>
    ⟨by unfold LDoc.turnE; rw [if_neg (by omega), if_pos h1], fun h2 => by unfold LDoc.turn; rw [if_neg (by omega), if_pos h1, if_pos h2]⟩
  have HE3 : Hid (o.what = 3 → st.turnE o = st.cutE o ∧ st.turn o = st.cut o) := fun h1 =>
    ⟨by unfold LDoc.turnE; rw [if_neg (by omega), if_neg (by omega), if_pos h1], by unfold LDoc.turn; rw [if_neg (by omega), if_neg (by omega), if_pos h1]⟩
  have HE4 : Hid (o.what = 4 → st.turnE o = st.joinE o ∧ st.turn o = st.join o) := fun h1 =>
    ⟨by unfold LDoc.turnE; rw [if_neg (by omega), if_neg (by omega), if_neg (by omega), if_pos h1], by unfold LDoc.turn; rw [if_neg (by omega), if_neg (by omega), if_neg (by omega), if_pos h1]⟩
  have HTS : Hid (st.turnE o ≠ 0 → st.turn o = st) := LDoc.turn_same
  generalize st.turnE o = ke at *
  generalize st.turn o = kt at *
  generalize st.cutE o = ce at *
  generalize st.cut o = ct at *
  generalize st.joinE o = je at *
  generalize st.join o = jt at *
  clear h ok HB hr hns hp hpl hlt hps hsl hfew q1 q5 q6 q8
  obtain ⟨⟨who, n⟩, what, p, letter, seen⟩ := o
  unfold LOp.val at *
  unfold LOp.cells at hW0
  simp only at *
  obtain ⟨c0, c1, c2, c3, c4, d0, d1, d2, d3, d4, d5⟩ := HCEL.out _ HBR.out
  rcases (show what = 1 ∨ what = 2 ∨ what = 3 ∨ what = 4 by omega) with hw | hw | hw | hw
  · subst hw
    clear HCS HCC HCJ HE2 HE3 HE4 hwh
    obtain ⟨hk1, hk2⟩ := HE1.out rfl
    by_cases hk : writeErr st.book p letter = 0
    · rw [giveL_ok hk, hk] at HCW
      have HT := Lib.hid (hk2 hk)
      have HK := Lib.hid (hk1.trans hk)
      clear hk hk1 hk2 HE1 HTS
      go_enter Tryz.func58, Tryz.ntmps58
      go_wp2_with fail
      rw [← hW0]
      clear hW0
      go_region_held3 (fun w' => w'.cell? ⟨b, 0, none⟩ = some (.slice D.a1 st.book.length D.c1) ∧ w'.cell? ⟨w.heap.size, 3, none⟩ = some (.string p) ∧ w'.cell? ⟨w.heap.size, 4, none⟩ = some (.int .i64 letter))
        (first | go_keep | (refine ⟨?_, ?_, ?_⟩ <;> assumption))
        ((go_at_call 93; refine (HCW.out _ (by first | exact HBR.out | exact below_drewN HBR.out _ | exact HBR.out.drew)).mono ?_; rintro e w3 ⟨V, cV, rfl, hV, hb3⟩
          have HB3 : Hid (Below W0.heap.size W0 w3) := by first | exact hb3 | exact below_of_drewN (B := W0.heap.size) (n := 1) hb3
          have HV3 : Hid (Own w3 W0.heap.size 102 3 V (writeRes st.book p letter).length cV (lcells (writeRes st.book p letter))) := hV
          obtain ⟨e0, e1, e2, e3, e4, f0, f1, f2, f3, f4, f5⟩ := HCEL.out _ HB3.out
          clear hb3 hV))
      rw [show errV 0 = .nilIface from rfl]
      have fz := HFR.out _ HB3.out 0
      have HM3 := Lib.hid (DocTo.back (Only.of_below HBW.out) (fun g hg => .inl hg) (DocIs.setBook' HDO.out HB3.out HV3.out))
      go_wp2_with fail
      go_ret
      exact ⟨by rw [HK.out]; rfl, by rw [HT.out]; exact HM3.out⟩
    · rw [giveL_bad hk] at HCW
      have HKV := Lib.hid (errV_ne hk)
      have HK : Hid (errV ke = .iface 79 (.int .i64 (writeErr st.book p letter))) := by rw [hk1]; exact errV_ne hk
      have HT := Lib.hid (HTS.out (by rw [hk1]; exact hk))
      clear hk hk1 hk2 HE1 HTS
      go_enter Tryz.func58, Tryz.ntmps58
      go_wp2_with fail
      rw [← hW0]
      clear hW0
      go_region_held3 (fun w' => w'.cell? ⟨b, 0, none⟩ = some (.slice D.a1 st.book.length D.c1) ∧ w'.cell? ⟨w.heap.size, 3, none⟩ = some (.string p) ∧ w'.cell? ⟨w.heap.size, 4, none⟩ = some (.int .i64 letter))
        (first | go_keep | (refine ⟨?_, ?_, ?_⟩ <;> assumption))
        ((go_at_call 93; refine (HCW.out _ (by first | exact HBR.out | exact below_drewN HBR.out _ | exact HBR.out.drew)).mono ?_; rintro e w3 ⟨V, cV, rfl, hV, hb3⟩
          have HB3 : Hid (Below W0.heap.size W0 w3) := by first | exact hb3 | exact below_of_drewN (B := W0.heap.size) (n := 1) hb3
          obtain ⟨e0, e1, e2, e3, e4, f0, f1, f2, f3, f4, f5⟩ := HCEL.out _ HB3.out
          clear hb3 hV))
      rw [HKV.out]
      go_wp2_with fail
      go_ret
      exact ⟨by rw [HK.out]; rfl, by rw [HT.out]; exact DocTo.same HDW.out (HBK.out _ HB3.out)⟩
  · subst hw
    clear HCW HCC HCJ HE1 HE3 HE4 hwh
    obtain ⟨hk1, hk2⟩ := HE2.out rfl
    by_cases hk : strikeErr st.book p = 0
    · rw [giveL_ok hk, hk] at HCS
      have HT := Lib.hid (hk2 hk)
      have HK := Lib.hid (hk1.trans hk)
      clear hk hk1 hk2 HE2 HTS
      go_enter Tryz.func58, Tryz.ntmps58
      go_wp2_with fail
      rw [← hW0]
      clear hW0
      go_region_held3 (fun w' => w'.cell? ⟨b, 0, none⟩ = some (.slice D.a1 st.book.length D.c1) ∧ w'.cell? ⟨w.heap.size, 3, none⟩ = some (.string p))
        (first | go_keep | (refine ⟨?_, ?_⟩ <;> assumption))
        ((go_at_call 94; refine (HCS.out _ (by first | exact HBR.out | exact below_drewN HBR.out _ | exact HBR.out.drew)).mono ?_; rintro e w3 ⟨V, cV, rfl, hV, hb3⟩
          have HB3 : Hid (Below W0.heap.size W0 w3) := by first | exact hb3 | exact below_of_drewN (B := W0.heap.size) (n := 1) hb3
          have HV3 : Hid (Own w3 W0.heap.size 102 3 V (strikeRes st.book p).length cV (lcells (strikeRes st.book p))) := hV
          obtain ⟨e0, e1, e2, e3, e4, f0, f1, f2, f3, f4, f5⟩ := HCEL.out _ HB3.out
          clear hb3 hV))
      rw [show errV 0 = .nilIface from rfl]
      have fz := HFR.out _ HB3.out 0
      have HM3 := Lib.hid (DocTo.back (Only.of_below HBW.out) (fun g hg => .inl hg) (DocIs.setBook' HDO.out HB3.out HV3.out))
      go_wp2_with fail
      go_ret
      exact ⟨by rw [HK.out]; rfl, by rw [HT.out]; exact HM3.out⟩
    · rw [giveL_bad hk] at HCS
      have HKV := Lib.hid (errV_ne hk)
      have HK : Hid (errV ke = .iface 79 (.int .i64 (strikeErr st.book p))) := by rw [hk1]; exact errV_ne hk
      have HT := Lib.hid (HTS.out (by rw [hk1]; exact hk))
      clear hk hk1 hk2 HE2 HTS
      go_enter Tryz.func58, Tryz.ntmps58
      go_wp2_with fail
      rw [← hW0]
      clear hW0
      go_region_held3 (fun w' => w'.cell? ⟨b, 0, none⟩ = some (.slice D.a1 st.book.length D.c1) ∧ w'.cell? ⟨w.heap.size, 3, none⟩ = some (.string p))
        (first | go_keep | (refine ⟨?_, ?_⟩ <;> assumption))
        ((go_at_call 94; refine (HCS.out _ (by first | exact HBR.out | exact below_drewN HBR.out _ | exact HBR.out.drew)).mono ?_; rintro e w3 ⟨V, cV, rfl, hV, hb3⟩
          have HB3 : Hid (Below W0.heap.size W0 w3) := by first | exact hb3 | exact below_of_drewN (B := W0.heap.size) (n := 1) hb3
          obtain ⟨e0, e1, e2, e3, e4, f0, f1, f2, f3, f4, f5⟩ := HCEL.out _ HB3.out
          clear hb3 hV))
      rw [HKV.out]
      go_wp2_with fail
      go_ret
      exact ⟨by rw [HK.out]; rfl, by rw [HT.out]; exact DocTo.same HDW.out (HBK.out _ HB3.out)⟩
  · subst hw
    obtain ⟨hk1, hk2⟩ := HE3.out rfl
    have HK := Lib.hid hk1
    have HT := Lib.hid hk2
    clear HCW HCS HCJ HE1 HE2 HE4 HTS hwh hk1 hk2 HE3
    go_enter Tryz.func58, Tryz.ntmps58
    go_wp2_with fail
    rw [← hW0]
    clear hW0
    refine (HCC.out _ HBR.out).mono ?_
    rintro e w3 ⟨rfl, hd⟩
    have HD3 := Lib.hid (DocTo.back (Only.of_below HBW.out) (fun g hg => .inl hg) hd)
    clear hd
    go_wp2_with fail
    go_ret
    exact ⟨by rw [HK.out]; rfl, by rw [HT.out]; exact HD3.out⟩
  · subst hw
    obtain ⟨hk1, hk2⟩ := HE4.out rfl
    have HK := Lib.hid hk1
    have HT := Lib.hid hk2
    clear HCW HCS HCC HE1 HE2 HE3 HTS hwh hk1 hk2 HE4
    go_enter Tryz.func58, Tryz.ntmps58
    go_wp2_with fail
    rw [← hW0]
    clear hW0
    refine (HCJ.out _ HBR.out).mono ?_
    rintro e w3 ⟨rfl, hd⟩
    have HD3 := Lib.hid (DocTo.back (Only.of_below HBW.out) (fun g hg => .inl hg) hd)
    clear hd
    go_wp2_with fail
    go_ret
    exact ⟨by rw [HK.out]; rfl, by rw [HT.out]; exact HD3.out⟩
end Go.Proofs.YtmpkgbkdndpnlaaGreatDoor
