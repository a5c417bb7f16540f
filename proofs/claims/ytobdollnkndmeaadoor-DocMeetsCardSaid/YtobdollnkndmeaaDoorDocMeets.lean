/- leaflaw1.DocMeets, proved: ops that are all taken, in the order of each author, whichever author comes first, once or twice, come to the same book and marks. Conditions: none of our own. -/
import Derived.Deep.CutBlock
import Derived.Test.YtobdollnkndmeaaDoorCard
import Derived.Test.YtobdollnkndmeaaDoorDocGo
import Derived.Test.YtobdollnkndmeaaDoorDocHelp
import Derived.Test.YtobdollnkndmeaaDoorDocKnown
import Derived.Test.YtobdollnkndmeaaDoorLift
import Derived.Test.YtobdollnkndmeaaDoorOpenLink
namespace Go.Proofs.YtobdollnkndmeaaDoor
open Go.RowKit Go.WideShapes Go.ChangeShapes Go.ChangeAt
set_option linter.unusedVariables false
namespace lawDocMeets
def o2 : LOp := ⟨⟨2, 1⟩, 1, ⟨#[110, 98]⟩, 104, []⟩
theorem first_ : LDoc.new.applyB o2 = true ∧ LDoc.new.applyE o2 = 0 := by decide +kernel
theorem text_ : textOf (LDoc.new.apply o2).book = ⟨#[104]⟩ := by decide +kernel
/-- The first document, and the ops that it took, in a row of the call's own. -/
structure ASt (w : World) (B b : Nat) (V : Option Addr) (c : Nat) (ds : List OpAt) (n : Nat) (wr : World) (S : List Nat) (D : DLay) (st : LDoc) : Prop where
  doc : DocIs wr B S b st D
  ok : st.Ok
  says : Says st.ops st
  num : Numbered st.ops
  same : ds.map OpAt.op = st.ops
  apart : ∀ g ∈ ob V, g ∉ S
  row : Own wr B 34 6 V ds.length c (ocells ds)
  good : ∀ y ∈ ds, y.Good w
  few : ds.length ≤ n
  below : Below w.heap.size w wr
def AAt (w : World) (B b : Nat) (n : Nat) (d : Value) (wr : World) : Prop := ∃ V c ds S D st, d = .slice V ds.length c ∧ Hid (ASt w B b V c ds n wr S D st)
theorem ASt.applied {w : World} {B b : Nat} {V : Option Addr} {c : Nat} {ds : List OpAt} {n : Nat} {wr w' : World} {S : List Nat} {D : DLay} {st : LDoc} (h : ASt w B b V c ds n wr S D st) (hB : w.heap.size ≤ B) (o : LOp) (hop : st.apply o = st)
    (ht : DocTo wr B S b (st.apply o) w') : ∃ S' D', ASt w B b V c ds n w' S' D' st := by
  obtain ⟨S', D', h1, h2, h3⟩ := ht
  rw [hop] at h1
  refine ⟨S', D', h1, h.ok, h.says, h.num, h.same, fun g hg hm => ?_, h.row.only h2 (fun g hg hm => h.apart g hg hm), h.good, h.few, h.below.trans (h2.below h.below.size (fun g hg => by have := (h.doc.own g hg).1; omega))⟩
  rcases h3 g hm with h4 | h4
  · exact h.apart g hg h4
  · have := (h.row.lt g hg).2; omega
/-- An op was taken, and put into the row. -/
theorem ASt.taken {w : World} {B b : Nat} {V : Option Addr} {c : Nat} {ds : List OpAt} {n : Nat} {wr w1 w2 : World} {S : List Nat} {D : DLay} {st : LDoc} (h : ASt w B b V c ds n wr S D st) (hB : w.heap.size ≤ B) (y : OpAt) (hy : y.Good w)
    (hop : (st.apply y.op).ops = st.ops ++ [y.op]) (ht : DocTo wr B S b (st.apply y.op) w1) {V2 : Option Addr} {c2 : Nat} {o : Obj} (hO : Own w2 B 34 6 V2 (ds.length + 1) c2 (ocells ds ++ ocells [y])) (hL : Only (ob V) (w1.alloc o) w2) (hX : ∀ g ∈ ob V2, g ∈ ob V ∨ g = (w1.alloc o).heap.size) :
    ∃ S' D', ASt w B b V2 c2 (ds ++ [y]) (n + 1) w2 S' D' (st.apply y.op) := by
  obtain ⟨S', D', h1, h2, h3⟩ := ht
  have hb1 := h.below.trans (h2.below h.below.size (fun g hg => by have := (h.doc.own g hg).1; omega))
  have hap : ∀ g ∈ ob V, g ∉ S' := fun g hg hm => by
    rcases h3 g hm with h4 | h4
    · exact h.apart g hg h4
    · have := (h.row.lt g hg).2; omega
  have hsz : w1.heap.size ≤ (w1.alloc o).heap.size := by simp
  have h1' := (h1.below ((Below.refl _ _).alloc (Nat.le_refl _) o)).only hL hap
  refine ⟨S', D', h1', LDoc.apply_ok h.ok _, LDoc.apply_says h.ok h.says _, LDoc.apply_numbered h.ok h.says h.num _, by rw [List.map_append, h.same, hop]; rfl, fun g hg hm => ?_, ?_, ?_, ?_, ?_⟩
  · rcases hX g hg with h4 | h4
    · exact hap g h4 hm
    · have := (h1.own g hm).2; omega
  · rw [List.length_append, ocells_app]; exact hO
  · intro z hz
    rcases List.mem_append.1 hz with hz | hz
    · exact h.good z hz
    · simp at hz; subst hz; exact hy
  · rw [List.length_append]; have := h.few; simp; omega
  · exact (hb1.alloc hb1.size o).trans (hL.below (by have := hb1.size; omega) (fun g hg => by have := (h.row.lt g hg).1; omega))
def Loop1 (w : World) (B b : Nat) (d i : Value) (wr : World) : Prop := ∃ k : Nat, k ≤ 60 ∧ i = .int .i64 k ∧ AAt w B b k d wr
def lenOf : Value → Nat
  | .slice _ n _ => n
  | _ => 0
/-- The second document, beside the row of ops that it has not taken. -/
structure CSt (wc : World) (bb : Nat) (A : Option Addr) (left : List OpAt) (wr : World) (S : List Nat) (D : DLay) (st : LDoc) : Prop where
  below : Below wc.heap.size wc wr
  doc : DocIs wr wc.heap.size S bb st D
  row : Reads wr wr.heap.size 6 A left.length (ocells left)
  apart : 0 < left.length → ∀ g ∈ ob A, g ∉ S
theorem CSt.to {wc : World} {bb : Nat} {A : Option Addr} {left : List OpAt} {wr w' : World} {S : List Nat} {D : DLay} {st st' : LDoc} (h : CSt wc bb A left wr S D st) (ht : DocTo wr wc.heap.size S bb st' w') : ∃ S' D', CSt wc bb A left w' S' D' st' := by
  obtain ⟨S', D', h1, h2, h3⟩ := ht
  refine ⟨S', D', h.below.trans (h2.below h.below.size (fun g hg => (h.doc.own g hg).1)), h1, h.row.only h2 h.apart, fun hn g hg hm => ?_⟩
  rcases h3 g hm with h4 | h4
  · exact h.apart hn g hg h4
  · obtain ⟨ad, e, hb, _⟩ := h.row.2 hn
    rw [e] at hg
    simp [ob] at hg
    omega
theorem CSt.drewN {wc : World} {bb : Nat} {A : Option Addr} {left : List OpAt} {wr : World} {S : List Nat} {D : DLay} {st : LDoc} (h : CSt wc bb A left wr S D st) (n : Nat) : CSt wc bb A left (wr.drewN n) S D st :=
  ⟨below_drewN h.below n, h.doc.drewN n, h.row, h.apart⟩
/-- The second document, and the ops that it has not taken yet. -/
structure BSt (w wc : World) (bb : Nat) (done : List LOp) (A : Option Addr) (c : Nat) (left : List OpAt) (i : Nat) (wr : World) (S : List Nat) (D : DLay) (st : LDoc) : Prop where
  mid : CSt wc bb A left wr S D st
  ok : st.Ok
  says : Says st.ops st
  perm : ∀ j, ofWho j (st.ops ++ left.map OpAt.op) = ofWho j done
  count : st.ops.length + left.length = done.length
  idx : i + left.length = done.length
  cap : left.length ≤ c ∧ c ≤ 9223372036854775807
  good : ∀ y ∈ left, y.Good w
/-- The row without the op that was taken. -/
theorem CSt.less {w wc wr w1 w2 : World} {bb : Nat} {done : List LOp} {A : Option Addr} {left : List OpAt} {S : List Nat} {D : DLay} {st : LDoc} (h : CSt wc bb A left wr S D st) {k : Nat} (hk : k < left.length) {V1 V2 : Option Addr} {c2 : Nat} {i : Nat}
    (hL1 : Only [] wr w1) (hL2 : Only (ob V1) w1 w2) (hV1 : ∀ g ∈ ob V1, wr.heap.size ≤ g) (hO : Own w2 wr.heap.size 34 6 V2 (k + (left.length - (k + 1))) c2 (ocells (left.take k) ++ ocells (left.drop (k + 1))))
    (hok : st.Ok) (hs : Says st.ops st) (hp : ∀ j, ofWho j (st.ops ++ ((left.take k).map OpAt.op ++ (left.drop (k + 1)).map OpAt.op)) = ofWho j done) (hc : st.ops.length + (left.length - 1) = done.length) (hi : i + left.length = done.length) (hg : ∀ y ∈ left, y.Good w) :
    BSt w wc bb done V2 c2 (left.take k ++ left.drop (k + 1)) (i + 1) w2 S D st := by
  have hb1 := hL1.below_nil
  have hd2 := (h.doc.below hb1).only hL2 (fun g hg hm => by have := hV1 g hg; have := (h.doc.own g hm).2; omega)
  have hlen : (left.take k ++ left.drop (k + 1)).length = k + (left.length - (k + 1)) := by rw [List.length_append, List.length_take, List.length_drop]; omega
  have hO' : Own w2 wr.heap.size 34 6 V2 (left.take k ++ left.drop (k + 1)).length c2 (ocells (left.take k ++ left.drop (k + 1))) := by rw [hlen, ocells_app]; exact hO
  have hsz := h.below.size
  have hsz1 := hb1.size
  refine ⟨⟨?_, hd2, hO'.reads, fun _ g hg hm => ?_⟩, hok, hs, by rw [List.map_append]; exact hp, by rw [hlen]; omega, by rw [hlen]; omega, ⟨hO'.cap_le, by have := hO'.cap_max; unfold maxLen at this; omega⟩, fun y hy => ?_⟩
  · have hb2 := h.below.trans (hb1.mono hsz)
    exact hb2.trans (hL2.below hb2.size (fun g hg => by have := hV1 g hg; omega))
  · have := (hO'.lt g hg).1; have := (h.doc.own g hm).2; omega
  · rcases List.mem_append.1 hy with hy | hy
    · exact hg y (List.mem_of_mem_take hy)
    · exact hg y (List.mem_of_mem_drop hy)
def Loop2 (w wc : World) (bb : Nat) (done : List LOp) (l i : Value) (wr : World) : Prop := ∃ (A : Option Addr) (c : Nat) (left : List OpAt) (j : Nat) (S : List Nat) (D : DLay) (st : LDoc), l = .slice A left.length c ∧ i = .int .i64 j ∧ Hid (BSt w wc bb done A c left j wr S D st)
/-- The index of the first op of an author. -/
def Loop3 (left : List OpAt) (wr0 : World) (kv jv : Value) (wr : World) : Prop := ∃ k j : Nat, k < left.length ∧ j ≤ left.length ∧ kv = .int .i64 k ∧ jv = .int .i64 j ∧ (∃ n, wr = wr0.drewN n) ∧ Hid (∀ (i : Nat) (hi : i < left.length) (hk : k < left.length), i < j → i < k → left[i].op.dot.who ≠ left[k].op.dot.who)
set_option maxRecDepth 100000 in
set_option maxHeartbeats 16000000 in
theorem walk (w : World) (A0 : Option Addr) (c0 : Nat) (ys : List OpAt) (A1 : Option Addr) (c1 : Nat) (order : List Int) (A2 : Option Addr) (c2 : Nat) (twice : List Int) (hglob : Glob w)
    (h0 : Reads w w.heap.size 6 A0 ys.length (ocells ys)) (hg : ∀ y ∈ ys, y.Good w) (h1 : Reads w w.heap.size 1 A1 order.length (ints order)) (h2 : Reads w w.heap.size 1 A2 twice.length (ints twice))
    (hn0 : ys.length ≤ 9223372036854775807) (hn1 : order.length ≤ 9223372036854775807) (hn2 : twice.length ≤ 9223372036854775807) :
    Calls Tryd.prog 3 #[.slice A0 ys.length c0, .slice A1 order.length c1, .slice A2 twice.length c2] w (CheckPost w (.bool true)) := by
  have HR0 := Lib.hid h0
  have HR1 := Lib.hid h1
  have HR2 := Lib.hid h2
  have HG := Lib.hid hg
  have HGL := Lib.hid hglob
  clear h0 h1 h2 hg hglob
  have HN1 := Lib.hid (new_doc w)
  have HE0 : errV 0 = .nilIface := rfl
  go_enter Tryd.func3, Tryd.ntmps3
  go_wp2_with fail
  refine HN1.out.mono ?_
  rintro e w1 ⟨b1, S1, D1, rfl, hd1, hb1⟩
  have HA1 := Lib.hid (apply_doc w1 _ _ _ _ _ hd1 LDoc.new_ok o2 none 0 (by decide) Reads.none_ (fun h => absurd h (by decide)))
  have HB1 := Lib.hid hb1
  have HS1 : Hid (∀ g ∈ S1, w.heap.size ≤ g) := fun g hg => (hd1.own g hg).1
  clear hd1 hb1
  go_wp2_with fail
  refine HA1.out.mono ?_
  rintro e w2 ⟨rfl, S2, D2, hd2, ho2, hs2⟩
  rw [first_.1, first_.2, HE0]
  have HW2 : Hid (Below w.heap.size w w2) := HB1.out.trans (ho2.below HB1.out.size HS1.out)
  have HTX := text_
  have HT2 := Lib.hid (text_doc w2 _ _ _ _ _ hd2 (LDoc.apply_ok LDoc.new_ok o2))
  clear hd2 ho2 hs2
  rw [HTX] at HT2
  go_wp2_with fail
  refine HT2.out.mono ?_
  rintro e w3 ⟨rfl, hb3⟩
  have HW3 := Lib.hid (HW2.out.trans (hb3.mono HW2.out.size))
  have HN3 := Lib.hid (new_doc w3)
  clear hb3
  go_wp2_with fail
  refine HN3.out.mono ?_
  rintro e w4 ⟨ba, S4, D4, rfl, hd4, hb4⟩
  have HW4 := Lib.hid (HW3.out.trans (hb4.mono HW3.out.size))
  have HD4 := Lib.hid hd4
  have hB : w.heap.size ≤ w3.heap.size := HW3.out.size
  have hB4 : w3.heap.size ≤ w4.heap.size := hb4.size
  generalize w3.heap.size = B at *
  clear hd4 hb4 HN3 HT2 HTX HN1 HA1
  go_upto_block 0 with (fail)
  go_cut [11] (fun d wx => AAt w B ba 60 d wx)
  case first =>
    go_wp2_with fail
    go_loopw [11, 12] (fun d i wr => Loop1 w B ba d i wr) (fun _ i _ => 60 - (intOf i).toNat)
    case atStart => exact ⟨0, by omega, rfl, none, 0, [], _, _, _, rfl, HD4.out, LDoc.new_ok, Says.new, Numbered.nil, rfl, by simp [ob], Own.nil _ _ _ _, by simp, by simp, HW4.out⟩
    case round =>
      obtain ⟨k, hk, rfl, V, c, ds, S, D, st, rfl, HK⟩ := hrel
      have k0 : (0 : Int) ≤ (k : Int) := by omega
      by_cases h1 : k < ys.length
      · have k1 : (k : Int) < (ys.length : Int) := by omega
        by_cases h2 : k < 60
        · have k2 : (k : Int) < 60 := by omega
          have HMS : Hid (60 - (intOf (Value.int .i64 ((k : Int) + 1))).toNat < 60 - (intOf (Value.int .i64 (k : Int))).toNat) := by
            show _ < _
            simp [intOf]; omega
          have hbw := HK.out.below
          obtain ⟨ad, rfl⟩ : ∃ ad, A0 = some ad := by
            obtain ⟨ad, e, _⟩ := HR0.out.op h1
            exact ⟨ad, e⟩
          have HCEL : Hid (∀ W, Below w.heap.size w W → W.cell? (ad.add (k * 6)) = some (.int .i64 ys[k].op.dot.who) ∧ W.cell? ⟨(ad.add (k * 6)).block, (ad.add (k * 6)).off + 1, none⟩ = some (.int .i64 ys[k].op.dot.n) ∧
              W.cell? ⟨(ad.add (k * 6)).block, (ad.add (k * 6)).off + 2, none⟩ = some (.int .i64 ys[k].op.what) ∧ W.cell? ⟨(ad.add (k * 6)).block, (ad.add (k * 6)).off + 3, none⟩ = some (.string ys[k].op.place) ∧
              W.cell? ⟨(ad.add (k * 6)).block, (ad.add (k * 6)).off + 4, none⟩ = some (.int .i64 ys[k].op.letter) ∧ W.cell? ⟨(ad.add (k * 6)).block, (ad.add (k * 6)).off + 5, none⟩ = some (.slice ys[k].at_ ys[k].op.seen.length ys[k].cap)) := fun W hb => by
            obtain ⟨ad', e, _, hh⟩ := (HR0.out.below hb).op h1
            injection e with e
            subst e
            exact hh
          have hgood0 := HG.out _ (List.getElem_mem h1)
          have hgood := hgood0.below hbw
          have hps := hgood.2.1
          have hfar := hgood0.1.far (S := S) (fun g hg => by have := (HK.out.doc.own g hg).1; omega)
          have HA := Lib.hid (apply_doc wr _ _ _ _ _ HK.out.doc HK.out.ok ys[k].op ys[k].at_ ys[k].cap (by unfold maxLen at hps; omega) hgood.1 hfar)
          have HGY := Lib.hid hgood0
          have h3 := LDoc.apply_three (d := st) ys[k].op
          have HSB : Hid (∀ g ∈ S, w.heap.size ≤ g) := fun g hg => by have := (HK.out.doc.own g hg).1; omega
          have hfew := HK.out.few
          clear hgood0 hgood hps hfar
          generalize ys[k] = y at *
          obtain ⟨d0, d1, d2, d3, d4, d5⟩ := HCEL.out _ hbw
          clear hbw
          rcases h3 with ⟨q1, q2, q3⟩ | ⟨q1, q2, q3⟩ | ⟨q2, q1, q3⟩
          · have HTK := Lib.hid (fun w1 w2 (ht : DocTo wr B S ba (st.apply y.op) w1) V2 c2 o hO hL hX => HK.out.taken hB y HGY.out q3 (w1 := w1) (w2 := w2) ht (V2 := V2) (c2 := c2) (o := o) hO hL hX)
            have HRW := Lib.hid (fun w1 (ht : DocTo wr B S ba (st.apply y.op) w1) => (show Own w1 B 34 6 V ds.length c (ocells ds) from by
              obtain ⟨S', D', h1, h2, h3⟩ := ht
              exact HK.out.row.only h2 HK.out.apart))
            have HBW := Lib.hid (fun w1 (ht : DocTo wr B S ba (st.apply y.op) w1) => (show Below w.heap.size w w1 from by
              obtain ⟨S', D', h1, h2, h3⟩ := ht
              exact HK.out.below.trans (h2.below HK.out.below.size HSB.out)))
            have HFT : Hid (Fits (ds.length + 1) 72) := Fits.of_small (by omega) (by decide)
            have HRO := Lib.hid (fun W => reads_op W y)
            have HON := Lib.hid (ocells_one [y])
            rw [q1, q2] at HA
            obtain ⟨⟨⟨who, n⟩, what, p, letter, seen⟩, ya, yc⟩ := y
            unfold LOp.val at HA
            unfold LOp.cells at HRO
            simp only at d0 d1 d2 d3 d4 d5 HA HCEL HRO
            clear q1 q2 q3
            go_wp2_with fail
            refine HA.out.mono ?_
            rintro e w5 ⟨rfl, ht⟩
            rw [HE0]
            have HT5 := Lib.hid ht
            have HR5 := Lib.hid (HRW.out w5 ht)
            have HB5 := Lib.hid (HBW.out w5 ht)
            obtain ⟨e0, e1, e2, e3, e4, e5⟩ := HCEL.out _ HB5.out
            have hB5 : B ≤ w5.heap.size := by
              obtain ⟨S', D', h1, h2, h3⟩ := ht
              exact h1.size
            clear ht HA
            go_wp2_with (at_builtin; go_loud (refine wpList_app _ (.tmp 70) (.tmp 75) rfl rfl elemO_ rfl rfl (HR5.out.alloc _) (HRO.out _) HON.out HFT.out (by simp; omega) ?_; intro V2 cv2 w6 HO2 HL2 HX2; have HFIN := Lib.hid (HTK.out w5 w6 HT5.out V2 cv2 _ HO2 HL2 HX2); clear HO2 HL2 HX2))
            go_roundw
            case rel =>
              obtain ⟨S', D', hfin⟩ := HFIN.out
              exact ⟨k + 1, by omega, by go_num, V2, cv2, _, S', D', _, by simp, hfin⟩
            case measure => exact HMS.out
          · rw [q1, q2] at HA
            have HAP := Lib.hid (fun w1 (ht : DocTo wr B S ba (st.apply y.op) w1) => HK.out.applied hB y.op q3 ht)
            obtain ⟨⟨⟨who, n⟩, what, p, letter, seen⟩, ya, yc⟩ := y
            unfold LOp.val at HA
            simp only at d0 d1 d2 d3 d4 d5 HA
            clear q1 q2 q3
            go_wp2_with fail
            refine HA.out.mono ?_
            rintro e w5 ⟨rfl, ht⟩
            rw [HE0]
            have HT5 := Lib.hid (HAP.out w5 ht)
            clear ht HA
            go_wp2_with fail
            go_roundw
            case rel =>
              obtain ⟨S', D', hfin⟩ := HT5.out
              exact ⟨k + 1, by omega, by go_num, V, c, ds, S', D', st, rfl, { hfin with few := by omega }⟩
            case measure => simp [intOf]; omega
          · rw [q1] at HA
            have HV := Lib.hid (errV_ne q2)
            have HAP := Lib.hid (fun w1 (ht : DocTo wr B S ba (st.apply y.op) w1) => HK.out.applied hB y.op q3 ht)
            generalize st.applyE y.op = ke at *
            obtain ⟨⟨⟨who, n⟩, what, p, letter, seen⟩, ya, yc⟩ := y
            unfold LOp.val at HA
            simp only at d0 d1 d2 d3 d4 d5 HA
            clear q1 q2 q3
            go_wp2_with fail
            refine HA.out.mono ?_
            rintro e w5 ⟨rfl, ht⟩
            rw [HV.out]
            have HT5 := Lib.hid (HAP.out w5 ht)
            clear ht HA
            go_wp2_with fail
            go_roundw
            case rel =>
              obtain ⟨S', D', hfin⟩ := HT5.out
              exact ⟨k + 1, by omega, by go_num, V, c, ds, S', D', st, rfl, { hfin with few := by omega }⟩
            case measure => simp [intOf]; omega
        · have k2 : ¬ (k : Int) < 60 := by omega
          have HF : Hid (AAt w B ba 60 (.slice V ds.length c) wr) := ⟨V, c, ds, S, D, st, rfl, by have := HK.out; rwa [show k = 60 by omega] at this⟩
          go_wp2_with fail
          go_meet
          case rel => exact HF.out
      · have k1 : ¬ (k : Int) < (ys.length : Int) := by omega
        have HF : Hid (AAt w B ba 60 (.slice V ds.length c) wr) := ⟨V, c, ds, S, D, st, rfl, { HK.out with few := by have := HK.out.few; omega }⟩
        go_wp2_with fail
        go_meet
        case rel => exact HF.out
  case rest => as_aux_lemma =>
    obtain ⟨Va, ca, ds, Sa, Da, sa, rfl, HA⟩ := hcut
    obtain ⟨wd, hwd⟩ : ∃ x : World, x = wc := ⟨_, rfl⟩
    subst hwd
    have HNb := Lib.hid (new_doc wd)
    go_wp2_with fail
    refine HNb.out.mono ?_
    rintro e w6 ⟨bb, S6, D6, rfl, hd6, hb6⟩
    have HDA := Lib.hid (fun W (hb : Below wd.heap.size wd W) => HA.out.doc.below hb)
    have HWA := Lib.hid (fun W (hb : Below wd.heap.size wd W) => HA.out.below.trans (hb.mono HA.out.below.size))
    have hdl : sa.ops.length = ds.length := by rw [← HA.out.same, List.length_map]
    have hfew := HA.out.few
    have HB0 : Hid (BSt w wd bb sa.ops Va ca ds 0 w6 S6 D6 LDoc.new) :=
      ⟨⟨hb6, hd6, (HA.out.row.below hb6).reads, fun _ g hg hm => by have := (HA.out.row.lt g hg).2; have := (hd6.own g hm).1; omega⟩, LDoc.new_ok, Says.new, fun j => by rw [HA.out.same]; rfl, by rw [hdl]; exact Nat.zero_add _, by rw [hdl]; exact Nat.zero_add _,
        ⟨HA.out.row.cap_le, by have := HA.out.row.cap_max; unfold maxLen at this; omega⟩, HA.out.good⟩
    have HSA := Lib.hid HA.out.says
    have HNU := Lib.hid HA.out.num
    have HOKA := Lib.hid HA.out.ok
    have HGA : Hid (∀ o ∈ sa.ops, opErr o = 0) := HA.out.says.good
    have hWC : w.heap.size ≤ wd.heap.size := HA.out.below.size
    clear hd6 hb6 HNb HA HR0 HG HD4 HW4
    generalize hdone : sa.ops = done at *
    have HDN := Lib.hid hdone
    clear hdone
    go_wp2_with fail
    go_loopw [16, 17] (fun l i wr => Loop2 w wd bb done l i wr) (fun l _ _ => lenOf l)
    case atStart => exact ⟨Va, ca, ds, 0, S6, D6, LDoc.new, rfl, rfl, HB0.out⟩
    case round =>
      obtain ⟨A, c, left, j, S, D, st, rfl, rfl, HK⟩ := hrel
      have HM := Lib.hid HK.out.mid
      have hcap := HK.out.cap
      have hidx := HK.out.idx
      have hBw : wd.heap.size ≤ wr.heap.size := HM.out.below.size
      have HBW : Hid (Below w.heap.size w wr) := HWA.out _ HM.out.below
      have l0 : (0 : Int) ≤ (left.length : Int) := by omega
      by_cases h0 : left.length = 0
      · have l1 : ¬ (0 : Int) < (left.length : Int) := by omega
        have hle : left = [] := List.eq_nil_of_length_eq_zero h0
        obtain ⟨m1, m2, m3⟩ := Says.same HSA.out HK.out.says HOKA.out HK.out.ok (fun i => by have := HK.out.perm i; rw [hle, List.map_nil, List.append_nil] at this; exact this.symm)
        have hl1 := HOKA.out.book.few
        have hl2 := HOKA.out.marks.few
        have hl3 : sa.known.length ≤ 8 := by have := (vec_ok HOKA.out.known).1; omega
        have HX := Lib.hid (HDA.out wr HM.out.below)
        have HY := Lib.hid HM.out.doc
        have HOKB := Lib.hid HK.out.ok
        have M1 := Lib.hid m1
        have M2 := Lib.hid m2
        have M3 := Lib.hid m3
        have HP1 := Lib.hid (book_doc wr _ _ _ _ _ HX.out HOKA.out)
        clear m1 m2 m3 HM HK h0 hle hidx
        go_wp2_with fail
        refine HP1.out.mono ?_
        rintro e w1 ⟨V1, c1, rfl, ho, hb⟩
        have HR1 := Lib.hid ho
        have HX := Lib.hid (HX.out.below hb)
        have HY := Lib.hid (HY.out.below hb)
        have HBW := Lib.hid (HBW.out.trans (hb.mono HBW.out.size))
        have HP2 : Hid (Calls _ _ _ _ _) := book_doc w1 _ _ _ _ _ HY.out HOKB.out
        rw [← M1.out] at HP2
        clear ho hb
        go_wp2_with fail
        refine HP2.out.mono ?_
        rintro e w2 ⟨V2, c2, rfl, ho, hb⟩
        have HX := Lib.hid (HX.out.below hb)
        have HY := Lib.hid (HY.out.below hb)
        have HBW := Lib.hid (HBW.out.trans (hb.mono HBW.out.size))
        have HP3 := Lib.hid (leafs_same w2 V1 V2 c1 c2 sa.book (HR1.out.below hb).reads ho.reads (by omega))
        clear ho hb HR1
        go_wp2_with fail
        refine HP3.out.mono ?_
        rintro e w3 ⟨rfl, hb⟩
        have HX := Lib.hid (HX.out.below hb)
        have HY := Lib.hid (HY.out.below hb)
        have HBW := Lib.hid (HBW.out.trans (hb.mono HBW.out.size))
        have HP1 := Lib.hid (marks_doc w3 _ _ _ _ _ HX.out HOKA.out)
        clear hb
        go_wp2_with fail
        refine HP1.out.mono ?_
        rintro e w4 ⟨V1, c1, rfl, ho, hb⟩
        have HR1 := Lib.hid ho
        have HX := Lib.hid (HX.out.below hb)
        have HY := Lib.hid (HY.out.below hb)
        have HBW := Lib.hid (HBW.out.trans (hb.mono HBW.out.size))
        have HP2 : Hid (Calls _ _ _ _ _) := marks_doc w4 _ _ _ _ _ HY.out HOKB.out
        rw [← M2.out] at HP2
        clear ho hb
        go_wp2_with fail
        refine HP2.out.mono ?_
        rintro e w5 ⟨V2, c2, rfl, ho, hb⟩
        have HX := Lib.hid (HX.out.below hb)
        have HY := Lib.hid (HY.out.below hb)
        have HBW := Lib.hid (HBW.out.trans (hb.mono HBW.out.size))
        have HP3 := Lib.hid (marks_same w5 V1 V2 c1 c2 sa.marks (HR1.out.below hb).reads ho.reads (by omega))
        clear ho hb HR1
        go_wp2_with fail
        refine HP3.out.mono ?_
        rintro e w6 ⟨rfl, hb⟩
        have HX := Lib.hid (HX.out.below hb)
        have HY := Lib.hid (HY.out.below hb)
        have HBW := Lib.hid (HBW.out.trans (hb.mono HBW.out.size))
        have HP1 := Lib.hid (known_doc w6 _ _ _ _ _ HX.out HOKA.out)
        clear hb
        go_wp2_with fail
        refine HP1.out.mono ?_
        rintro e w7 ⟨V1, c1, rfl, ho, hb⟩
        have HR1 := Lib.hid ho
        have HX := Lib.hid (HX.out.below hb)
        have HY := Lib.hid (HY.out.below hb)
        have HBW := Lib.hid (HBW.out.trans (hb.mono HBW.out.size))
        have HP2 : Hid (Calls _ _ _ _ _) := known_doc w7 _ _ _ _ _ HY.out HOKB.out
        rw [← M3.out] at HP2
        clear ho hb
        go_wp2_with fail
        refine HP2.out.mono ?_
        rintro e w8 ⟨V2, c2, rfl, ho, hb⟩
        have HX := Lib.hid (HX.out.below hb)
        have HY := Lib.hid (HY.out.below hb)
        have HBW := Lib.hid (HBW.out.trans (hb.mono HBW.out.size))
        have HP3 := Lib.hid (ints_same w8 V1 V2 c1 c2 sa.known (HR1.out.below hb).reads ho.reads (by omega))
        clear ho hb HR1
        go_wp2_with fail
        refine HP3.out.mono ?_
        rintro e w9 ⟨rfl, hb⟩
        have HX := Lib.hid (HX.out.below hb)
        have HY := Lib.hid (HY.out.below hb)
        have HBW := Lib.hid (HBW.out.trans (hb.mono HBW.out.size))
        have HP1 := Lib.hid (text_doc w9 _ _ _ _ _ HX.out HOKA.out)
        clear hb
        go_wp2_with fail
        refine HP1.out.mono ?_
        rintro e w10 ⟨rfl, hb⟩
        have HY := Lib.hid (HY.out.below hb)
        have HBW := Lib.hid (HBW.out.trans (hb.mono HBW.out.size))
        have HP2 : Hid (Calls _ _ _ _ _) := text_doc w10 _ _ _ _ _ HY.out HOKB.out
        rw [← M1.out] at HP2
        clear hb
        go_wp2_with fail
        refine HP2.out.mono ?_
        rintro e w11 ⟨rfl, hb⟩
        have HBW := Lib.hid (HBW.out.trans (hb.mono HBW.out.size))
        clear hb
        go_wp2_with fail
        go_ret
        exact ⟨by simp, HBW.out⟩
      · have l1 : (0 : Int) < (left.length : Int) := by omega
        have j0 : (0 : Int) ≤ (j : Int) := by omega
        have j9 : (j : Int) ≤ 60 := by omega
        go_upto_region 19 with fail
        go_cut [103] (fun v wx => ∃ q : Bool, v = .bool q ∧ (q = true → ∃ k : Nat, k < left.length ∧ ∃ h : j < order.length, order[j] = (k : Int)) ∧ wx = wr)
        case first => as_aux_lemma =>
          by_cases h1 : j < order.length
          · have j1 : (j : Int) < (order.length : Int) := by omega
            obtain ⟨ad, u, hA, _, hu, hc⟩ := ((HR1.out.below HBW.out).more HBW.out.size).at_ h1
            have hu' : u = .int .i64 order[j] := by simpa [ints, h1] using hu.symm
            subst hu' hA
            clear hu
            generalize hoj : order[j] = a at *
            have HOJ : Hid (∃ h : j < order.length, order[j] = a) := ⟨h1, hoj⟩
            clear hoj
            by_cases a1 : a < 0
            · have a2 : ¬ (0 : Int) ≤ a := by omega
              go_wp2_with fail
              go_meet
              case rel => exact ⟨false, rfl, fun h => absurd h (by decide), rfl⟩
            · have a2 : (0 : Int) ≤ a := by omega
              by_cases a3 : a < (left.length : Int)
              · go_wp2_with fail
                go_meet
                case rel => exact ⟨true, by simp [a3], fun _ => ⟨a.toNat, by omega, HOJ.out.1, by rw [HOJ.out.2]; omega⟩, rfl⟩
              · go_wp2_with fail
                go_meet
                case rel => exact ⟨false, by simp [a3], fun h => absurd h (by decide), rfl⟩
          · have j1 : ¬ (j : Int) < (order.length : Int) := by omega
            go_wp2_with fail
            go_meet
            case rel => exact ⟨false, rfl, fun h => absurd h (by decide), rfl⟩
        case rest => as_aux_lemma =>
          obtain ⟨q, rfl, HQ0, hwc⟩ := hcut
          have HQ := Lib.hid HQ0
          clear HQ0
          rw [hwc]
          clear hwc
          go_upto_if 103 with (fail)
          go_cut [18] (fun v wx => ∃ k : Nat, k < left.length ∧ v = .int .i64 k ∧ wx = wr)
          case first => as_aux_lemma =>
            cases q with
            | false =>
              go_wp2_with fail
              go_meet
              case rel => exact ⟨0, by omega, rfl, rfl⟩
            | true =>
              obtain ⟨k, hk, h1, hoj⟩ := HQ.out rfl
              have j1 : (j : Int) < (order.length : Int) := by omega
              obtain ⟨ad, u, hA, _, hu, hc⟩ := ((HR1.out.below HBW.out).more HBW.out.size).at_ h1
              have hu' : u = .int .i64 order[j] := by simpa [ints, h1] using hu.symm
              rw [hoj] at hu'
              subst hu' hA
              clear hu hoj
              go_wp2_with fail
              go_meet
              case rel => exact ⟨k, hk, rfl, rfl⟩
          case rest => as_aux_lemma =>
            obtain ⟨k0, hk0, rfl, hwc⟩ := hcut
            rw [hwc]
            clear hwc HQ
            have HFR : Hid (∀ i (hi : i < left.length), ∀ W, Below wr.heap.size wr W → ∃ ad, A = some ad ∧ W.cell? (ad.add (i * 6)) = some (.int .i64 left[i].op.dot.who)) := fun i hi W hb => by
              obtain ⟨ad, e, _, c0, _⟩ := (HM.out.row.below hb).op hi
              exact ⟨ad, e, c0⟩
            go_wp2_with fail
            go_loopw [18, 19] (fun kv jv wx => Loop3 left wr kv jv wx) (fun kv jv _ => (intOf kv - intOf jv).toNat)
            case atStart => exact ⟨k0, 0, hk0, by omega, rfl, rfl, ⟨0, rfl⟩, fun i hi hk h => by omega⟩
            case round =>
              obtain ⟨k, i, hk, hi, rfl, rfl, ⟨n, rfl⟩, HF⟩ := hrel
              have k0' : (0 : Int) ≤ (k : Int) := by omega
              have i0 : (0 : Int) ≤ (i : Int) := by omega
              have k1 : (k : Int) < (left.length : Int) := by omega
              have hcapi : (left.length : Int) ≤ (c : Int) := by have := hcap.1; omega
              by_cases hik : i < k
              · have i1 : (i : Int) < (k : Int) := by omega
                have i2 : (i : Int) < (left.length : Int) := by omega
                have hil : i < left.length := by omega
                have hbd : Below wr.heap.size wr wr := Below.refl _ _
                obtain ⟨ad, rfl, e0⟩ := HFR.out i hil _ hbd
                obtain ⟨ad2, hA2, e1⟩ := HFR.out k hk _ hbd
                injection hA2 with hA2
                subst hA2
                by_cases hw : left[i].op.dot.who = left[k].op.dot.who
                · have hwb : (left[i].op.dot.who == left[k].op.dot.who) = true := by rw [beq_iff_eq]; exact hw
                  have HF2 : Hid (∀ (i' : Nat) (hi' : i' < left.length) (hk' : i < left.length), i' < i + 1 → i' < i → left[i'].op.dot.who ≠ left[i].op.dot.who) := fun i' hi' hk' _ h2 => by
                    have := HF.out i' hi' hk h2 (by omega)
                    rw [hw]; exact this
                  clear hw hbd
                  generalize left[i].op.dot.who = p at *
                  generalize left[k].op.dot.who = q at *
                  go_wp2_with fail
                  go_quiet (fail)
                  go_wp2_with fail
                  go_roundw
                  case rel => exact ⟨i, i + 1, by omega, by omega, rfl, by go_num, ⟨_, rfl⟩, HF2.out⟩
                  case measure => simp [intOf]; omega
                · have hwb : (left[i].op.dot.who == left[k].op.dot.who) = false := by rw [beq_eq_false_iff_ne]; exact hw
                  have HF2 : Hid (∀ (i' : Nat) (hi' : i' < left.length) (hk' : k < left.length), i' < i + 1 → i' < k → left[i'].op.dot.who ≠ left[k].op.dot.who) := fun i' hi' hk' h1 h2 => by
                    rcases Nat.lt_or_ge i' i with h3 | h3
                    · exact HF.out i' hi' hk h3 h2
                    · obtain rfl : i' = i := by omega
                      exact hw
                  clear hw hbd
                  generalize left[i].op.dot.who = p at *
                  generalize left[k].op.dot.who = q at *
                  go_wp2_with fail
                  go_quiet (fail)
                  go_wp2_with fail
                  go_roundw
                  case rel => exact ⟨k, i + 1, by omega, by omega, rfl, by go_num, ⟨_, rfl⟩, HF2.out⟩
                  case measure => simp [intOf]; omega
              · have i1 : ¬ (i : Int) < (k : Int) := by omega
                have HFK : Hid (∀ (i' : Nat) (hi' : i' < left.length), i' < k → left[i'].op.dot.who ≠ left[k].op.dot.who) := fun i' hi' h2 => HF.out i' hi' hk (by omega) h2
                clear HF
                have HW1 := Lib.hid (HK.out.mid.drewN n)
                have HST := Lib.hid (HK.out)
                have hbn : Below w.heap.size w (wr.drewN n) := below_drewN HBW.out n
                have hmem := List.getElem_mem hk
                have hg0 := HST.out.good _ hmem
                have hgood := hg0.below hbn
                have hps := hgood.2.1
                have hfar := hg0.1.far (S := S) (fun g hg => by have := (HW1.out.doc.own g hg).1; omega)
                have HA := Lib.hid (apply_doc (wr.drewN n) _ _ _ _ _ HW1.out.doc HST.out.ok left[k].op left[k].at_ left[k].cap (by unfold maxLen at hps; omega) hgood.1 hfar)
                have hcnt := HST.out.count
                have hdl60 := hfew
                have hsplit : left.map OpAt.op = (left.take k).map OpAt.op ++ left[k].op :: (left.drop (k + 1)).map OpAt.op := by
                  rw [← List.map_cons (f := OpAt.op), ← List.map_append, List.getElem_cons_drop, List.take_append_drop]
                have HNX := Lib.hid (LDoc.next HST.out.ok HST.out.says (done := done) (pre := (left.take k).map OpAt.op) (post := (left.drop (k + 1)).map OpAt.op) (o := left[k].op) HNU.out HGA.out (by omega)
                  (fun i => by rw [← hsplit]; exact HST.out.perm i) (fun x hx => by
                    obtain ⟨y, hy, rfl⟩ := List.mem_map.1 hx
                    obtain ⟨q, hq, rfl⟩ := List.getElem_of_mem hy
                    rw [List.length_take] at hq
                    rw [List.getElem_take]
                    exact HFK.out q (by omega) (by omega)))
                have HKE := Lib.hid (fun W (hb : Below w.heap.size w W) x y => error_any W x y (HGL.out.below hb (Nat.le_refl _)))
                have HTO := Lib.hid (fun W st' (ht : DocTo (wr.drewN n) wd.heap.size S bb st' W) => HW1.out.to ht)
                have HTB := Lib.hid (fun W st' (ht : DocTo (wr.drewN n) wd.heap.size S bb st' W) => (show Below w.heap.size w W from by
                  obtain ⟨S', D', h1, h2, h3⟩ := ht
                  exact hbn.trans (h2.below hbn.size (fun g hg => by have := (HW1.out.doc.own g hg).1; omega))))
                obtain ⟨hq1, hq2⟩ := HNX.out
                have HQ2 := Lib.hid hq2
                obtain ⟨ad, rfl, _, d0, d1, d2, d3, d4, d5⟩ := HM.out.row.op hk
                have HGK := Lib.hid (fun W (hb : Below w.heap.size w W) => hg0.below hb)
                have HFAR : Hid (∀ S' : List Nat, (∀ g ∈ S', wd.heap.size ≤ g) → 0 < left[k].op.seen.length → ∀ g ∈ ob left[k].at_, g ∉ S') := fun S' h => hg0.1.far (fun g hg => by have := h g hg; omega)
                have HPS : Hid (left[k].op.place.size ≤ 9223372036854775807) := by show _ ≤ _; unfold maxLen at hps; omega
                clear hbn hmem hg0 hgood hps hfar hsplit HNX HFR HFK hq2
                rcases hq1 with hq1 | hq1 | hq1
                · obtain ⟨hq2, hq3, hq4⟩ := HQ2.out hq1
                  have hok' := LDoc.apply_ok HST.out.ok left[k].op
                  have hsy' := LDoc.apply_says HST.out.ok HST.out.says left[k].op
                  have hop : left[k].op ∈ (st.apply left[k].op).ops := by rw [hq3]; simp
                  have hcn : (st.apply left[k].op).ops.length + (left.length - 1) = done.length := by rw [hq3]; simp; omega
                  obtain ⟨z1, z2, z3⟩ := LDoc.apply_known hok' hop
                  rw [hq1, hq2] at HA
                  clear hop hq1 hq2 hq3 HQ2
                  generalize hst2 : st.apply left[k].op = st2 at *
                  clear hst2
                  have HA2 : Hid (∀ W S' D', DocIs W wd.heap.size S' bb st2 D' → Below w.heap.size w W → Calls Tryd.prog 5 #[.pointer (some ⟨bb, 0, none⟩), left[k].op.val left[k].at_ left[k].cap] W (ApplyPost W wd.heap.size S' bb false 0 st2)) := fun W S' D' hd hb => by
                    have h1 := apply_doc W _ _ _ _ _ hd hok' left[k].op left[k].at_ left[k].cap (HPS.out) (HGK.out W hb).1 (HFAR.out S' (fun g hg => (hd.own g hg).1))
                    rw [z1, z2, z3] at h1
                    exact h1
                  have HCL : Hid (∀ W S' D', CSt wd bb (some ad) left W S' D' st2 → W.cell? (ad.add (k * 6)) = some (.int .i64 left[k].op.dot.who) ∧ W.cell? ⟨(ad.add (k * 6)).block, (ad.add (k * 6)).off + 1, none⟩ = some (.int .i64 left[k].op.dot.n) ∧
                      W.cell? ⟨(ad.add (k * 6)).block, (ad.add (k * 6)).off + 2, none⟩ = some (.int .i64 left[k].op.what) ∧ W.cell? ⟨(ad.add (k * 6)).block, (ad.add (k * 6)).off + 3, none⟩ = some (.string left[k].op.place) ∧
                      W.cell? ⟨(ad.add (k * 6)).block, (ad.add (k * 6)).off + 4, none⟩ = some (.int .i64 left[k].op.letter) ∧ W.cell? ⟨(ad.add (k * 6)).block, (ad.add (k * 6)).off + 5, none⟩ = some (.slice left[k].at_ left[k].op.seen.length left[k].cap)) := fun W S' D' hm => by
                    obtain ⟨ad', hA', _, hh⟩ := hm.row.op hk
                    injection hA' with hA'
                    subst hA'
                    exact hh
                  have HFIN := Lib.hid (fun wq S' D' (hm : CSt wd bb (some ad) left wq S' D' st2) w1 w2 V1 V2 c2 hL1 hL2 hV1 hO => hm.less (w := w) (done := done) (w1 := w1) (w2 := w2) (V1 := V1) (V2 := V2) (c2 := c2) hk (i := j) hL1 hL2 hV1 hO hok' hsy' hq4 hcn hidx HST.out.good)
                  have HLE : Hid ((left.take k ++ left.drop (k + 1)).length = k + (left.length - (k + 1))) := by show _ = _; rw [List.length_append, List.length_take, List.length_drop]; omega
                  have HO1C := Lib.hid (ocells_one (left.take k))
                  have HO2C := Lib.hid (ocells_one (left.drop (k + 1)))
                  clear hok' hsy' hq4 hcn z1 z2 z3 HGK HFAR HPS HKE
                  generalize left[k] = y at *
                  obtain ⟨⟨⟨who, nn⟩, what, p, letter, seen⟩, ya, yc⟩ := y
                  unfold LOp.val at HA HA2
                  simp only at d0 d1 d2 d3 d4 d5 HA HA2 HCL
                  go_wp2_with fail
                  refine HA.out.mono ?_
                  rintro e w7 ⟨rfl, ht⟩
                  rw [HE0]
                  obtain ⟨S7, D7, hm7⟩ := HTO.out w7 _ ht
                  have HM7 := Lib.hid hm7
                  have HB7 := Lib.hid (HTB.out w7 _ ht)
                  clear hm7 ht HTO HTB HA
                  obtain ⟨e0, e1, e2, e3, e4, e5⟩ := HCL.out _ _ _ HM7.out
                  have HAW := Lib.hid (HA2.out _ _ _ HM7.out.doc HB7.out)
                  go_upto_region 31 with fail
                  go_cut [156] (fun v wx => ∃ q : Bool, v = .bool q ∧ wx = w7)
                  case first => as_aux_lemma =>
                    by_cases h1 : j < twice.length
                    · have j1 : (j : Int) < (twice.length : Int) := by omega
                      obtain ⟨ad, u, hA, _, hu, hc⟩ := ((HR2.out.below HB7.out).more HB7.out.size).at_ h1
                      have hu' : u = .int .i64 twice[j] := by simpa [ints, h1] using hu.symm
                      subst hu' hA
                      clear hu
                      generalize twice[j] = a at *
                      go_wp2_with fail
                      go_meet
                      case rel => exact ⟨_, rfl, rfl⟩
                    · have j1 : ¬ (j : Int) < (twice.length : Int) := by omega
                      go_wp2_with fail
                      go_meet
                      case rel => exact ⟨false, rfl, rfl⟩
                  case rest => as_aux_lemma =>
                    obtain ⟨q, rfl, hwc⟩ := hcut
                    rw [hwc]
                    clear hwc
                    go_upto_if 156 with (fail)
                    go_cut [20, 21] (fun a b wx => ∃ S' D', CSt wd bb (some ad) left wx S' D' st2)
                    case first => as_aux_lemma =>
                      cases q with
                      | false =>
                        go_wp2_with fail
                        go_meet
                        case rel => exact ⟨_, _, HM7.out⟩
                      | true =>
                        go_wp2_with fail
                        refine HAW.out.mono ?_
                        rintro e w8 ⟨rfl, ht⟩
                        have HM8 := Lib.hid (HM7.out.to ht)
                        clear ht HAW
                        rw [HE0]
                        go_wp2_with fail
                        go_meet
                        case rel => exact HM8.out
                    case rest => as_aux_lemma =>
                      obtain ⟨S8, D8, hm8⟩ := hcut
                      obtain ⟨wq, hwq⟩ : ∃ x : World, x = wc := ⟨_, rfl⟩
                      subst hwq
                      have HM8 := Lib.hid hm8
                      have hkl : k ≤ left.length := by omega
                      have hkc : k ≤ c := by have := hcap.1; omega
                      have hsl1 := fun W => run_nilslice elemO_ (some ad) left.length c k hkc W
                      have hsl2 : ∀ W, (Instr.sliceAt 22 (.slice (some ad) left.length c) (some (.int .i64 ((k : Int) + 1))) none none).run Tryd.prog W = .ok (.slice (tailA (some ad) c (k + 1) 6) (left.length - (k + 1)) (c - (k + 1))) W := fun W => run_tailAt elemO_ (some ad) left.length c (k + 1) (by omega) W
                      have HFR := Lib.hid (hm8.row.front hkl)
                      have HBK : Hid (Reads wq wq.heap.size 6 (tailA (some ad) c (k + 1) 6) (left.length - (k + 1)) (ocells (left.drop (k + 1)))) := hm8.row.back (by omega) hcap.1
                      have hF1 : Fits (0 + k) 72 := Fits.of_small (by omega) (by decide)
                      have hF2 : Fits (k + (left.length - (k + 1))) 72 := Fits.of_small (by omega) (by decide)
                      have q1 : IntKind.i64.wrap ((k : Int) + 1) = (k : Int) + 1 := IntWalk.i64_in _ (by omega)
                      clear hm8 e0 e1 e2 e3 e4 e5 d0 d1 d2 d3 d4 d5 HA2 HCL HAW
                      go_upto_region 37 with (at_builtin; refine wpList_app _ (.tmp 171) (.tmp 174) rfl rfl elemO_ rfl rfl (Own.nil _ wq.heap.size _ 6) HFR.out HO1C.out hF1 (Nat.le_refl _) ?_; intro V1 c1 wA hO1 hL1 hG1)
                      rw [Nat.zero_add, List.nil_append] at hO1
                      have hL1' : Only [] wq wA := hL1.mono (by simp [ob])
                      have hV1 : ∀ g ∈ ob V1, wq.heap.size ≤ g := fun g hg => (hO1.lt g hg).1
                      have HOA := Lib.hid hO1
                      have HBK2 := Lib.hid (HBK.out.below hL1'.below_nil)
                      have HLA := Lib.hid hL1'
                      have HVA := Lib.hid hV1
                      have hzA : wq.heap.size ≤ wA.heap.size := hL1'.size
                      clear hO1 hL1 hG1 hL1' hV1 HBK HFR
                      go_wp2_with (at_builtin; refine wpList_app _ (.tmp 176) (.tmp 180) rfl rfl elemO_ rfl rfl HOA.out HBK2.out HO2C.out hF2 hzA ?_; intro V2 cV wB hO2 hL2 hG2; have HEND := Lib.hid (HFIN.out _ _ _ HM8.out wA wB V1 V2 cV HLA.out hL2 HVA.out hO2); clear hO2 hL2 hG2)
                      go_roundw
                      case rel => exact ⟨V2, cV, _, j + 1, S8, D8, st2, by rw [HLE.out], by go_num, HEND.out⟩
                      case measure => simp [lenOf]; omega
                · obtain ⟨_, hB, hS⟩ := LDoc.applyE_bad hq1 (by decide)
                  have HKE7 := Lib.hid (fun W hb => HKE.out W hb 7 7)
                  rw [hq1, hB, hS] at HA
                  have HV := Lib.hid (errV_ne (show (7 : Int) ≠ 0 by decide))
                  clear hq1 hB hS HQ2
                  generalize left[k] = y at *
                  obtain ⟨⟨⟨who, nn⟩, what, p, letter, seen⟩, ya, yc⟩ := y
                  unfold LOp.val at HA
                  simp only at d0 d1 d2 d3 d4 d5 HA
                  go_wp2_with fail
                  refine HA.out.mono ?_
                  rintro e w7 ⟨rfl, ht⟩
                  have HB7 := Lib.hid (HTB.out _ _ ht)
                  have HE7 := Lib.hid (HKE7.out _ HB7.out)
                  rw [HV.out] at HE7 ⊢
                  go_wp2_with fail
                  refine HE7.out.mono ?_
                  rintro e w8 ⟨rfl, hb8⟩
                  have HB8 := Lib.hid (HB7.out.trans (hb8.mono HB7.out.size))
                  go_wp2_with fail
                  go_ret
                  exact ⟨rfl, HB8.out⟩
                · obtain ⟨_, hB, hS⟩ := LDoc.applyE_bad hq1 (by decide)
                  have HKE7 := Lib.hid (fun W hb => HKE.out W hb 4 7)
                  have HKE4 := Lib.hid (fun W hb => HKE.out W hb 4 4)
                  rw [hq1, hB, hS] at HA
                  have HV := Lib.hid (errV_ne (show (4 : Int) ≠ 0 by decide))
                  clear hq1 hB hS HQ2
                  generalize left[k] = y at *
                  obtain ⟨⟨⟨who, nn⟩, what, p, letter, seen⟩, ya, yc⟩ := y
                  unfold LOp.val at HA
                  simp only at d0 d1 d2 d3 d4 d5 HA
                  go_wp2_with fail
                  refine HA.out.mono ?_
                  rintro e w7 ⟨rfl, ht⟩
                  have HB7 := Lib.hid (HTB.out _ _ ht)
                  have HE7 := Lib.hid (HKE7.out _ HB7.out)
                  rw [HV.out] at HE7 HKE4 ⊢
                  go_wp2_with fail
                  refine HE7.out.mono ?_
                  rintro e w8 ⟨rfl, hb8⟩
                  have HB8 := Lib.hid (HB7.out.trans (hb8.mono HB7.out.size))
                  have HE8 := Lib.hid (HKE4.out _ HB8.out)
                  go_wp2_with fail
                  refine HE8.out.mono ?_
                  rintro e w9 ⟨rfl, hb9⟩
                  have HB9 := Lib.hid (HB8.out.trans (hb9.mono HB8.out.size))
                  go_wp2_with fail
                  go_ret
                  exact ⟨rfl, HB9.out⟩
set_option maxRecDepth 100000 in
theorem lifted (os : Os) (started : os.Started) (H : Type) (enc : TypeId × Value → H) :
    ReturnsInHanded {} Tryd.checked os 3 .any (fun w args => (Rows.docMeetsSpec.pre enc Tryd.prog Tryd.f3 [] false w args ∧ laidMetH Tryd.prog Card.laid w) ∧ sizedMet enc Tryd.prog Tryd.f3 (OpenSpec.ofChange Rows.docMeetsSpec) false w args)
      (Rows.docMeetsSpec.post enc Tryd.prog Tryd.f3 false true false false) := by
  refine returnsInHanded_of_change_and (C := Tryd.checked) (X := fun w _ => laidMetH Tryd.prog Card.laid w) (fun _ _ _ hh h => h.of_heap hh) Tryd.own started (by kernel_rfl) Tryd.func3
    (ChangeSpec.witness_at (enc := enc) (C := Tryd.checked) (os := os) (X := fun w _ => laidMetH Tryd.prog Card.laid w) false (Card.laidWorld os) #[.slice none 0 0, .slice none 0 0, .slice none 0 0] 8 rfl (by kernel_rfl) (by kernel_rfl) (by kernel_rfl) (by kernel_rfl) (by kernel_rfl) (Card.laidWorld_met os _)) ?_
  intro W base args ds gs before hval0 hW _ hsz0 hL _
  have hval : ∀ (j : Nat) t v, Tryd.f3.params[j]? = some t → args[j]? = some v → Value.okWide Tryd.prog W .any base t v := hval0
  obtain ⟨p, q, hA0, _⟩ := id hW
  have hA : DataW.TrodAll enc Tryd.prog W 0 (fun _ => true) true Tryd.f3.params.toList args.toList ds p := hA0
  have hsz : (DataW.weightsEach Tryd.prog (Tryd.f3.params.toList ++ Rows.docMeetsSpec.plain.varTypes Tryd.prog) (ds ++ gs)).all (· ≤ reachBytes) = true := hsz0
  rw [Tryd.params3] at hA hval hsz
  obtain ⟨v0, v1, v2, d0, d1, d2, p0, p1, p2, rfl, rfl, rfl, h0, h1, h2⟩ := trodAll_three hA
  obtain ⟨A0, c0, l0, rfl, r0, g0, lc0, cm0⟩ := arg_ops (hval 0 22 v0 rfl rfl) h0
  obtain ⟨A1, c1, l1, rfl, r1, g1, lc1, cm1⟩ := arg_ints (hval 1 23 v1 rfl rfl) h1
  obtain ⟨A2, c2, l2, rfl, r2, g2, lc2, cm2⟩ := arg_ints (hval 2 23 v2 rfl rfl) h2
  refine (walk W A0 c0 l0 A1 c1 l1 A2 c2 l2 (Card.glob_of_laid hL) r0 g0 r1 r2 (by unfold maxLen at cm0; omega) (by unfold maxLen at cm1; omega) (by unfold maxLen at cm2; omega)).mono fun e W' ⟨he, hb⟩ => ⟨_, he, ?_⟩
  exact law_post Tryd.laidOut (tb := 4) (by kernel_rfl) Tryd.underlying4 (by rw [Tryd.params3]; simp only [List.mem_cons, List.not_mem_nil, or_false]; rintro t (rfl | rfl | rfl) <;> exact ⟨by kernel_rfl, of_decide_eq_true (by kernel_rfl)⟩) rfl rfl hW hb

theorem holds : Rows.DocMeetsSaid :=
  OpenClaim.holds_of_wide 3 Tryd.f3 rfl rfl rfl rfl rfl rfl rfl ⟨rfl, rfl, rfl, rfl, rfl⟩ rfl rfl rfl rfl rfl (by kernel_rfl) Tryd.func3 (by kernel_rfl)
    (of_decide_eq_true (by kernel_rfl)) (by unfold Func.isWrapper; first | (rw [if_pos (by decide +kernel)]; kernel_rfl) | (rw [if_neg (by decide +kernel)]; exact ⟨rfl, rfl⟩))
    (fun os started H enc _ => lifted os started H enc)
theorem noStand : ∀ t ∈ Tryd.f3.params.toList, Tryd.prog.wantsStandIn t = false := by
  rw [Tryd.params3]
  simp only [List.mem_cons, List.not_mem_nil, or_false]
  rintro t (rfl | rfl | rfl) <;> kernel_rfl
theorem card_holds : Rows.DocMeetsCardSaid :=
  Claim7.holds_tied_plain_at .later [] [.handle] true Rows.docMeetsCard.stood.harness true
    holds (fun _ h => by cases h) (by kernel_rfl) (fun _ h => by cases h) docMeets_row_tie rfl ⟨rfl, rfl⟩ (by kernel_rfl) rfl
    (fun f fn hf hfn => by
      obtain rfl : f = 3 := Option.some.inj ((show Tryd.prog.funcNamed Rows.docMeetsRow.func = some 3 by kernel_rfl).symm.trans hf) |>.symm
      obtain rfl : fn = Tryd.f3 := (Option.some.inj (Tryd.func3.symm.trans hfn)).symm
      exact ⟨by kernel_rfl, fun j t ht => noStand t (by
        have := Array.mem_of_getElem? ht
        simpa using this)⟩)
    (by kernel_rfl)
#print axioms card_holds
end lawDocMeets
end Go.Proofs.YtobdollnkndmeaaDoor
