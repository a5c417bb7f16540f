/- 3 texts in one: each says ahead of itself what is proved, and its conditions. -/
import Derived.Test.YthfbjfocmnikaaaGreatDoorDocGo
import Derived.Test.YthfbjfocmnikaaaGreatDoorDocHelp
import Derived.Test.YthfbjfocmnikaaaGreatDoorDocOps
import Derived.Test.YthfbjfocmnikaaaGreatDoorMarkJoin
/- A row of ops is applied to a document, whatever comes of it: the round of such a loop. Plain, and by the contract of Apply. Conditions: the ops can be read. -/
namespace Go.Proofs.YthfbjfocmnikaaaGreatDoor
open Go.RowKit
set_option linter.unusedVariables false
/-- A document of the call's own to which at most n ops were applied. -/
def DocAt (w : World) (B b n : Nat) (wr : World) : Prop := ∃ st S D, DocIs wr B S b st D ∧ st.Ok ∧ Says st.ops st ∧ Numbered st.ops ∧ st.ops.length ≤ n ∧ Below w.heap.size w wr
theorem DocAt.new {w w' : World} {B b : Nat} {S : List Nat} {D : DLay} (h : DocIs w' B S b LDoc.new D) (hb : Below w.heap.size w w') (n : Nat) : DocAt w B b n w' := ⟨_, S, D, h, LDoc.new_ok, Says.new, Numbered.nil, Nat.zero_le _, hb⟩
theorem DocAt.more {w wr : World} {B b n m : Nat} (h : DocAt w B b n wr) (hm : n ≤ m) : DocAt w B b m wr := by
  obtain ⟨st, S, D, h1, h2, h3, h4, h5, h6⟩ := h
  exact ⟨st, S, D, h1, h2, h3, h4, by omega, h6⟩
theorem DocAt.round {w wr : World} {B b n : Nat} (h : DocAt w B b n wr) (hB : w.heap.size ≤ B) {A : Option Addr} {ys : List OpAt} (hr : Reads w w.heap.size 6 A ys.length (ocells ys)) (hg : ∀ y ∈ ys, y.Good w) {k : Nat} (hk : k < ys.length) :
    ∃ ad who nn what p letter seen ya yc, A = some ad ∧ wr.cell? (ad.add (k * 6)) = some (.int .i64 who) ∧ wr.cell? ⟨(ad.add (k * 6)).block, (ad.add (k * 6)).off + 1, none⟩ = some (.int .i64 nn) ∧ wr.cell? ⟨(ad.add (k * 6)).block, (ad.add (k * 6)).off + 2, none⟩ = some (.int .i64 what) ∧
      wr.cell? ⟨(ad.add (k * 6)).block, (ad.add (k * 6)).off + 3, none⟩ = some (.string p) ∧ wr.cell? ⟨(ad.add (k * 6)).block, (ad.add (k * 6)).off + 4, none⟩ = some (.int .i64 letter) ∧ wr.cell? ⟨(ad.add (k * 6)).block, (ad.add (k * 6)).off + 5, none⟩ = some (.slice ya seen yc) ∧
      Calls Tryz.prog 36 #[.pointer (some ⟨b, 0, none⟩), .agg #[.int .i64 who, .int .i64 nn, .int .i64 what, .string p, .int .i64 letter, .slice ya seen yc]] wr (fun e w' => (∃ (is : Bool) (ke : Int), e = .returned (.tuple #[.bool is, errV ke])) ∧ DocAt w B b (n + 1) w') := by
  obtain ⟨st, S, D, hd, hok, hs, hn, hl, hbw⟩ := h
  obtain ⟨ad, rfl, hab, c0', c1', c2', c3', c4', c5'⟩ := ((hr.below hbw).more hbw.size).op hk
  have hgood := (hg _ (List.getElem_mem hk)).below hbw
  have hps := hgood.2.1
  have hfar : 0 < ys[k].op.seen.length → ∀ g ∈ ob ys[k].at_, g ∉ S := (hg _ (List.getElem_mem hk)).1.far (fun g hg => by have := (hd.own g hg).1; omega)
  have HA := apply_doc wr _ _ _ _ _ hd hok ys[k].op ys[k].at_ ys[k].cap (by unfold maxLen at hps; omega) hgood.1 hfar
  refine ⟨ad, _, _, _, _, _, _, _, _, rfl, c0', c1', c2', c3', c4', c5', HA.mono ?_⟩
  rintro e w' ⟨rfl, S', D', h1, h2, h3⟩
  refine ⟨⟨_, _, rfl⟩, _, S', D', h1, LDoc.apply_ok hok _, LDoc.apply_says hok hs _, LDoc.apply_numbered hok hs hn _, ?_, hbw.trans (h2.below hbw.size (fun g hg => by have := (hd.own g hg).1; omega))⟩
  rcases LDoc.apply_three (d := st) ys[k].op with ⟨_, _, q⟩ | ⟨_, _, q⟩ | ⟨_, _, q⟩
  · rw [q]; simp; omega
  · rw [q]; omega
  · rw [q]; omega
/-- What came of the ops is far from older rows: they read as before. -/
theorem DocAt.below {w wr : World} {B b n : Nat} (h : DocAt w B b n wr) : Below w.heap.size w wr := by
  obtain ⟨st, S, D, h1, h2, h3, h4, h5, h6⟩ := h
  exact h6
end Go.Proofs.YthfbjfocmnikaaaGreatDoor
/- (*doc.Doc).Known, walked. Conditions: the document is right. -/
namespace Go.Proofs.YthfbjfocmnikaaaGreatDoor
open Go.RowKit
set_option linter.unusedVariables false
set_option maxRecDepth 100000 in
theorem known_doc (w : World) (B : Nat) (S : List Nat) (b : Nat) (st : LDoc) (D : DLay) (h : DocIs w B S b st D) (ok : st.Ok) : Calls Tryz.prog 27 #[.pointer (some ⟨b, 0, none⟩)] w (RowPost w 3 1 st.known.length (ints st.known)) := by
  have HC := Lib.hid (cloneI w D.a3 st.known.length D.c3 (ints st.known) h.known.reads (oneCells_ints st.known) (Fits.of_small (by have := vec_ok ok.known; omega) (by decide)))
  have c0 : w.cell? ⟨b, 2, none⟩ = some (.slice D.a3 st.known.length D.c3) := by rw [h.blk.cell]; rfl
  clear h ok
  go_enter Tryz.func27, Tryz.ntmps27
  go_wp2_with fail
  refine HC.out.mono ?_
  rintro e w1 ⟨V, c, rfl, hO, hb⟩
  have HO := Lib.hid hO
  have HB := Lib.hid hb
  clear hO hb
  go_wp2_with fail
  go_ret
  exact ⟨V, c, rfl, HO.out, HB.out⟩
end Go.Proofs.YthfbjfocmnikaaaGreatDoor
/- The document's In, walked. Conditions: few dots. -/
namespace Go.Proofs.YthfbjfocmnikaaaGreatDoor
open Go.RowKit MarkJoin
set_option linter.unusedVariables false
def RInLoop (w : World) (l : List LDot) (d : LDot) (i : Value) (wr : World) : Prop :=
  ∃ k : Nat, k ≤ l.length ∧ i = .int .i64 k ∧ Hid (Below w.heap.size w wr) ∧ Hid (∀ j (hj : j < l.length), j < k → l[j] ≠ d)
set_option maxRecDepth 100000 in
set_option maxHeartbeats 2000000 in
theorem rin_any (w : World) (A : Option Addr) (c : Nat) (l : List LDot) (d : LDot) (h : Reads w w.heap.size 2 A l.length (dcells l)) (hn : l.length ≤ 1000) :
    Calls Tryz.prog 131 #[.slice A l.length c, .agg #[.int .i64 d.who, .int .i64 d.n]] w (CheckPost w (.bool (inD l d))) := by
  obtain ⟨W0, hW0⟩ : ∃ W0, W0 = w.alloc (.cells #[.int .i64 d.who, .int .i64 d.n] 27) := ⟨_, rfl⟩
  have HSZ : Hid (w.heap.size < W0.heap.size) := by show _ < _; rw [hW0]; simp
  have HBW : Hid (Below w.heap.size w W0) := by show Below _ _ _; rw [hW0]; exact (Below.refl _ _).alloc (Nat.le_refl _) _
  have HR : Hid (∀ W, Below W0.heap.size W0 W → Reads W W.heap.size 2 A l.length (dcells l)) := fun W hb => ((((h.below HBW.out).more HBW.out.size).below hb).more hb.size)
  have HBK : Hid (∀ W, Below W0.heap.size W0 W → W.cell? ⟨w.heap.size, 0, none⟩ = some (.int .i64 d.who) ∧ W.cell? ⟨w.heap.size, 1, none⟩ = some (.int .i64 d.n)) := fun W hb => by
    have h0 : Blk W0 w.heap.size 27 #[.int .i64 d.who, .int .i64 d.n] := by rw [hW0]; exact Blk.new w _ _
    have h1 := h0.below hb HSZ.out
    exact ⟨by rw [h1.cell]; rfl, by rw [h1.cell]; rfl⟩
  clear h
  obtain ⟨d0, d1⟩ := d
  simp only at hW0 HBK
  go_enter Tryz.func131, Tryz.ntmps131
  go_wp2_with fail
  rw [← hW0]
  clear hW0
  go_loopw [5] (fun i wr => RInLoop W0 l ⟨d0, d1⟩ i wr) (fun i _ => l.length - (intOf i).toNat)
  case atStart => exact ⟨0, by omega, rfl, Below.refl _ _, fun j hj h => by omega⟩
  case round =>
    obtain ⟨k, hk, rfl, HB, HN⟩ := hrel
    by_cases hkn : k < l.length
    · obtain ⟨ad, rfl, hb, c0, c1⟩ := (HR.out _ HB.out).dot hkn
      obtain ⟨b0, b1⟩ := HBK.out _ HB.out
      have hlt : (k : Int) < (l.length : Int) := by omega
      have hk0 : (0 : Int) ≤ (k : Int) := by omega
      have HX : Hid (∀ x, x = l[k] → ∀ j (hj : j < l.length), j < k + 1 → (x ≠ ⟨d0, d1⟩) → l[j] ≠ ⟨d0, d1⟩) := fun x hx j hj hjk hne => by
        rcases Nat.eq_or_lt_of_le (Nat.le_of_lt_succ hjk) with h | h
        · subst h; rw [← hx]; exact hne
        · exact HN.out j hj h
      have HM : Hid (∀ x, x = l[k] → x = ⟨d0, d1⟩ → inD l ⟨d0, d1⟩ = true) := fun x hx he => inD_iff.2 (by rw [← he, hx]; exact List.getElem_mem hkn)
      generalize hlk : l[k] = x at *
      have HX2 := Lib.hid (HX.out x rfl)
      have HM2 := Lib.hid (HM.out x rfl)
      clear HX HM hlk
      obtain ⟨x0, x1⟩ := x
      simp only at c0 c1
      have heq := fun W => eq_dot W x0 d0 x1 d1
      by_cases hx : (⟨x0, x1⟩ : LDot) = ⟨d0, d1⟩
      · have g1 : (x0 == d0 && (x1 == d1)) = true := by rw [dot_same]; exact decide_eq_true hx
        have HT := Lib.hid (HM2.out hx)
        clear hx
        go_wp2_with fail
        go_quiet (fail)
        go_wp2_with fail
        go_ret
        exact ⟨by rw [HT.out]; rfl, HBW.out.trans ((below_drewN HB.out _).mono HBW.out.size)⟩
      · have g1 : (x0 == d0 && (x1 == d1)) = false := by rw [dot_same]; exact decide_eq_false hx
        have HT : Hid (∀ j (hj : j < l.length), j < k + 1 → l[j] ≠ ⟨d0, d1⟩) := fun j hj hjk => HX2.out j hj hjk hx
        clear hx
        go_wp2_with fail
        go_quiet (fail)
        go_wp2_with fail
        go_roundw
        case rel => exact ⟨k + 1, by omega, by go_num, below_drewN HB.out _, HT⟩
        case measure => simp [intOf]; omega
    · have hd : decide ((k : Int) < (l.length : Int)) = false := by simp; omega
      have HT : Hid (inD l ⟨d0, d1⟩ = false) := by
        show _ = _
        cases h : inD l ⟨d0, d1⟩
        · rfl
        · obtain ⟨j, hj, e⟩ := List.getElem_of_mem (inD_iff.1 h)
          exact absurd e (HN.out j hj (by omega))
      go_wp2_with fail
      go_ret
      exact ⟨by rw [HT.out]; rfl, HBW.out.trans (HB.out.mono HBW.out.size)⟩
end Go.Proofs.YthfbjfocmnikaaaGreatDoor
