/- leafref1.Decode, walked: it reads what op.Decode reads. Conditions: none of our own. -/
import Derived.Laws.ResultCell
import Derived.Test.YtlcjgldlblpboaaDoorDecode
import Derived.Test.YtlcjgldlblpboaaDoorGuess
import Derived.Test.YtlcjgldlblpboaaDoorRefBytes
namespace Go.Proofs.YtlcjgldlblpboaaDoor
open Go.RowKit
set_option linter.unusedVariables false
/-- Midway: the result's cells, the op's cells. -/
structure GMid (w : World) (o : LOp) (V : Option Addr) (cv : Nat) (wr : World) : Prop where
  res : Blk wr w.heap.size 26 #[.int .i64 0, .int .i64 0, .int .i64 0, .string ⟨#[]⟩, .int .i64 0, .slice none 0 0]
  box : Blk wr (w.heap.size + 1) 26 (o.cells V cv)
  own : Own wr w.heap.size 23 2 V o.seen.length cv (dcells o.seen)
  bel : Below w.heap.size w wr
namespace GMid
variable {w wr w' : World} {o o' : LOp} {V : Option Addr} {cv : Nat}
theorem below (h : GMid w o V cv wr) (hb : Below wr.heap.size wr w') : GMid w o V cv w' :=
  ⟨h.res.below hb h.res.lt, h.box.below hb h.box.lt, h.own.below hb, h.bel.trans (hb.mono h.bel.size)⟩
theorem alloc (h : GMid w o V cv wr) (b : Obj) : GMid w o V cv (wr.alloc b) := h.below ((Below.refl _ _).alloc (Nat.le_refl _) _)
theorem set_ (h : GMid w o V cv wr) (i : Nat) (u : Value) (hc : (o.cells V cv).setIfInBounds i u = o'.cells V cv) (hs : o'.seen = o.seen) : GMid w o' V cv (wr.setCell ⟨w.heap.size + 1, i, none⟩ u) := by
  refine ⟨h.res.far (by simp) _, ?_, ?_, h.bel.setCell (by simp) _⟩
  · have := h.box.set_ i u
    rw [hc] at this
    exact this
  · rw [hs]
    exact h.own.only ((Only.refl [w.heap.size + 1] wr).setCell (.inl (by simp)) _) (fun g hg hm => by simp at hm; subst hm; exact h.own.blk_ne h.box (by decide) hg)
theorem six (h : GMid w o V cv wr) : wr.cell? ⟨w.heap.size + 1, 0, none⟩ = some (.int .i64 o.dot.who) ∧ wr.cell? ⟨w.heap.size + 1, 1, none⟩ = some (.int .i64 o.dot.n) ∧ wr.cell? ⟨w.heap.size + 1, 2, none⟩ = some (.int .i64 o.what) ∧ wr.cell? ⟨w.heap.size + 1, 3, none⟩ = some (.string o.place) ∧
      wr.cell? ⟨w.heap.size + 1, 4, none⟩ = some (.int .i64 o.letter) ∧ wr.cell? ⟨w.heap.size + 1, 5, none⟩ = some (.slice V o.seen.length cv) :=
  ⟨by rw [h.box.cell]; rfl, by rw [h.box.cell]; rfl, by rw [h.box.cell]; rfl, by rw [h.box.cell]; rfl, by rw [h.box.cell]; rfl, by rw [h.box.cell]; rfl⟩
theorem only {T : List Nat} (h : GMid w o V cv wr) (ho : Only T wr w') (hT : ∀ g ∈ T, g ≠ w.heap.size ∧ g ≠ w.heap.size + 1 ∧ w.heap.size ≤ g ∧ g ∉ ob V) : GMid w o V cv w' :=
  ⟨ho.blk h.res (fun hm => (hT _ hm).1 rfl), ho.blk h.box (fun hm => (hT _ hm).2.1 rfl), h.own.only ho (fun g hg hm => (hT g hm).2.2.2 hg), h.bel.trans (ho.below h.bel.size (fun i hi => (hT i hi).2.2.1))⟩
/-- A dot more: the row has been appended to, and is laid. -/
theorem app (h : GMid w o V cv wr) {d : LDot} {V' : Option Addr} {n c' : Nat} (hn : n = o.seen.length + 1) (hO : Own w' w.heap.size 23 2 V' n c' (dcells o.seen ++ dcells [d])) (hL : Only (ob V) wr w') (ho' : o' = { o with seen := o.seen ++ [d] }) :
    GMid w o' V' c' (w'.setCell ⟨w.heap.size + 1, 5, none⟩ (.slice V' n c')) := by
  subst ho' hn
  have hb := hL.blk h.box (h.own.blk_ne h.box (by decide))
  refine ⟨(hL.blk h.res (h.own.blk_ne h.res (by decide))).far (by simp) _, ?_, ?_, (h.bel.trans (hL.below h.bel.size (fun i hi => (h.own.lt i hi).1))).setCell (by simp) _⟩
  · have := hb.set_ 5 (.slice V' (o.seen.length + 1) c')
    have e : (o.cells V cv).setIfInBounds 5 (.slice V' (o.seen.length + 1) c') = LOp.cells { o with seen := o.seen ++ [d] } V' c' := by simp [LOp.cells]
    rw [e] at this
    exact this
  · have e1 : dcells (o.seen ++ [d]) = dcells o.seen ++ dcells [d] := by simp [dcells]
    simp only [List.length_append, List.length_cons, List.length_nil]
    rw [e1]
    exact hO.only ((Only.refl [w.heap.size + 1] w').setCell (.inl (by simp)) _) (fun g hg hm => by simp at hm; subst hm; exact hO.blk_ne hb (by decide) hg)
end GMid
def RDecPost (w : World) (r : Option LOp) (e : Ending) (w' : World) : Prop :=
  match r with
  | none => e = .returned (.tuple #[zeroOp, .bool false]) ∧ Below w.heap.size w w'
  | some o => ∃ A c, e = .returned (.tuple #[o.val A c, .bool true]) ∧ Own w' w.heap.size 23 2 A o.seen.length c (dcells o.seen) ∧ Below w.heap.size w w'
theorem results_cell1 {fn : Func} {p u : Tmp} {ty : TypeId} (h : fn.results = #[.cell p ty, .tmp u]) (tmps : Array Value) (w : World) (A : Addr) (va x : Value)
    (hp : tmps.getD p undef = .pointer (some A)) (hx : tmps.getD u undef = x) (ha : (loadVar ty A).run Tryd.prog w = .ok va w) : (results fn tmps).run Tryd.prog w = .ok (.tuple #[va, x]) w := by
  have hp' : tmps[p]?.getD undef = .pointer (some A) := by simpa using hp
  have hx' : tmps[u]?.getD undef = x := by simpa using hx
  simp [results, h, hp', hx', asAddr, ha]
theorem byte_wrap (c : UInt8) : wrap64 ((c.toNat : Nat) : Int) = ((c.toNat : Nat) : Int) := by
  have hby : (c.toNat : Int) ≤ 255 := by have := UInt8.toNat_lt c; omega
  unfold wrap64; omega
set_option maxRecDepth 100000 in
set_option maxHeartbeats 4000000 in
theorem rdecode_long (w : World) (s : ByteArray) (hm : s.size ≤ 9223372036854775807) (a b c d e : UInt8) (t : List UInt8) (hs : s.data.toList = a :: b :: c :: d :: e :: t) (het : e.toNat ≤ t.length) : Calls Tryd.prog 9 #[.string s] w (RDecPost w (decOf s)) := by
  have hsz : s.size = t.length + 5 := by
    have h1 : s.data.toList.length = s.size := by rw [Array.length_toList]; rfl
    rw [hs] at h1
    simp at h1
    omega
  have hget : ∀ (j : Nat) (hj : j < s.size), s[j] = (a :: b :: c :: d :: e :: t)[j]'(by simp; omega) := fun j hj => by
    have h2 : s[j] = s.data.toList[j]'(by rw [Array.length_toList]; exact hj) := by simp; rfl
    rw [h2]
    simp only [hs]
  have s0 : 0 < s.size := by omega
  have s1 : 1 < s.size := by omega
  have s2 : 2 < s.size := by omega
  have s3 : 3 < s.size := by omega
  have s4 : 4 < s.size := by omega
  have g0 : s[0]'s0 = a := hget 0 (by omega)
  have g1 : s[1]'s1 = b := hget 1 (by omega)
  have g2 : s[2]'s2 = c := hget 2 (by omega)
  have g3 : s[3]'s3 = d := hget 3 (by omega)
  have g4 : s[4]'s4 = e := hget 4 (by omega)
  have v0 := Lib.hid g0
  have v1 := Lib.hid g1
  have v4 := Lib.hid g4
  have ge := UInt8.toNat_lt e
  have z4 : (4 : Int) < (s.size : Int) := by omega
  have z1 : (1 : Int) < (s.size : Int) := by omega
  have z0 : (0 : Int) < (s.size : Int) := by omega
  have z5 : ¬ (s.size : Int) < 5 := by omega
  have x4 : wrap64 ((s[4]'s4).toNat : Int) = (e.toNat : Int) := by rw [g4]; unfold wrap64; omega
  have x1 : wrap64 ((s[1]'s1).toNat : Int) = (b.toNat : Int) := by rw [g1]; have := UInt8.toNat_lt b; unfold wrap64; omega
  have x0 : wrap64 ((s[0]'s0).toNat : Int) = (a.toNat : Int) := by rw [g0]; have := UInt8.toNat_lt a; unfold wrap64; omega
  have x5 : wrap64 (5 + (e.toNat : Int)) = 5 + (e.toNat : Int) := by unfold wrap64; omega
  have y5 : ¬ (s.size : Int) < 5 + (e.toNat : Int) := by omega
  have y6 : 5 + (e.toNat : Int) ≤ (s.size : Int) := by omega
  have y7 : (5 : Int) ≤ 5 + (e.toNat : Int) := by omega
  have y8 : (5 + (e.toNat : Int)).toNat = 5 + e.toNat := by omega
  have HNU := Lib.hid (fun W => number_any W s 2 c d s3 hm g2 g3)
  clear g0 g1 g2 g3 g4 hget
  obtain ⟨p, hp⟩ : ∃ p, p = strOf (t.take e.toNat) := ⟨_, rfl⟩
  obtain ⟨r, hr⟩ : ∃ r, r = t.drop e.toNat := ⟨_, rfl⟩
  have hp2 : s.extract 5 (5 + e.toNat) = p := by
    have h1 : s = strOf s.data.toList := by apply ByteArray.ext; simp [strOf]
    rw [h1, strOf_ext, hs, hp, List.drop_take]
    rw [show 5 + e.toNat - 5 = e.toNat by omega]
    rfl
  have hr2 : s.extract (5 + e.toNat) s.size = strOf r := by
    have h1 : s = strOf s.data.toList := by apply ByteArray.ext; simp [strOf]
    conv => lhs; rw [h1]
    rw [strOf_ext, hs, hr, List.take_of_length_le (by rw [strOf_sz]; exact Nat.le_refl _), ← List.drop_drop]
    rfl
  have HP2 := Lib.hid hp2
  have HR2 := Lib.hid hr2
  have hdec := decOf_guess hs het
  unfold gdOp at hdec
  rw [← hp, ← hr] at hdec
  have hst : s.toList = s.data.toList := ByteArray.toList_eq _
  rw [← hst] at hdec
  obtain ⟨R, hR⟩ : ∃ R, R = decOf s := ⟨_, rfl⟩
  rw [← hR] at hdec ⊢
  have HDEC := Lib.hid hdec
  clear hst hR
  have hrl : r.length ≤ 9223372036854775807 := by rw [hr, List.length_drop]; omega
  have HTS := Lib.hid hs
  have HSZ := Lib.hid hsz
  have hps : p.size ≤ 9223372036854775807 := by rw [hp, strOf_sz, List.length_take]; omega
  clear hp hr hp2 hr2 hdec hs hsz
  have M0 : GMid w ⟨⟨(b.toNat : Int), 0⟩, (a.toNat : Int), ⟨#[]⟩, 0, []⟩ none 0 ((w.alloc (.cells #[.int .i64 0, .int .i64 0, .int .i64 0, .string ⟨#[]⟩, .int .i64 0, .slice none 0 0] 26)).alloc (.cells #[.int .i64 (b.toNat : Int), .int .i64 0, .int .i64 (a.toNat : Int), .string ⟨#[]⟩, .int .i64 0, .slice none 0 0] 26)) := by
    refine ⟨(Blk.new w 26 _).alloc _, ?_, Own.nil _ _ _ _, ((Below.refl _ _).alloc (Nat.le_refl _) _).alloc (by simp) _⟩
    have := Blk.new (w.alloc (.cells #[.int .i64 0, .int .i64 0, .int .i64 0, .string ⟨#[]⟩, .int .i64 0, .slice none 0 0] 26)) 26 #[.int .i64 (b.toNat : Int), .int .i64 0, .int .i64 (a.toNat : Int), .string ⟨#[]⟩, .int .i64 0, .slice none 0 0]
    simpa [LOp.cells] using this
  have HM0 := Lib.hid M0
  clear M0
  go_enter Tryd.func9, Tryd.ntmps9
  go_wp2_with fail
  refine (HNU.out _).mono ?_
  rintro en w1 ⟨rfl, hb1⟩
  have HM1 := Lib.hid (HM0.out.below hb1)
  clear hb1 HM0
  obtain ⟨cd, hcd⟩ : ∃ cd : Nat, cd = c.toNat * 256 + d.toNat := ⟨_, rfl⟩
  rw [← hcd] at HDEC ⊢
  have HCD := Lib.hid hcd
  clear hcd
  obtain ⟨i0, i1, i2, i3, i4, i5⟩ := HM1.out.six
  have f1 := HM1.out.box.frozen 1
  have HM2 := Lib.hid (HM1.out.set_ (o' := ⟨⟨(b.toNat : Int), (cd : Int)⟩, (a.toNat : Int), ⟨#[]⟩, 0, []⟩) 1 (.int .i64 (cd : Int)) rfl rfl)
  obtain ⟨j0, j1, j2, j3, j4, j5⟩ := HM2.out.six
  have f3 := HM2.out.box.frozen 3
  have HM3 := Lib.hid (HM2.out.set_ (o' := ⟨⟨(b.toNat : Int), (cd : Int)⟩, (a.toNat : Int), p, 0, []⟩) 3 (.string p) rfl rfl)
  go_upto_region 9 with (fail)
  rw [HP2.out, HR2.out]
  clear i0 i1 i2 i3 i4 i5 j0 j1 j2 j3 j4 j5 f1 f3 HM1 HM2 v0 v1 v4
  obtain ⟨W3, hW3⟩ : ∃ W3, W3 = (w1.setCell ⟨w.heap.size + 1, 1, none⟩ (.int .i64 (cd : Int))).setCell ⟨w.heap.size + 1, 3, none⟩ (.string p) := ⟨_, rfl⟩
  rw [← hW3] at HM3 ⊢
  clear hW3
  obtain ⟨rs, hrs⟩ : ∃ rs, rs = strOf r := ⟨_, rfl⟩
  rw [← hrs]
  have HRS := Lib.hid hrs
  have hrz : rs.size = r.length := by rw [hrs]; exact strOf_sz r
  have HRZ := Lib.hid hrz
  have hrg : ∀ (j : Nat) (hj : j < rs.size), r[j]? = some rs[j] := fun j hj => by
    subst hrs
    have : j < r.length := by rw [strOf_sz] at hj; exact hj
    rw [List.getElem?_eq_getElem this]; rfl
  have HRG := Lib.hid hrg
  have hrm : rs.size ≤ 9223372036854775807 := by omega
  clear hrz
  have ha8 := UInt8.toNat_lt a
  clear hrs hrg
  obtain ⟨i0, i1, i2, i3, i4, i5⟩ := HM3.out.six
  go_cut [54] (fun v wx => v = .bool (decide (a.toNat = 1 ∧ 0 < r.length)) ∧ Hid (wx = W3))
  case first =>
    have q1 : ((a.toNat : Int) == 1) = decide (a.toNat = 1) := by rw [Bool.eq_iff_iff]; simp; omega
    by_cases h1 : a.toNat = 1
    · have e1 : ((a.toNat : Int) == 1) = true := by rw [q1]; simpa using h1
      have e2 : decide ((0 : Int) < (rs.size : Int)) = decide (a.toNat = 1 ∧ 0 < r.length) := by rw [HRZ.out, Bool.eq_iff_iff]; simp [h1]
      clear h1  q1
      go_wp2_with fail
      go_meet
      case rel => exact ⟨by rw [← e2]; simp, Lib.hid rfl⟩
    · have e1 : ((a.toNat : Int) == 1) = false := by rw [q1]; simpa using h1
      have e2 : decide (a.toNat = 1 ∧ 0 < r.length) = false := by simp [h1]
      clear h1  q1
      go_wp2_with fail
      go_meet
      case rel => exact ⟨by rw [e2], Lib.hid rfl⟩
  case rest =>
    obtain ⟨rfl, HW⟩ := hcut
    obtain rfl := HW.out
    obtain ⟨o1, ho1⟩ : ∃ o1 : LOp, o1 = ⟨⟨(b.toNat : Int), (cd : Int)⟩, (a.toNat : Int), p, gdLetter a.toNat r, []⟩ := ⟨_, rfl⟩
    have HO1 := Lib.hid ho1
    clear ho1
    go_upto_if 54 with (fail)
    go_cut [] (fun wx => Hid (GMid w o1 none 0 wx))
    case first =>
      by_cases h1 : a.toNat = 1 ∧ 0 < r.length
      · obtain ⟨x, t2, hrr⟩ : ∃ x t2, r = x :: t2 := by
          cases r with
          | nil => simp at h1
          | cons x t2 => exact ⟨x, t2, rfl⟩
        have HL : Hid (gdLetter a.toNat r = (x.toNat : Int)) := by show _ = _; rw [hrr]; simp [gdLetter, h1.1]
        have hd : decide (a.toNat = 1 ∧ 0 < r.length) = true := by simpa using h1
        rw [hd]
        have q1 : 0 < rs.size := by rw [HRZ.out, hrr]; simp
        have q2 : ((0 : Int) < (rs.size : Int)) := by omega
        have q4 : wrap64 ((rs[0]'q1).toNat : Int) = (x.toNat : Int) := by
          have : rs[0]'q1 = x := by have := HRG.out 0 q1; rw [hrr] at this; simpa using this.symm
          rw [this]; have := UInt8.toNat_lt x; unfold wrap64; omega
        have f4 := HM3.out.box.frozen 4
        have HM4 := Lib.hid (HM3.out.set_ (o' := ⟨⟨(b.toNat : Int), (cd : Int)⟩, (a.toNat : Int), p, (x.toNat : Int), []⟩) 4 (.int .i64 (x.toNat : Int)) rfl rfl)
        clear  h1 hrr hd
        go_wp2_with fail
        go_meet
        case rel =>
          show Hid _
          rw [HO1.out, HL.out]
          exact HM4
      · have HL : Hid (gdLetter a.toNat r = 0) := by
          show _ = _
          unfold gdLetter
          by_cases ha : a.toNat = 1
          · rw [if_pos ha]
            cases r with
            | nil => rfl
            | cons x t2 => exact absurd ⟨ha, by simp⟩ h1
          · rw [if_neg ha]
        have hd : decide (a.toNat = 1 ∧ 0 < r.length) = false := by simpa using h1
        rw [hd]
        clear h1  hd
        go_wp2_with fail
        go_meet
        case rel =>
          show Hid _
          rw [HO1.out, HL.out]
          exact HM3
    case rest =>
      have HM4 := hcut
      clear hcut HM3 i0 i1 i2 i3 i4 i5
      have h4w : Hid (o1.what = (a.toNat : Int)) := by show _ = _; rw [HO1.out]
      obtain ⟨i0, i1, i2, i3, i4, i5⟩ := HM4.out.six
      rw [h4w.out] at i2
      go_upto_region 11 with (fail)
      go_cut [66] (fun v wx => v = .bool (decide (a.toNat = 4 ∧ 0 < r.length)) ∧ Hid (wx = wc))
      case first =>
        have q1 : ((a.toNat : Int) == 4) = decide (a.toNat = 4) := by rw [Bool.eq_iff_iff]; simp; omega
        by_cases h1 : a.toNat = 4
        · have e1 : ((a.toNat : Int) == 4) = true := by rw [q1]; simpa using h1
          have e2 : decide ((0 : Int) < (rs.size : Int)) = decide (a.toNat = 4 ∧ 0 < r.length) := by rw [HRZ.out, Bool.eq_iff_iff]; simp [h1]
          clear h1 q1
          go_wp2_with fail
          go_meet
          case rel => exact ⟨by rw [← e2]; simp, Lib.hid rfl⟩
        · have e1 : ((a.toNat : Int) == 4) = false := by rw [q1]; simpa using h1
          have e2 : decide (a.toNat = 4 ∧ 0 < r.length) = false := by simp [h1]
          clear h1 q1
          go_wp2_with fail
          go_meet
          case rel => exact ⟨by rw [e2], Lib.hid rfl⟩
      case rest =>
        rename_i wd
        obtain ⟨rfl, HW⟩ := hcut
        obtain rfl := HW.out
        obtain ⟨sn, hsn⟩ : ∃ sn : List LDot, sn = gdSeen a.toNat r := ⟨_, rfl⟩
        have HSN := Lib.hid hsn
        clear hsn
        go_upto_if 66 with (fail)
        go_cut [] (fun wx => ∃ V cv, Hid (GMid w { o1 with seen := sn } V cv wx))
        case first =>
          by_cases h1 : a.toNat = 4 ∧ 0 < r.length
          · obtain ⟨x, t2, hrr⟩ : ∃ x t2, r = x :: t2 := by
              cases r with
              | nil => simp at h1
              | cons x t2 => exact ⟨x, t2, rfl⟩
            have HL : Hid (sn = gdDots x.toNat t2) := by show _ = _; rw [HSN.out, hrr]; simp [gdSeen, h1.1]
            have hd : decide (a.toNat = 4 ∧ 0 < r.length) = true := by simpa using h1
            rw [hd]
            have q1 : 0 < rs.size := by rw [HRZ.out, hrr]; simp
            have q2 : ((0 : Int) < (rs.size : Int)) := by omega
            have q4 : wrap64 ((rs[0]'q1).toNat : Int) = (x.toNat : Int) := by
              have : rs[0]'q1 = x := by have := HRG.out 0 q1; rw [hrr] at this; simpa using this.symm
              rw [this]; have := UInt8.toNat_lt x; unfold wrap64; omega
            have x8 := UInt8.toNat_lt x
            have HRR := Lib.hid hrr
            have ht2 : rs.size = t2.length + 1 := by rw [HRZ.out, hrr]; rfl
            have hsz2 : (t2.length : Int) + 1 = (rs.size : Int) := by omega
            have HT2 := Lib.hid ht2
            clear h1 hrr hd ht2 hsz2
            go_wp2_with fail
            go_loopw [7] (fun i wx => ∃ (k : Nat) (V : Option Addr) (cv : Nat), k ≤ x.toNat ∧ 3 * k ≤ t2.length ∧ i = .int .i64 (k : Nat) ∧ Hid (GMid w { o1 with seen := gdDots k t2 } V cv wx)) (fun i _ => x.toNat - (intOf i).toNat)
            case atStart =>
              refine ⟨0, none, 0, Nat.zero_le _, Nat.zero_le _, rfl, ?_⟩
              rw [gdDots_zero]
              have : ({ o1 with seen := [] } : LOp) = o1 := by rw [HO1.out]
              rw [this]
              exact HM4
            case round =>
              obtain ⟨k, V, cv, hk, hk3, rfl, HM⟩ := hrel
              clear i0 i1 i2 i3 i4 i5
              obtain ⟨i0, i1, i2, i3, i4, i5⟩ := HM.out.six
              have k0 : (0 : Int) ≤ (k : Int) := by omega
              have k1 : (k : Int) ≤ 255 := by omega
              by_cases hc1 : k < x.toNat
              · have l1 : (k : Int) < (x.toNat : Int) := by omega
                by_cases hc2 : 3 * k + 2 < t2.length
                · have l2 : 4 + 3 * (k : Int) ≤ (rs.size : Int) := by have := HT2.out; omega
                  have l3 : 1 + 3 * k < rs.size := by have := HT2.out; omega
                  have l4 : (1 + 3 * (k : Int)).toNat = 1 + 3 * k := by omega
                  have l5 : 1 + 3 * (k : Int) < (rs.size : Int) := by omega
                  have key : ∀ (i : Nat) (hi : i < t2.length) (hi2 : i + 1 < rs.size), rs[i + 1] = t2[i] := fun i hi hi2 => by
                    have h3 := HRG.out (i + 1) hi2
                    rw [HRR.out, List.getElem?_cons_succ, List.getElem?_eq_getElem hi] at h3
                    exact (Option.some.inj h3).symm
                  have l7 : wrap64 ((rs[1 + 3 * k]'l3).toNat : Int) = ((t2[3 * k]'(by omega)).toNat : Int) := by
                    have h2 : rs[1 + 3 * k]'l3 = t2[3 * k]'(by omega) := by
                      have := key (3 * k) (by omega) (by omega)
                      rw [← this]
                      simp only [Nat.add_comm]
                    rw [h2]; exact byte_wrap _
                  have hn1 : rs[2 + 3 * k]'(by have := HT2.out; omega) = t2[3 * k + 1]'(by omega) := by
                    have := key (3 * k + 1) (by omega) (by omega)
                    rw [← this]
                    simp only [show 2 + 3 * k = 3 * k + 1 + 1 by omega]
                  have hn2 : rs[2 + 3 * k + 1]'(by have := HT2.out; omega) = t2[3 * k + 2]'(by omega) := by
                    have := key (3 * k + 2) (by omega) (by omega)
                    rw [← this]
                    simp only [show 2 + 3 * k + 1 = 3 * k + 2 + 1 by omega]
                  have hNU := fun W => number_any W rs (2 + 3 * k) _ _ (by have := HT2.out; omega) hrm hn1 hn2
                  rw [show ((2 + 3 * k : Nat) : Int) = 2 + 3 * (k : Int) by omega] at hNU
                  have HNU := Lib.hid hNU
                  clear hNU key
                  have HDS := Lib.hid (gdDots_succ k t2 (by omega))
                  have HDL := Lib.hid (gdDots_full k t2 (by omega))
                  obtain ⟨y0, hy0⟩ : ∃ y0 : Nat, y0 = (t2[3 * k]'(by omega)).toNat := ⟨_, rfl⟩
                  obtain ⟨y1, hy1⟩ : ∃ y1 : Nat, y1 = (t2[3 * k + 1]'(by omega)).toNat * 256 + (t2[3 * k + 2]'(by omega)).toNat := ⟨_, rfl⟩
                  rw [← hy0] at l7 HDS
                  rw [← hy1] at HNU HDS
                  have HBD := Lib.hid (Blk.new wr 23 #[.int .i64 (y0 : Int), .int .i64 0])
                  have HMA := Lib.hid (HM.out.alloc (.cells #[.int .i64 (y0 : Int), .int .i64 0] 23))
                  obtain ⟨W1, hW1⟩ : ∃ W1, W1 = wr.alloc (.cells #[.int .i64 (y0 : Int), .int .i64 0] 23) := ⟨_, rfl⟩
                  obtain ⟨gd, hgd⟩ : ∃ gd, gd = wr.heap.size := ⟨_, rfl⟩
                  rw [← hW1, ← hgd] at HBD
                  have HGD := Lib.hid hgd
                  rw [← hW1] at HMA
                  have hgd2 : w.heap.size + 1 < gd := by have := HM.out.box.lt; omega
                  have hk9 : Hid (3 * k + 2 < t2.length) := hc2
                  have hk8 : Hid (k < x.toNat) := hc1
                  clear hy0 hy1 hn1 hn2 hk3 hk hc2 hc1
                  go_wp2_with fail
                  rw [← hW1, ← hgd]
                  clear hW1 hgd
                  refine (HNU.out W1).mono ?_
                  rintro en w2 ⟨rfl, hb2⟩
                  have HBD2 := Lib.hid (HBD.out.below hb2 HBD.out.lt)
                  have HM2 := Lib.hid (HMA.out.below hb2)
                  have HVL : Hid (∀ g ∈ ob V, g < gd) := by show ∀ g ∈ ob V, g < gd; intro g hg; rw [HGD.out]; exact (HM.out.own.lt g hg).2
                  obtain ⟨W3, hW3⟩ : ∃ W3, W3 = w2.setCell ⟨gd, 1, none⟩ (.int .i64 (y1 : Int)) := ⟨_, rfl⟩
                  have HM3 : Hid (GMid w { o1 with seen := gdDots k t2 } V cv W3) := by
                    show GMid _ _ _ _ _
                    rw [hW3]
                    exact HM2.out.only ((Only.refl [gd] w2).setCell (.inl (by simp)) _) (fun g hg => by
                      simp at hg; subst hg
                      exact ⟨by omega, by omega, by omega, fun hm => by have := HVL.out _ hm; omega⟩)
                  have HBD3 : Hid (Blk W3 gd 23 #[.int .i64 (y0 : Int), .int .i64 (y1 : Int)]) := by
                    show Blk _ _ _ _
                    rw [hW3]
                    exact HBD2.out.set_ 1 (.int .i64 (y1 : Int))
                  have c1 : w2.cell? ⟨gd, 1, none⟩ = some (.int .i64 0) := by rw [HBD2.out.cell]; rfl
                  have f1 := HBD2.out.frozen 1
                  clear hb2 i0 i1 i2 i3 i4 i5 HM
                  go_upto_region 18 with (fail)
                  rw [← hW3]
                  clear hW3 c1 f1 HM2 HBD2
                  obtain ⟨i0, i1, i2, i3, i4, i5⟩ := HM3.out.six
                  have d0 : W3.cell? ⟨gd, 0, none⟩ = some (.int .i64 (y0 : Int)) := by rw [HBD3.out.cell]; rfl
                  have d1 : W3.cell? ⟨gd, 1, none⟩ = some (.int .i64 (y1 : Int)) := by rw [HBD3.out.cell]; rfl
                  have hl5 := HDL.out
                  have hFt : Fits ((gdDots k t2).length + 1) 16 := Fits.of_small (by omega) (by decide)
                  have RL := Lib.hid (fun W : World => Reads.row W 23 #[.int .i64 (y0 : Int), .int .i64 (y1 : Int)])
                  clear hl5
                  have HM34 := Lib.hid (HM3.out.alloc (.cells #[.int .i64 (y0 : Int), .int .i64 (y1 : Int)] 23))
                  have HRW := Lib.hid (Reads.row W3 23 #[.int .i64 (y0 : Int), .int .i64 (y1 : Int)])
                  have HBN := Lib.hid (HM34.out.own.blk_ne HM34.out.box (by decide))
                  have HSB : Hid (w.heap.size ≤ (W3.alloc (.cells #[.int .i64 (y0 : Int), .int .i64 (y1 : Int)] 23)).heap.size) := HM34.out.bel.size
                  clear RL
                  go_wp2_with (at_builtin; go_loud (refine wpList_app _ (.tmp 96) (.tmp 98) rfl rfl elemDt rfl rfl HM34.out.own HRW.out (oneCells_dt _ _) hFt HSB.out ?_; intro V9 cv9 w9 HO HL9 HX; have HO9 := Lib.hid HO; have HL9 := Lib.hid HL9; have b9 := HL9.out.blk HM34.out.box HBN.out; have f5 := b9.frozen 5; have c5 : w9.cell? ⟨w.heap.size + 1, 5, none⟩ = some (.slice V (gdDots k t2).length cv) := (by rw [b9.cell]; rfl); clear b9 HO HX))
                  have HM4 := Lib.hid (HM34.out.app (o' := { o1 with seen := gdDots k t2 ++ [⟨(y0 : Int), (y1 : Int)⟩] }) (d := ⟨(y0 : Int), (y1 : Int)⟩) rfl HO9.out HL9.out rfl)
                  go_roundw
                  case rel => exact ⟨k + 1, V9, cv9, by have := hk8.out; omega, by have := hk9.out; omega, by go_num, by rw [HDS.out]; exact HM4⟩
                  case measure => have := hk8.out; simp [intOf]; omega
                · have l2 : ¬ 4 + 3 * (k : Int) ≤ (rs.size : Int) := by have := HT2.out; omega
                  have HFI : Hid (sn = gdDots k t2) := by show _ = _; rw [HL.out]; exact gdDots_short k _ _ hk (by omega)
                  clear hc2 hk hk3
                  go_wp2_with fail
                  go_meet
                  case rel =>
                    refine ⟨V, cv, ?_⟩
                    rw [HFI.out]
                    exact HM
              · have l1 : ¬ (k : Int) < (x.toNat : Int) := by omega
                have HFI : Hid (sn = gdDots k t2) := by show _ = _; rw [HL.out, show x.toNat = k by omega]
                clear hc1 hk hk3
                go_wp2_with fail
                go_meet
                case rel =>
                  refine ⟨V, cv, ?_⟩
                  rw [HFI.out]
                  exact HM
          · have HL : Hid (sn = []) := by
              show _ = _
              rw [HSN.out]
              unfold gdSeen
              by_cases ha : a.toNat = 4
              · rw [if_pos ha]
                cases r with
                | nil => rfl
                | cons x t2 => exact absurd ⟨ha, by simp⟩ h1
              · rw [if_neg ha]
            have hd : decide (a.toNat = 4 ∧ 0 < r.length) = false := by simpa using h1
            rw [hd]
            clear h1 hd
            go_wp2_with fail
            go_meet
            case rel =>
              refine ⟨none, 0, ?_⟩
              have : ({ o1 with seen := sn } : LOp) = o1 := by rw [HL.out, HO1.out]
              rw [this]
              exact HM4
        case rest =>
          obtain ⟨V, cv, HMF⟩ := hcut
          clear HM4 i0 i1 i2 i3 i4 i5
          obtain ⟨og, hog⟩ : ∃ og : LOp, og = ⟨⟨(b.toNat : Int), (cd : Int)⟩, (a.toNat : Int), p, gdLetter a.toNat r, gdSeen a.toNat r⟩ := ⟨_, rfl⟩
          have hoe : ({ o1 with seen := sn } : LOp) = og := by rw [HO1.out, hog, HSN.out]
          rw [hoe] at HMF
          rw [← hog] at HDEC
          have hpl : og.place.size ≤ 9223372036854775807 := by rw [hog]; exact hps
          have HROP := Lib.hid (rop_any wc V cv og HMF.out.own.reads hpl)
          have HRB := Lib.hid (fun W (hb : Below wc.heap.size wc W) he => rbytes_any W V cv og (HMF.out.below hb).own.reads he)
          clear hog hoe hpl HO1 HSN HRG HRZ HRS HP2 HR2 HCD
          clear HTS
          obtain ⟨⟨dw, dn⟩, what, place, letter, seen⟩ := og
          have hbox := HMF.out.box
          unfold LOp.cells at hbox
          unfold LOp.val at HROP HRB
          simp only at hbox HROP HRB
          obtain ⟨⟨d0, d1, d2, d3, d4, d5⟩, ⟨x0, x1, x2, x3, x4, x5⟩, ⟨y0, y1, y2, y3, y4, y5⟩⟩ := fin_at hbox HMF.out.res
          clear hbox
          obtain ⟨er, he⟩ : ∃ er, opErr ⟨⟨dw, dn⟩, what, place, letter, seen⟩ = er := ⟨_, rfl⟩
          rw [he] at HROP
          have HER := Lib.hid he
          clear he
          go_wp2_with fail
          refine HROP.out.mono ?_
          rintro en w2 ⟨rfl, hb2⟩
          have HB2 := Lib.hid hb2
          have HM2 := Lib.hid (HMF.out.below hb2)
          clear hb2 d0 d1 d2 d3 d4 d5 x0 x1 x2 x3 x4 x5 y0 y1 y2 y3 y4 y5
          have hbox := HM2.out.box
          unfold LOp.cells at hbox
          simp only at hbox
          obtain ⟨⟨d0, d1, d2, d3, d4, d5⟩, ⟨x0, x1, x2, x3, x4, x5⟩, ⟨y0, y1, y2, y3, y4, y5⟩⟩ := fin_at hbox HM2.out.res
          clear hbox
          by_cases her : er = 0
          · have e1 : (er != 0) = false := by simp [her]
            have e2 : (er == 0) = true := by simp [her]
            have HE0 := Lib.hid (HER.out.trans her)
            have HRB2 := Lib.hid (HRB.out w2 HB2.out HE0.out)
            subst her
            clear HRB HROP
            generalize hbl : opBytes ⟨⟨dw, dn⟩, what, place, letter, seen⟩ = bl at HDEC HRB2
            have HBL := Lib.hid hbl
            clear hbl
            have hsl : (strOf bl).toList = bl := strOf_toList bl
            generalize hsb : strOf bl = sb at *
            clear hsb
            go_wp2_with fail
            refine HRB2.out.mono ?_
            rintro en w3 ⟨rfl, hb3⟩
            have HB3 := Lib.hid hb3
            have HM3 := Lib.hid (HM2.out.below hb3)
            clear hb3 d0 d1 d2 d3 d4 d5 x0 x1 x2 x3 x4 x5 y0 y1 y2 y3 y4 y5
            have hbox := HM3.out.box
            unfold LOp.cells at hbox
            simp only at hbox
            obtain ⟨⟨d0, d1, d2, d3, d4, d5⟩, ⟨x0, x1, x2, x3, x4, x5⟩, ⟨y0, y1, y2, y3, y4, y5⟩⟩ := fin_at hbox HM3.out.res
            clear hbox
            by_cases hq : bl = s.toList
            · have HRO : Hid (R = some ⟨⟨dw, dn⟩, what, place, letter, seen⟩) := by show _ = _; rw [HDEC.out, if_pos ⟨HE0.out, hq⟩]
              have e3 : (sb.toList == s.toList) = true := by rw [hsl, hq]; simp
              have e4 : (sb.toList != s.toList) = false := by rw [hsl, hq]; simp
              clear hq hsl
              go_wp2_with fail
              refine bodyPost_ret (results_cell1 rfl _ _ ⟨w.heap.size, 0, none⟩ _ _ rfl rfl (load_op _ _ _ _ _ _ _ _ (HM3.out.res.set6 _ _ _ _ _ _))) rfl ?_
              rw [HRO.out]
              refine ⟨V, cv, rfl, ?_, HM3.out.bel.trans ((set6_only _ _ _ _ _ _ _ _).below HM3.out.bel.size (by simp))⟩
              exact HM3.out.own.only (set6_only _ _ _ _ _ _ _ _) (fun g hg hm => by simp at hm; subst hm; exact HM3.out.own.blk_ne HM3.out.res (by decide) hg)
            · have HRO : Hid (R = none) := by show _ = _; rw [HDEC.out, if_neg (fun h => hq h.2)]
              have e3 : (sb.toList == s.toList) = false := by rw [hsl]; simpa using hq
              have e4 : (sb.toList != s.toList) = true := by rw [hsl]; simpa using hq
              clear hq hsl
              go_wp2_with fail
              refine bodyPost_ret (results_cell1 rfl _ _ ⟨w.heap.size, 0, none⟩ _ _ rfl rfl (load_op _ _ _ _ _ _ _ _ (HM3.out.res.set6 _ _ _ _ _ _))) rfl ?_
              rw [HRO.out]
              exact ⟨rfl, HM3.out.bel.trans ((set6_only _ _ _ _ _ _ _ _).below HM3.out.bel.size (by simp))⟩
          · have e1 : (er != 0) = true := by simp [her]
            have e2 : (er == 0) = false := by simp [her]
            have HRO : Hid (R = none) := by show _ = _; rw [HDEC.out, if_neg (fun h => her (HER.out.symm.trans h.1))]
            clear her
            go_wp2_with fail
            refine bodyPost_ret (results_cell1 rfl _ _ ⟨w.heap.size, 0, none⟩ _ _ rfl rfl (load_op _ _ _ _ _ _ _ _ (HM2.out.res.set6 _ _ _ _ _ _))) rfl ?_
            rw [HRO.out]
            exact ⟨rfl, HM2.out.bel.trans ((set6_only _ _ _ _ _ _ _ _).below HM2.out.bel.size (by simp))⟩
set_option maxRecDepth 100000 in
set_option maxHeartbeats 4000000 in
theorem rdecode_any (w : World) (s : ByteArray) (hm : s.size ≤ 9223372036854775807) : Calls Tryd.prog 9 #[.string s] w (RDecPost w (decOf s)) := by
  have hsl : s.data.toList.length = s.size := by rw [Array.length_toList]; rfl
  have HZ := Lib.hid (Blk.new w 26 #[.int .i64 0, .int .i64 0, .int .i64 0, .string ⟨#[]⟩, .int .i64 0, .slice none 0 0])
  have HB : Hid (Below w.heap.size w (w.alloc (.cells #[.int .i64 0, .int .i64 0, .int .i64 0, .string ⟨#[]⟩, .int .i64 0, .slice none 0 0] 26))) := (Below.refl _ _).alloc (Nat.le_refl _) _
  by_cases h5 : s.size < 5
  · have hd := decOf_short (s := s) (by omega)
    have z5 : (s.size : Int) < 5 := by omega
    rw [hd]
    clear hd h5 hsl
    go_enter Tryd.func9, Tryd.ntmps9
    go_wp2_with fail
    refine bodyPost_ret (results_cell1 rfl _ _ ⟨w.heap.size, 0, none⟩ _ _ rfl rfl (load_op _ _ _ _ _ _ _ _ HZ.out)) rfl ?_
    exact ⟨rfl, HB.out⟩
  · obtain ⟨a, b, c, d, e, t, hs⟩ : ∃ a b c d e t, s.data.toList = a :: b :: c :: d :: e :: t := by
      generalize s.data.toList = l at hsl
      match l, hsl with
      | [], h => simp at h; omega
      | [_], h => simp at h; omega
      | [_, _], h => simp at h; omega
      | [_, _, _], h => simp at h; omega
      | [_, _, _, _], h => simp at h; omega
      | a :: b :: c :: d :: e :: t, _ => exact ⟨a, b, c, d, e, t, rfl⟩
    by_cases het : e.toNat ≤ t.length
    · exact rdecode_long w s hm a b c d e t hs het
    · have hd := decOf_far hs (by omega)
      rw [hd]
      have s4 : 4 < s.size := by omega
      have g4 : s[4]'s4 = e := by
        have h2 : s[4]'s4 = s.data.toList[4]'(by rw [Array.length_toList]; exact s4) := by simp; rfl
        rw [h2]
        simp only [hs]
        rfl
      have z4 : (4 : Int) < (s.size : Int) := by omega
      have z5 : ¬ (s.size : Int) < 5 := by omega
      have x4 : wrap64 ((s[4]'s4).toNat : Int) = (e.toNat : Int) := by rw [g4]; exact byte_wrap _
      have x5 : wrap64 (5 + (e.toNat : Int)) = 5 + (e.toNat : Int) := by have := UInt8.toNat_lt e; unfold wrap64; omega
      have y5 : (s.size : Int) < 5 + (e.toNat : Int) := by rw [hs] at hsl; simp at hsl; omega
      have e8 := UInt8.toNat_lt e
      clear hd h5 hsl hs g4 het
      go_enter Tryd.func9, Tryd.ntmps9
      go_wp2_with fail
      refine bodyPost_ret (results_cell1 rfl _ _ ⟨w.heap.size, 0, none⟩ _ _ rfl rfl (load_op _ _ _ _ _ _ _ _ HZ.out)) rfl ?_
      exact ⟨rfl, HB.out⟩
end Go.Proofs.YtlcjgldlblpboaaDoor
