/- leaflaw3.StatTells, walked: what is told of any book is the document's answer. Conditions: none of our own. -/
import Derived.Deep.CutBlock
import Derived.DeepKeys
import Derived.Test.YtgmdnmdniidngaaDoorCard
import Derived.Test.YtgmdnmdniidngaaDoorLift
import Derived.Test.YtgmdnmdniidngaaDoorOpen
import Derived.Test.YtgmdnmdniidngaaDoorRefBook
import Derived.Test.YtgmdnmdniidngaaDoorRefRuns
import Derived.Test.YtgmdnmdniidngaaDoorSameInts
import Derived.Test.YtgmdnmdniidngaaDoorStatBad
import Derived.Test.YtgmdnmdniidngaaDoorTold
namespace Go.Proofs.YtgmdnmdniidngaaDoor
open Go.RowKit Go.WideShapes Go.ChangeShapes Go.ChangeAt
set_option linter.unusedVariables false
namespace lawStatTells
theorem beq_self (k : Int) : (k == k) = true := by simp
def Nought (w : World) (i : Value) (wr : World) : Prop := i = .int .i64 0 ∧ Hid (Below w.heap.size w wr)
def Nought3 (w : World) (a b i : Value) (wr : World) : Prop := a = .int .i64 0 ∧ b = .int .i64 0 ∧ i = .int .i64 0 ∧ Hid (Below w.heap.size w wr)
set_option maxRecDepth 100000 in
set_option maxHeartbeats 8000000 in
theorem walk_bad (w : World) (A : Option Addr) (c : Nat) (l : List LLeaf) (hg : Glob w) (h : Reads w w.heap.size 3 A l.length (lcells l)) (hs : Sized l) (hc : l.length ≤ 9223372036854775807) (hne : bookErr l ≠ 0) :
    Calls Tryd.prog 3 #[.slice A l.length c] w (CheckPost w (.bool true)) := by
  have HR : Hid (∀ W, Below w.heap.size w W → Reads W W.heap.size 3 A l.length (lcells l)) := fun W hb => (h.below hb).more hb.size
  have KE := Lib.hid (fun W (hb : Below w.heap.size w W) k e => error_any W k e (hg.below hb (Nat.le_refl _)))
  have KRB := Lib.hid (rbook_any w A c l (HR.out w (Below.refl _ _)) hs (by omega))
  have KW := Lib.hid (fun W (hb : Below w.heap.size w W) => written_bad W A c l (HR.out W hb) hs hc hne)
  have KS := Lib.hid (fun W (hb : Below w.heap.size w W) => struck_bad W A c l (HR.out W hb) hs hc hne)
  have KRN := Lib.hid (fun W (hb : Below w.heap.size w W) => runs_bad W A c l (HR.out W hb) hs hc hne)
  have KL := Lib.hid (fun W (hb : Below w.heap.size w W) => longest_bad W A c l (HR.out W hb) hs hc hne)
  have KI : Hid (∀ W : World, Calls Tryd.prog 11 #[.slice none 0 0, .slice none 0 0] W (SamePost W true)) := fun W => by
    have h0 : Reads W W.heap.size 1 none ([] : List Int).length (ints []) := ⟨rfl, fun h => absurd h (by simp)⟩
    exact SameInts.any W none none 0 0 [] [] h0 h0 (by simp) (by simp)
  have g0 : (bookErr l == 0) = false := by simpa using hne
  have g1 : ¬ bookErr l = 0 := hne
  have hmk : ∀ W : World, (Instr.makeSlice 25 (.int .i64 8) (.int .i64 8)).run Tryd.prog W = .ok (.slice (some ⟨W.heap.size, 0, none⟩) 8 8) (W.alloc (.cells zeros8 3)) := fun W => by
    have e : madeCells #[Value.int .i64 0] 8 = zeros8 := by apply Array.ext'; simp [madeCells, zeros8, Nat.mod_one, List.range, List.range.loop]
    rw [← e]
    exact run_make_row' (P := Tryd.prog) 25 3 (.int .i64 0) 8 Tryd.underlying25 (by kernel_rfl) rfl .i64 .i64 8 (by omega) (by omega) W
  clear h hs hg hne
  generalize zeros8 = z8 at *
  generalize bookErr l = ek at *
  go_enter Tryd.func3, Tryd.ntmps3
  go_wp2_with fail
  refine KRB.out.mono ?_
  rintro e w1 ⟨rfl, hb1⟩
  have HB1 : Hid (Below w.heap.size w (w1.alloc (.cells z8 3))) := hb1.alloc hb1.size _
  clear hb1 KRB
  go_wp2_with fail
  go_loopw [8] (fun i wr => Nought w i wr) (fun _ _ => 0)
  case atStart => exact ⟨rfl, HB1⟩
  case round =>
    obtain ⟨rfl, HB⟩ := hrel
    go_wp2_with fail
    go_loopw [6, 7, 9] (fun a b i wr => Nought3 w a b i wr) (fun _ _ _ _ => 0)
    case atStart => exact ⟨rfl, rfl, rfl, HB⟩
    case round =>
      clear HB
      obtain ⟨rfl, rfl, rfl, HB⟩ := hrel
      have c0 : ((0 : Int) < (l.length : Int)) ∨ ¬ ((0 : Int) < (l.length : Int)) := by omega
      rcases c0 with c0 | c0
      all_goals
        go_wp2_with fail
        refine (KW.out _ HB.out).mono ?_
        rintro e w2 ⟨rfl, hb2⟩
        have HB2 := Lib.hid (HB.out.trans (hb2.mono HB.out.size))
        clear hb2
        go_wp2_with fail
        refine (KE.out _ HB2.out _ _).mono ?_
        rintro e w3 ⟨rfl, hb3⟩
        rw [beq_self]
        have HB3 := Lib.hid (HB2.out.trans (hb3.mono HB2.out.size))
        clear hb3
        go_wp2_with fail
        refine (KI.out _).mono ?_
        rintro e w4 ⟨rfl, hb4⟩
        have HB4 := Lib.hid (HB3.out.trans (hb4.mono HB3.out.size))
        clear hb4
        go_wp2_with fail
        refine (KS.out _ HB4.out).mono ?_
        rintro e w5 ⟨rfl, hb5⟩
        have HB5 := Lib.hid (HB4.out.trans (hb5.mono HB4.out.size))
        clear hb5
        go_wp2_with fail
        refine (KE.out _ HB5.out _ _).mono ?_
        rintro e w6 ⟨rfl, hb6⟩
        rw [beq_self]
        have HB6 := Lib.hid (HB5.out.trans (hb6.mono HB5.out.size))
        clear hb6
        go_wp2_with fail
        refine (KRN.out _ HB6.out).mono ?_
        rintro e w7 ⟨rfl, hb7⟩
        have HB7 := Lib.hid (HB6.out.trans (hb7.mono HB6.out.size))
        clear hb7
        go_wp2_with fail
        refine (KE.out _ HB7.out _ _).mono ?_
        rintro e w8 ⟨rfl, hb8⟩
        rw [beq_self]
        have HB8 := Lib.hid (HB7.out.trans (hb8.mono HB7.out.size))
        clear hb8
        go_wp2_with fail
        refine (KL.out _ HB8.out).mono ?_
        rintro e w9 ⟨rfl, hb9⟩
        have HB9 := Lib.hid (HB8.out.trans (hb9.mono HB8.out.size))
        clear hb9
        go_wp2_with fail
        refine (KE.out _ HB9.out _ _).mono ?_
        rintro e w10 ⟨rfl, hb10⟩
        rw [beq_self]
        have HB10 := Lib.hid (HB9.out.trans (hb10.mono HB9.out.size))
        clear hb10
        go_wp2_with fail
        go_loopw [20] (fun i wr => Nought w i wr) (fun _ _ => 0)
        case atStart => exact ⟨rfl, HB10⟩
        case round =>
          clear HB HB2 HB3 HB4 HB5 HB6 HB7 HB8 HB9 HB10
          obtain ⟨rfl, HB⟩ := hrel
          go_wp2_with fail
          go_ret
          exact ⟨rfl, HB.out⟩
theorem eq_run (W : World) (x y : Int) (hx : -9223372036854775808 ≤ x ∧ x ≤ 9223372036854775807) (hy : -9223372036854775808 ≤ y ∧ y ≤ 9223372036854775807) : (Op.equalIn 10000 27 (.agg #[.int .i64 x, .int .i64 y]) (.agg #[.int .i64 x, .int .i64 y])).run Tryd.prog W = .ok true W := by
  have hA : Tryd.prog.underlying 27 = some (.array 2 3) := by kernel_rfl
  have hI := Tryd.underlying3
  have c1 : Tryd.prog.cellsOf 3 = 1 := by kernel_rfl
  have c2 : Tryd.prog.cellsOf 27 = 2 := by kernel_rfl
  have m1 : IntKind.i64.min = -9223372036854775808 := by decide
  have m2 : IntKind.i64.max = 9223372036854775807 := by decide
  have wx : (Lit.int .i64 x).wf = true := by show (decide (IntKind.i64.min ≤ x) && decide (x ≤ IntKind.i64.max)) = true; rw [m1, m2]; simp; omega
  have wy : (Lit.int .i64 y).wf = true := by show (decide (IntKind.i64.min ≤ y) && decide (y ≤ IntKind.i64.max)) = true; rw [m1, m2]; simp; omega
  have hk : Tryd.prog.keyLits 2 27 [.int .i64 x, .int .i64 y] = some [.int .i64 x, .int .i64 y] := by
    simp [Program.keyLits, hA, hI, c1, c2, List.range, List.range.loop, wx, wy]
  obtain ⟨r, h1, h2⟩ := run_equalIn_deep (P := Tryd.prog) 9998 2 27 (by kernel_rfl) W 2 2 (.agg #[.int .i64 x, .int .i64 y]) (.agg #[.int .i64 x, .int .i64 y]) _ _ (by simp [Value.formed, hA, c2]) (by simp [Value.formed, hA, c2]) hk hk
  rw [h2.2 rfl] at h1
  exact h1
theorem ints_same' (w : World) (A G : Option Addr) (ca cg : Nat) (l : List Int) (n : Nat) (hn : l.length = n) (h1 : Reads w w.heap.size 1 A n (ints l)) (h2 : Reads w w.heap.size 1 G n (ints l)) (hl : n ≤ 1000000) :
    Calls Tryd.prog 11 #[.slice A n ca, .slice G n cg] w (CheckPost w (.bool true)) := by
  subst hn
  exact (SameInts.any w A G ca cg l l h1 h2 hl hl).mono fun e w' h => ⟨by rw [h.1]; simp, h.2⟩
def WrCut (w : World) (rs : List Run) (g : Nat) (V : Option Addr) (cv : Nat) (wx : World) : Prop :=
  Hid (Own wx w.heap.size 3 1 (some ⟨g, 0, none⟩) 8 8 (ints (writtenOf rs))) ∧ Hid (Own wx w.heap.size 27 2 V rs.length cv (rcells rs)) ∧ Hid (Below w.heap.size w wx)
def RunLoop (w : World) (rs : List Run) (V : Option Addr) (cv : Nat) (V5 : Option Addr) (c5 : Nat) (i : Value) (wr : World) : Prop :=
  ∃ k : Nat, k ≤ rs.length ∧ i = .int .i64 (k : Int) ∧ Hid (Own wr w.heap.size 27 2 V rs.length cv (rcells rs)) ∧ Hid (Own wr w.heap.size 27 2 V5 rs.length c5 (rcells rs)) ∧ Hid (Below w.heap.size w wr)
def CntLoop (wc : World) (l : List LLeaf) (a b i : Value) (wr : World) : Prop :=
  ∃ k : Nat, k ≤ l.length ∧ a = .int .i64 (struckOf (l.take k) : Int) ∧ b = .int .i64 (longOf (l.take k) : Int) ∧ i = .int .i64 (k : Int) ∧ Hid (wr = wc)
def CntCut (wc : World) (l : List LLeaf) (a b : Value) (wx : World) : Prop := a = .int .i64 (struckOf l : Int) ∧ b = .int .i64 (longOf l : Int) ∧ Hid (wx = wc)
set_option maxRecDepth 100000 in
set_option maxHeartbeats 16000000 in
theorem walk_good (w : World) (A : Option Addr) (c : Nat) (l : List LLeaf) (hg : Glob w) (h : Reads w w.heap.size 3 A l.length (lcells l)) (hs : Sized l) (hb : BookOk l) :
    Calls Tryd.prog 3 #[.slice A l.length c] w (CheckPost w (.bool true)) := by
  have HR : Hid (∀ W, Below w.heap.size w W → Reads W W.heap.size 3 A l.length (lcells l)) := fun W hb => (h.below hb).more hb.size
  have KE := Lib.hid (fun W (hb : Below w.heap.size w W) k e => error_any W k e (hg.below hb (Nat.le_refl _)))
  have HE0 : errV 0 = .nilIface := rfl
  have hfew := hb.few
  have krb := rbook_any w A c l (HR.out w (Below.refl _ _)) hs (by omega)
  rw [bookErr_zero hb] at krb
  have KRB := Lib.hid krb
  have KRR := Lib.hid (fun W (h0 : Below w.heap.size w W) => rruns_any W A c l (HR.out W h0) hb)
  have KW := Lib.hid (fun W (h0 : Below w.heap.size w W) => written_any W A c l (HR.out W h0) hb)
  have KS := Lib.hid (fun W (h0 : Below w.heap.size w W) => struck_any W A c l (HR.out W h0) hb)
  have KRN := Lib.hid (fun W (h0 : Below w.heap.size w W) => runs_any W A c l (HR.out W h0) hb)
  have KL := Lib.hid (fun W (h0 : Below w.heap.size w W) => longest_any W A c l (HR.out W h0) hb)
  have hrl := runsOf_len l
  have HW := Lib.hid (runsOf_who hb)
  have HL := Lib.hid (run_le l)
  have HSZ := Lib.hid (fun x hx => place_small (hb.leafs x hx).place)
  have hmk : ∀ W : World, (Instr.makeSlice 25 (.int .i64 8) (.int .i64 8)).run Tryd.prog W = .ok (.slice (some ⟨W.heap.size, 0, none⟩) 8 8) (W.alloc (.cells zeros8 3)) := fun W => by
    have e : madeCells #[Value.int .i64 0] 8 = zeros8 := by apply Array.ext'; simp [madeCells, zeros8, Nat.mod_one, List.range, List.range.loop]
    rw [← e]
    exact run_make_row' (P := Tryd.prog) 25 3 (.int .i64 0) 8 Tryd.underlying25 (by kernel_rfl) rfl .i64 .i64 8 (by omega) (by omega) W
  have HZ : Hid (∀ (W : World) (N : Nat), N ≤ W.heap.size → Own (W.alloc (.cells zeros8 3)) N 3 1 (some ⟨W.heap.size, 0, none⟩) 8 8 (ints [0, 0, 0, 0, 0, 0, 0, 0])) := fun W N hN =>
    ⟨rfl, .inr ⟨W.heap.size, 8, zeros8, rfl, hN, heap_alloc_new W _, Nat.le_refl _, by decide, rfl, rfl⟩⟩
  clear h hs hg hb krb
  generalize zeros8 = z8 at *
  go_enter Tryd.func3, Tryd.ntmps3
  go_wp2_with fail
  refine KRB.out.mono ?_
  rintro e w1 ⟨rfl, hb1⟩
  have HB1 : Hid (Below w.heap.size w (w1.alloc (.cells z8 3))) := hb1.alloc hb1.size _
  have HZ1 := Lib.hid (HZ.out w1 w.heap.size hb1.size)
  have HW1 : Hid (w.heap.size ≤ w1.heap.size) := hb1.size
  clear hb1 KRB HZ
  go_wp2_with fail
  refine (KRR.out _ HB1.out).mono ?_
  rintro e w2 ⟨V, cv, rfl, hO, hb2⟩
  have HO2 := Lib.hid (hO.mono HB1.out.size)
  have HZ2 := Lib.hid (HZ1.out.below hb2)
  have HB2 := Lib.hid (HB1.out.trans (hb2.mono HB1.out.size))
  clear hO hb2 KRR HZ1 HB1 hmk
  generalize hrs : runsOf l = rs at *
  have HRS := Lib.hid hrs
  clear hrs
  go_upto_block 0 with (fail)
  go_cut [] (fun wx => WrCut w rs w1.heap.size V cv wx)
  case first =>
    go_wp2_with fail
    go_loopw [8] (fun i wr => WrittenLoop w rs w1.heap.size V cv i wr) (fun i _ => rs.length - (intOf i).toNat)
    case atStart => exact ⟨0, Nat.zero_le _, rfl, HZ2, HO2, HB2⟩
    case round =>
      obtain ⟨k, hk, rfl, HO, HR5, HB⟩ := hrel
      have k0 : (0 : Int) ≤ (k : Int) := by omega
      by_cases hlt : k < rs.length
      · have k1 : (k : Int) < (rs.length : Int) := by omega
        obtain ⟨g, rfl, hg1, hg2⟩ := HR5.out.head (by omega)
        have a0 : wr.cell? ⟨g, k * 2, none⟩ = some (.int .i64 rs[k].1) := by rw [HR5.out.cellAt (by omega), show k * 2 = k * 2 + 0 from rfl, rcells_at rs k 0 hlt (by omega)]; rfl
        have a1 : wr.cell? ⟨g, k * 2 + 1, none⟩ = some (.int .i64 rs[k].2) := by rw [HR5.out.cellAt (by omega), rcells_at rs k 1 hlt (by omega)]; rfl
        have hxw := HW.out _ (List.getElem_mem hlt)
        have hxc := HL.out _ (List.getElem_mem hlt)
        have hvl := writtenOf_len (rs.take k)
        have hvb := written_le (rs := rs.take k) (fun x hx => by have := HL.out x (List.mem_of_mem_take hx); omega) (by rw [List.length_take]; omega)
        have HT := Lib.hid (writtenOf_take hlt)
        generalize hv : writtenOf (rs.take k) = v at *
        obtain ⟨j, hj⟩ : ∃ j : Nat, rs[k].1 = (j : Int) + 1 := ⟨(rs[k].1 - 1).toNat, by omega⟩
        generalize hx : rs[k] = x at *
        obtain ⟨who, cnt⟩ := x
        simp only at hj hxw hxc a0 a1
        subst hj
        have hj8 : j < 8 := by omega
        have hjv : j < v.length := by omega
        have hvj := hvb _ (List.getElem_mem hjv)
        have c0 : wr.cell? ⟨w1.heap.size, j, none⟩ = some (.int .i64 v[j]) := by rw [HO.out.cellAt (by omega), ints_at hjv]
        have f0 := HO.out.frozenAt j
        have HT' : Hid (writtenOf (rs.take (k + 1)) = v.set j (v[j] + cnt)) := by
          show _ = _
          rw [HT.out]
          unfold addAt
          simp only
          rw [show ((j : Int) + 1 - 1).toNat = j by omega, List.getD, List.getElem?_eq_getElem hjv]
          rfl
        have HST := Lib.hid (HO.out.store hj8 (.int .i64 (v[j] + cnt)))
        rw [ints_set] at HST
        have HRX := Lib.hid (HR5.out.only ((Only.refl [w1.heap.size] _).setCell (p := ⟨w1.heap.size, j, none⟩) (.inl (by simp)) (.int .i64 (v[j] + cnt))) (fun g' hg' hm => by
          simp at hm; subst hm
          rcases HO.out.2 with ⟨h2, _⟩ | ⟨g2, cap, cur, he, _, hh, _⟩
          · cases h2
          · injection he with he _ _
            injection he with he
            injection he with he
            subst he
            exact HR5.out.blk_ne (t := 3) (cs := cur) hh (by decide) hg'))
        have hw1 := HW1.out
        have HBX := Lib.hid (HB.out.setCell (p := ⟨w1.heap.size, j, none⟩) hw1 (.int .i64 (v[j] + cnt)))
        have q1 : IntKind.i64.wrap ((j : Int) + 1 - 1) = (j : Int) := by rw [IntWalk.i64_in _ (by omega)]; omega
        have q2 : IntKind.i64.wrap (v[j] + cnt) = v[j] + cnt := IntWalk.i64_in _ (by omega)
        have j0 : (0 : Int) ≤ (j : Int) := by omega
        have j1 : (j : Int) < 8 := by omega
        clear hx hxw hxc hvl hvb HT HO HR5 hj8
        generalize v[j] = u at *
        go_wp2_with fail
        go_region
        all_goals
          go_wp2_with fail
          go_roundw
          case rel => exact ⟨k + 1, by omega, by go_num, by rw [HT'.out]; exact HST.out.drewN 1, HRX.out.drewN 1, HBX.out.drew⟩
          case measure => simp [intOf]; omega
      · have k1 : ¬ (k : Int) < (rs.length : Int) := by omega
        obtain rfl : k = rs.length := by omega
        rw [List.take_length] at HO
        have HO' := Lib.hid HO.out
        go_wp2_with fail
        go_meet
        case rel => exact ⟨HO', HR5, HB⟩
  case rest =>
    obtain ⟨HWO, HRO, HB3⟩ := hcut
    clear HZ2 HO2 HB2
    go_upto_block 2 with (fail)
    go_cut [6, 7] (fun a b wx => CntCut wc l a b wx)
    case first =>
      go_wp2_with fail
      go_loopw [6, 7, 9] (fun a b i wr => CntLoop wc l a b i wr) (fun _ _ i _ => l.length - (intOf i).toNat)
      case atStart => exact ⟨0, Nat.zero_le _, rfl, rfl, rfl, rfl⟩
      case round =>
        obtain ⟨k, hk, rfl, rfl, rfl, HWC⟩ := hrel
        have hw := HWC.out
        subst hw
        clear HWC
        have k0 : (0 : Int) ≤ (k : Int) := by omega
        by_cases hlt : k < l.length
        · have k1 : (k : Int) < (l.length : Int) := by omega
          obtain ⟨ad, rfl, _, c0, c1, c2⟩ := (HR.out _ HB3.out).leaf hlt
          have HT := Lib.hid (struckOf_take hlt)
          have HT2 := Lib.hid (longOf_take hlt)
          have hsl := struckOf_le (l.take k)
          rw [List.length_take] at hsl
          have hsz := HSZ.out _ (List.getElem_mem hlt)
          generalize struckOf (l.take k) = m at *
          generalize longOf (l.take k) = m2 at *
          have q1 : IntKind.i64.wrap ((m : Int) + 1) = (m : Int) + 1 := IntWalk.i64_in _ (by omega)
          generalize l[k] = x at *
          obtain ⟨p, n, s⟩ := x
          simp only at c0 c1 c2 HT HT2 hsz
          rcases (show m2 < p.size ∨ p.size ≤ m2 by omega) with hm | hm
          · have d0 : ((p.size : Int) > (m2 : Int)) := by omega
            have HT3 : Hid (longOf (l.take (k + 1)) = p.size) := by show _ = _; rw [HT2.out]; omega
            cases s with
            | false =>
              simp only [Bool.false_eq_true, if_false, Nat.add_zero] at HT
              go_wp2_with fail
              go_roundw
              case rel => exact ⟨k + 1, by omega, by rw [HT.out], by rw [HT3.out], by go_num, rfl⟩
              case measure => simp [intOf]; omega
            | true =>
              simp only [if_true] at HT
              go_wp2_with fail
              go_roundw
              case rel => exact ⟨k + 1, by omega, by rw [HT.out]; go_num, by rw [HT3.out], by go_num, rfl⟩
              case measure => simp [intOf]; omega
          · have d0 : ¬ ((p.size : Int) > (m2 : Int)) := by omega
            have HT3 : Hid (longOf (l.take (k + 1)) = m2) := by show _ = _; rw [HT2.out]; omega
            cases s with
            | false =>
              simp only [Bool.false_eq_true, if_false, Nat.add_zero] at HT
              go_wp2_with fail
              go_roundw
              case rel => exact ⟨k + 1, by omega, by rw [HT.out], by rw [HT3.out], by go_num, rfl⟩
              case measure => simp [intOf]; omega
            | true =>
              simp only [if_true] at HT
              go_wp2_with fail
              go_roundw
              case rel => exact ⟨k + 1, by omega, by rw [HT.out]; go_num, by rw [HT3.out], by go_num, rfl⟩
              case measure => simp [intOf]; omega
        · have k1 : ¬ (k : Int) < (l.length : Int) := by omega
          obtain rfl : k = l.length := by omega
          rw [List.take_length]
          go_wp2_with fail
          go_meet
          case rel => exact ⟨rfl, rfl, rfl⟩
    case rest =>
      obtain ⟨rfl, rfl, HWC⟩ := hcut
      have hw := HWC.out
      subst hw
      clear HWC
      go_wp2_with fail
      refine (KW.out _ HB3.out).mono ?_
      rintro e w3 ⟨V3, c3, rfl, hO3, hb3⟩
      rw [HRS.out] at hO3
      have HO3 := Lib.hid hO3
      have HB4 := Lib.hid (HB3.out.trans (hb3.mono HB3.out.size))
      have HWO4 := Lib.hid (HWO.out.below hb3)
      have HRO4 := Lib.hid (HRO.out.below hb3)
      clear hO3 hb3 HWO HRO HB3
      go_wp2_with fail
      refine (KE.out _ HB4.out 0 0).mono ?_
      rintro e w4 ⟨rfl, hb4⟩
      rw [beq_self]
      have HB5 := Lib.hid (HB4.out.trans (hb4.mono HB4.out.size))
      have HWO5 := Lib.hid (HWO4.out.below hb4)
      have HRO5 := Lib.hid (HRO4.out.below hb4)
      have HO5 := Lib.hid (HO3.out.below hb4)
      clear hb4 HWO4 HRO4 HO3 HB4
      have KI := Lib.hid (ints_same' w4 V3 (some ⟨w1.heap.size, 0, none⟩) c3 8 (writtenOf rs) 8 (writtenOf_len rs) HO5.out.reads HWO5.out.reads (by omega))
      go_wp2_with fail
      refine KI.out.mono ?_
      rintro e w5 ⟨rfl, hb5⟩
      have HB6 := Lib.hid (HB5.out.trans (hb5.mono HB5.out.size))
      have HRO6 := Lib.hid (HRO5.out.below hb5)
      clear hb5 HWO5 HRO5 HO5 HB5 KI
      go_wp2_with fail
      refine (KS.out _ HB6.out).mono ?_
      rintro e w6 ⟨rfl, hb6⟩
      have HB7 := Lib.hid (HB6.out.trans (hb6.mono HB6.out.size))
      have HRO7 := Lib.hid (HRO6.out.below hb6)
      clear hb6 HRO6 HB6
      go_wp2_with fail
      refine (KE.out _ HB7.out 0 0).mono ?_
      rintro e w7 ⟨rfl, hb7⟩
      rw [beq_self]
      have HB8 := Lib.hid (HB7.out.trans (hb7.mono HB7.out.size))
      have HRO8 := Lib.hid (HRO7.out.below hb7)
      clear hb7 HRO7 HB7
      go_wp2_with fail
      refine (KRN.out _ HB8.out).mono ?_
      rintro e w8 ⟨V5, c5, rfl, hO8, hb8⟩
      rw [HRS.out] at hO8 ⊢
      have HO8 := Lib.hid (hO8.mono HB8.out.size)
      have HB9 := Lib.hid (HB8.out.trans (hb8.mono HB8.out.size))
      have HRO9 := Lib.hid (HRO8.out.below hb8)
      clear hO8 hb8 HRO8 HB8
      go_wp2_with fail
      refine (KE.out _ HB9.out 0 0).mono ?_
      rintro e w9 ⟨rfl, hb9⟩
      rw [beq_self]
      have HB10 := Lib.hid (HB9.out.trans (hb9.mono HB9.out.size))
      have HRO10 := Lib.hid (HRO9.out.below hb9)
      have HO10 := Lib.hid (HO8.out.below hb9)
      clear hb9 HRO9 HO8 HB9
      go_wp2_with fail
      refine (KL.out _ HB10.out).mono ?_
      rintro e w10 ⟨rfl, hb10⟩
      have HB11 := Lib.hid (HB10.out.trans (hb10.mono HB10.out.size))
      have HRO11 := Lib.hid (HRO10.out.below hb10)
      have HO11 := Lib.hid (HO10.out.below hb10)
      clear hb10 HRO10 HO10 HB10
      go_wp2_with fail
      refine (KE.out _ HB11.out 0 0).mono ?_
      rintro e w11 ⟨rfl, hb11⟩
      rw [beq_self]
      have HB12 := Lib.hid (HB11.out.trans (hb11.mono HB11.out.size))
      have HRO12 := Lib.hid (HRO11.out.below hb11)
      have HO12 := Lib.hid (HO11.out.below hb11)
      clear hb11 HRO11 HO11 HB11
      have e0 : ((rs.length : Int) != (rs.length : Int)) = false := by simp
      generalize struckOf l = so at *
      generalize longOf l = lo at *
      go_wp2_with fail
      go_loopw [20] (fun i wr => RunLoop w rs V cv V5 c5 i wr) (fun i _ => rs.length - (intOf i).toNat)
      case atStart => exact ⟨0, Nat.zero_le _, rfl, HRO12, HO12, HB12⟩
      case round =>
        clear HRO12 HO12 HB12
        obtain ⟨k, hk, rfl, HRO12, HO12, HB12⟩ := hrel
        have k0 : (0 : Int) ≤ (k : Int) := by omega
        by_cases hlt : k < rs.length
        · have k1 : (k : Int) < (rs.length : Int) := by omega
          obtain ⟨g, rfl, _, _⟩ := HRO12.out.head (by omega)
          obtain ⟨g5, rfl, _, _⟩ := HO12.out.head (by omega)
          have x0 := (HW.out _ (List.getElem_mem hlt))
          have x1 := (HL.out _ (List.getElem_mem hlt))
          have a0 : wr.cell? ⟨g, k * 2, none⟩ = some (.int .i64 rs[k].1) := by rw [HRO12.out.cellAt (by omega), show k * 2 = k * 2 + 0 from rfl, rcells_at rs k 0 hlt (by omega)]; rfl
          have a1 : wr.cell? ⟨g, k * 2 + 1, none⟩ = some (.int .i64 rs[k].2) := by rw [HRO12.out.cellAt (by omega), rcells_at rs k 1 hlt (by omega)]; rfl
          have b0 : wr.cell? ⟨g5, k * 2, none⟩ = some (.int .i64 rs[k].1) := by rw [HO12.out.cellAt (by omega), show k * 2 = k * 2 + 0 from rfl, rcells_at rs k 0 hlt (by omega)]; rfl
          have b1 : wr.cell? ⟨g5, k * 2 + 1, none⟩ = some (.int .i64 rs[k].2) := by rw [HO12.out.cellAt (by omega), rcells_at rs k 1 hlt (by omega)]; rfl
          have heq : ∀ W, (Op.equalIn 10000 27 (.agg #[.int .i64 rs[k].1, .int .i64 rs[k].2]) (.agg #[.int .i64 rs[k].1, .int .i64 rs[k].2])).run Tryd.prog W = .ok true W := fun W => eq_run W _ _ (by omega) (by omega)
          clear x0 x1
          generalize rs[k].1 = y1 at *
          generalize rs[k].2 = y2 at *
          go_wp2_with fail
          go_quiet (fail)
          go_wp2_with fail
          go_roundw
          case rel => exact ⟨k + 1, by omega, by go_num, HRO12.out.drewN _, HO12.out.drewN _, below_drewN HB12.out _⟩
          case measure => simp [intOf]; omega
        · have k1 : ¬ (k : Int) < (rs.length : Int) := by omega
          have s0 : ((so : Int) == (so : Int)) = true := by simp
          have s1 : ((lo : Int) == (lo : Int)) = true := by simp
          go_wp2_with fail
          go_ret
          exact ⟨rfl, HB12.out⟩
theorem walk (w : World) (A : Option Addr) (c : Nat) (l : List LLeaf) (hg : Glob w) (h : Reads w w.heap.size 3 A l.length (lcells l)) (hs : Sized l) (hc : l.length ≤ 9223372036854775807) :
    Calls Tryd.prog 3 #[.slice A l.length c] w (CheckPost w (.bool true)) := by
  by_cases he : bookErr l = 0
  · exact walk_good w A c l hg h hs (book_ok he)
  · exact walk_bad w A c l hg h hs hc he
end lawStatTells
end Go.Proofs.YtgmdnmdniidngaaDoor
