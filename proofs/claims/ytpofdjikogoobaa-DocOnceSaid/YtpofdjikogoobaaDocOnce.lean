/- leaflaw4.DocOnce, proved: ops that are known change nothing, in whatever order they come again. Conditions: none of our own. -/
import Derived.Test.YtpofdjikogoobaaDocOps
import Derived.Test.YtpofdjikogoobaaSameLeafs
import Derived.Test.YtpofdjikogoobaaSameMarks
import Derived.Test.YtpofdjikogoobaaOpenLink
import Derived.Test.YtpofdjikogoobaaLift
import Derived.Deep.CutBlock
namespace Go.Proofs.Ytpofdjikogoobaa
open Go.RowKit Go.WideShapes Go.ChangeShapes Go.ChangeAt
set_option linter.unusedVariables false
namespace lawDocOnce
def o1 : LOp := ⟨⟨1, 1⟩, 1, ⟨#[110, 98]⟩, 104, []⟩
theorem first_ : LDoc.new.applyB o1 = true ∧ LDoc.new.applyE o1 = 0 := by decide +kernel
theorem text_ : textOf (LDoc.new.apply o1).book = ⟨#[104]⟩ := by decide +kernel
theorem leafs_same (w : World) (A G : Option Addr) (ca cg : Nat) (l : List LLeaf) (h1 : Reads w w.heap.size 3 A l.length (lcells l)) (h2 : Reads w w.heap.size 3 G l.length (lcells l)) (hl : l.length ≤ 1000000) :
    Calls Try.prog 32 #[.slice A l.length ca, .slice G l.length cg] w (CheckPost w (.bool true)) := (SameLeafs.any w A G ca cg l l h1 h2 hl hl).mono fun e w' h => ⟨by rw [h.1]; simp, h.2⟩
theorem marks_same (w : World) (A G : Option Addr) (ca cg : Nat) (l : List LMark) (h1 : Reads w w.heap.size 3 A l.length (mcells l)) (h2 : Reads w w.heap.size 3 G l.length (mcells l)) (hl : l.length ≤ 1000000) :
    Calls Try.prog 33 #[.slice A l.length ca, .slice G l.length cg] w (CheckPost w (.bool true)) := (SameMarks.any w A G ca cg l l h1 h2 hl hl).mono fun e w' h => ⟨by rw [h.1]; simp, h.2⟩
theorem own_far {w w' : World} {T : List Nat} {N0 : Nat} {e : TypeId} {size n c : Nat} {A : Option Addr} {xs : List Value} (h : Own w N0 e size A n c xs) (ho : Only T w w') (hT : ∀ g ∈ T, g < N0 ∨ w.heap.size ≤ g) : Own w' N0 e size A n c xs :=
  h.only ho (fun g hg hm => by have := h.lt g hg; have := hT g hm; omega)
theorem ops_far {w w' : World} {T : List Nat} {N0 : Nat} {V : Option Addr} {c : Nat} {zs : List OpAt} (h : OwnOps w N0 V c zs) (ho : Only T w w') (hT : ∀ g ∈ T, g < N0 ∨ w.heap.size ≤ g) : OwnOps w' N0 V c zs :=
  ⟨own_far h.row ho hT, fun z hz => own_far (h.seen z hz) ho hT⟩
theorem ops_below {w w' : World} {N0 : Nat} {V : Option Addr} {c : Nat} {zs : List OpAt} (h : OwnOps w N0 V c zs) (hb : Below w.heap.size w w') : OwnOps w' N0 V c zs := ⟨h.row.below hb, fun z hz => (h.seen z hz).below hb⟩
/-- Rounds of the first loop. -/
def Loop1 (w : World) (B b : Nat) (i : Value) (wr : World) : Prop := ∃ k st S D, k ≤ 60 ∧ i = .int .i64 (k : Nat) ∧ Hid (DocIs wr B S b st D ∧ st.Ok ∧ Below w.heap.size w wr)
/-- Rounds of the second one: the document is as it was, what was read of it too. -/
def Loop2At (wm : World) (B b N0 : Nat) (st : LDoc) (wr : World) : Prop :=
  ∃ S D T, DocIs wr B S b st D ∧ (∀ g ∈ S, g < N0 ∨ wm.heap.size ≤ g) ∧ Only T wm wr ∧ ∀ g ∈ T, B ≤ g ∧ (g < N0 ∨ wm.heap.size ≤ g)
def Loop2 (wm : World) (B b N0 : Nat) (st : LDoc) (i : Value) (wr : World) : Prop := ∃ k : Nat, k ≤ 60 ∧ i = .int .i64 k ∧ Hid (Loop2At wm B b N0 st wr)
theorem Loop2At.next {wm wr w' : World} {B b N0 : Nat} {st : LDoc} {S : List Nat} {D : DLay} {T : List Nat} (hd : DocIs wr B S b st D) (hs : ∀ g ∈ S, g < N0 ∨ wm.heap.size ≤ g) (ho : Only T wm wr) (ht : ∀ g ∈ T, B ≤ g ∧ (g < N0 ∨ wm.heap.size ≤ g))
    (h : DocTo wr B S b st w') : Loop2At wm B b N0 st w' := by
  obtain ⟨S', D', h1, h2, h3⟩ := h
  refine ⟨S', D', T ++ S, h1, fun g hg => ?_, (ho.mono (fun i hi => .inl (by simp [hi]))).trans (h2.mono (fun i hi => .inl (by simp [hi]))), fun g hg => ?_⟩
  · have := ho.size
    rcases h3 g hg with h4 | h4
    · exact hs g h4
    · exact .inr (by omega)
  · rcases List.mem_append.1 hg with hg | hg
    · exact ht g hg
    · exact ⟨(hd.own g hg).1, hs g hg⟩
set_option maxRecDepth 100000 in
set_option maxHeartbeats 8000000 in
theorem walk (w : World) (A0 : Option Addr) (c0 : Nat) (ys : List OpAt) (A1 : Option Addr) (c1 : Nat) (again : List Int) (h0 : Reads w w.heap.size 6 A0 ys.length (ocells ys)) (hg : ∀ y ∈ ys, y.Good w) (h1 : Reads w w.heap.size 1 A1 again.length (ints again))
    (hn0 : ys.length ≤ 9223372036854775807) (hn1 : again.length ≤ 9223372036854775807) :
    Calls Try.prog 6 #[.slice A0 ys.length c0, .slice A1 again.length c1] w (CheckPost w (.bool true)) := by
  have HR0 := Lib.hid h0
  have HR1 := Lib.hid h1
  have HG := Lib.hid hg
  clear h0 h1 hg
  have HN1 := Lib.hid (new_doc w)
  have HE0 : errV 0 = .nilIface := rfl
  go_enter Try.func6, Try.ntmps6
  go_wp2_with fail
  refine HN1.out.mono ?_
  rintro e w1 ⟨b1, S1, D1, rfl, hd1, hb1⟩
  obtain ⟨WX, hWX⟩ : ∃ WX, WX = w1.alloc (.cells #[.int .i64 1, .int .i64 1, .int .i64 1, .string ⟨#[110, 98]⟩, .int .i64 104, .slice none 0 0] 50) := ⟨_, rfl⟩
  have hbX : Below w1.heap.size w1 WX := by rw [hWX]; exact (Below.refl _ _).alloc (Nat.le_refl _) _
  have hbox : Blk WX w1.heap.size 50 (o1.cells none 0) := by rw [hWX]; exact Blk.new w1 _ _
  have hdX := hd1.below hbX
  have HA1 := Lib.hid (apply_doc WX _ _ _ _ _ hdX LDoc.new_ok o1 none 0 (by decide) Reads.none_ (fun h => absurd h (by decide)))
  have hox : w1.heap.size ∉ S1 := fun hm => by have := (hd1.own _ hm).2; omega
  have HBX := Lib.hid hbox
  have HBW := Lib.hid (hb1.trans (hbX.mono hb1.size))
  have HS1 : Hid (∀ g ∈ S1, w.heap.size ≤ g) := fun g hg => (hd1.own g hg).1
  have HOX := Lib.hid hox
  have k0 : WX.cell? ⟨w1.heap.size, 0, none⟩ = some (.int .i64 1) := by rw [hbox.cell]; rfl
  have k1 : WX.cell? ⟨w1.heap.size, 1, none⟩ = some (.int .i64 1) := by rw [hbox.cell]; rfl
  have k2 : WX.cell? ⟨w1.heap.size, 2, none⟩ = some (.int .i64 1) := by rw [hbox.cell]; rfl
  have k3 : WX.cell? ⟨w1.heap.size, 3, none⟩ = some (.string ⟨#[110, 98]⟩) := by rw [hbox.cell]; rfl
  have k4 : WX.cell? ⟨w1.heap.size, 4, none⟩ = some (.int .i64 104) := by rw [hbox.cell]; rfl
  have k5 : WX.cell? ⟨w1.heap.size, 5, none⟩ = some (.slice none 0 0) := by rw [hbox.cell]; rfl
  clear hd1 hb1 hbX hbox hdX hox
  go_wp2_with fail
  rw [← hWX]
  clear hWX
  refine HA1.out.mono ?_
  rintro e w2 ⟨rfl, S2, D2, hd2, ho2, hs2⟩
  rw [first_.1, first_.2, HE0]
  have ok2 := LDoc.apply_ok LDoc.new_ok o1
  have hbox2 := ho2.blk HBX.out HOX.out
  have HA2 := Lib.hid (apply_doc w2 _ _ _ _ _ hd2 ok2 o1 none 0 (by decide) Reads.none_ (fun h => absurd h (by decide)))
  have hkn := LDoc.apply_known ok2 (o := o1) (by unfold LDoc.apply; rw [first_.1]; simp)
  have HW2 : Hid (Below w.heap.size w w2) := HBW.out.trans (ho2.below HBW.out.size HS1.out)
  have HS2 : Hid (∀ g ∈ S2, w.heap.size ≤ g) := fun g hg => (hd2.own g hg).1
  have k0' : w2.cell? ⟨w1.heap.size, 0, none⟩ = some (.int .i64 1) := by rw [hbox2.cell]; rfl
  have k1' : w2.cell? ⟨w1.heap.size, 1, none⟩ = some (.int .i64 1) := by rw [hbox2.cell]; rfl
  have k2' : w2.cell? ⟨w1.heap.size, 2, none⟩ = some (.int .i64 1) := by rw [hbox2.cell]; rfl
  have k3' : w2.cell? ⟨w1.heap.size, 3, none⟩ = some (.string ⟨#[110, 98]⟩) := by rw [hbox2.cell]; rfl
  have k4' : w2.cell? ⟨w1.heap.size, 4, none⟩ = some (.int .i64 104) := by rw [hbox2.cell]; rfl
  have k5' : w2.cell? ⟨w1.heap.size, 5, none⟩ = some (.slice none 0 0) := by rw [hbox2.cell]; rfl
  have HTX := text_
  generalize LDoc.new.apply o1 = st1 at *
  have OK2 := Lib.hid ok2
  have HKN := Lib.hid hkn
  clear hbox2 ok2 hd2 ho2 hs2 hkn k0 k1 k2 k3 k4 k5
  go_wp2_with fail
  refine HA2.out.mono ?_
  rintro e w3 ⟨rfl, S3, D3, hd3, ho3, hs3⟩
  obtain ⟨hk1, hk2, hk3⟩ := HKN.out
  rw [hk1, hk2, HE0]
  rw [hk3] at hd3
  have HT3 := Lib.hid (text_doc w3 _ _ _ _ _ hd3 OK2.out)
  have HW3 : Hid (Below w.heap.size w w3) := HW2.out.trans (ho3.below HW2.out.size HS2.out)
  clear hd3 ho3 hs3 hk1 hk2 hk3 HKN k0' k1' k2' k3' k4' k5' HA1 HA2
  go_wp2_with fail
  refine HT3.out.mono ?_
  rintro e w4 ⟨rfl, hb4⟩
  rw [HTX]
  have HW4 := Lib.hid (HW3.out.trans (hb4.mono HW3.out.size))
  have HN4 := Lib.hid (new_doc w4)
  clear hb4
  go_wp2_with fail
  refine HN4.out.mono ?_
  rintro e w5 ⟨b5, S5, D5, rfl, hd5, hb5⟩
  have HW5 := Lib.hid (HW4.out.trans (hb5.mono HW4.out.size))
  have HD5 := Lib.hid hd5
  have hB : w.heap.size ≤ w4.heap.size := HW4.out.size
  generalize w4.heap.size = B at *
  clear hd5 hb5 HN4 HT3 HTX HN1
  go_upto_block 0 with (fail)
  go_cut [11] (fun _ wx => ∃ st S D, DocIs wx B S b5 st D ∧ st.Ok ∧ Below w.heap.size w wx)
  case first => as_aux_lemma =>
    go_wp2_with fail
    go_loopw [11] (fun i wr => Loop1 w B b5 i wr) (fun i _ => 60 - (intOf i).toNat)
    case atStart => exact ⟨0, _, _, _, by omega, rfl, HD5.out, LDoc.new_ok, HW5.out⟩
    case round =>
      obtain ⟨k, st, S, D, hk, rfl, HK⟩ := hrel
      have k0 : (0 : Int) ≤ (k : Int) := by omega
      by_cases h1 : k < ys.length
      · have k1 : (k : Int) < (ys.length : Int) := by omega
        by_cases h2 : k < 60
        · have k2 : (k : Int) < 60 := by omega
          obtain ⟨hd, hok, hbw⟩ := HK.out
          obtain ⟨ad, rfl, hab, c0', c1', c2', c3', c4', c5'⟩ := ((HR0.out.below hbw).more hbw.size).op h1
          have hgood := (HG.out _ (List.getElem_mem h1)).below hbw
          have hps := hgood.2.1
          have hfar : 0 < ys[k].op.seen.length → ∀ g ∈ ob ys[k].at_, g ∉ S := (HG.out _ (List.getElem_mem h1)).1.far (fun g hg => by have := (hd.own g hg).1; omega)
          have HA := Lib.hid (apply_doc wr _ _ _ _ _ hd hok ys[k].op ys[k].at_ ys[k].cap (by unfold maxLen at hps; omega) hgood.1 hfar)
          have HOK := Lib.hid (LDoc.apply_ok hok ys[k].op)
          have HSB : Hid (∀ g ∈ S, w.heap.size ≤ g) := fun g hg => by have := (hd.own g hg).1; omega
          have HBW := Lib.hid hbw
          generalize ys[k] = y at *
          obtain ⟨⟨⟨who, n⟩, what, p, letter, seen⟩, ya, yc⟩ := y
          unfold LOp.val at HA
          simp only at c0' c1' c2' c3' c4' c5' HA HOK
          clear hd hok hbw hgood hps hfar HK
          go_wp2_with fail
          refine HA.out.mono ?_
          rintro e w6 ⟨rfl, S6, D6, hd6, ho6, hs6⟩
          have HF : Hid (DocIs w6 B S6 b5 _ D6 ∧ _ ∧ Below w.heap.size w w6) := ⟨hd6, HOK.out, HBW.out.trans (ho6.below HBW.out.size HSB.out)⟩
          clear hd6 ho6 hs6 HA HOK
          go_wp2_with fail
          go_roundw
          case rel => exact ⟨k + 1, _, _, _, by omega, by go_num, HF.out⟩
          case measure => simp [intOf]; omega
        · have k2 : ¬ (k : Int) < 60 := by omega
          have HF := Lib.hid HK.out
          go_wp2_with fail
          go_meet
          case rel => exact ⟨_, _, _, HF.out⟩
      · have k1 : ¬ (k : Int) < (ys.length : Int) := by omega
        have HF := Lib.hid HK.out
        go_wp2_with fail
        go_meet
        case rel => exact ⟨_, _, _, HF.out⟩
  case rest => as_aux_lemma =>
    obtain ⟨st, S, D, hd, hok, hbw⟩ := hcut
    have HBC := Lib.hid hbw
    have HOP := Lib.hid (ops_doc wc _ _ _ _ _ hd hok)
    have HOK := Lib.hid hok
    have HDC := Lib.hid hd
    clear hd hok hbw HW5 HD5 HG HR0
    go_wp2_with fail
    refine HOP.out.mono ?_
    rintro e w6 ⟨V, cV, zs, rfl, hzs, hoz, hb6⟩
    have HD6 := Lib.hid (HDC.out.below hb6)
    have HZ6 := Lib.hid hoz
    have HB6 := Lib.hid hb6
    have HZS := Lib.hid hzs
    have HBK := Lib.hid (book_doc w6 _ _ _ _ _ HD6.out HOK.out)
    clear hzs hoz hb6 HOP
    go_wp2_with fail
    refine HBK.out.mono ?_
    rintro e w7 ⟨VB, cB, rfl, hob, hb7⟩
    have HD7 := Lib.hid (HD6.out.below hb7)
    have HZ7 := Lib.hid (ops_below HZ6.out hb7)
    have HB7 := Lib.hid (HB6.out.trans (hb7.mono HB6.out.size))
    have HOB7 := Lib.hid (hob.mono HB6.out.size)
    have HMK := Lib.hid (marks_doc w7 _ _ _ _ _ HD7.out HOK.out)
    clear hob hb7 HBK HD6 HZ6
    go_wp2_with fail
    refine HMK.out.mono ?_
    rintro e w8 ⟨VM, cM, rfl, hom, hb8⟩
    have HD8 := Lib.hid (HD7.out.below hb8)
    have HZ8 := Lib.hid (ops_below HZ7.out hb8)
    have HOM8 := Lib.hid (hom.mono HB7.out.size)
    have HOB8 := Lib.hid (HOB7.out.below hb8)
    have HB8 := Lib.hid (HB7.out.trans (hb8.mono HB7.out.size))
    have HL8 : Hid (Loop2At w8 B b5 wc.heap.size st w8) := ⟨S, D, [], HD8.out, fun g hg => .inl (HDC.out.own g hg).2, Only.refl _ _, by simp⟩
    have HW8 := Lib.hid (HBC.out.trans (HB8.out.mono HBC.out.size))
    clear hom hb8 HMK HD7 HZ7 HB7 HOB7 HB6
    generalize wc.heap.size = N0 at *
    have hol := HOK.out.few
    have hbl := HOK.out.book.few
    have hml := HOK.out.marks.few
    go_upto_block 2 with (fail)
    go_cut [15] (fun _ wx => Loop2At w8 B b5 N0 st wx)
    case first => as_aux_lemma =>
      go_wp2_with fail
      go_loopw [15] (fun i wr => Loop2 w8 B b5 N0 st i wr) (fun i _ => 60 - (intOf i).toNat)
      case atStart => exact ⟨0, by omega, rfl, HL8.out⟩
      case round =>
        obtain ⟨k, hk, rfl, HK⟩ := hrel
        have k0 : (0 : Int) ≤ (k : Int) := by omega
        by_cases h1 : k < again.length
        · have k1 : (k : Int) < (again.length : Int) := by omega
          by_cases h2 : k < 60
          · have k2 : (k : Int) < 60 := by omega
            obtain ⟨S9, D9, T9, hd9, hs9, ht9, hT9⟩ := HK.out
            have hbw9 : Below w.heap.size w wr := HW8.out.trans (ht9.below HW8.out.size (fun g hg => by have := (hT9 g hg).1; omega))
            obtain ⟨ad, u, hA, _, hu, hc⟩ := ((HR1.out.below hbw9).more hbw9.size).at_ h1
            have hu' : u = .int .i64 again[k] := by simpa [ints, h1] using hu.symm
            subst hu' hA
            clear hu
            generalize again[k] = a at *
            by_cases ha : a < 0
            · have HF := Lib.hid HK.out
              clear hd9 hs9 ht9 hT9 hbw9
              go_wp2_with fail
              go_roundw
              case rel => exact ⟨k + 1, by omega, by go_num, HF.out⟩
              case measure => simp [intOf]; omega
            · by_cases hb : (st.ops.length : Int) ≤ a
              · have HF := Lib.hid HK.out
                clear hd9 hs9 ht9 hT9 hbw9
                go_wp2_with fail
                go_roundw
                case rel => exact ⟨k + 1, by omega, by go_num, HF.out⟩
                case measure => simp [intOf]; omega
              · obtain ⟨j, rfl⟩ : ∃ j : Nat, a = j := ⟨a.toNat, by omega⟩
                have hzl : zs.length = st.ops.length := by rw [← HZS.out, List.length_map]
                have hjz : j < zs.length := by omega
                have hz9 := ops_far HZ8.out ht9 (fun g hg => (hT9 g hg).2)
                obtain ⟨ad2, rfl, _, c0', c1', c2', c3', c4', c5'⟩ := hz9.row.reads.op hjz
                have hmem : zs[j].op ∈ st.ops := by rw [← HZS.out]; exact List.mem_map.2 ⟨zs[j], List.getElem_mem hjz, rfl⟩
                have hsn := hz9.seen _ (List.getElem_mem hjz)
                have hsn8 := HZ8.out.seen _ (List.getElem_mem hjz)
                have hps := place_small (op_ok (HOK.out.ops _ hmem).1).2.2.1
                have HA := Lib.hid (apply_doc wr _ _ _ _ _ hd9 HOK.out zs[j].op zs[j].at_ zs[j].cap (by omega) hsn.reads (fun _ g hg hm => by have h3 := hsn8.lt g hg; have h4 := hs9 g hm; omega))
                obtain ⟨q1, q2, q3⟩ := LDoc.apply_known HOK.out hmem
                rw [q1, q2, q3] at HA
                have HNX := Lib.hid (fun w' h => Loop2At.next hd9 hs9 ht9 hT9 (w' := w') h)
                have j1 : (j : Int) < (st.ops.length : Int) := by omega
                have j0 : (0 : Int) ≤ (j : Int) := by omega
                generalize zs[j] = z at *
                obtain ⟨⟨⟨who, n⟩, what, p, letter, seen⟩, za, zc⟩ := z
                unfold LOp.val at HA
                simp only at c0' c1' c2' c3' c4' c5' HA
                clear hd9 hs9 ht9 hT9 hbw9 hz9 hmem hsn hsn8 hps q1 q2 q3 ha hb hjz hzl HK
                go_wp2_with fail
                refine HA.out.mono ?_
                rintro e w9 ⟨rfl, hto⟩
                have HF := Lib.hid (HNX.out w9 hto)
                rw [HE0]
                clear hto HA HNX
                go_wp2_with fail
                go_roundw
                case rel => exact ⟨k + 1, by omega, by go_num, HF.out⟩
                case measure => simp [intOf]; omega
          · have k2 : ¬ (k : Int) < 60 := by omega
            have HF := Lib.hid HK.out
            go_wp2_with fail
            go_meet
            case rel => exact HF.out
        · have k1 : ¬ (k : Int) < (again.length : Int) := by omega
          have HF := Lib.hid HK.out
          go_wp2_with fail
          go_meet
          case rel => exact HF.out
    case rest => as_aux_lemma =>
      obtain ⟨S9, D9, T9, hd9, hs9, ht9, hT9⟩ := hcut
      have HBW9 : Hid (Below w.heap.size w wc) := HW8.out.trans (ht9.below HW8.out.size (fun g hg => by have := (hT9 g hg).1; omega))
      have HOB9 := Lib.hid (own_far HOB8.out ht9 (fun g hg => (hT9 g hg).2))
      have HOM9 := Lib.hid (own_far HOM8.out ht9 (fun g hg => (hT9 g hg).2))
      have HD9 := Lib.hid hd9
      clear hd9 hs9 ht9 hT9
      have HBK := Lib.hid (book_doc wc _ _ _ _ _ HD9.out HOK.out)
      go_wp2_with fail
      refine HBK.out.mono ?_
      rintro e w10 ⟨VX, cX, rfl, hox, hb10⟩
      have HSB := Lib.hid (leafs_same w10 VX VB cX cB st.book hox.reads (HOB9.out.below hb10).reads (by omega))
      have HD10 := Lib.hid (HD9.out.below hb10)
      have HOM10 := Lib.hid (HOM9.out.below hb10)
      have HBW10 := Lib.hid (HBW9.out.trans (hb10.mono HBW9.out.size))
      clear hox hb10 HBK
      go_wp2_with fail
      refine HSB.out.mono ?_
      rintro e w11 ⟨rfl, hb11⟩
      have HD11 := Lib.hid (HD10.out.below hb11)
      have HOM11 := Lib.hid (HOM10.out.below hb11)
      have HBW11 := Lib.hid (HBW10.out.trans (hb11.mono HBW10.out.size))
      have HMK := Lib.hid (marks_doc w11 _ _ _ _ _ HD11.out HOK.out)
      clear hb11 HSB
      go_wp2_with fail
      refine HMK.out.mono ?_
      rintro e w12 ⟨VY, cY, rfl, hoy, hb12⟩
      have HSM := Lib.hid (marks_same w12 VY VM cY cM st.marks hoy.reads (HOM11.out.below hb12).reads (by omega))
      have HD12 := Lib.hid (HD11.out.below hb12)
      have HBW12 := Lib.hid (HBW11.out.trans (hb12.mono HBW11.out.size))
      clear hoy hb12 HMK
      go_wp2_with fail
      refine HSM.out.mono ?_
      rintro e w13 ⟨rfl, hb13⟩
      have HD13 := Lib.hid (HD12.out.below hb13)
      have HBW13 := Lib.hid (HBW12.out.trans (hb13.mono HBW12.out.size))
      have HOP := Lib.hid (ops_doc w13 _ _ _ _ _ HD13.out HOK.out)
      clear hb13 HSM
      go_wp2_with fail
      refine HOP.out.mono ?_
      rintro e w14 ⟨VZ, cZ, zs2, rfl, hz1, hz2, hb14⟩
      have HBW14 := Lib.hid (HBW13.out.trans (hb14.mono HBW13.out.size))
      clear hz1 hz2 hb14 HOP
      go_wp2_with fail
      go_ret
      exact ⟨by simp, HBW14.out⟩
set_option maxRecDepth 100000 in
theorem lifted (os : Os) (started : os.Started) (H : Type) (enc : TypeId × Value → H) :
    ReturnsInHanded {} Try.checked os 6 .any (Rows.docOnceSpec.pre6 enc Try.prog Try.f6 Rows.docOnceRow.domain false) (Rows.docOnceSpec.post enc Try.prog Try.f6 false true false false) := by
  refine returnsInHanded_of_change (C := Try.checked) Try.own started (by kernel_rfl) Try.func6
    (ChangeSpec.witness6 (enc := enc) (C := Try.checked) false ⟨#[], #[.slice none 0 0, .slice none 0 0], []⟩ 8 (by kernel_rfl) (by kernel_rfl) (by kernel_rfl) (by kernel_rfl)) ?_
  intro W base args ds gs before hval0 hW _ _
  have hval : ∀ (j : Nat) t v, Try.f6.params[j]? = some t → args[j]? = some v → Value.okWide Try.prog W .any base t v := hval0
  obtain ⟨p, q, hA0, _⟩ := id hW
  have hA : DataW.TrodAll enc Try.prog W 0 (fun _ => true) true Try.f6.params.toList args.toList ds p := hA0
  rw [Try.params6] at hA hval
  obtain ⟨v0, v1, d0, d1, p0, p1, rfl, rfl, rfl, h0, h1⟩ := trodAll_two hA
  obtain ⟨A0, c0, l0, rfl, r0, g0, lc0, cm0⟩ := arg_ops (hval 0 51 v0 rfl rfl) h0
  obtain ⟨A1, c1, l1, rfl, r1, g1, lc1, cm1⟩ := arg_ints (hval 1 23 v1 rfl rfl) h1
  refine (walk W A0 c0 l0 A1 c1 l1 r0 g0 r1 (by unfold maxLen at cm0; omega) (by unfold maxLen at cm1; omega)).mono fun e W' ⟨he, hb⟩ => ⟨_, he, ?_⟩
  exact law_post Try.laidOut (tb := 4) (by kernel_rfl) Try.underlying4 (by rw [Try.params6]; simp only [List.mem_cons, List.not_mem_nil, or_false]; rintro t (rfl | rfl) <;> exact ⟨by kernel_rfl, of_decide_eq_true (by kernel_rfl)⟩) rfl rfl hW hb

theorem holds : Rows.DocOnceSaid :=
  OpenClaim.holds_of_wide 6 Try.f6 rfl rfl rfl rfl rfl rfl rfl ⟨rfl, rfl, rfl, rfl, rfl⟩ rfl rfl rfl rfl rfl (by kernel_rfl) Try.func6 (by kernel_rfl)
    (of_decide_eq_true (by kernel_rfl)) (by unfold Func.isWrapper; first | (rw [if_pos (by decide +kernel)]; kernel_rfl) | (rw [if_neg (by decide +kernel)]; exact ⟨rfl, rfl⟩))
    (fun os started H enc _ => lifted os started H enc)
#print axioms holds

end lawDocOnce
end Go.Proofs.Ytpofdjikogoobaa
