/- 18 texts in one: each says ahead of itself what is proved, and its conditions. -/
import Derived.Below
import Derived.BigQuiet
import Derived.ChangeSame
import Derived.ChangeVars
import Derived.Deep.CutBlock
import Derived.Deep.DeepCutAuto
import Derived.Deep.RegionHeld3
import Derived.JoinedOf
import Derived.LaidHandle
import Derived.LaidLaws
import Derived.ProofKit
import Derived.RowKit
import Derived.RowKitTokens
import Derived.SevenTiedAt
import Derived.SizedLaws
import Derived.StillTailTactics
import Derived.Test.YtnmmnejoldbeiaaGreatDoorCards
import Derived.Test.YtnmmnejoldbeiaaGreatDoorRows
import Derived.Test.YtnmmnejoldbeiaaGreatDoorTie
import Derived.WalkKit
import Derived.Test.YtnmmnejoldbeiaaGreatDoorApartLaw
import Derived.Test.YtnmmnejoldbeiaaGreatDoorDocHelp
import Derived.Test.YtnmmnejoldbeiaaGreatDoorDocOps
import Derived.Test.YtnmmnejoldbeiaaGreatDoorNthSeen
import Derived.Test.YtnmmnejoldbeiaaGreatDoorRefApply
import Derived.Test.YtnmmnejoldbeiaaGreatDoorRefBytes
import Derived.Test.YtnmmnejoldbeiaaGreatDoorRefText
import Derived.Test.YtnmmnejoldbeiaaGreatDoorRise
import Derived.Test.YtnmmnejoldbeiaaGreatDoorShelfCmp
import Derived.Test.YtnmmnejoldbeiaaGreatDoorSmall
import Derived.Test.YtnmmnejoldbeiaaGreatDoorSyncBoth
import Derived.Test.YtnmmnejoldbeiaaGreatDoorSyncLacks
import Derived.Test.YtnmmnejoldbeiaaGreatDoorSyncOpen
import Derived.Test.YtnmmnejoldbeiaaGreatDoorTold
/- leafref1.Pack, walked: the bytes of ops without fault. Conditions: they are without fault, and few. -/
namespace Go.Proofs.YtnmmnejoldbeiaaGreatDoor
open Go.RowKit
set_option linter.unusedVariables false
theorem opsErr_at {l : List LOp} (h : opsErr l = 0) : ∀ o ∈ l, opErr o = 0 := by
  induction l with
  | nil => simp
  | cons a t ih =>
    unfold opsErr at h
    by_cases ha : opErr a = 0
    · rw [if_pos ha] at h
      intro o ho
      rcases List.mem_cons.1 ho with rfl | ho
      · exact ha
      · exact ih h o ho
    · rw [if_neg ha] at h; exact absurd h ha
set_option maxRecDepth 100000 in
set_option maxHeartbeats 4000000 in
theorem rpack_any (w : World) (A : Option Addr) (ca : Nat) (l : List OpAt) (h : Reads w w.heap.size 6 A l.length (ocells l)) (hg : ∀ y ∈ l, Reads w w.heap.size 2 y.at_ y.op.seen.length (dcells y.op.seen)) (hl : l.length ≤ 400) (he : opsErr (l.map OpAt.op) = 0) :
    Calls Tryz.prog 33 #[.slice A l.length ca] w (CheckPost w (.string (strOf (packBytes (l.map OpAt.op))))) := by
  have HR := Lib.hid h
  have HG := Lib.hid hg
  have HE := Lib.hid he
  have hea := opsErr_at he
  have HT := Lib.hid (fun (W : World) (V : Option Addr) (n cv : Nat) (l : List UInt8) (k : Nat) (hB : w.heap.size ≤ W.heap.size) (hO : Own W w.heap.size 5 1 V n cv (bs l)) (hk : k ≤ 65535) (hn : n ≤ 100000) => r2_any W w.heap.size hB V n cv l hO k hk hn)
  have HEN := Lib.hid (fun W A c o h he => rbytes_any W A c o h he)
  have HEA := Lib.hid hea
  clear h hg he hea
  go_enter Tryz.func33, Tryz.ntmps33
  go_wp2_with fail
  refine (HT.out w none 0 0 [] l.length (Nat.le_refl _) (Own.nil _ _ _ _) (by omega) (by omega)).mono ?_
  rintro e w1 ⟨V1, cv1, rfl, h1, h2⟩
  have HS0 : Hid (PackSt w (l.map OpAt.op) 0 V1 (0 + 1 + 1) cv1 w1) := by
    refine ⟨?_, h2.below (Nat.le_refl _) (by simp [ob]), rfl⟩
    rw [List.length_map]
    simpa [packBody] using h1
  clear h1 h2
  go_wp2_with fail
  go_loopw [3, 4] (fun v i wr => PackLoop w (l.map OpAt.op) i v wr) (fun v i _ => l.length - (intOf i).toNat)
  case atStart => exact ⟨0, _, _, _, Nat.zero_le _, rfl, rfl, HS0⟩
  case round =>
    obtain ⟨k, V, n, cv, hk, rfl, rfl, HM⟩ := hrel
    rw [List.length_map] at hk
    clear HS0
    by_cases hkn : k < l.length
    · obtain ⟨ad, rfl, hab, c0, c1, c2, c3, c4, c5⟩ := (HR.out.below HM.out.bel).op hkn
      have k1 : (k : Int) < (l.length : Int) := by omega
      have k0 : (0 : Int) ≤ (k : Int) := by omega
      have HGR := Lib.hid (((HG.out _ (List.getElem_mem hkn)).below HM.out.bel).more HM.out.bel.size)
      have htk : (l.map OpAt.op).take (k + 1) = (l.map OpAt.op).take k ++ [l[k].op] := by
        rw [List.take_succ_eq_append_getElem (by simpa using hkn), List.getElem_map]
      have HTK := Lib.hid htk
      have ho : opErr l[k].op = 0 := HEA.out _ (List.mem_map.2 ⟨_, List.getElem_mem hkn, rfl⟩)
      clear htk
      generalize l[k] = y at *
      obtain ⟨o, yA, yc⟩ := y
      simp only at HTK HGR c0 c1 c2 c3 c4 c5 ho
      have HOB := Lib.hid (HEN.out wr yA yc o HGR.out ho)
      have HOK : Hid (opsErr ((l.map OpAt.op).take (k + 1)) = 0) := by show _ = _; rw [HTK.out, opsErr_append HM.out.ok, if_pos ho]; rfl
      have hlen := opBytes_len ho
      have hn : n = 2 + (packBody ((l.map OpAt.op).take k)).length := by
        have h1 := HM.out.own.len
        rw [bs_len, List.length_append] at h1
        have h2 : (twoB (l.map OpAt.op).length).length = 2 := rfl
        omega
      have hpl := packBody_len HM.out.ok
      rw [List.length_take, List.length_map] at hpl
      have hn2 : n ≤ 60000 := by have : min k l.length ≤ 400 := by omega
                                 omega
      have HPO : Hid (twoB (l.map OpAt.op).length ++ packBody ((l.map OpAt.op).take (k + 1)) = (twoB (l.map OpAt.op).length ++ packBody ((l.map OpAt.op).take k)) ++ twoB (opBytes o).length ++ opBytes o) := by
        show _ = _
        rw [HTK.out]
        unfold packBody
        simp
      clear ho hn hpl HEN HEA
      unfold LOp.val at HOB
      obtain ⟨⟨d1, d2⟩, o2, o3, o4, o5⟩ := o
      simp only at HOB c0 c1 c2 c3 c4 c5 HGR
      go_wp2_with fail
      refine HOB.out.mono ?_
      generalize hbl : opBytes ⟨⟨d1, d2⟩, o2, o3, o4, o5⟩ = bl at *
      clear hbl HOB HGR HTK c0 c1 c2 c3 c4 c5
      rintro e w2 ⟨rfl, hb2⟩
      have HV2 := Lib.hid (HM.out.own.below hb2)
      have HB2 : Hid (Below w.heap.size w w2) := HM.out.bel.trans (hb2.mono HM.out.bel.size)
      have hs1 : (strOf bl).size = bl.length := strOf_sz bl
      have hs2 : (strOf bl).toList = bl := strOf_toList bl
      generalize hsb : strOf bl = sb at *
      have HSL := Lib.hid hs1
      have HSB := Lib.hid hs2
      have hsz : sb.size ≤ 139 := by omega
      clear hb2 hsb hs1 hs2
      go_wp2_with fail
      refine (HT.out w2 _ n cv _ sb.size HB2.out.size HV2.out (by omega) (by omega)).mono ?_
      rintro e w3 ⟨V3, cv3, rfl, hO3, hL3⟩
      have HV3 := Lib.hid hO3
      have HB3 : Hid (Below w.heap.size w w3) := HB2.out.trans (hL3.below HB2.out.size (fun i hi => (HV2.out.lt i hi).1))
      clear hO3 hL3 HV2 HB2
      obtain ⟨C, w4, hcv, hR4, hB4⟩ := conv_row w3 sb (by omega)
      have HV4 := Lib.hid (HV3.out.below hB4)
      have HB4 : Hid (Below w.heap.size w w4) := HB3.out.trans (hB4.mono HB3.out.size)
      have HR4 := Lib.hid hR4.reads
      have hF : Fits (n + 1 + 1 + sb.size) 1 := Fits.of_small (by omega) (by decide)
      have HS4 := Lib.hid HB4.out.size
      clear hR4 hB4 HV3 HB3
      go_wp2_with (at_builtin; go_loud (refine wpList_app _ (.tmp 24) (.tmp 26) rfl rfl elemB rfl rfl HV4.out HR4.out (oneCells_bs _) hF HS4.out ?_; intro V5 cv5 w5 HO HL HX; have HO5 := Lib.hid HO; have HB5 : Hid (Below w.heap.size w w5) := (HB4.out.trans (HL.below HB4.out.size (fun i hi => (HV4.out.lt i hi).1))); clear HO HL HX))
      go_roundw
      case rel =>
        refine ⟨k + 1, V5, n + 1 + 1 + sb.size, cv5, by simp; omega, by go_num, rfl, Lib.hid ⟨?_, HB5.out, HOK.out⟩⟩
        rw [HPO.out]
        have := HO5.out
        rw [bs_append, HSB.out, HSL.out] at this
        rw [HSL.out]
        exact this
      case measure => simp [intOf]; omega
    · have k1 : ¬ (k : Int) < (l.length : Int) := by omega
      have hk : k = l.length := by omega
      have htk : (l.map OpAt.op).take k = l.map OpAt.op := by rw [hk]; exact List.take_of_length_le (by simp)
      have hcv := conv_own HM.out.own
      rw [htk] at hcv
      clear hk htk
      go_wp2_with fail
      go_ret
      refine ⟨?_, HM.out.bel⟩
      rw [packBytes, List.length_map]
      rfl
end Go.Proofs.YtnmmnejoldbeiaaGreatDoor
/- The program's document and the reference's, played beside each other: the round of such a loop. By the contracts of both. Conditions: the ops can be read. -/
namespace Go.Proofs.YtnmmnejoldbeiaaGreatDoor
open Go.RowKit
set_option linter.unusedVariables false
theorem rnew_is (w : World) : RDocIs ((w.alloc (.cells zeros8 3)).alloc (.cells #[.slice none 0 0, .slice none 0 0, .slice (some ⟨w.heap.size, 0, none⟩) 8 8, .slice none 0 0] 53)) w.heap.size
    [w.heap.size, w.heap.size + 1] (w.heap.size + 1) LDoc.new ⟨none, 0, none, 0, some ⟨w.heap.size, 0, none⟩, 8, none, 0, []⟩ := by
  have hz : (w.alloc (.cells zeros8 3)).heap.size = w.heap.size + 1 := World.size_alloc _ _
  have nil : ∀ (W : World) (S T : List Nat) (sz : Nat), Seat W w.heap.size S T sz none 0 [] := fun W S T sz => ⟨⟨by simp, fun h => by omega⟩, fun h => by omega, fun h => by omega⟩
  refine ⟨?_, nil _ _ _ _, ⟨Nat.le_refl _, by simp⟩, nil _ _ _ _, ⟨Nat.le_refl _, by simp⟩, ?_, Own.nil _ _ _ _, rfl, by simp, ?_, ?_⟩
  · have := Blk.new (w.alloc (.cells zeros8 3)) 53 #[.slice none 0 0, .slice none 0 0, .slice (some ⟨w.heap.size, 0, none⟩) 8 8, .slice none 0 0]
    rw [hz] at this
    exact this
  · have h0 : Own (w.alloc (.cells zeros8 3)) w.heap.size 3 1 (some ⟨w.heap.size, 0, none⟩) 8 8 (ints [0, 0, 0, 0, 0, 0, 0, 0]) :=
      ⟨rfl, .inr ⟨w.heap.size, 8, zeros8, rfl, Nat.le_refl _, heap_alloc_new w _, Nat.le_refl _, by decide, rfl, rfl⟩⟩
    exact h0.alloc _
  · intro g hg
    simp [RLay.turns, ob] at hg
    simp; omega
  · intro g hg
    simp only [List.mem_cons, List.not_mem_nil, or_false] at hg
    simp
    omega
def RNewPost (w : World) (e : Ending) (w' : World) : Prop := ∃ b S D, e = .returned (.pointer (some ⟨b, 0, none⟩)) ∧ RDocIs w' w.heap.size S b LDoc.new D ∧ Below w.heap.size w w'
set_option maxRecDepth 100000 in
theorem rnew_doc (w : World) : Calls Tryz.prog 16 #[] w (RNewPost w) := by
  have hmk : (Instr.makeSlice 23 (.int .i64 8) (.int .i64 8)).run Tryz.prog w = .ok (.slice (some ⟨w.heap.size, 0, none⟩) 8 8) (w.alloc (.cells zeros8 3)) := by
    have e : madeCells #[Value.int .i64 0] 8 = zeros8 := by apply Array.ext'; simp [madeCells, zeros8, Nat.mod_one, List.range, List.range.loop]
    rw [← e]
    exact run_make_row' (P := Tryz.prog) 23 3 (.int .i64 0) 8 Tryz.underlying23 (by kernel_rfl) rfl .i64 .i64 8 (by omega) (by omega) w
  have HN := Lib.hid (rnew_is w)
  have HB : Hid (Below w.heap.size w ((w.alloc (.cells zeros8 3)).alloc (.cells #[.slice none 0 0, .slice none 0 0, .slice (some ⟨w.heap.size, 0, none⟩) 8 8, .slice none 0 0] 53))) :=
    ((Below.refl _ _).alloc (Nat.le_refl _) _).alloc (by simp) _
  generalize zeros8 = z8 at *
  go_enter Tryz.func16, Tryz.ntmps16
  go_wp2_with fail
  go_ret
  exact ⟨_, _, _, rfl, HN.out, HB.out⟩
/-- The two documents, to which the same ops were applied. -/
def PlayAt (w : World) (B b1 b2 n : Nat) (wr : World) : Prop := ∃ st S1 S2 D1 D2, Twin w B b1 b2 st st wr S1 S2 D1 D2 ∧ st.Ok ∧ Says st.ops st ∧ st.ops.length ≤ n
def PlayRound (w : World) (B b1 b2 : Nat) (i : Value) (wr : World) : Prop := ∃ k : Nat, k ≤ 60 ∧ i = .int .i64 k ∧ Hid (PlayAt w B b1 b2 k wr)
theorem PlayAt.more {w wr : World} {B b1 b2 n m : Nat} (h : PlayAt w B b1 b2 n wr) (hm : n ≤ m) : PlayAt w B b1 b2 m wr := by
  obtain ⟨st, S1, S2, D1, D2, h1, h2, h3, h4⟩ := h
  exact ⟨st, S1, S2, D1, D2, h1, h2, h3, by omega⟩
theorem PlayAt.below {w wr : World} {B b1 b2 n : Nat} (h : PlayAt w B b1 b2 n wr) : Below w.heap.size w wr := by
  obtain ⟨st, S1, S2, D1, D2, h1, _⟩ := h
  exact h1.below
theorem Seat.of_arg {w wr : World} {B : Nat} {S T : List Nat} {size n : Nat} {A : Option Addr} {xs : List Value} (h : Reads w w.heap.size size A n xs) (hb : Below w.heap.size w wr) (hB : w.heap.size ≤ B) (hT : ∀ g ∈ T, B ≤ g) : Seat wr B S T size A n xs := by
  refine ⟨(h.below hb).more hb.size, fun hn g hg => ?_, fun hn g hg hm => ?_⟩
  · obtain ⟨ad, e, hlt, _⟩ := h.2 hn
    rw [e] at hg; simp [ob] at hg; exact .inl (by omega)
  · obtain ⟨ad, e, hlt, _⟩ := h.2 hn
    rw [e] at hg; simp [ob] at hg
    have := hT g hm; omega
theorem PlayAt.round {w wr : World} {B b1 b2 n : Nat} (h : PlayAt w B b1 b2 n wr) {A : Option Addr} {ys : List OpAt} (hr : Reads w w.heap.size 6 A ys.length (ocells ys)) (hg : ∀ y ∈ ys, y.Good w) {k : Nat} (hk : k < ys.length) :
    ∃ ad who nn what p letter seen ya yc, A = some ad ∧ Below w.heap.size w wr ∧ Hid (∀ W, Below w.heap.size w W → W.cell? (ad.add (k * 6)) = some (.int .i64 who) ∧ W.cell? ⟨(ad.add (k * 6)).block, (ad.add (k * 6)).off + 1, none⟩ = some (.int .i64 nn) ∧ W.cell? ⟨(ad.add (k * 6)).block, (ad.add (k * 6)).off + 2, none⟩ = some (.int .i64 what) ∧
      W.cell? ⟨(ad.add (k * 6)).block, (ad.add (k * 6)).off + 3, none⟩ = some (.string p) ∧ W.cell? ⟨(ad.add (k * 6)).block, (ad.add (k * 6)).off + 4, none⟩ = some (.int .i64 letter) ∧ W.cell? ⟨(ad.add (k * 6)).block, (ad.add (k * 6)).off + 5, none⟩ = some (.slice ya seen yc)) ∧
      Hid (Calls Tryz.prog 19 #[.pointer (some ⟨b2, 0, none⟩), .agg #[.int .i64 who, .int .i64 nn, .int .i64 what, .string p, .int .i64 letter, .slice ya seen yc]] wr (fun e w1 => ∃ (is : Bool) (ke : Int), e = .returned (.tuple #[.bool is, .int .i64 ke]) ∧ Below w.heap.size w w1 ∧
        Calls Tryz.prog 58 #[.pointer (some ⟨b1, 0, none⟩), .agg #[.int .i64 who, .int .i64 nn, .int .i64 what, .string p, .int .i64 letter, .slice ya seen yc]] w1 (fun e w2 => e = .returned (.tuple #[.bool is, errV ke]) ∧ PlayAt w B b1 b2 (n + 1) w2))) := by
  obtain ⟨st, S1, S2, D1, D2, hd, hok, hs, hl⟩ := h
  obtain ⟨ad, rfl, hcel⟩ : ∃ ad, A = some ad ∧ ∀ W, Below w.heap.size w W → W.cell? (ad.add (k * 6)) = some (.int .i64 ys[k].op.dot.who) ∧ W.cell? ⟨(ad.add (k * 6)).block, (ad.add (k * 6)).off + 1, none⟩ = some (.int .i64 ys[k].op.dot.n) ∧ W.cell? ⟨(ad.add (k * 6)).block, (ad.add (k * 6)).off + 2, none⟩ = some (.int .i64 ys[k].op.what) ∧
      W.cell? ⟨(ad.add (k * 6)).block, (ad.add (k * 6)).off + 3, none⟩ = some (.string ys[k].op.place) ∧ W.cell? ⟨(ad.add (k * 6)).block, (ad.add (k * 6)).off + 4, none⟩ = some (.int .i64 ys[k].op.letter) ∧ W.cell? ⟨(ad.add (k * 6)).block, (ad.add (k * 6)).off + 5, none⟩ = some (.slice ys[k].at_ ys[k].op.seen.length ys[k].cap) := by
    obtain ⟨ad, e, _⟩ := hr.op hk
    refine ⟨ad, e, fun W hW => ?_⟩
    obtain ⟨ad', e', _, hh⟩ := (hr.below hW).op hk
    rw [e] at e'
    injection e' with e'
    subst e'
    exact hh
  have hgood := fun W (hW : Below w.heap.size w W) => (hg _ (List.getElem_mem hk)).below hW
  have hps := (hgood wr hd.below).2.1
  have hbase := hd.base
  have HA := rapply_doc wr _ _ _ _ _ hd.two hok hs ys[k].op ys[k].at_ ys[k].cap (by unfold maxLen at hps; omega) (Seat.of_arg (hg _ (List.getElem_mem hk)).1 hd.below hd.base (fun g hg => (hd.two.own g (hd.two.sub g hg)).1))
  refine ⟨ad, _, _, _, _, _, _, _, _, rfl, hd.below, hcel, HA.mono ?_⟩
  rintro e w1 ⟨rfl, ht⟩
  obtain ⟨S', D', hd', ho', _⟩ := hd.right ht
  refine ⟨_, _, rfl, hd'.below, ?_⟩
  have HA2 := apply_doc w1 _ _ _ _ _ hd'.one hok ys[k].op ys[k].at_ ys[k].cap (by unfold maxLen at hps; omega) (hgood w1 hd'.below).1 (fun hn g hgg hm => by
    obtain ⟨ad2, e2, hlt, _⟩ := (hg _ (List.getElem_mem hk)).1.2 hn
    rw [e2] at hgg; simp [ob] at hgg
    have := (hd'.one.own g hm).1; omega)
  refine HA2.mono ?_
  rintro e w2 ⟨rfl, ht2⟩
  obtain ⟨S'', D'', hd'', _, _⟩ := hd'.left ht2
  refine ⟨rfl, _, S'', S', D'', D', hd'', LDoc.apply_ok hok _, LDoc.apply_says hok hs _, ?_⟩
  rcases LDoc.apply_three (d := st) ys[k].op with ⟨_, _, q⟩ | ⟨_, _, q⟩ | ⟨_, _, q⟩
  · rw [q]; simp; omega
  · rw [q]; omega
  · rw [q]; omega
end Go.Proofs.YtnmmnejoldbeiaaGreatDoor
/- leafsame.Dots, walked. Conditions: few elements. -/
namespace Go.Proofs.YtnmmnejoldbeiaaGreatDoor
open Go.RowKit
set_option linter.unusedVariables false
namespace SameDots
instance dec : DecidableEq LDot := fun a b => by
  cases a; cases b
  simp only [LDot.mk.injEq]
  exact inferInstance
set_option maxRecDepth 100000 in
theorem eq_one (W : World) (x0 y0 : Int) (x1 y1 : Int) : (Op.equalIn 10000 27 (.agg #[.int .i64 x0, .int .i64 x1]) (.agg #[.int .i64 y0, .int .i64 y1])).run Tryz.prog W = .ok (x0 == y0 && (x1 == y1)) W := by
  have ui := Tryz.underlying3
  have hS : Tryz.prog.underlying 27 = some (.struct (Tryz.prog.fieldsOf 27)) := by kernel_rfl
  have hp : Tryz.prog.stoodInHeld 27 = false := by kernel_rfl
  rw [show (10000 : Nat) = 9999 + 1 from rfl, run_equalIn_agg W 9999 27 _ _ hS hp]
  simp only [Program.fieldsOf, Tryz.underlying27]
  go_simp
  by_cases h0 : x0 = y0 <;> by_cases h1 : x1 = y1 <;> simp [h0, h1]
theorem same_one {x0 y0 : Int} {x1 y1 : Int} : (x0 == y0 && (x1 == y1)) = decide ((⟨x0, x1⟩ : LDot) = ⟨y0, y1⟩) := by
  rw [Bool.eq_iff_iff]
  simp only [Bool.and_eq_true, beq_iff_eq, decide_eq_true_eq, LDot.mk.injEq]
def Loop (w : World) (l m : List LDot) (i : Value) (wr : World) : Prop :=
  ∃ k : Nat, k ≤ l.length ∧ i = .int .i64 k ∧ Hid (Below w.heap.size w wr) ∧ Hid (decide (l = m) = decide (l.drop k = m.drop k))
set_option maxRecDepth 100000 in
set_option maxHeartbeats 1000000 in
theorem any_big (w : World) (A G : Option Addr) (ca cg : Nat) (l m : List LDot) (h1 : Reads w w.heap.size 2 A l.length (dcells l)) (h2 : Reads w w.heap.size 2 G m.length (dcells m)) (hl : l.length ≤ 9223372036854775807) (hm : m.length ≤ 9223372036854775807) :
    Calls Tryz.prog 54 #[.slice A l.length ca, .slice G m.length cg] w (SamePost w (decide (l = m))) := by
  have HR := Lib.hid h1
  have HS := Lib.hid h2
  clear h1 h2
  by_cases hlm : l.length = m.length
  · have HLM := Lib.hid hlm
    have e0 : ((l.length : Int) != (m.length : Int)) = false := by simp [hlm]
    have e1 : ((l.length : Int) == (m.length : Int)) = true := by simp [hlm]
    clear hlm
    go_enter Tryz.func54, Tryz.ntmps54
    go_wp2_with fail
    go_loopw [5] (fun i wr => Loop w l m i wr) (fun i _ => l.length - (intOf i).toNat)
    case atStart => exact ⟨0, by omega, rfl, Below.refl _ _, Lib.hid rfl⟩
    case round =>
      obtain ⟨k, hk, rfl, HB, HE⟩ := hrel
      by_cases hkn : k < l.length
      · have hkm : k < m.length := by have := HLM.out; omega
        obtain ⟨ad, hA, _, c0, c1⟩ := (HR.out.below HB.out).dot hkn
        obtain ⟨ag, hG, _, g0, g1⟩ := (HS.out.below HB.out).dot hkm
        have k1 : (k : Int) < (l.length : Int) := by omega
        have k2 : (k : Int) < (m.length : Int) := by omega
        have k0 : (0 : Int) ≤ (k : Int) := by omega
        subst hA hG
        have hdr : (l.drop k = m.drop k) = (l[k] = m[k] ∧ l.drop (k + 1) = m.drop (k + 1)) := by
          rw [List.drop_eq_getElem_cons hkn, List.drop_eq_getElem_cons hkm, List.cons.injEq]
        have HDR := Lib.hid hdr
        clear hdr
        generalize l[k] = x at *
        generalize m[k] = y at *
        obtain ⟨x0, x1⟩ := x
        obtain ⟨y0, y1⟩ := y
        simp only at c0 c1 g0 g1
        by_cases hxy : (⟨x0, x1⟩ : LDot) = ⟨y0, y1⟩
        · have HN : Hid (decide (l = m) = decide (l.drop (k + 1) = m.drop (k + 1))) := by
            show _ = _
            rw [HE.out]; congr 1; rw [HDR.out]; simp [hxy]
          have hq : ∀ W, (Op.equalIn 10000 27 (.agg #[.int .i64 x0, .int .i64 x1]) (.agg #[.int .i64 y0, .int .i64 y1])).run Tryz.prog W = .ok true W := fun W => by rw [eq_one, same_one, decide_eq_true hxy]
          clear HDR HE hxy
          go_wp2_with fail
          go_quiet (fail)
          go_wp2_with fail
          go_roundw
          case rel => exact ⟨k + 1, by omega, by go_num, below_drewN HB.out _, HN⟩
          case measure => simp [intOf]; omega
        · have HN : Hid (decide (l = m) = false) := by
            show _ = _
            rw [HE.out, decide_eq_false_iff_not, HDR.out]; exact fun h => hxy h.1
          have hq : ∀ W, (Op.equalIn 10000 27 (.agg #[.int .i64 x0, .int .i64 x1]) (.agg #[.int .i64 y0, .int .i64 y1])).run Tryz.prog W = .ok false W := fun W => by rw [eq_one, same_one, decide_eq_false hxy]
          clear HDR HE hxy
          go_wp2_with fail
          go_quiet (fail)
          go_wp2_with fail
          go_ret
          exact ⟨by rw [HN.out]; rfl, below_drewN HB.out _⟩
      · have HN : Hid (decide (l = m) = true) := by
          show _ = _
          rw [HE.out, List.drop_of_length_le (by omega), List.drop_of_length_le (by have := HLM.out; omega)]; rfl
        have hd : decide ((k : Int) < (l.length : Int)) = false := by simp; omega
        go_wp2_with fail
        go_ret
        exact ⟨by rw [HN.out]; rfl, HB.out⟩
  · have HF : Hid (decide (l = m) = false) := decide_eq_false (fun h => hlm (by rw [h]))
    have e0 : ((l.length : Int) != (m.length : Int)) = true := by simp; omega
    have e1 : ((l.length : Int) == (m.length : Int)) = false := by simp; omega
    clear hlm
    go_enter Tryz.func54, Tryz.ntmps54
    go_wp2_with fail
    go_ret
    exact ⟨by rw [HF.out]; rfl, Below.refl _ _⟩
theorem any (w : World) (A G : Option Addr) (ca cg : Nat) (l m : List LDot) (h1 : Reads w w.heap.size 2 A l.length (dcells l)) (h2 : Reads w w.heap.size 2 G m.length (dcells m)) (hl : l.length ≤ 1000000) (hm : m.length ≤ 1000000) :
    Calls Tryz.prog 54 #[.slice A l.length ca, .slice G m.length cg] w (SamePost w (decide (l = m))) := any_big w A G ca cg l m h1 h2 (by omega) (by omega)
end SameDots
end Go.Proofs.YtnmmnejoldbeiaaGreatDoor
/- leafsame.Op, leafsame.Ops, walked. Conditions: few elements. -/
namespace Go.Proofs.YtnmmnejoldbeiaaGreatDoor
open Go.RowKit
set_option linter.unusedVariables false
namespace SameOp
instance dec : DecidableEq LOp := fun a b => by
  obtain ⟨⟨a0, a1⟩, a2, a3, a4, a5⟩ := a
  obtain ⟨⟨b0, b1⟩, b2, b3, b4, b5⟩ := b
  simp only [LOp.mk.injEq, LDot.mk.injEq]
  exact inferInstance
theorem beq_str {x y : ByteArray} : (x.toList == y.toList) = decide (x = y) := by
  rw [Bool.eq_iff_iff, beq_iff_eq, decide_eq_true_iff, same_toList]
set_option maxRecDepth 100000 in
set_option maxHeartbeats 2000000 in
theorem any (w : World) (x y : LOp) (A G : Option Addr) (ca cg : Nat) (h1 : Reads w w.heap.size 2 A x.seen.length (dcells x.seen)) (h2 : Reads w w.heap.size 2 G y.seen.length (dcells y.seen)) (hl : x.seen.length ≤ 9223372036854775807) (hm : y.seen.length ≤ 9223372036854775807) :
    Calls Tryz.prog 77 #[x.val A ca, y.val G cg] w (SamePost w (decide (x = y))) := by
  obtain ⟨W0, hW0⟩ : ∃ W0, W0 = (w.alloc (.cells (x.cells A ca) 30)).alloc (.cells (y.cells G cg) 30) := ⟨_, rfl⟩
  have hb0 : Below w.heap.size w W0 := by rw [hW0]; exact ((Below.refl _ _).alloc (Nat.le_refl _) _).alloc (by simp) _
  have HB0 := Lib.hid hb0
  have hs0 : (w.alloc (.cells (x.cells A ca) 30)).heap.size = w.heap.size + 1 := by simp
  have bx : Blk W0 w.heap.size 30 (x.cells A ca) := by rw [hW0]; exact (Blk.new w _ _).alloc _
  have by_ : Blk W0 (w.heap.size + 1) 30 (y.cells G cg) := by rw [hW0]; unfold Blk; rw [← hs0]; exact heap_alloc_new _ _
  have HC := Lib.hid (SameDots.any_big W0 A G ca cg x.seen y.seen ((h1.below hb0).more hb0.size) ((h2.below hb0).more hb0.size) hl hm)
  have HCX : Hid (∀ W, Below W0.heap.size W0 W → W.cell? ⟨w.heap.size, 0, none⟩ = some (.int .i64 x.dot.who) ∧ W.cell? ⟨w.heap.size, 1, none⟩ = some (.int .i64 x.dot.n) ∧ W.cell? ⟨w.heap.size, 2, none⟩ = some (.int .i64 x.what) ∧ W.cell? ⟨w.heap.size, 3, none⟩ = some (.string x.place) ∧ W.cell? ⟨w.heap.size, 4, none⟩ = some (.int .i64 x.letter) ∧ W.cell? ⟨w.heap.size, 5, none⟩ = some (.slice A x.seen.length ca)) := fun W hb => by
    have h := bx.below hb bx.lt
    exact ⟨h.cell 0, h.cell 1, h.cell 2, h.cell 3, h.cell 4, h.cell 5⟩
  have HCY : Hid (∀ W, Below W0.heap.size W0 W → W.cell? ⟨w.heap.size + 1, 0, none⟩ = some (.int .i64 y.dot.who) ∧ W.cell? ⟨w.heap.size + 1, 1, none⟩ = some (.int .i64 y.dot.n) ∧ W.cell? ⟨w.heap.size + 1, 2, none⟩ = some (.int .i64 y.what) ∧ W.cell? ⟨w.heap.size + 1, 3, none⟩ = some (.string y.place) ∧ W.cell? ⟨w.heap.size + 1, 4, none⟩ = some (.int .i64 y.letter) ∧ W.cell? ⟨w.heap.size + 1, 5, none⟩ = some (.slice G y.seen.length cg)) := fun W hb => by
    have h := by_.below hb by_.lt
    exact ⟨h.cell 0, h.cell 1, h.cell 2, h.cell 3, h.cell 4, h.cell 5⟩
  have HQ := Lib.hid (fun W => SameDots.eq_one W x.dot.who y.dot.who x.dot.n y.dot.n)
  have HX : Hid (x = y ↔ x.seen = y.seen ∧ (x.dot.who = y.dot.who ∧ x.dot.n = y.dot.n) ∧ x.what = y.what ∧ x.place = y.place ∧ x.letter = y.letter) := by
    obtain ⟨⟨a, b⟩, c, d, e, f⟩ := x
    obtain ⟨⟨a', b'⟩, c', d', e', f'⟩ := y
    show _ ↔ _
    simp only [LOp.mk.injEq, LDot.mk.injEq]
    constructor
    · rintro ⟨⟨h1, h2⟩, h3, h4, h5, h6⟩; exact ⟨h6, ⟨h1, h2⟩, h3, h4, h5⟩
    · rintro ⟨h6, ⟨h1, h2⟩, h3, h4, h5⟩; exact ⟨⟨h1, h2⟩, h3, h4, h5, h6⟩
  have hfin : ∀ b : Bool, (b = true ↔ x = y) → decide (x = y) = b := fun b h => by
    rw [Bool.eq_iff_iff, decide_eq_true_iff]; exact h.symm
  have HFIN := Lib.hid hfin
  clear h1 h2 bx by_ hb0 hfin
  obtain ⟨⟨xw, xn⟩, xa, xp, xl, xs⟩ := x
  obtain ⟨⟨yw, yn⟩, ya, yp, yl, ys⟩ := y
  unfold LOp.val
  unfold LOp.cells at hW0
  simp only at hW0 HC HCX HCY HQ HX HFIN hl hm ⊢
  have HBR : Hid (Below W0.heap.size W0 W0) := Below.refl _ _
  obtain ⟨c0, c1, c2, c3, c4, c5⟩ := HCX.out _ HBR.out
  obtain ⟨d0, d1, d2, d3, d4, d5⟩ := HCY.out _ HBR.out
  go_enter Tryz.func77, Tryz.ntmps77
  go_wp2_with fail
  rw [← hW0]
  clear hW0
  refine HC.out.mono ?_
  rintro e w2 ⟨rfl, hb⟩
  have HB2 := Lib.hid (HB0.out.trans (hb.mono HB0.out.size))
  clear c0 c1 c2 c3 c4 c5 d0 d1 d2 d3 d4 d5
  obtain ⟨c0, c1, c2, c3, c4, c5⟩ := HCX.out _ hb
  obtain ⟨d0, d1, d2, d3, d4, d5⟩ := HCY.out _ hb
  clear hb HC HCX HCY
  by_cases hs : xs = ys
  · rw [decide_eq_true hs]
    have HS := Lib.hid hs
    clear hs
    by_cases hd : xw = yw ∧ xn = yn
    · have hq : ∀ W, (Op.equalIn 10000 27 (.agg #[.int .i64 xw, .int .i64 xn]) (.agg #[.int .i64 yw, .int .i64 yn])).run Tryz.prog W = .ok true W := fun W => by rw [HQ.out W]; simp [hd.1, hd.2]
      have HD := Lib.hid hd
      clear hd
      by_cases ha : xa = ya
      · have g1 : (xa == ya) = true := by rw [beq_iff_eq]; exact ha
        have HA := Lib.hid ha
        clear ha
        by_cases hp : xp = yp
        · have g2 : (xp.toList == yp.toList) = true := by rw [beq_str, decide_eq_true hp]
          have HP := Lib.hid hp
          clear hp
          by_cases hl : xl = yl
          · have g3 : (xl == yl) = true := by rw [beq_iff_eq]; exact hl
            have HF := Lib.hid (HFIN.out true ⟨fun _ => HX.out.2 ⟨HS.out, HD.out, HA.out, HP.out, hl⟩, fun _ => rfl⟩)
            clear hl
            go_wp2_with fail
            go_ret
            exact ⟨by rw [HF.out]; rfl, HB2.out⟩
          · have g3 : (xl == yl) = false := by rw [beq_eq_false_iff_ne]; exact hl
            have HF := Lib.hid (HFIN.out false ⟨(fun h => nomatch h), fun h => absurd (HX.out.1 h).2.2.2.2 hl⟩)
            clear hl
            go_wp2_with fail
            go_ret
            exact ⟨by rw [HF.out]; rfl, HB2.out⟩
        · have g2 : (xp.toList == yp.toList) = false := by rw [beq_str, decide_eq_false hp]
          have HF := Lib.hid (HFIN.out false ⟨(fun h => nomatch h), fun h => absurd (HX.out.1 h).2.2.2.1 hp⟩)
          clear hp
          go_wp2_with fail
          go_ret
          exact ⟨by rw [HF.out]; rfl, HB2.out⟩
      · have g1 : (xa == ya) = false := by rw [beq_eq_false_iff_ne]; exact ha
        have HF := Lib.hid (HFIN.out false ⟨(fun h => nomatch h), fun h => absurd (HX.out.1 h).2.2.1 ha⟩)
        clear ha
        go_wp2_with fail
        go_ret
        exact ⟨by rw [HF.out]; rfl, HB2.out⟩
    · have hq : ∀ W, (Op.equalIn 10000 27 (.agg #[.int .i64 xw, .int .i64 xn]) (.agg #[.int .i64 yw, .int .i64 yn])).run Tryz.prog W = .ok false W := fun W => by
        rw [HQ.out W]
        by_cases h1 : xw = yw
        · have h2 : xn ≠ yn := fun h => hd ⟨h1, h⟩
          simp [h2]
        · simp [h1]
      have HF := Lib.hid (HFIN.out false ⟨(fun h => nomatch h), fun h => absurd (HX.out.1 h).2.1 hd⟩)
      clear hd
      go_wp2_with fail
      go_ret
      exact ⟨by rw [HF.out]; rfl, HB2.out⟩
  · rw [decide_eq_false hs]
    have HF := Lib.hid (HFIN.out false ⟨(fun h => nomatch h), fun h => absurd (HX.out.1 h).1 hs⟩)
    clear hs
    go_wp2_with fail
    go_ret
    exact ⟨by rw [HF.out]; rfl, HB2.out⟩
end SameOp
end Go.Proofs.YtnmmnejoldbeiaaGreatDoor
/- leafsame.Ops, walked. Conditions: few elements. -/
namespace Go.Proofs.YtnmmnejoldbeiaaGreatDoor
open Go.RowKit
set_option linter.unusedVariables false
namespace SameOps
def Loop (w : World) (l m : List OpAt) (i : Value) (wr : World) : Prop :=
  ∃ k : Nat, k ≤ l.length ∧ i = .int .i64 k ∧ Hid (Below w.heap.size w wr) ∧ Hid (decide (l.map OpAt.op = m.map OpAt.op) = decide ((l.drop k).map OpAt.op = (m.drop k).map OpAt.op))
theorem cells_at {w : World} {B : Nat} {A : Option Addr} {l : List OpAt} (h : Reads w B 6 A l.length (ocells l)) {k : Nat} (hk : k < l.length) : ∃ ad, A = some ad ∧ ad.block < B ∧ ∀ W : World, (∀ q : Addr, q.block = ad.block → W.cell? q = w.cell? q) → W.cell? (ad.add (k * 6)) = some (.int .i64 l[k].op.dot.who) ∧ W.cell? ⟨(ad.add (k * 6)).block, (ad.add (k * 6)).off + 1, none⟩ = some (.int .i64 l[k].op.dot.n) ∧ W.cell? ⟨(ad.add (k * 6)).block, (ad.add (k * 6)).off + 2, none⟩ = some (.int .i64 l[k].op.what) ∧
      W.cell? ⟨(ad.add (k * 6)).block, (ad.add (k * 6)).off + 3, none⟩ = some (.string l[k].op.place) ∧ W.cell? ⟨(ad.add (k * 6)).block, (ad.add (k * 6)).off + 4, none⟩ = some (.int .i64 l[k].op.letter) ∧ W.cell? ⟨(ad.add (k * 6)).block, (ad.add (k * 6)).off + 5, none⟩ = some (.slice l[k].at_ l[k].op.seen.length l[k].cap) := by
  obtain ⟨ad, e, hb, c0, c1, c2, c3, c4, c5⟩ := h.op hk
  refine ⟨ad, e, by simpa [block_of_add] using hb, fun W hW => ⟨(hW _ (block_of_add _ _)).trans c0, (hW ⟨_, _, none⟩ (block_of_add _ _)).trans c1, (hW ⟨_, _, none⟩ (block_of_add _ _)).trans c2, (hW ⟨_, _, none⟩ (block_of_add _ _)).trans c3, (hW ⟨_, _, none⟩ (block_of_add _ _)).trans c4, (hW ⟨_, _, none⟩ (block_of_add _ _)).trans c5⟩⟩
set_option maxRecDepth 100000 in
set_option maxHeartbeats 4000000 in
theorem any (w : World) (A G : Option Addr) (ca cg : Nat) (l m : List OpAt) (h1 : Reads w w.heap.size 6 A l.length (ocells l)) (h2 : Reads w w.heap.size 6 G m.length (ocells m)) (s1 : ∀ y ∈ l, Reads w w.heap.size 2 y.at_ y.op.seen.length (dcells y.op.seen) ∧ y.op.seen.length ≤ 9223372036854775807)
    (s2 : ∀ y ∈ m, Reads w w.heap.size 2 y.at_ y.op.seen.length (dcells y.op.seen) ∧ y.op.seen.length ≤ 9223372036854775807) (hl : l.length ≤ 9223372036854775807) (hm : m.length ≤ 9223372036854775807) :
    Calls Tryz.prog 31 #[.slice A l.length ca, .slice G m.length cg] w (CheckPost w (.bool (decide (l.map OpAt.op = m.map OpAt.op)))) := by
  have HR := Lib.hid h1
  have HS := Lib.hid h2
  have HSL := Lib.hid s1
  have HSM := Lib.hid s2
  clear h1 h2 s1 s2
  by_cases hlm : l.length = m.length
  · have HLM := Lib.hid hlm
    have e0 : ((l.length : Int) != (m.length : Int)) = false := by simp [hlm]
    have e1 : ((l.length : Int) == (m.length : Int)) = true := by simp [hlm]
    clear hlm
    go_enter Tryz.func31, Tryz.ntmps31
    go_wp2_with fail
    go_loopw [5] (fun i wr => Loop w l m i wr) (fun i _ => l.length - (intOf i).toNat)
    case atStart => exact ⟨0, by omega, rfl, Below.refl _ _, Lib.hid rfl⟩
    case round =>
      obtain ⟨k, hk, rfl, HB, HE⟩ := hrel
      by_cases hkn : k < l.length
      · have hkm : k < m.length := by have := HLM.out; omega
        obtain ⟨ad, rfl, hab, hcl⟩ := cells_at (HR.out.below HB.out) hkn
        obtain ⟨ag, rfl, hag, hcm⟩ := cells_at (HS.out.below HB.out) hkm
        have HCL : Hid (∀ W, Below wr.heap.size wr W → _) := fun W hW => hcl W (fun q hq => hW.cell (by rw [hq]; exact Nat.lt_of_lt_of_le hab HB.out.size))
        have HCM : Hid (∀ W, Below wr.heap.size wr W → _) := fun W hW => hcm W (fun q hq => hW.cell (by rw [hq]; exact Nat.lt_of_lt_of_le hag HB.out.size))
        obtain ⟨c0, c1, c2, c3, c4, c5⟩ := HCL.out wr (Below.refl _ _)
        obtain ⟨g0, g1, g2, g3, g4, g5⟩ := HCM.out wr (Below.refl _ _)
        have k1 : (k : Int) < (l.length : Int) := by omega
        have k2 : (k : Int) < (m.length : Int) := by omega
        have k0 : (0 : Int) ≤ (k : Int) := by omega
        have hdr : ((l.drop k).map OpAt.op = (m.drop k).map OpAt.op) = (l[k].op = m[k].op ∧ (l.drop (k + 1)).map OpAt.op = (m.drop (k + 1)).map OpAt.op) := by
          rw [List.drop_eq_getElem_cons hkn, List.drop_eq_getElem_cons hkm, List.map_cons, List.map_cons, List.cons.injEq]
        have HDR := Lib.hid hdr
        have hx := HSL.out _ (List.getElem_mem hkn)
        have hy := HSM.out _ (List.getElem_mem hkm)
        have HC := Lib.hid (fun W (hW : Below w.heap.size w W) => SameOp.any W l[k].op m[k].op l[k].at_ m[k].at_ l[k].cap m[k].cap ((hx.1.below hW).more hW.size) ((hy.1.below hW).more hW.size) hx.2 hy.2)
        obtain ⟨bb, hbb⟩ : ∃ bb, bb = decide (l[k].op = m[k].op) := ⟨_, rfl⟩
        rw [← hbb] at HC
        have HBB := Lib.hid hbb
        clear hdr hx hy hcl hcm hab hag hbb
        generalize l[k] = x at *
        generalize m[k] = y at *
        obtain ⟨⟨⟨xw, xn⟩, xa, xp, xl, xs⟩, xA, xc⟩ := x
        obtain ⟨⟨⟨yw, yn⟩, ya, yp, yl, ys⟩, yA, yc⟩ := y
        unfold LOp.val at HC
        simp only at HC HDR HBB HCL HCM c0 c1 c2 c3 c4 c5 g0 g1 g2 g3 g4 g5
        go_wp2_with fail
        go_region_held3 (fun w' => (w'.cell? (ad.add (k * 6)) = some (.int .i64 xw) ∧ w'.cell? ⟨(ad.add (k * 6)).block, (ad.add (k * 6)).off + 1, none⟩ = some (.int .i64 xn) ∧ w'.cell? ⟨(ad.add (k * 6)).block, (ad.add (k * 6)).off + 2, none⟩ = some (.int .i64 xa) ∧ w'.cell? ⟨(ad.add (k * 6)).block, (ad.add (k * 6)).off + 3, none⟩ = some (.string xp) ∧ w'.cell? ⟨(ad.add (k * 6)).block, (ad.add (k * 6)).off + 4, none⟩ = some (.int .i64 xl) ∧ w'.cell? ⟨(ad.add (k * 6)).block, (ad.add (k * 6)).off + 5, none⟩ = some (.slice xA xs.length xc) ∧
            w'.cell? (ag.add (k * 6)) = some (.int .i64 yw) ∧ w'.cell? ⟨(ag.add (k * 6)).block, (ag.add (k * 6)).off + 1, none⟩ = some (.int .i64 yn) ∧ w'.cell? ⟨(ag.add (k * 6)).block, (ag.add (k * 6)).off + 2, none⟩ = some (.int .i64 ya) ∧ w'.cell? ⟨(ag.add (k * 6)).block, (ag.add (k * 6)).off + 3, none⟩ = some (.string yp) ∧ w'.cell? ⟨(ag.add (k * 6)).block, (ag.add (k * 6)).off + 4, none⟩ = some (.int .i64 yl) ∧ w'.cell? ⟨(ag.add (k * 6)).block, (ag.add (k * 6)).off + 5, none⟩ = some (.slice yA ys.length yc)))
          (first | go_keep | (refine ⟨?_, ?_, ?_, ?_, ?_, ?_, ?_, ?_, ?_, ?_, ?_, ?_⟩ <;> assumption))
          ((go_at_call 77; refine (HC.out _ (by first | exact HB.out | exact below_drewN HB.out _ | exact HB.out.drew)).mono ?_; rintro e w3 ⟨rfl, hb3⟩
            have hbw : Below wr.heap.size wr w3 := by first | exact hb3 | exact below_of_drewN (n := 1) hb3
            have HB3 : Hid (Below w.heap.size w w3) := HB.out.trans (hbw.mono HB.out.size)
            clear c0 c1 c2 c3 c4 c5 g0 g1 g2 g3 g4 g5
            obtain ⟨c0, c1, c2, c3, c4, c5⟩ := HCL.out _ hbw
            obtain ⟨g0, g1, g2, g3, g4, g5⟩ := HCM.out _ hbw
            clear hb3 hbw))
        cases bb with
        | true =>
          have HEN : Hid (decide (l.map OpAt.op = m.map OpAt.op) = decide ((l.drop (k + 1)).map OpAt.op = (m.drop (k + 1)).map OpAt.op)) := by
            show _ = _
            rw [HE.out]
            rw [Bool.eq_iff_iff, decide_eq_true_iff, decide_eq_true_iff, HDR.out]
            exact ⟨fun h => h.2, fun h => ⟨of_decide_eq_true HBB.out.symm, h⟩⟩
          clear HDR HE HBB
          go_wp2_with fail
          go_roundw
          case rel => exact ⟨k + 1, by omega, by go_num, HB3, HEN⟩
          case measure => simp [intOf]; omega
        | false =>
          have HEN : Hid (decide (l.map OpAt.op = m.map OpAt.op) = false) := by
            show _ = _
            rw [HE.out, decide_eq_false_iff_not, HDR.out]
            exact fun h => of_decide_eq_false HBB.out.symm h.1
          clear HDR HE HBB
          go_wp2_with fail
          go_ret
          exact ⟨by rw [HEN.out]; rfl, HB3.out⟩
      · have k1 : ¬ (k : Int) < (l.length : Int) := by omega
        have HEN : Hid (decide (l.map OpAt.op = m.map OpAt.op) = true) := by
          show _ = _
          rw [HE.out, List.drop_of_length_le (by omega), List.drop_of_length_le (by have := HLM.out; omega)]
          rfl
        go_wp2_with fail
        go_ret
        exact ⟨by rw [HEN.out]; rfl, HB.out⟩
  · have e0 : ((l.length : Int) != (m.length : Int)) = true := by simp; omega
    have HEN : Hid (decide (l.map OpAt.op = m.map OpAt.op) = false) := by
      show _ = _
      rw [decide_eq_false_iff_not]
      intro h
      have := congrArg List.length h
      simp at this
      exact hlm this
    clear hlm
    go_enter Tryz.func31, Tryz.ntmps31
    go_wp2_with fail
    go_ret
    exact ⟨by rw [HEN.out]; rfl, Below.refl _ _⟩
end SameOps
end Go.Proofs.YtnmmnejoldbeiaaGreatDoor
/- The two documents are the same, part by part: by the contracts. Conditions: the documents are right. -/
namespace Go.Proofs.YtnmmnejoldbeiaaGreatDoor
open Go.RowKit
set_option linter.unusedVariables false
namespace Twin
theorem rcells {w w3 : World} {B b1 b2 : Nat} {s : LDoc} {S1 S2 : List Nat} {D1 : DLay} {D2 : RLay} (h : Twin w B b1 b2 s s w3 S1 S2 D1 D2) (W : World) (hb : Below w3.heap.size w3 W) : W.cell? ⟨b2, 0, none⟩ = some (.slice D2.a1 s.book.length D2.c1) ∧ W.cell? ⟨b2, 1, none⟩ = some (.slice D2.a2 s.marks.length D2.c2) ∧ W.cell? ⟨b2, 2, none⟩ = some (.slice D2.a3 s.known.length D2.c3) ∧ W.cell? ⟨b2, 3, none⟩ = some (.slice D2.a4 s.ops.length D2.c4) := by
  have h1 := (h.two.below hb).blk
  exact ⟨by rw [h1.cell]; rfl, by rw [h1.cell]; rfl, by rw [h1.cell]; rfl, by rw [h1.cell]; rfl⟩
variable {w w3 : World} {B b1 b2 : Nat} {s : LDoc} {S1 S2 : List Nat} {D1 : DLay} {D2 : RLay} (h : Twin w B b1 b2 s s w3 S1 S2 D1 D2) (ok : s.Ok)
include h ok
theorem books (W : World) (hb : Below w3.heap.size w3 W) : Calls Tryz.prog 22 #[.pointer (some ⟨b1, 0, none⟩)] W (fun e w' => ∃ V c, e = .returned (.slice V s.book.length c) ∧ Below w3.heap.size w3 w' ∧
    ∀ W2, Below w'.heap.size w' W2 → Calls Tryz.prog 21 #[.slice V s.book.length c, .slice D2.a1 s.book.length D2.c1] W2 (fun e w4 => e = .returned (.bool true) ∧ Below w3.heap.size w3 w4)) := by
  refine (book_doc W _ _ _ _ _ (h.one.below hb) ok).mono ?_
  rintro e w' ⟨V, c, rfl, hO, hb2⟩
  have hb3 := hb.trans (hb2.mono hb.size)
  refine ⟨V, c, rfl, hb3, fun W2 hW2 => ?_⟩
  have hb4 := hb3.trans (hW2.mono hb3.size)
  exact (leafs_same W2 V D2.a1 c D2.c1 s.book (hO.below hW2).reads (h.two.below hb4).book.row (by have := ok.book.few; omega)).mono fun e w4 hh => ⟨hh.1, hb4.trans (hh.2.mono hb4.size)⟩
theorem markss (W : World) (hb : Below w3.heap.size w3 W) : Calls Tryz.prog 24 #[.pointer (some ⟨b1, 0, none⟩)] W (fun e w' => ∃ V c, e = .returned (.slice V s.marks.length c) ∧ Below w3.heap.size w3 w' ∧
    ∀ W2, Below w'.heap.size w' W2 → Calls Tryz.prog 23 #[.slice V s.marks.length c, .slice D2.a2 s.marks.length D2.c2] W2 (fun e w4 => e = .returned (.bool true) ∧ Below w3.heap.size w3 w4)) := by
  refine (marks_doc W _ _ _ _ _ (h.one.below hb) ok).mono ?_
  rintro e w' ⟨V, c, rfl, hO, hb2⟩
  have hb3 := hb.trans (hb2.mono hb.size)
  refine ⟨V, c, rfl, hb3, fun W2 hW2 => ?_⟩
  have hb4 := hb3.trans (hW2.mono hb3.size)
  exact (marks_same W2 V D2.a2 c D2.c2 s.marks (hO.below hW2).reads (h.two.below hb4).marks.row (by have := ok.marks.few; omega)).mono fun e w4 hh => ⟨hh.1, hb4.trans (hh.2.mono hb4.size)⟩
theorem knowns (W : World) (hb : Below w3.heap.size w3 W) : Calls Tryz.prog 26 #[.pointer (some ⟨b1, 0, none⟩)] W (fun e w' => ∃ V c, e = .returned (.slice V s.known.length c) ∧ Below w3.heap.size w3 w' ∧
    ∀ W2, Below w'.heap.size w' W2 → Calls Tryz.prog 25 #[.slice V s.known.length c, .slice D2.a3 s.known.length D2.c3] W2 (fun e w4 => e = .returned (.bool true) ∧ Below w3.heap.size w3 w4)) := by
  refine (known_doc W _ _ _ _ _ (h.one.below hb) ok).mono ?_
  rintro e w' ⟨V, c, rfl, hO, hb2⟩
  have hb3 := hb.trans (hb2.mono hb.size)
  refine ⟨V, c, rfl, hb3, fun W2 hW2 => ?_⟩
  have hb4 := hb3.trans (hW2.mono hb3.size)
  exact (ints_same W2 V D2.a3 c D2.c3 s.known (hO.below hW2).reads (h.two.below hb4).known.reads (by have := (vec_ok ok.known).1; omega)).mono fun e w4 hh => ⟨hh.1, hb4.trans (hh.2.mono hb4.size)⟩
theorem opss (W : World) (hb : Below w3.heap.size w3 W) : Calls Tryz.prog 81 #[.pointer (some ⟨b1, 0, none⟩)] W (fun e w' => ∃ V c, e = .returned (.slice V s.ops.length c) ∧ Below w3.heap.size w3 w' ∧
    ∀ W2, Below w'.heap.size w' W2 → Calls Tryz.prog 31 #[.slice V s.ops.length c, .slice D2.a4 s.ops.length D2.c4] W2 (fun e w4 => e = .returned (.bool true) ∧ Below w3.heap.size w3 w4)) := by
  refine (ops_doc W _ _ _ _ _ (h.one.below hb) ok).mono ?_
  rintro e w' ⟨V, c, zs, rfl, hz, hO, hb2⟩
  have hb3 := hb.trans (hb2.mono hb.size)
  refine ⟨V, c, rfl, hb3, fun W2 hW2 => ?_⟩
  have hb4 := hb3.trans (hW2.mono hb3.size)
  have hd := h.two.below hb4
  have hl : zs.length = s.ops.length := by rw [← hz, List.length_map]
  have hl2 := hd.ys_len
  have few := ok.few
  have hseen : ∀ o ∈ s.ops, o.seen.length ≤ 40 := fun o ho => (op_ok (ok.ops o ho).1).2.2.2.2.2.2.1
  have key := SameOps.any W2 V D2.a4 c D2.c4 zs D2.ys (hO.row.below hW2).reads (by rw [hl2]; exact hd.ops.reads)
    (fun y hy => ⟨((hO.seen y hy).below hW2).reads, by have := hseen y.op (by rw [← hz]; exact List.mem_map.2 ⟨y, hy, rfl⟩); omega⟩)
    (fun y hy => ⟨(hd.seen y hy).row, by have := hseen y.op (by rw [← hd.same]; exact List.mem_map.2 ⟨y, hy, rfl⟩); omega⟩) (by omega) (by omega)
  rw [hz, hd.same, decide_eq_true rfl, hl, hl2] at key
  exact key.mono fun e w4 hh => ⟨hh.1, hb4.trans (hh.2.mono hb4.size)⟩
theorem texts (W : World) (hb : Below w3.heap.size w3 W) : Calls Tryz.prog 13 #[.pointer (some ⟨b1, 0, none⟩)] W (fun e w' => e = .returned (.string (textOf s.book)) ∧ Below w3.heap.size w3 w') :=
  (text_doc W _ _ _ _ _ (h.one.below hb) ok).mono fun e w' hh => ⟨hh.1, hb.trans (hh.2.mono hb.size)⟩
end Twin
end Go.Proofs.YtnmmnejoldbeiaaGreatDoor
/- leafref1.Vector, leafref2.Lacks, walked. Conditions: the rows can be read. -/
namespace Go.Proofs.YtnmmnejoldbeiaaGreatDoor
open Go.RowKit
set_option linter.unusedVariables false
theorem any_take {l : List Int} {k : Nat} (hk : k < l.length) : (l.take (k + 1)).any badN = ((l.take k).any badN || badN l[k]) := by
  rw [List.take_succ_eq_append_getElem hk, List.any_append]
  simp
set_option maxRecDepth 100000 in
set_option maxHeartbeats 4000000 in
theorem rvector_any (w : World) (A : Option Addr) (c : Nat) (l : List Int) (h : Reads w w.heap.size 1 A l.length (ints l)) (hn : l.length ≤ 9223372036854775807) :
    Calls Tryz.prog 27 #[.slice A l.length c] w fun e w' => e = .returned (.int .i64 (vecErr l)) ∧ w' = w := by
  by_cases h8 : l.length = 8
  · have g8 : ((l.length : Int) != 8) = false := by simp [h8]
    have HE : Hid (vecErr l = if l.any badN then 1 else 0) := if_neg (by omega)
    have HR := Lib.hid h
    have H8 := Lib.hid h8
    clear h h8
    go_enter Tryz.func27, Tryz.ntmps27
    go_wp2_with fail
    clear g8
    go_loop [3] (fun i => ∃ k : Nat, k ≤ 8 ∧ i = .int .i64 k ∧ Hid ((l.take k).any badN = false)) (fun i => 8 - (intOf i).toNat)
    case atStart => exact ⟨0, by omega, rfl, by show _ = _; simp⟩
    case round =>
      obtain ⟨k, hk, rfl, HK⟩ := hrel
      have k0 : (0 : Int) ≤ (k : Int) := by omega
      by_cases hlt : k < 8
      · have k1 : (k : Int) < 8 := by omega
        have hkl : k < l.length := by have := H8.out; omega
        have k2 : (k : Int) < (l.length : Int) := by omega
        obtain ⟨ad, rfl, _, c0⟩ := HR.out.int hkl
        have HT := Lib.hid (any_take hkl)
        have hbad : Hid (badN l[k] = true → l.any badN = true) := fun hb => List.any_eq_true.2 ⟨_, List.getElem_mem hkl, hb⟩
        have HBN : Hid (badN l[k] = (decide (l[k] < 0) || decide (l[k] > 9999))) := by
          show _ = _
          unfold badN
          first | rfl | (rw [Bool.eq_iff_iff]; simp)
        have q1 : IntKind.i64.wrap ((k : Int) + 1) = ((k + 1 : Nat) : Int) := by rw [IntWalk.i64_in _ (by omega)]; omega
        generalize l[k] = x at *
        by_cases h0 : x < 0
        · have HF : Hid (vecErr l = 1) := by
            show _ = _
            rw [HE.out, if_pos (hbad.out (by rw [HBN.out]; simp [h0]))]
          clear HBN hbad HT
          go_wp2
          go_ret
          exact ⟨by rw [HF.out]; rfl, rfl⟩
        · by_cases h9 : 9999 < x
          · have HF : Hid (vecErr l = 1) := by
              show _ = _
              rw [HE.out, if_pos (hbad.out (by rw [HBN.out]; simp [h9]))]
            clear HBN hbad HT
            go_wp2
            go_ret
            exact ⟨by rw [HF.out]; rfl, rfl⟩
          · have HN : Hid ((l.take (k + 1)).any badN = false) := by
              show _ = _
              rw [HT.out, HK.out, HBN.out]
              simp; omega
            clear HBN hbad HT
            go_wp2
            go_round
            case rel => exact ⟨k + 1, by omega, rfl, HN⟩
            case measure => simp [intOf]; omega
      · obtain rfl : k = 8 := by omega
        have k1 : ¬ ((8 : Nat) : Int) < 8 := by omega
        have HF : Hid (vecErr l = 0) := by
          show _ = _
          have := HK.out
          rw [← H8.out, List.take_length] at this
          rw [HE.out, this]
          rfl
        go_wp2
        go_ret
        exact ⟨by rw [HF.out]; rfl, rfl⟩
  · have g8 : ((l.length : Int) != 8) = true := by simp; omega
    have HE : Hid (vecErr l = 3) := if_pos h8
    clear h8 h
    go_enter Tryz.func27, Tryz.ntmps27
    go_wp2_with fail
    go_ret
    exact ⟨by rw [HE.out]; rfl, rfl⟩
set_option maxRecDepth 100000 in
set_option maxHeartbeats 4000000 in
theorem rlacks_any (w : World) (A : Option Addr) (c : Nat) (l : List OpAt) (K : Option Addr) (ck : Nat) (v : List Int) (h : Reads w w.heap.size 6 A l.length (ocells l)) (hg : ∀ y ∈ l, dotErr y.op.dot = 0) (hl : l.length ≤ 100000) (hv : Reads w w.heap.size 1 K v.length (ints v)) (hv8 : v.length = 8) :
    Calls Tryz.prog 29 #[.slice A l.length c, .slice K v.length ck] w (LacksPost w l v) := by
  have HR := Lib.hid h
  have HV := Lib.hid hv
  have HG := Lib.hid hg
  have HV8 := Lib.hid hv8
  clear h hv hg hv8
  go_enter Tryz.func29, Tryz.ntmps29
  go_wp2_with fail
  go_loopw [5, 6] (fun o i wr => LacksLoop w l v o i wr) (fun _ i _ => l.length - (intOf i).toNat)
  case atStart => exact ⟨0, 0, none, Nat.zero_le _, rfl, rfl, Own.nil _ _ _ _, Below.refl _ _⟩
  case round =>
    obtain ⟨k, cv, V, hk, rfl, rfl, HO, HB⟩ := hrel
    have k0 : (0 : Int) ≤ (k : Int) := by omega
    by_cases hlt : k < l.length
    · have k1 : (k : Int) < (l.length : Int) := by omega
      obtain ⟨ad, rfl, _, d0, d1, d2, d3, d4, d5⟩ := (HR.out.below HB.out).op hlt
      have HDD : Hid (∀ W, Below wr.heap.size wr W → W.cell? (ad.add (k * 6)) = some (.int .i64 l[k].op.dot.who) ∧ W.cell? ⟨(ad.add (k * 6)).block, (ad.add (k * 6)).off + 1, none⟩ = some (.int .i64 l[k].op.dot.n) ∧ W.cell? ⟨(ad.add (k * 6)).block, (ad.add (k * 6)).off + 2, none⟩ = some (.int .i64 l[k].op.what) ∧
          W.cell? ⟨(ad.add (k * 6)).block, (ad.add (k * 6)).off + 3, none⟩ = some (.string l[k].op.place) ∧ W.cell? ⟨(ad.add (k * 6)).block, (ad.add (k * 6)).off + 4, none⟩ = some (.int .i64 l[k].op.letter) ∧ W.cell? ⟨(ad.add (k * 6)).block, (ad.add (k * 6)).off + 5, none⟩ = some (.slice l[k].at_ l[k].op.seen.length l[k].cap)) := fun W hW => by
        obtain ⟨a', e, _, hh⟩ := (HR.out.below (HB.out.trans (hW.mono HB.out.size))).op hlt
        injection e with e
        subst e
        exact hh
      have HT := Lib.hid (lacksO_take (v := v) hlt)
      have hll : (lacksO (l.take k) v).length ≤ k := by have := List.length_filter_le (fun y : OpAt => lacksB v y.op) (l.take k); unfold lacksO; rw [List.length_take] at this; omega
      obtain ⟨j, hj, hw, n1, n2⟩ := dot_in (HG.out _ (List.getElem_mem hlt))
      have hj8 : j < v.length := by have := HV8.out; omega
      obtain ⟨av, rfl, _, c0⟩ := (HV.out.below HB.out).int hj8
      have hnof : nOf v l[k].op.dot = v[j] := by
        unfold nOf
        rw [hw, show ((j : Int) + 1 - 1).toNat = j by omega]
        simp [List.getD, hj8]
      have hlb : lacksB v l[k].op = decide (v[j] < l[k].op.dot.n) := by unfold lacksB; rw [hnof]
      rw [hlb] at HT
      have HRO := Lib.hid (fun (W : World) (N : Nat) (hN : W.heap.size = N) => reads_op_at W N hN l[k])
      have HON := Lib.hid (ocells_one [l[k]])
      have hF : Fits ((lacksO (l.take k) v).length + 1) 72 := Fits.of_small (by omega) (by decide)
      generalize lacksO (l.take k) v = rs at *
      generalize l[k] = y at *
      obtain ⟨⟨⟨who, n⟩, what, p, letter, seen⟩, ya, yc⟩ := y
      unfold LOp.cells at HRO
      simp only at d0 d1 d2 d3 d4 d5 hw HT HRO HON HDD
      subst hw
      have q1 : IntKind.i64.wrap ((j : Int) + 1 - 1) = (j : Int) := by rw [IntWalk.i64_in _ (by omega)]; omega
      have q2 : IntKind.i64.wrap ((k : Int) + 1) = ((k + 1 : Nat) : Int) := by rw [IntWalk.i64_in _ (by omega)]; omega
      have j0 : (0 : Int) ≤ (j : Int) := by omega
      have j1 : (j : Int) < (v.length : Int) := by omega
      have hsz : w.heap.size ≤ wr.heap.size := HB.out.size
      clear hnof hlb
      generalize v[j] = u at *
      by_cases hlk : u < n
      · have g1 : decide (n > u) = true := decide_eq_true hlk
        have g2 : decide (u < n) = true := decide_eq_true hlk
        rw [decide_eq_true hlk] at HT
        simp only [if_true] at HT
        clear hlk
        go_wp2_with fail
        go_quiet (fail)
        have HB2 : Hid (Below wr.heap.size wr (wr.drewN nq)) := below_drewN (Below.refl _ _) _
        have HOX := Lib.hid (HO.out.drewN nq)
        generalize wr.drewN nq = w2 at *
        have HBX : Hid (Below w.heap.size w w2) := HB.out.trans (HB2.out.mono HB.out.size)
        have hsz2 : w.heap.size ≤ w2.heap.size := HBX.out.size
        clear d0 d1 d2 d3 d4 d5 c0
        obtain ⟨d0, d1, d2, d3, d4, d5⟩ := HDD.out _ HB2.out
        go_wp2_with (at_builtin; go_loud (refine wpList_app _ (.tmp 30) (.tmp 35) rfl rfl elemO_ rfl rfl (HOX.out.alloc _) (HRO.out _ _ (by simp)) HON.out hF (by simp; omega) ?_; intro V2 cv2 w4 HO4 HL4 HX4; have HOn := Lib.hid HO4; have HBn : Hid (Below w.heap.size w w4) := (HBX.out.alloc HBX.out.size _).trans (HL4.below (by simp; have := HBX.out.size; omega) (fun g hg => (HOX.out.lt g hg).1)); clear HO4 HL4 HX4))
        go_roundw
        case rel => exact ⟨k + 1, cv2, V2, by omega, by go_num, by rw [HT.out]; simp, by rw [HT.out, ocells_app, List.length_append]; exact HOn, HBn⟩
        case measure => simp [intOf]; omega
      · have g1 : decide (n > u) = false := decide_eq_false hlk
        have g2 : decide (u < n) = false := decide_eq_false hlk
        rw [decide_eq_false hlk] at HT
        simp only [Bool.false_eq_true, if_false] at HT
        clear hlk
        go_wp2_with fail
        go_quiet (fail)
        go_wp2_with fail
        go_roundw
        case rel => exact ⟨k + 1, cv, V, by omega, by go_num, by rw [HT.out], by rw [HT.out]; exact HO.out.drewN _, below_drewN HB.out _⟩
        case measure => simp [intOf]; omega
    · have k1 : ¬ (k : Int) < (l.length : Int) := by omega
      obtain rfl : k = l.length := by omega
      rw [List.take_length] at HO ⊢
      go_wp2_with fail
      go_ret
      exact ⟨V, cv, rfl, HO.out, HB.out⟩
end Go.Proofs.YtnmmnejoldbeiaaGreatDoor
/- Four documents, two of the program, two of the reference, beside each other. Conditions: the ops can be read. -/
namespace Go.Proofs.YtnmmnejoldbeiaaGreatDoor
open Go.RowKit
set_option linter.unusedVariables false
/-- The two documents, made from world wA on, to which the same ops were applied. -/
def PlayN (w wA : World) (B b1 b2 n : Nat) (wr : World) : Prop := ∃ st S1 S2 D1 D2, Twin w B b1 b2 st st wr S1 S2 D1 D2 ∧ st.Ok ∧ Says st.ops st ∧ st.ops.length ≤ n ∧ Below wA.heap.size wA wr ∧ (∀ g ∈ S1, wA.heap.size ≤ g) ∧ ∀ g ∈ S2, wA.heap.size ≤ g
def PlayNRound (w wA : World) (B b1 b2 : Nat) (i : Value) (wr : World) : Prop := ∃ k : Nat, k ≤ 60 ∧ i = .int .i64 k ∧ Hid (PlayN w wA B b1 b2 k wr)
theorem PlayN.more {w wA wr : World} {B b1 b2 n m : Nat} (h : PlayN w wA B b1 b2 n wr) (hm : n ≤ m) : PlayN w wA B b1 b2 m wr := by
  obtain ⟨st, S1, S2, D1, D2, h1, h2, h3, h4, h5⟩ := h
  exact ⟨st, S1, S2, D1, D2, h1, h2, h3, by omega, h5⟩
theorem PlayN.below {w wA wr : World} {B b1 b2 n : Nat} (h : PlayN w wA B b1 b2 n wr) : Below w.heap.size w wr := by
  obtain ⟨st, S1, S2, D1, D2, h1, _⟩ := h
  exact h1.below
theorem PlayN.step {w wA wr w' : World} {B b1 b2 n : Nat} (h : PlayN w wA B b1 b2 n wr) (hb : Below wr.heap.size wr w') : PlayN w wA B b1 b2 n w' := by
  obtain ⟨st, S1, S2, D1, D2, h1, h2, h3, h4, h5, h6⟩ := h
  exact ⟨st, S1, S2, D1, D2, h1.step hb, h2, h3, h4, h5.trans (hb.mono h5.size), h6⟩
theorem PlayN.round {w wA wr : World} {B b1 b2 n : Nat} (h : PlayN w wA B b1 b2 n wr) {A : Option Addr} {ys : List OpAt} (hr : Reads w w.heap.size 6 A ys.length (ocells ys)) (hg : ∀ y ∈ ys, y.Good w) {k : Nat} (hk : k < ys.length) :
    ∃ ad who nn what p letter seen ya yc, A = some ad ∧ Below w.heap.size w wr ∧ Hid (∀ W, Below w.heap.size w W → W.cell? (ad.add (k * 6)) = some (.int .i64 who) ∧ W.cell? ⟨(ad.add (k * 6)).block, (ad.add (k * 6)).off + 1, none⟩ = some (.int .i64 nn) ∧ W.cell? ⟨(ad.add (k * 6)).block, (ad.add (k * 6)).off + 2, none⟩ = some (.int .i64 what) ∧
      W.cell? ⟨(ad.add (k * 6)).block, (ad.add (k * 6)).off + 3, none⟩ = some (.string p) ∧ W.cell? ⟨(ad.add (k * 6)).block, (ad.add (k * 6)).off + 4, none⟩ = some (.int .i64 letter) ∧ W.cell? ⟨(ad.add (k * 6)).block, (ad.add (k * 6)).off + 5, none⟩ = some (.slice ya seen yc)) ∧
      Hid (Calls Tryz.prog 19 #[.pointer (some ⟨b2, 0, none⟩), .agg #[.int .i64 who, .int .i64 nn, .int .i64 what, .string p, .int .i64 letter, .slice ya seen yc]] wr (fun e w1 => ∃ (is : Bool) (ke : Int), e = .returned (.tuple #[.bool is, .int .i64 ke]) ∧ Below w.heap.size w w1 ∧
        Calls Tryz.prog 58 #[.pointer (some ⟨b1, 0, none⟩), .agg #[.int .i64 who, .int .i64 nn, .int .i64 what, .string p, .int .i64 letter, .slice ya seen yc]] w1 (fun e w2 => e = .returned (.tuple #[.bool is, errV ke]) ∧ PlayN w wA B b1 b2 (n + 1) w2))) := by
  obtain ⟨st, S1, S2, D1, D2, hd, hok, hs, hl, hbA, hn1, hn2⟩ := h
  obtain ⟨ad, rfl, hcel⟩ : ∃ ad, A = some ad ∧ ∀ W, Below w.heap.size w W → W.cell? (ad.add (k * 6)) = some (.int .i64 ys[k].op.dot.who) ∧ W.cell? ⟨(ad.add (k * 6)).block, (ad.add (k * 6)).off + 1, none⟩ = some (.int .i64 ys[k].op.dot.n) ∧ W.cell? ⟨(ad.add (k * 6)).block, (ad.add (k * 6)).off + 2, none⟩ = some (.int .i64 ys[k].op.what) ∧
      W.cell? ⟨(ad.add (k * 6)).block, (ad.add (k * 6)).off + 3, none⟩ = some (.string ys[k].op.place) ∧ W.cell? ⟨(ad.add (k * 6)).block, (ad.add (k * 6)).off + 4, none⟩ = some (.int .i64 ys[k].op.letter) ∧ W.cell? ⟨(ad.add (k * 6)).block, (ad.add (k * 6)).off + 5, none⟩ = some (.slice ys[k].at_ ys[k].op.seen.length ys[k].cap) := by
    obtain ⟨ad, e, _⟩ := hr.op hk
    refine ⟨ad, e, fun W hW => ?_⟩
    obtain ⟨ad', e', _, hh⟩ := (hr.below hW).op hk
    rw [e] at e'
    injection e' with e'
    subst e'
    exact hh
  have hgood := fun W (hW : Below w.heap.size w W) => (hg _ (List.getElem_mem hk)).below hW
  have hps := (hgood wr hd.below).2.1
  have hbase := hd.base
  have HA := rapply_doc wr _ _ _ _ _ hd.two hok hs ys[k].op ys[k].at_ ys[k].cap (by unfold maxLen at hps; omega) (Seat.of_arg (hg _ (List.getElem_mem hk)).1 hd.below hd.base (fun g hg => (hd.two.own g (hd.two.sub g hg)).1))
  refine ⟨ad, _, _, _, _, _, _, _, _, rfl, hd.below, hcel, HA.mono ?_⟩
  rintro e w1 ⟨rfl, ht⟩
  obtain ⟨S', D', hd', ho', hn'⟩ := hd.right ht
  refine ⟨_, _, rfl, hd'.below, ?_⟩
  have HA2 := apply_doc w1 _ _ _ _ _ hd'.one hok ys[k].op ys[k].at_ ys[k].cap (by unfold maxLen at hps; omega) (hgood w1 hd'.below).1 (fun hn g hgg hm => by
    obtain ⟨ad2, e2, hlt, _⟩ := (hg _ (List.getElem_mem hk)).1.2 hn
    rw [e2] at hgg; simp [ob] at hgg
    have := (hd'.one.own g hm).1; omega)
  refine HA2.mono ?_
  rintro e w2 ⟨rfl, ht2⟩
  obtain ⟨S'', D'', hd'', ho'', hn''⟩ := hd'.left ht2
  have z1 := hbA.size
  have z2 := ho'.size
  have hbA1 : Below wA.heap.size wA w1 := hbA.trans (ho'.below z1 (fun g hg => hn2 g (hd.two.sub g hg)))
  have hbA2 : Below wA.heap.size wA w2 := hbA1.trans (ho''.below hbA1.size (fun g hg => hn1 g hg))
  refine ⟨rfl, _, S'', S', D'', D', hd'', LDoc.apply_ok hok _, LDoc.apply_says hok hs _, ?_, hbA2, fun g hg => ?_, fun g hg => ?_⟩
  rotate_left
  · rcases hn'' g hg with h | h
    · exact hn1 g h
    · omega
  · rcases hn' g hg with h | h
    · exact hn2 g h
    · omega
  rcases LDoc.apply_three (d := st) ys[k].op with ⟨_, _, q⟩ | ⟨_, _, q⟩ | ⟨_, _, q⟩
  · rw [q]; simp; omega
  · rw [q]; omega
  · rw [q]; omega
set_option maxRecDepth 100000 in
set_option maxHeartbeats 8000000 in
theorem both_n (w wA : World) (hwA : Below w.heap.size w wA) (A0 : Option Addr) (c0 : Nat) (ys : List OpAt) (hglob : Glob w) (h0 : Reads w w.heap.size 6 A0 ys.length (ocells ys)) (hg : ∀ y ∈ ys, y.Good w) (hn0 : ys.length ≤ 9223372036854775807) :
    Calls Tryz.prog 32 #[.slice A0 ys.length c0] wA (fun e w' => ∃ b1 b2, e = .returned (.tuple #[.pointer (some ⟨b1, 0, none⟩), .pointer (some ⟨b2, 0, none⟩), .bool true]) ∧ PlayN w wA w.heap.size b1 b2 60 w') := by
  have HR0 := Lib.hid h0
  have HG := Lib.hid hg
  have HGL := Lib.hid hglob
  have HN := Lib.hid (new_doc wA)
  have HWA := Lib.hid hwA
  clear h0 hg hglob hwA
  go_enter Tryz.func32, Tryz.ntmps32
  go_wp2_with fail
  refine HN.out.mono ?_
  rintro e w1 ⟨b1, S1, D1, rfl, hd1, hb1⟩
  have HD1 := Lib.hid hd1
  have HB1 := Lib.hid hb1
  have HRN := Lib.hid (rnew_doc w1)
  clear hd1 hb1 HN
  go_wp2_with fail
  refine HRN.out.mono ?_
  rintro e w2 ⟨b2, S2, D2, rfl, hd2, hb2⟩
  have HP2 : Hid (PlayN w wA w.heap.size b1 b2 0 w2) := by
    have hS : ∀ g ∈ S2, w1.heap.size ≤ g := fun g hg => (hd2.own g hg).1
    have hz1 := HB1.out.size
    have hz0 := HWA.out.size
    have hd1' : DocIs w1 w.heap.size S1 b1 LDoc.new D1 :=
      { HD1.out with book := HD1.out.book.mono hz0, marks := HD1.out.marks.mono hz0, known := HD1.out.known.mono hz0, ops := HD1.out.ops.mono hz0, seen := fun y hy => (HD1.out.seen y hy).mono hz0, own := fun g hg => by have := HD1.out.own g hg; omega }
    have hd2' : RDocIs w2 w.heap.size S2 b2 LDoc.new D2 :=
      { hd2 with
        book := ⟨hd2.book.row, fun hn => absurd hn (by simp [LDoc.new]), hd2.book.out⟩
        marks := ⟨hd2.marks.row, fun hn => absurd hn (by simp [LDoc.new]), hd2.marks.out⟩
        known := hd2.known.mono (by omega)
        ops := hd2.ops.mono (by omega)
        seen := fun y hy => by
          have hz := hd2.ys_len
          have : D2.ys = [] := List.eq_nil_of_length_eq_zero hz
          rw [this] at hy; cases hy
        own := fun g hg => ⟨by have := (hd2.own g hg).1; omega, (hd2.own g hg).2⟩ }
    exact ⟨LDoc.new, S1, S2, D1, D2, Twin.make (HWA.out.trans (HB1.out.mono hz0)) (Nat.le_refl _) hd1' hb2 hd2' hS, LDoc.new_ok, Says.new, Nat.zero_le _, HB1.out.trans (hb2.mono hz1), fun g hg => (HD1.out.own g hg).1, fun g hg => by have := hS g hg; omega⟩
  clear hd2 hb2 HRN HD1 HB1
  go_wp2_with fail
  go_loopw [7] (fun i wr => PlayNRound w wA w.heap.size b1 b2 i wr) (fun i _ => 60 - (intOf i).toNat)
  case atStart => exact ⟨0, by omega, rfl, HP2.out⟩
  case round =>
    obtain ⟨k, hk, rfl, HK⟩ := hrel
    have k0 : (0 : Int) ≤ (k : Int) := by omega
    by_cases h1 : k < ys.length
    · have k1 : (k : Int) < (ys.length : Int) := by omega
      by_cases h2 : k < 60
      · have k2 : (k : Int) < 60 := by omega
        obtain ⟨ad, who', nn, what, p', letter', seen, ya, yc, rfl, hbw, HCL, HC⟩ := HK.out.round HR0.out HG.out h1
        obtain ⟨d0, d1, d2, d3, d4, d5⟩ := HCL.out _ hbw
        clear hbw HK
        go_wp2_with fail
        refine HC.out.mono ?_
        rintro e w3 ⟨is, ke, rfl, hbw, hC⟩
        have HC := Lib.hid hC
        clear d0 d1 d2 d3 d4 d5 hC
        obtain ⟨d0, d1, d2, d3, d4, d5⟩ := HCL.out _ hbw
        clear hbw
        go_wp2_with fail
        refine HC.out.mono ?_
        rintro e w4 ⟨rfl, hD⟩
        have HP4 := Lib.hid hD
        have HER := Lib.hid (error_any w4 ke ke (HGL.out.below hD.below (Nat.le_refl _)))
        rw [show (ke == ke) = true by simp] at HER
        clear hD HC d0 d1 d2 d3 d4 d5
        go_wp2_with fail
        refine HER.out.mono ?_
        rintro e w5 ⟨rfl, hb5⟩
        have HPL : Hid (PlayN w wA w.heap.size b1 b2 (k + 1) w5) := HP4.out.step hb5
        have gis : (is != is) = false := by simp
        clear hb5 HER HP4
        go_wp2_with fail
        go_roundw
        case rel => exact ⟨k + 1, by omega, by go_num, HPL.out⟩
        case measure => simp [intOf]; omega
      · have k2 : ¬ (k : Int) < 60 := by omega
        have HF := Lib.hid (HK.out.more hk)
        go_wp2_with fail
        go_ret3
        exact ⟨b1, b2, rfl, HF.out⟩
    · have k1 : ¬ (k : Int) < (ys.length : Int) := by omega
      have HF := Lib.hid (HK.out.more hk)
      go_wp2_with fail
      go_ret3
      exact ⟨b1, b2, rfl, HF.out⟩
/-- Four documents that turn nothing of each other. -/
structure Quad (w : World) (B bd bc bm bo : Nat) (s1 s2 t1 t2 : LDoc) (wr : World) (Sd Sc Sm So : List Nat) (Dd Dc : DLay) (Dm Do : RLay) : Prop where
  d : DocIs wr B Sd bd s1 Dd
  c : DocIs wr B Sc bc s2 Dc
  m : RDocIs wr B Sm bm t1 Dm
  o : RDocIs wr B So bo t2 Do
  dc : ∀ g ∈ Sd, g ∉ Sc
  dm : ∀ g ∈ Sd, g ∉ Sm
  dq : ∀ g ∈ Sd, g ∉ So
  cm : ∀ g ∈ Sc, g ∉ Sm
  cq : ∀ g ∈ Sc, g ∉ So
  mo : ∀ g ∈ Dm.turns bm, g ∉ So
  om : ∀ g ∈ Do.turns bo, g ∉ Sm
  below : Below w.heap.size w wr
  base : w.heap.size ≤ B
  okd : s1.Ok
  okc : s2.Ok
  okm : t1.Ok
  oko : t2.Ok
  sm : Says t1.ops t1
  so : Says t2.ops t2
/-- The same, with the blocks hidden. -/
def Four (w : World) (B bd bc bm bo : Nat) (s1 s2 t1 t2 : LDoc) (wr : World) : Prop := ∃ Sd Sc Sm So Dd Dc Dm Do, Quad w B bd bc bm bo s1 s2 t1 t2 wr Sd Sc Sm So Dd Dc Dm Do
namespace Quad
variable {w wr w' : World} {B bd bc bm bo : Nat} {s1 s2 t1 t2 s : LDoc} {Sd Sc Sm So : List Nat} {Dd Dc : DLay} {Dm Do : RLay}
theorem step (h : Quad w B bd bc bm bo s1 s2 t1 t2 wr Sd Sc Sm So Dd Dc Dm Do) (hb : Below wr.heap.size wr w') : Quad w B bd bc bm bo s1 s2 t1 t2 w' Sd Sc Sm So Dd Dc Dm Do :=
  { h with d := h.d.below hb, c := h.c.below hb, m := h.m.below hb, o := h.o.below hb, below := h.below.trans (hb.mono h.below.size) }
/-- The one goes on. -/
theorem goD (h : Quad w B bd bc bm bo s1 s2 t1 t2 wr Sd Sc Sm So Dd Dc Dm Do) (ok : s.Ok) (ht : DocTo wr B Sd bd s w') : ∃ Sd' Dd', Quad w B bd bc bm bo s s2 t1 t2 w' Sd' Sc Sm So Dd' Dc Dm Do := by
  obtain ⟨S', D', k1, k2, k3⟩ := ht
  have key : ∀ {T : List Nat}, (∀ g ∈ T, g < wr.heap.size) → (∀ g ∈ Sd, g ∉ T) → ∀ g ∈ S', g ∉ T := fun hT hd g hg hm => by
    rcases k3 g hg with h1 | h1
    · exact hd g h1 hm
    · have := hT g hm; omega
  have lc : ∀ g ∈ Sc, g < wr.heap.size := fun g hg => (h.c.own g hg).2
  have lm : ∀ g ∈ Sm, g < wr.heap.size := fun g hg => (h.m.own g hg).2
  have lo : ∀ g ∈ So, g < wr.heap.size := fun g hg => (h.o.own g hg).2
  exact ⟨S', D', ⟨k1, h.c.only k2 (fun g hg => h.dc g hg), h.m.only k2 (fun g hg => ⟨(h.d.own g hg).1, h.dm g hg⟩), h.o.only k2 (fun g hg => ⟨(h.d.own g hg).1, h.dq g hg⟩),
    key lc h.dc, key lm h.dm, key lo h.dq, h.cm, h.cq, h.mo, h.om, h.below.trans (k2.below h.below.size (fun g hg => by have := (h.d.own g hg).1; have := h.base; omega)), h.base, ok, h.okc, h.okm, h.oko, h.sm, h.so⟩⟩
theorem swap (h : Quad w B bd bc bm bo s1 s2 t1 t2 wr Sd Sc Sm So Dd Dc Dm Do) : Quad w B bc bd bo bm s2 s1 t2 t1 wr Sc Sd So Sm Dc Dd Do Dm :=
  ⟨h.c, h.d, h.o, h.m, fun g h1 h2 => h.dc g h2 h1, h.cq, h.cm, h.dq, h.dm, h.om, h.mo, h.below, h.base, h.okc, h.okd, h.oko, h.okm, h.so, h.sm⟩
theorem goC (h : Quad w B bd bc bm bo s1 s2 t1 t2 wr Sd Sc Sm So Dd Dc Dm Do) (ok : s.Ok) (ht : DocTo wr B Sc bc s w') : ∃ Sc' Dc', Quad w B bd bc bm bo s1 s t1 t2 w' Sd Sc' Sm So Dd Dc' Dm Do := by
  obtain ⟨S', D', k⟩ := h.swap.goD ok ht
  exact ⟨S', D', k.swap⟩
/-- The blocks of what the ops of one have seen. -/
def seenB (D : RLay) (B : Nat) : List Nat := (D.ys.flatMap fun y => if 0 < y.op.seen.length then ob y.at_ else []).filter fun g => decide (B ≤ g)
theorem seen_in (h : Quad w B bd bc bm bo s1 s2 t1 t2 wr Sd Sc Sm So Dd Dc Dm Do) : ∀ g ∈ seenB Do B, g ∈ So ∧ g ∉ Do.turns bo := fun g hg => by
  unfold seenB at hg
  obtain ⟨h1, h2⟩ := List.mem_filter.1 hg
  obtain ⟨y, hy, h3⟩ := List.mem_flatMap.1 h1
  have h2 : B ≤ g := by simpa using h2
  split at h3
  · next hn =>
    rcases (h.o.seen y hy).in_ hn g h3 with h4 | h4
    · omega
    · exact ⟨h4, (h.o.seen y hy).out hn g h3⟩
  · cases h3
/-- The reference's first takes ops, whose rows may be the other one's. -/
theorem goM (h : Quad w B bd bc bm bo s1 s2 t1 t2 wr Sd Sc Sm So Dd Dc Dm Do) (ok : s.Ok) (hs : Says s.ops s) {G : List Nat} (hG : ∀ g ∈ G, g ∈ So ∧ g ∉ Do.turns bo) (ht : RDocTo wr B (Sm ++ G) bm Dm s w') :
    ∃ Sm' Dm', Quad w B bd bc bm bo s1 s2 s t2 w' Sd Sc Sm' So Dd Dc Dm' Do := by
  obtain ⟨S', D', k1, k2, k3, k4, _⟩ := ht
  have ld : ∀ g ∈ Sd, g < wr.heap.size := fun g hg => (h.d.own g hg).2
  have lc : ∀ g ∈ Sc, g < wr.heap.size := fun g hg => (h.c.own g hg).2
  have lo : ∀ g ∈ So, g < wr.heap.size := fun g hg => (h.o.own g hg).2
  have bt : ∀ g ∈ Dm.turns bm, B ≤ g := fun g hg => (h.m.own g (h.m.sub g hg)).1
  refine ⟨S', D', ⟨h.d.only k2 (fun g hg hm => h.dm g hm (h.m.sub g hg)), h.c.only k2 (fun g hg hm => h.cm g hm (h.m.sub g hg)), k1, h.o.only k2 (fun g hg => ⟨bt g hg, h.mo g hg⟩),
    h.dc, fun g hg hm => ?_, h.dq, fun g hg hm => ?_, h.cq, fun g hg hm => ?_, fun g hg hm => ?_, h.below.trans (k2.below h.below.size (fun g hg => by have := bt g hg; have := h.base; omega)), h.base, h.okd, h.okc, ok, h.oko, hs, h.so⟩⟩
  · rcases k3 g hm with h1 | h1
    · rcases List.mem_append.1 h1 with h1 | h1
      · exact h.dm g hg h1
      · exact h.dq g hg (hG g h1).1
    · have := ld g hg; omega
  · rcases k3 g hm with h1 | h1
    · rcases List.mem_append.1 h1 with h1 | h1
      · exact h.cm g hg h1
      · exact h.cq g hg (hG g h1).1
    · have := lc g hg; omega
  · rcases k4 g hg with h1 | h1
    · exact h.mo g h1 hm
    · have := lo g hm; omega
  · have hgo := h.o.sub g hg
    rcases k3 g hm with h1 | h1
    · rcases List.mem_append.1 h1 with h1 | h1
      · exact h.om g hg h1
      · exact (hG g h1).2 hg
    · have := lo g hgo; omega
end Quad
/-- The second pair was made behind the first one. -/
theorem four_make {w wA w1 w2 : World} {bd bm bc bo n1 n2 : Nat} (h1 : PlayN w wA w.heap.size bd bm n1 w1) (h2 : PlayN w w1 w.heap.size bc bo n2 w2) : ∃ s1 s2, s1.ops.length ≤ n1 ∧ s2.ops.length ≤ n2 ∧ Four w w.heap.size bd bc bm bo s1 s2 s1 s2 w2 := by
  obtain ⟨st, S1, S2, D1, D2, a1, a2, a3, a4, _⟩ := h1
  obtain ⟨st', S1', S2', D1', D2', c1, c2, c3, c4, c5, c6, c7⟩ := h2
  have b1 := a1.step c5
  have l1 : ∀ g ∈ S1, g < w1.heap.size := fun g hg => (a1.one.own g hg).2
  have l2 : ∀ g ∈ S2, g < w1.heap.size := fun g hg => (a1.two.own g hg).2
  refine ⟨st, st', a4, c4, S1, S1', S2, S2', D1, D1', D2, D2', b1.one, c1.one, b1.two, c1.two, fun g hg hm => ?_, a1.apart, fun g hg hm => ?_, fun g hg hm => ?_, c1.apart, fun g hg hm => ?_, fun g hg hm => ?_, c1.below, Nat.le_refl _, a2, c2, a2, c2, a3, c3⟩
  · have := l1 g hg; have := c6 g hm; omega
  · have := l1 g hg; have := c7 g hm; omega
  · have := l2 g hm; have := c6 g hg; omega
  · have := l2 g (a1.two.sub g hg); have := c7 g hm; omega
  · have := l2 g hm; have := c7 g (c1.two.sub g hg); omega
end Go.Proofs.YtnmmnejoldbeiaaGreatDoor
/- Four documents: one gives to another; sync.Both. By the contracts. Conditions: the documents are right. -/
namespace Go.Proofs.YtnmmnejoldbeiaaGreatDoor
open Go.RowKit
set_option linter.unusedVariables false
namespace Four
variable {w wr w' : World} {B bd bc bm bo : Nat} {s1 s2 t1 t2 : LDoc}
theorem swap (h : Four w B bd bc bm bo s1 s2 t1 t2 wr) : Four w B bc bd bo bm s2 s1 t2 t1 wr := by
  obtain ⟨Sd, Sc, Sm, So, Dd, Dc, Dm, Do, q⟩ := h
  exact ⟨_, _, _, _, _, _, _, _, q.swap⟩
theorem step (h : Four w B bd bc bm bo s1 s2 t1 t2 wr) (hb : Below wr.heap.size wr w') : Four w B bd bc bm bo s1 s2 t1 t2 w' := by
  obtain ⟨Sd, Sc, Sm, So, Dd, Dc, Dm, Do, q⟩ := h
  exact ⟨_, _, _, _, _, _, _, _, q.step hb⟩
theorem below (h : Four w B bd bc bm bo s1 s2 t1 t2 wr) : Below w.heap.size w wr := by
  obtain ⟨Sd, Sc, Sm, So, Dd, Dc, Dm, Do, q⟩ := h
  exact q.below
theorem oks (h : Four w B bd bc bm bo s1 s2 t1 t2 wr) : s1.Ok ∧ s2.Ok ∧ t1.Ok ∧ t2.Ok := by
  obtain ⟨Sd, Sc, Sm, So, Dd, Dc, Dm, Do, q⟩ := h
  exact ⟨q.okd, q.okc, q.okm, q.oko⟩
/-- The reference's first takes what the second one has. -/
theorem rgive (h : Four w B bd bc bm bo s1 s2 t1 t2 wr) : ∃ Ao co Km km,
    (∀ W, Below wr.heap.size wr W → W.cell? ⟨bo, 3, none⟩ = some (.slice Ao t2.ops.length co) ∧ W.cell? ⟨bm, 2, none⟩ = some (.slice Km t1.known.length km)) ∧
    ∀ W, Below wr.heap.size wr W → Calls Tryz.prog 29 #[.slice Ao t2.ops.length co, .slice Km t1.known.length km] W (fun e w' => ∃ V L c, e = .returned (.slice V L c) ∧ Below wr.heap.size wr w' ∧
      ∀ W2, Below w'.heap.size w' W2 → Calls Tryz.prog 35 #[.pointer (some ⟨bm, 0, none⟩), .slice V L c] W2 (fun e w4 => e = .returned (.tuple #[.int .i64 (t1.tookN (lacksR t2.ops t1.known)), .int .i64 (LDoc.gaveE t2 t1)]) ∧ Four w B bd bc bm bo s1 s2 (LDoc.gave t2 t1) t2 w4 ∧ w4.cell? ⟨bo, 3, none⟩ = some (.slice Ao t2.ops.length co) ∧ w4.cell? ⟨bm, 2, none⟩ = some (.slice Km t1.known.length km))) := by
  obtain ⟨Sd, Sc, Sm, So, Dd, Dc, Dm, Do, q⟩ := h
  refine ⟨Do.a4, Do.c4, Dm.a3, Dm.c3, fun W hW => ⟨by rw [(q.step hW).o.blk.cell]; rfl, by rw [(q.step hW).m.blk.cell]; rfl⟩, fun W hW => ?_⟩
  have qW := q.step hW
  have hlen := qW.o.ys_len
  have hfew := q.oko.few
  have hk8 : t1.known.length = 8 := (vec_ok q.okm.known).1
  have hread : Reads W W.heap.size 6 Do.a4 Do.ys.length (ocells Do.ys) := by rw [hlen]; exact qW.o.ops.reads
  have hlk := rlacks_any W Do.a4 Do.c4 Do.ys Dm.a3 Dm.c3 t1.known hread (LDoc.ops_good q.oko qW.o.same) (by omega) qW.m.known.reads hk8
  rw [hlen] at hlk
  refine hlk.mono ?_
  rintro e w' ⟨V, c, rfl, hO, hb⟩
  have hbr := hW.trans (hb.mono hW.size)
  refine ⟨V, _, c, rfl, hbr, fun W2 hW2 => ?_⟩
  have hbr2 := hbr.trans (hW2.mono hbr.size)
  have q2 := q.step hbr2
  have hW2s := hW2.size
  have hG : ∀ g ∈ Quad.seenB Do B, g ∈ So ∧ g ∉ Do.turns bo := q2.seen_in
  have hgrow := q2.m.grow (S := Quad.seenB Do B) (fun g hg => ⟨(q2.o.own g (hG g hg).1).1, (q2.o.own g (hG g hg).1).2⟩)
  have hml : (lacksO Do.ys t1.known).length ≤ Do.ys.length := List.length_filter_le _ _
  have htl : ∀ g ∈ Dm.turns bm, B ≤ g ∧ g < wr.heap.size := fun g hg => q.m.own g (q.m.sub g hg)
  have hWs := hW.size
  have key := rtake_any W2 B (Sm ++ Quad.seenB Do B) bm t1 Dm hgrow q.okm q.sm V c (lacksO Do.ys t1.known) (hO.below hW2).reads (fun _ g hg hm => by have := (hO.lt g hg).1; have := (htl g hm).2; omega)
    (fun y hy => by
      have hy2 : y ∈ Do.ys := (List.mem_filter.1 hy).1
      have hs := q2.o.seen y hy2
      refine ⟨by have := LDoc.ops_small q.oko y.op (by rw [← q.o.same]; exact List.mem_map.2 ⟨y, hy2, rfl⟩); omega, hs.row, fun hn g hg => ?_, fun hn g hg hm => ?_⟩
      · by_cases hB : g < B
        · exact .inl hB
        · refine .inr (List.mem_append.2 (.inr ?_))
          unfold Quad.seenB
          refine List.mem_filter.2 ⟨List.mem_flatMap.2 ⟨y, hy2, ?_⟩, by simpa using hB⟩
          rw [if_pos hn]; exact hg
      · rcases hs.in_ hn g hg with h1 | h1
        · have := (htl g hm).1; omega
        · exact q.mo g hm h1) (by omega)
  rw [lacksO_map, q.o.same] at key
  refine key.mono ?_
  rintro e w4 ⟨rfl, ht⟩
  obtain ⟨Sx, Dx, x1, _, _, _, x5, x6⟩ := id ht
  obtain ⟨Sm', Dm', q4⟩ := q2.goM (LDoc.doR_ok _ q.okm) (LDoc.doR_says _ q.okm q.sm) hG ht
  refine ⟨rfl, ⟨_, _, _, _, _, _, _, _, q4⟩, by rw [q4.o.blk.cell]; rfl, ?_⟩
  have hk : (t1.doR (lacksR t2.ops t1.known)).known.length = t1.known.length := by rw [hk8]; exact (vec_ok (LDoc.doR_ok (lacksR t2.ops t1.known) q.okm).known).1
  have hc : w4.cell? ⟨bm, 2, none⟩ = some (.slice Dx.a3 (t1.doR (lacksR t2.ops t1.known)).known.length Dx.c3) := by rw [x1.blk.cell]; rfl
  rw [hc, x5, x6, hk]
/-- The program's second takes what the first one has. -/
theorem give (h : Four w B bd bc bm bo s1 s2 t1 t2 wr) : Calls Tryz.prog 81 #[.pointer (some ⟨bd, 0, none⟩)] wr (fun e w1 => ∃ V1 L1 c1, e = .returned (.slice V1 L1 c1) ∧
    Calls Tryz.prog 26 #[.pointer (some ⟨bc, 0, none⟩)] w1 (fun e w2 => ∃ K L2 ck, e = .returned (.slice K L2 ck) ∧
      Calls Tryz.prog 76 #[.slice V1 L1 c1, .slice K L2 ck] w2 (fun e w3 => ∃ V3 L3 c3, e = .returned (.slice V3 L3 c3) ∧
        Calls Tryz.prog 82 #[.pointer (some ⟨bc, 0, none⟩), .slice V3 L3 c3] w3 (fun e w4 => e = .returned (.tuple #[.int .i64 (s2.tookN (lacksR s1.ops s2.known)), errV (LDoc.gaveE s1 s2)]) ∧ Four w B bd bc bm bo s1 (LDoc.gave s1 s2) t1 t2 w4)))) := by
  obtain ⟨Sd, Sc, Sm, So, Dd, Dc, Dm, Do, q⟩ := h
  refine (ops_doc wr _ _ _ _ _ q.d q.okd).mono ?_
  rintro e w1 ⟨V1, c1, z1, rfl, hz1, hO1, hb1⟩
  have hl1 : s1.ops.length = z1.length := by rw [← hz1, List.length_map]
  have hfew := q.okd.few
  refine ⟨V1, _, c1, rfl, ?_⟩
  have q1 := q.step hb1
  refine (known_doc w1 _ _ _ _ _ q1.c q.okc).mono ?_
  rintro e w2 ⟨K, ck, rfl, hK, hb2⟩
  refine ⟨K, _, ck, rfl, ?_⟩
  have q2 := q1.step hb2
  have hk8 : s2.known.length = 8 := (vec_ok q.okc.known).1
  rw [hl1]
  refine (slacks_any w2 V1 c1 z1 K ck s2.known (hO1.row.below hb2).reads (LDoc.ops_good q.okd hz1) (by omega) hK.reads hk8).mono ?_
  rintro e w3 ⟨V3, c3, rfl, hO3, hb3⟩
  refine ⟨V3, _, c3, rfl, ?_⟩
  have q3 := q2.step hb3
  have s1' := hb1.size
  have s2' := hb2.size
  have s3' := hb3.size
  have hlow : ∀ g ∈ Sc, g < wr.heap.size := fun g hg => (q.c.own g hg).2
  have hml : (lacksO z1 s2.known).length ≤ z1.length := List.length_filter_le _ _
  have key := take_any w3 B Sc bc s2 Dc q3.c q.okc V3 c3 (lacksO z1 s2.known) hO3.reads (fun _ g hg hm => by have := (hO3.lt g hg).1; have := hlow g hm; omega)
    (fun y hy => by
      have hy2 : y ∈ z1 := (List.mem_filter.1 hy).1
      have hs := ((hO1.seen y hy2).below hb2).below hb3
      exact ⟨hs.reads, by have := LDoc.ops_small q.okd y.op (by rw [← hz1]; exact List.mem_map.2 ⟨y, hy2, rfl⟩); omega, fun _ g hg hm => by have := (hs.lt g hg).1; have := hlow g hm; omega⟩) (by omega)
  rw [lacksO_map, hz1] at key
  refine key.mono ?_
  rintro e w4 ⟨rfl, ht⟩
  obtain ⟨Sc', Dc', q4⟩ := q3.goC (LDoc.doR_ok _ q.okc) ht
  exact ⟨rfl, _, _, _, _, _, _, _, _, q4⟩
set_option maxRecDepth 100000 in
set_option maxHeartbeats 4000000 in
theorem both (h : Four w B bd bc bm bo s1 s2 t1 t2 wr) :
    Calls Tryz.prog 36 #[.pointer (some ⟨bd, 0, none⟩), .pointer (some ⟨bc, 0, none⟩)] wr (fun e w' => e = .returned (.tuple #[.int .i64 (LDoc.bothN s1 s2), .int .i64 (LDoc.bothM s1 s2), errV (LDoc.bothE s1 s2)]) ∧ Four w B bd bc bm bo (LDoc.bothA s1 s2) (LDoc.gave s1 s2) t1 t2 w') := by
  have HC := Lib.hid h.give
  have HE0 : errV 0 = .nilIface := rfl
  have HNE : Hid (LDoc.gaveE s1 s2 = 0 → s2.tookN (lacksR s1.ops s2.known) = LDoc.gaveN s1 s2) := fun h => if_pos h
  generalize s2.tookN (lacksR s1.ops s2.known) = n1 at *
  clear h
  go_enter Tryz.func36, Tryz.ntmps36
  go_wp2_with fail
  refine HC.out.mono ?_
  rintro e w1 ⟨V1, L1, c1, rfl, hC⟩
  have HC := Lib.hid hC
  clear hC
  go_wp2_with fail
  refine HC.out.mono ?_
  rintro e w2 ⟨K, L2, ck, rfl, hC⟩
  have HC := Lib.hid hC
  clear hC
  go_wp2_with fail
  refine HC.out.mono ?_
  rintro e w3 ⟨V3, L3, c3, rfl, hC⟩
  have HC := Lib.hid hC
  clear hC
  by_cases he : LDoc.gaveE s1 s2 = 0
  · have HE := Lib.hid he
    rw [he] at HC
    clear he
    go_wp2_with fail
    refine HC.out.mono ?_
    rintro e w4 ⟨rfl, hs⟩
    rw [HE0]
    have HC := Lib.hid hs.swap.give
    have HNE2 : Hid (LDoc.gaveE (LDoc.gave s1 s2) s1 = 0 → s1.tookN (lacksR (LDoc.gave s1 s2).ops s1.known) = LDoc.gaveN (LDoc.gave s1 s2) s1) := fun h => if_pos h
    generalize s1.tookN (lacksR (LDoc.gave s1 s2).ops s1.known) = n2 at *
    clear hs
    go_wp2_with fail
    refine HC.out.mono ?_
    rintro e w5 ⟨V1, L1, c1, rfl, hC⟩
    have HC := Lib.hid hC
    clear hC
    go_wp2_with fail
    refine HC.out.mono ?_
    rintro e w6 ⟨K, L2, ck, rfl, hC⟩
    have HC := Lib.hid hC
    clear hC
    go_wp2_with fail
    refine HC.out.mono ?_
    rintro e w7 ⟨V3, L3, c3, rfl, hC⟩
    have HC := Lib.hid hC
    clear hC
    by_cases he2 : LDoc.gaveE (LDoc.gave s1 s2) s1 = 0
    · have HA := Lib.hid (LDoc.both_all HE.out he2)
      have H2 := Lib.hid (HNE2.out he2)
      rw [he2] at HC
      clear he2
      go_wp2_with fail
      refine HC.out.mono ?_
      rintro e w8 ⟨rfl, hs⟩
      rw [HE0]
      have HSF := Lib.hid hs.swap
      clear hs HC
      go_wp2_with fail
      go_ret3
      obtain ⟨a1, a2, a3, a4⟩ := HA.out
      exact ⟨by rw [a1, a3, a4, ← HNE.out HE.out, ← H2.out]; rfl, by rw [a2]; exact HSF.out⟩
    · have HA := Lib.hid (LDoc.both_two HE.out he2)
      have HV := Lib.hid (errV_ne he2)
      clear he2
      go_wp2_with fail
      refine HC.out.mono ?_
      rintro e w8 ⟨rfl, hs⟩
      rw [HV.out]
      have HSF := Lib.hid hs.swap
      clear hs HC
      go_wp2_with fail
      go_ret3
      obtain ⟨a1, a2, a3, a4⟩ := HA.out
      exact ⟨by rw [a1, a3, a4, HV.out]; rfl, by rw [a2]; exact HSF.out⟩
  · have HA := Lib.hid (LDoc.both_one he)
    have HV := Lib.hid (errV_ne he)
    clear he
    go_wp2_with fail
    refine HC.out.mono ?_
    rintro e w8 ⟨rfl, hs⟩
    rw [HV.out]
    have HSF := Lib.hid hs
    clear hs HC
    go_wp2_with fail
    go_ret3
    obtain ⟨a1, a2, a3, a4⟩ := HA.out
    exact ⟨by rw [a1, a3, a4, HV.out]; rfl, by rw [a2]; exact HSF.out⟩
/-- What the reference's first lacks of a vector, packed. -/
theorem rparc (h : Four w B bd bc bm bo s1 s2 t1 t2 wr) (K : Option Addr) (ck : Nat) (v : List Int) (hv : Reads wr wr.heap.size 1 K v.length (ints v)) (hv0 : vecErr v = 0) : ∃ Am cm,
    wr.cell? ⟨bm, 3, none⟩ = some (.slice Am t1.ops.length cm) ∧
    Calls Tryz.prog 29 #[.slice Am t1.ops.length cm, .slice K v.length ck] wr (fun e w' => ∃ V L c, e = .returned (.slice V L c) ∧
      Calls Tryz.prog 33 #[.slice V L c] w' (fun e w4 => e = .returned (.string (t1.parcR v)) ∧ Four w B bd bc bm bo s1 s2 t1 t2 w4)) := by
  obtain ⟨Sd, Sc, Sm, So, Dd, Dc, Dm, Do, q⟩ := h
  refine ⟨Dm.a4, Dm.c4, by rw [q.m.blk.cell]; rfl, ?_⟩
  have hlen := q.m.ys_len
  have hfew := q.okm.few
  have hread : Reads wr wr.heap.size 6 Dm.a4 Dm.ys.length (ocells Dm.ys) := by rw [hlen]; exact q.m.ops.reads
  have hlk := rlacks_any wr Dm.a4 Dm.c4 Dm.ys K ck v hread (LDoc.ops_good q.okm q.m.same) (by omega) hv (vec_ok hv0).1
  rw [hlen] at hlk
  refine hlk.mono ?_
  rintro e w' ⟨V, c, rfl, hO, hb⟩
  refine ⟨V, _, c, rfl, ?_⟩
  have q2 := q.step hb
  have hml : (lacksO Dm.ys v).length ≤ Dm.ys.length := List.length_filter_le _ _
  have hgood : opsErr ((lacksO Dm.ys v).map OpAt.op) = 0 := opsErr_of (fun o ho => by
    obtain ⟨y, hy, rfl⟩ := List.mem_map.1 ho
    exact (q.okm.ops y.op (by rw [← q.m.same]; exact List.mem_map.2 ⟨y, (List.mem_filter.1 hy).1, rfl⟩)).1)
  refine (rpack_any w' V c (lacksO Dm.ys v) hO.reads (fun y hy => (q2.m.seen y (List.mem_filter.1 hy).1).row) (by omega) hgood).mono ?_
  rintro e w4 ⟨rfl, hb4⟩
  refine ⟨?_, _, _, _, _, _, _, _, _, q2.step hb4⟩
  have hg2 := hgood
  rw [lacksO_map, q.m.same] at hg2
  have hpe : packErr (lacksR t1.ops v) = 0 := by
    unfold packErr
    rw [if_neg (by have := List.length_filter_le (lacksB v) t1.ops; unfold lacksR; omega)]
    exact hg2
  rw [lacksO_map, q.m.same]
  unfold LDoc.parcR packRes
  rw [if_neg (by simp [hv0]), if_pos hpe]
end Four
end Go.Proofs.YtnmmnejoldbeiaaGreatDoor
/- Four documents: parcels, and what is the same. By the contracts. Conditions: the documents are right. -/
namespace Go.Proofs.YtnmmnejoldbeiaaGreatDoor
open Go.RowKit
set_option linter.unusedVariables false
theorem both_num {a b : LDoc} (h : LDoc.bothE a b = 0) : b.tookN (lacksR a.ops b.known) = LDoc.bothN a b ∧ a.tookN (lacksR (LDoc.gave a b).ops a.known) = LDoc.bothM a b := by
  have hg : LDoc.gaveE a b = 0 := by
    by_cases hz : LDoc.gaveE a b = 0
    · exact hz
    · unfold LDoc.bothE at h
      rw [if_pos hz] at h
      exact absurd h hz
  have hg2 : LDoc.gaveE (LDoc.gave a b) a = 0 := by
    unfold LDoc.bothE at h
    rw [if_neg (fun x => x hg)] at h
    exact h
  obtain ⟨_, _, h3, h4⟩ := LDoc.both_all hg hg2
  exact ⟨(if_pos hg : b.tookN (lacksR a.ops b.known) = LDoc.gaveN a b).trans h3.symm, (if_pos hg2 : a.tookN (lacksR (LDoc.gave a b).ops a.known) = LDoc.gaveN (LDoc.gave a b) a).trans h4.symm⟩
namespace Four
variable {w wr w' : World} {B bd bc bm bo : Nat} {s1 s2 t1 t2 : LDoc}
theorem parcel (h : Four w B bd bc bm bo s1 s2 t1 t2 wr) (K : Option Addr) (ck : Nat) (v : List Int) (hv : Reads wr wr.heap.size 1 K v.length (ints v)) (hvl : v.length ≤ 9223372036854775807) :
    Calls Tryz.prog 34 #[.pointer (some ⟨bd, 0, none⟩), .slice K v.length ck] wr (fun e w' => e = .returned (.tuple #[.string (s1.parcR v), errV (vecErr v)]) ∧ Four w B bd bc bm bo s1 s2 t1 t2 w') := by
  obtain ⟨Sd, Sc, Sm, So, Dd, Dc, Dm, Do, q⟩ := h
  have hpe : s1.parcE v = vecErr v := by
    unfold LDoc.parcE
    by_cases hz : vecErr v = 0
    · rw [if_neg (by simp [hz]), hz]
      unfold packErr
      have hfew := q.okd.few
      rw [if_neg (by have := List.length_filter_le (lacksB v) s1.ops; unfold lacksR; omega)]
      exact opsErr_of (fun o ho => (q.okd.ops o (List.mem_filter.1 ho).1).1)
    · rw [if_pos hz]
  have := parcel_any wr _ _ _ _ _ q.d q.okd K ck v hv hvl
  rw [hpe] at this
  exact this.mono fun e w' ⟨h1, h2⟩ => ⟨h1, _, _, _, _, _, _, _, _, q.step h2⟩
theorem openD (h : Four w B bd bc bm bo s1 s2 t1 t2 wr) (s : ByteArray) :
    Calls Tryz.prog 38 #[.pointer (some ⟨bd, 0, none⟩), .string s] wr (fun e w' => e = .returned (.tuple #[.int .i64 (s1.openN s), errV (s1.openE s)]) ∧ Four w B bd bc bm bo (s1.openR s) s2 t1 t2 w') := by
  obtain ⟨Sd, Sc, Sm, So, Dd, Dc, Dm, Do, q⟩ := h
  refine (open_any wr _ _ _ _ _ q.d q.okd s).mono ?_
  rintro e w' ⟨rfl, ht⟩
  obtain ⟨Sd', Dd', q2⟩ := q.goD (by unfold LDoc.openR; split; exact q.okd; exact LDoc.doR_ok _ q.okd) ht
  exact ⟨rfl, _, _, _, _, _, _, _, _, q2⟩
theorem openM (h : Four w B bd bc bm bo s1 s2 t1 t2 wr) (s : ByteArray) (hm : s.size ≤ 9223372036854775807) :
    Calls Tryz.prog 37 #[.pointer (some ⟨bm, 0, none⟩), .string s] wr (fun e w' => e = .returned (.tuple #[.int .i64 (t1.openN s), .int .i64 (t1.openE s)]) ∧ Four w B bd bc bm bo s1 s2 (t1.openR s) t2 w') := by
  obtain ⟨Sd, Sc, Sm, So, Dd, Dc, Dm, Do, q⟩ := h
  refine (ropen_any wr _ _ _ _ _ q.m q.okm q.sm s hm).mono ?_
  rintro e w' ⟨rfl, ht⟩
  have okr : (t1.openR s).Ok := by
    unfold LDoc.openR
    split
    · exact q.okm
    · exact LDoc.doR_ok _ q.okm
  have sar : Says (t1.openR s).ops (t1.openR s) := by
    unfold LDoc.openR
    split
    · exact q.sm
    · exact LDoc.doR_says _ q.okm q.sm
  obtain ⟨Sm', Dm', q2⟩ := q.goM (G := []) okr sar (by simp) (by rw [List.append_nil]; exact ht)
  exact ⟨rfl, _, _, _, _, _, _, _, _, q2⟩
/-- The books of the first two are the same. -/
theorem books (h : Four w B bd bc bm bo s1 s2 s1 t2 wr) : ∃ Am cm, (∀ W, Below wr.heap.size wr W → W.cell? ⟨bm, 0, none⟩ = some (.slice Am s1.book.length cm)) ∧
    ∀ W, Below wr.heap.size wr W → Calls Tryz.prog 22 #[.pointer (some ⟨bd, 0, none⟩)] W (fun e w' => ∃ V L c, e = .returned (.slice V L c) ∧ Below wr.heap.size wr w' ∧
      ∀ W2, Below w'.heap.size w' W2 → Calls Tryz.prog 21 #[.slice V L c, .slice Am s1.book.length cm] W2 (fun e w4 => e = .returned (.bool true) ∧ Below wr.heap.size wr w4)) := by
  obtain ⟨Sd, Sc, Sm, So, Dd, Dc, Dm, Do, q⟩ := h
  refine ⟨Dm.a1, Dm.c1, fun W hW => by rw [(q.step hW).m.blk.cell]; rfl, fun W hW => ?_⟩
  refine (book_doc W _ _ _ _ _ (q.step hW).d q.okd).mono ?_
  rintro e w' ⟨V, c, rfl, hO, hb2⟩
  have hb3 := hW.trans (hb2.mono hW.size)
  refine ⟨V, _, c, rfl, hb3, fun W2 hW2 => ?_⟩
  have hb4 := hb3.trans (hW2.mono hb3.size)
  exact (leafs_same W2 V Dm.a1 c Dm.c1 s1.book (hO.below hW2).reads (q.step hb4).m.book.row (by have := q.okd.book.few; omega)).mono fun e w4 hh => ⟨hh.1, hb4.trans (hh.2.mono hb4.size)⟩
end Four
end Go.Proofs.YtnmmnejoldbeiaaGreatDoor
/- sync.Lacks, walked: its copy, own down to the dots. Conditions: the ops can be read. -/
namespace Go.Proofs.YtnmmnejoldbeiaaGreatDoor
open Go.RowKit
set_option linter.unusedVariables false
/-- The first fault of some ops. -/
def opsFault : List LOp → Int
  | [] => 0
  | o :: t => if opErr o ≠ 0 then opErr o else opsFault t
theorem opsFault_zero : ∀ {l : List LOp}, (∀ o ∈ l, opErr o = 0) → opsFault l = 0
  | [], _ => rfl
  | o :: t, h => by rw [opsFault, if_neg (by have := h o (by simp); omega)]; exact opsFault_zero (fun x hx => h x (by simp [hx]))
theorem opsFault_drop {l : List LOp} {k : Nat} (hk : k < l.length) : opsFault (l.drop k) = if opErr l[k] ≠ 0 then opErr l[k] else opsFault (l.drop (k + 1)) := by
  rw [List.drop_eq_getElem_cons hk, opsFault]
theorem opsFault_mdrop {l : List OpAt} {k : Nat} (hk : k < l.length) : opsFault ((l.drop k).map OpAt.op) = if opErr l[k].op ≠ 0 then opErr l[k].op else opsFault ((l.drop (k + 1)).map OpAt.op) := by
  rw [List.drop_eq_getElem_cons hk, List.map_cons, opsFault]
theorem opsFault_ok : ∀ {l : List LOp}, opsFault l = 0 → ∀ o ∈ l, opErr o = 0
  | [], _ => by simp
  | o :: t, h => by
    unfold opsFault at h
    split at h
    · rename_i h1; exact absurd h h1
    · rename_i h1
      intro x hx
      rcases List.mem_cons.1 hx with rfl | hx
      · omega
      · exact opsFault_ok h x hx
def lackE (l : List LOp) (v : List Int) : Int := if vecErr v ≠ 0 then vecErr v else if 400 < l.length then 4 else opsFault l
def giveO (k : Int) (l : List LOp) : List LOp := if k = 0 then l else []
/-- Midway: the ops so far, each with dots of its own. -/
structure OutMid (w : World) (l : List OpAt) (V : Option Addr) (c : Nat) (zs : List OpAt) (k : Nat) (wr : World) : Prop where
  below : Below w.heap.size w wr
  own : OwnOps wr w.heap.size V c zs
  same : zs.map OpAt.op = (l.take k).map OpAt.op
  rest : opsFault (l.map OpAt.op) = opsFault ((l.drop k).map OpAt.op)
def OutLoop (w : World) (l : List OpAt) (o i : Value) (wr : World) : Prop := ∃ (k c : Nat) (V : Option Addr) (zs : List OpAt), k ≤ l.length ∧ i = .int .i64 k ∧ o = .slice V zs.length c ∧ Hid (OutMid w l V c zs k wr)
def OutPost (w : World) (l : List LOp) (k : Int) (e : Ending) (w' : World) : Prop :=
  ∃ V c zs, e = .returned (.tuple #[.slice V zs.length c, errV k]) ∧ zs.map OpAt.op = l ∧ OwnOps w' w.heap.size V c zs ∧ Below w.heap.size w w'
theorem out_bad {w w' : World} {k : Int} (hb : Below w.heap.size w w') : OutPost w [] k (.returned (.tuple #[.slice none 0 0, errV k])) w' := ⟨none, 0, [], rfl, rfl, ⟨Own.nil _ _ _ _, by simp⟩, hb⟩
theorem OutMid.step {w wr w2 w3 w4 : World} {l : List OpAt} {V : Option Addr} {c : Nat} {zs : List OpAt} {k : Nat} (h : OutMid w l V c zs k wr) (hk : k < l.length) (he : opErr l[k].op = 0) (hb2 : Below wr.heap.size wr w2) {Vd : Option Addr} {cd : Nat} (hd : Own w2 wr.heap.size 27 2 Vd l[k].op.seen.length cd (dcells l[k].op.seen))
    {b : Nat} (hbx : wr.heap.size ≤ b) (hnb : ∀ g ∈ ob Vd, g ≠ b) (h3 : Only [b] w2 w3) {V2 : Option Addr} {c2 : Nat} (hO : Own w4 w.heap.size 30 6 V2 (zs.length + 1) c2 (ocells zs ++ ocells [⟨l[k].op, Vd, cd⟩])) (h4 : Only (ob V) w3 w4) :
    OutMid w l V2 c2 (zs ++ [⟨l[k].op, Vd, cd⟩]) (k + 1) w4 := by
  have s0 := h.below.size
  have s2 := hb2.size
  have s3 := h3.size
  have hbelow : Below w.heap.size w w4 := ((h.below.trans (hb2.mono s0)).trans (h3.below (by omega) (fun g hg => by simp at hg; omega))).trans (h4.below (by omega) (fun g hg => (h.own.row.lt g hg).1))
  have ho4 : Only (b :: ob V) w2 w4 := (h3.mono (fun i hi => by simp at hi; simp [hi])).trans (h4.mono (fun i hi => by simp [hi]))
  have hdn : ∀ {A : Option Addr} {n cc : Nat} {xs : List Value}, Own wr w.heap.size 27 2 A n cc xs → Own w4 w.heap.size 27 2 A n cc xs := fun {A n cc xs} hx => (hx.below hb2).only ho4 (fun g hg hm => by
    rcases List.mem_cons.1 hm with h1 | h1
    · have := (hx.lt g hg).2; omega
    · rcases h.own.row.2 with ⟨h2, _⟩ | ⟨g', cap, cur, hh, _, hbk, _⟩
      · injection h2 with h2; rw [h2] at h1; simp [ob] at h1
      · injection hh with hh; rw [hh] at h1; simp [ob] at h1; subst h1
        exact hx.blk_ne (t := 30) hbk (by decide) hg)
  refine ⟨hbelow, ⟨by rw [List.length_append, ocells_app]; exact hO, fun z hz => ?_⟩, ?_, ?_⟩
  · rcases List.mem_append.1 hz with hz | hz
    · exact hdn (h.own.seen z hz)
    · simp at hz; subst hz
      refine (hd.only ho4 (fun g hg hm => ?_)).mono s0
      rcases List.mem_cons.1 hm with h1 | h1
      · exact hnb g hg h1
      · have := (h.own.row.lt g h1).2; have := (hd.lt g hg).1; omega
  · rw [List.map_append, h.same, List.take_succ_eq_append_getElem hk, List.map_append]; rfl
  · rw [h.rest, opsFault_mdrop hk, if_neg (by omega)]
set_option maxRecDepth 100000 in
set_option maxHeartbeats 8000000 in
theorem lacks_any (w : World) (A : Option Addr) (c : Nat) (l : List OpAt) (K : Option Addr) (ck : Nat) (v : List Int) (h : Reads w w.heap.size 6 A l.length (ocells l)) (hs : ∀ y ∈ l, Reads w w.heap.size 2 y.at_ y.op.seen.length (dcells y.op.seen)) (hp : ∀ y ∈ l, y.op.place.size ≤ 9223372036854775807) (hl : l.length ≤ 9223372036854775807)
    (hv : Reads w w.heap.size 1 K v.length (ints v)) (hvl : v.length ≤ 9223372036854775807) :
    Calls Tryz.prog 30 #[.slice A l.length c, .slice K v.length ck] w (OutPost w (giveO (lackE (l.map OpAt.op) v) (lacksR (l.map OpAt.op) v)) (lackE (l.map OpAt.op) v)) := by
  have HR := Lib.hid h
  have HS := Lib.hid hs
  have HP := Lib.hid hp
  have HV := Lib.hid hv
  have HC := Lib.hid (vector_any w K ck v hv hvl)
  have HE0 : errV 0 = .nilIface := rfl
  clear h hs hp hv
  by_cases he : vecErr v = 0
  · rw [he, HE0] at HC
    have hv8 := (vec_ok he).1
    have HV8 := Lib.hid hv8
    by_cases hfew : 400 < l.length
    · have HF : Hid (lackE (l.map OpAt.op) v = 4) := by show _ = _; unfold lackE; rw [if_neg (by omega), if_pos (by simpa using hfew)]
      have hgt : (400 : Int) < (l.length : Int) := by omega
      have hgd : decide ((l.length : Int) > 400) = true := decide_eq_true hgt
      clear he hfew hv8
      go_enter Tryz.func30, Tryz.ntmps30
      go_wp2_with fail
      refine HC.out.mono ?_
      rintro e w1 ⟨rfl, rfl⟩
      go_wp2_with fail
      go_ret2
      rw [HF.out]
      exact out_bad (Below.refl _ _)
    · have HF : Hid (lackE (l.map OpAt.op) v = opsFault (l.map OpAt.op)) := by show _ = _; unfold lackE; rw [if_neg (by omega), if_neg (by simpa using hfew)]
      have hle : ¬ (400 : Int) < (l.length : Int) := by omega
      have hl4 : l.length ≤ 400 := by omega
      clear he hfew hv8
      go_enter Tryz.func30, Tryz.ntmps30
      go_wp2_with fail
      refine HC.out.mono ?_
      rintro e w1 ⟨rfl, rfl⟩
      have HM0 : Hid (OutMid w1 l none 0 [] 0 w1) := ⟨Below.refl _ _, ⟨Own.nil _ _ _ _, by simp⟩, rfl, rfl⟩
      go_wp2_with fail
      go_loopw [7, 22] (fun o i wr => OutLoop w1 l o i wr) (fun _ i _ => l.length - (intOf i).toNat)
      case atStart => exact ⟨0, 0, none, [], Nat.zero_le _, rfl, rfl, HM0.out⟩
      case round =>
        obtain ⟨k, cz, V, zs, hk, rfl, rfl, HM⟩ := hrel
        have k0 : (0 : Int) ≤ (k : Int) := by omega
        have hzl : zs.length ≤ k := by have := congrArg List.length HM.out.same; simp at this; omega
        by_cases hlt : k < l.length
        · have k1 : (k : Int) < (l.length : Int) := by omega
          obtain ⟨ad, rfl, _, d0, d1, d2, d3, d4, d5⟩ := (HR.out.below HM.out.below).op hlt
          have HNX := Lib.hid (fun he w2 w3 w4 hb2 Vd cd hd b hbx hnb h3 V2 c2 hO h4 => HM.out.step (w2 := w2) (w3 := w3) (w4 := w4) hlt he hb2 (Vd := Vd) (cd := cd) hd (b := b) hbx hnb h3 (V2 := V2) (c2 := c2) hO h4)
          have HBW := Lib.hid HM.out.below
          have HRS := Lib.hid (HS.out _ (List.getElem_mem hlt))
          have HPS := Lib.hid (HP.out _ (List.getElem_mem hlt))
          have HRST : Hid (opsFault (l.map OpAt.op) = if opErr l[k].op ≠ 0 then opErr l[k].op else opsFault ((l.drop (k + 1)).map OpAt.op)) := by
            show _ = _
            rw [HM.out.rest, opsFault_mdrop hlt]
          have HOZ := Lib.hid HM.out.own.row
          have hF : Fits (zs.length + 1) 72 := Fits.of_small (by omega) (by decide)
          generalize l[k] = y at *
          obtain ⟨W0, hW0⟩ : ∃ W0, W0 = wr.alloc (.cells (y.op.cells y.at_ y.cap) 30) := ⟨_, rfl⟩
          have hbX : Below wr.heap.size wr W0 := by rw [hW0]; exact (Below.refl _ _).alloc (Nat.le_refl _) _
          have hbk : Blk W0 wr.heap.size 30 (y.op.cells y.at_ y.cap) := by rw [hW0]; exact Blk.new wr _ _
          have HBK := Lib.hid hbk
          have HBX := Lib.hid hbX
          have hrs0 := ((HRS.out.below HBW.out).more HBW.out.size)
          have HCK := Lib.hid (opCheck_any W0 y.at_ y.cap y.op ((hrs0.below hbX).more hbX.size) HPS.out)
          have HRD := Lib.hid (fun W (hb : Below wr.heap.size wr W) => (hrs0.below hb).more hb.size)
          clear hbk hbX hrs0 HRS HPS
          by_cases he : opErr y.op = 0
          · obtain ⟨_, _, _, _, _, _, hs40, _⟩ := op_ok he
            have HE := Lib.hid he
            rw [he, HE0] at HCK
            have hFd : Fits (0 + y.op.seen.length) 16 := Fits.of_small (by omega) (by decide)
            clear he HRST
            obtain ⟨⟨⟨who, n⟩, what, p, letter, seen⟩, ya, yc⟩ := y
            unfold LOp.cells at hW0 HBK
            unfold LOp.val at HCK
            simp only at d0 d1 d2 d3 d4 d5 hW0 HBK HCK HRD HNX hs40 hFd
            have b0 : W0.cell? ⟨wr.heap.size, 0, none⟩ = some (.int .i64 who) := HBK.out.cell 0
            have b1 : W0.cell? ⟨wr.heap.size, 1, none⟩ = some (.int .i64 n) := HBK.out.cell 1
            have b2 : W0.cell? ⟨wr.heap.size, 2, none⟩ = some (.int .i64 what) := HBK.out.cell 2
            have b3 : W0.cell? ⟨wr.heap.size, 3, none⟩ = some (.string p) := HBK.out.cell 3
            have b4 : W0.cell? ⟨wr.heap.size, 4, none⟩ = some (.int .i64 letter) := HBK.out.cell 4
            have b5 : W0.cell? ⟨wr.heap.size, 5, none⟩ = some (.slice ya seen.length yc) := HBK.out.cell 5
            go_wp2_with fail
            rw [← hW0]
            clear hW0
            refine HCK.out.mono ?_
            rintro e w2 ⟨rfl, hb2⟩
            have HB2 := Lib.hid (HBX.out.trans (hb2.mono HBX.out.size))
            have HBK2 := Lib.hid (HBK.out.below hb2 HBK.out.lt)
            have hb2s : wr.heap.size < w2.heap.size := Nat.lt_of_lt_of_le HBK.out.lt hb2.size
            clear hb2 b0 b1 b2 b3 b4 b5 d0 d1 d2 d3 d4 d5 HCK
            have b5 : w2.cell? ⟨wr.heap.size, 5, none⟩ = some (.slice ya seen.length yc) := HBK2.out.cell 5
            have HDS := Lib.hid (HRD.out w2 HB2.out)
            have HOD := Lib.hid (oneCells_d seen)
            have HNI : Hid (Own w2 w2.heap.size 27 2 none 0 0 []) := Own.nil _ _ _ _
            have HOS : Hid (∀ (w3 : World) (u : Value), Only [] w2 w3 → Own (w3.setCell ⟨wr.heap.size, 5, none⟩ u) w1.heap.size 30 6 V zs.length cz (ocells zs)) := fun w3 u ho => ((HOZ.out.below HB2.out).only ho (by simp)).only ((Only.refl [wr.heap.size] w3).setCell (p := ⟨wr.heap.size, 5, none⟩) (.inl (by simp)) u) (fun g hg hm => by
              have := (HOZ.out.lt g hg).2; simp at hm; omega)
            have HRO := Lib.hid (fun (W : World) (N : Nat) (hN : W.heap.size = N) (Vd : Option Addr) (cd : Nat) => reads_op_at W N hN ⟨⟨⟨who, n⟩, what, p, letter, seen⟩, Vd, cd⟩)
            unfold LOp.cells at HRO
            simp only at HRO
            have hsw : w1.heap.size ≤ wr.heap.size := HBW.out.size
            have HON := Lib.hid (fun (Vd : Option Addr) (cd : Nat) => ocells_one [(⟨⟨⟨who, n⟩, what, p, letter, seen⟩, Vd, cd⟩ : OpAt)])
            go_wp2_with (first
              | (at_builtin; refine wpList_app _ (.const (.slice none 0 0)) (.tmp 32) rfl rfl elemD_ rfl rfl HNI.out HDS.out HOD.out hFd (Nat.le_refl _) ?_; intro Vd cd w3 HOd HLd HXd; have HLn : Hid (Only [] w2 w3) := HLd; have HBK3 := Lib.hid (HLn.out.blk HBK2.out (by simp)); have hs3 : w2.heap.size ≤ w3.heap.size := HLn.out.size
                 have e0 : w3.cell? ⟨wr.heap.size, 0, none⟩ = some (.int .i64 who) := HBK3.out.cell 0
                 have e1 : w3.cell? ⟨wr.heap.size, 1, none⟩ = some (.int .i64 n) := HBK3.out.cell 1
                 have e2 : w3.cell? ⟨wr.heap.size, 2, none⟩ = some (.int .i64 what) := HBK3.out.cell 2
                 have e3 : w3.cell? ⟨wr.heap.size, 3, none⟩ = some (.string p) := HBK3.out.cell 3
                 have e4 : w3.cell? ⟨wr.heap.size, 4, none⟩ = some (.int .i64 letter) := HBK3.out.cell 4
                 have e5 : w3.cell? ⟨wr.heap.size, 5, none⟩ = some (.slice ya seen.length yc) := HBK3.out.cell 5
                 have f5 := HBK3.out.frozen 5
                 have HODn := Lib.hid HOd; clear HOd HLd HXd)
              | (at_builtin; go_loud (refine wpList_app _ (.tmp 35) (.tmp 37) rfl rfl elemO_ rfl rfl ((HOS.out _ _ HLn.out).alloc _) (HRO.out _ _ (by simp [World.setCell]) _ _) (HON.out _ _) hF (by simp [World.setCell]; omega) ?_; intro V2 cv2 w4 HO4 HL4 HX4; have HFIN := Lib.hid (HNX.out HE.out w3 _ w4 (HB2.out.trans (HLn.out.below_nil.mono HB2.out.size)) Vd cd ((by simpa using HODn.out : Own w3 w2.heap.size 27 2 Vd seen.length cd (dcells seen)).mono (by omega)) wr.heap.size (Nat.le_refl _) (fun g hg => by have := (HODn.out.lt g hg).1; omega) (((Only.refl [wr.heap.size] w3).setCell (p := ⟨wr.heap.size, 5, none⟩) (.inl (by simp)) _).alloc _) V2 cv2 HO4 HL4); clear HO4 HL4 HX4)))
            go_roundw
            case rel => exact ⟨k + 1, cv2, V2, _, by omega, by go_num, by simp, HFIN.out⟩
            case measure => simp [intOf]; omega
          · have HV := Lib.hid (errV_ne he)
            rw [if_pos he] at HRST
            have HKE := Lib.hid he
            clear he HNX
            obtain ⟨⟨⟨who, n⟩, what, p, letter, seen⟩, ya, yc⟩ := y
            unfold LOp.cells at hW0 HBK
            unfold LOp.val at HCK
            simp only at d0 d1 d2 d3 d4 d5 hW0 HBK HCK HRD
            have b0 : W0.cell? ⟨wr.heap.size, 0, none⟩ = some (.int .i64 who) := HBK.out.cell 0
            have b1 : W0.cell? ⟨wr.heap.size, 1, none⟩ = some (.int .i64 n) := HBK.out.cell 1
            have b2 : W0.cell? ⟨wr.heap.size, 2, none⟩ = some (.int .i64 what) := HBK.out.cell 2
            have b3 : W0.cell? ⟨wr.heap.size, 3, none⟩ = some (.string p) := HBK.out.cell 3
            have b4 : W0.cell? ⟨wr.heap.size, 4, none⟩ = some (.int .i64 letter) := HBK.out.cell 4
            have b5 : W0.cell? ⟨wr.heap.size, 5, none⟩ = some (.slice ya seen.length yc) := HBK.out.cell 5
            generalize opErr ⟨⟨who, n⟩, what, p, letter, seen⟩ = ke at *
            go_wp2_with fail
            rw [← hW0]
            clear hW0
            refine HCK.out.mono ?_
            rintro e w2 ⟨rfl, hb2⟩
            rw [HV.out]
            have HB2 := Lib.hid (HBW.out.trans ((HBX.out.trans (hb2.mono HBX.out.size)).mono HBW.out.size))
            clear hb2
            go_wp2_with fail
            go_ret2
            have hz : giveO (lackE (l.map OpAt.op) v) (lacksR (l.map OpAt.op) v) = [] := by
              unfold giveO; rw [if_neg]; rw [HF.out, HRST.out]; exact HKE.out
            rw [hz, HF.out, HRST.out]
            exact (by have := out_bad (k := ke) HB2.out; rw [HV.out] at this; exact this)
        · have k1 : ¬ (k : Int) < (l.length : Int) := by omega
          obtain rfl : k = l.length := by omega
          have hsm : zs.map OpAt.op = l.map OpAt.op := by rw [HM.out.same, List.take_length]
          have hz0 : opsFault (l.map OpAt.op) = 0 := by rw [HM.out.rest, List.drop_length]; rfl
          have hgo := opsFault_ok hz0
          have HSL := Lib.hid (slacks_any wr V cz zs K ck v HM.out.own.row.reads (fun y hy => (op_ok (hgo y.op (by rw [← hsm]; exact List.mem_map.2 ⟨y, hy, rfl⟩))).1) (by omega) ((HV.out.below HM.out.below).more HM.out.below.size) HV8.out)
          have HMO := Lib.hid HM.out.own
          have HMB := Lib.hid HM.out.below
          have HFZ : Hid (lackE (l.map OpAt.op) v = 0) := by show _ = _; rw [HF.out, hz0]
          have HSM := Lib.hid hsm
          clear hsm hz0 hgo HM
          go_wp2_with fail
          refine HSL.out.mono ?_
          rintro e w2 ⟨V2, c2, rfl, hO, hb⟩
          have HB2 := Lib.hid (HMB.out.trans (hb.mono HMB.out.size))
          have HO2 := Lib.hid hO
          have HS2 : Hid (∀ z ∈ lacksO zs v, Own w2 w1.heap.size 27 2 z.at_ z.op.seen.length z.cap (dcells z.op.seen)) := fun z hz => (HMO.out.seen z (List.mem_filter.1 hz).1).below hb
          have hsz : w1.heap.size ≤ wr.heap.size := HMB.out.size
          clear hb hO HSL
          go_wp2_with fail
          go_ret2
          rw [HFZ.out]
          exact ⟨V2, c2, lacksO zs v, rfl, by rw [lacksO_map, HSM.out]; rfl, ⟨HO2.out.mono hsz, HS2.out⟩, HB2.out⟩
  · have HEV := Lib.hid (errV_ne he)
    have HF : Hid (lackE (l.map OpAt.op) v = vecErr v) := if_pos he
    have HG : Hid (giveO (vecErr v) (lacksR (l.map OpAt.op) v) = []) := if_neg he
    clear he
    generalize vecErr v = ke at *
    go_enter Tryz.func30, Tryz.ntmps30
    go_wp2_with fail
    refine HC.out.mono ?_
    rintro e w1 ⟨rfl, rfl⟩
    rw [HEV.out]
    go_wp2_with fail
    go_ret2
    rw [HF.out, HG.out]
    have := out_bad (k := ke) (Below.refl w1.heap.size w1)
    rw [HEV.out] at this
    exact this
end Go.Proofs.YtnmmnejoldbeiaaGreatDoor
/- The end of a line as plain data: what the program's package link does, and how it lies in memory. Conditions: none. -/
namespace Go.Proofs.YtnmmnejoldbeiaaGreatDoor
open Go.RowKit

structure LEnd where
  win : Nat
  wait : Nat
  data : List ByteArray
  acked : Nat
  said : Nat
  ticks : Nat
  got : List ByteArray
  owes : Bool

structure LFrame where
  ack : Bool
  seq : Int
  data : ByteArray

def LFrame.cells (f : LFrame) : List Value := [.bool f.ack, .int .i64 f.seq, .string f.data]
def fcells (l : List LFrame) : List Value := l.flatMap LFrame.cells
theorem fcells_append (a b : List LFrame) : fcells (a ++ b) = fcells a ++ fcells b := by simp [fcells]
theorem fcells_len (l : List LFrame) : (fcells l).length = l.length * 3 := by
  induction l with
  | nil => rfl
  | cons f l ih => simp [fcells, LFrame.cells] at ih ⊢; omega
theorem oneCells_f (l : List LFrame) : OneCells (fcells l) := by
  intro u hu
  obtain ⟨f, _, h⟩ := List.mem_flatMap.1 hu
  simp only [LFrame.cells, List.mem_cons, List.not_mem_nil, or_false] at h
  rcases h with rfl | rfl | rfl <;> rfl

def LEnd.new (win wait : Nat) : LEnd := ⟨win, wait, [], 0, 0, 0, [], false⟩
def LEnd.send (st : LEnd) (s : ByteArray) : LEnd := { st with data := st.data ++ [s] }
/-- How many frames of data it may say, from the first that is not acknowledged. -/
def LEnd.wide (st : LEnd) : Nat := min st.win st.data.length
/-- How many of these it passes over, as it said them already. -/
def LEnd.skip (st : LEnd) : Nat := if st.wait ≤ st.ticks then 0 else max st.said st.acked - st.acked
def LEnd.frame (st : LEnd) (j : Nat) : LFrame := ⟨false, st.acked + j + 1, st.data.getD j ⟨#[]⟩⟩
def LEnd.ackFrames (st : LEnd) : List LFrame := if st.owes then [⟨true, st.got.length, ⟨#[]⟩⟩] else []
def LEnd.outFrames (st : LEnd) : List LFrame := st.ackFrames ++ (List.range' st.skip (st.wide - st.skip)).map st.frame
def LEnd.out (st : LEnd) : LEnd := { st with owes := false, ticks := if st.skip < st.wide then 0 else st.ticks, said := max st.said (st.acked + st.wide) }
def LEnd.tick (st : LEnd) : LEnd := { st with ticks := st.ticks + 1 }
/-- What is wrong with a frame that is heard. -/
def LEnd.hearErr (st : LEnd) (f : LFrame) : Int :=
  if f.ack then (if f.seq < 0 ∨ (st.said : Int) < f.seq then 1 else if f.data.size ≠ 0 then 3 else 0)
  else (if f.seq < 1 then 1 else if 200 < f.data.size then 4 else 0)
def LEnd.hear (st : LEnd) (f : LFrame) : LEnd :=
  if st.hearErr f ≠ 0 then st
  else if f.ack then (if (st.acked : Int) < f.seq then { st with data := st.data.drop (f.seq.toNat - st.acked), acked := f.seq.toNat } else st)
  else { st with got := if f.seq = st.got.length + 1 then st.got ++ [f.data] else st.got, owes := true }

/-- What holds of each end. -/
structure LEnd.Ok (st : LEnd) : Prop where
  win1 : 1 ≤ st.win
  win2 : st.win ≤ 16
  wait1 : 1 ≤ st.wait
  wait2 : st.wait ≤ 20
  data : st.data.length ≤ 100
  acked : st.acked ≤ 100000
  said : st.said ≤ st.acked + st.data.length
  ticks : st.ticks ≤ 100000
  got : st.got.length ≤ 100000

/-- The cells of an end. -/
def LEnd.cells (st : LEnd) (A : Option Addr) (ca : Nat) (G : Option Addr) (cg : Nat) : Array Value :=
  #[.int .i64 st.win, .int .i64 st.wait, .slice A st.data.length ca, .int .i64 st.acked, .int .i64 st.said, .int .i64 st.ticks, .slice G st.got.length cg, .bool st.owes]

theorem elemS : Elem Tryz.prog 147 9 1 16 := Elem.mk_ (z := .string ⟨#[]⟩) Tryz.underlying147 (by kernel_rfl) rfl (by decide)
/-- The blocks of an end. -/
def endBlocks (b : Nat) (A G : Option Addr) : List Nat := b :: (ob A ++ ob G)
section
variable {w w' : World} {B b ca cg : Nat} {A G : Option Addr} {st : LEnd}
end
end Go.Proofs.YtnmmnejoldbeiaaGreatDoor
/- Arguments opened: texts, numbers. Plain lemmas. Conditions: none of our own. -/
namespace Go.Proofs.YtnmmnejoldbeiaaGreatDoor
open Go.RowKit Go.WideShapes Go.ChangeShapes Go.Deep
set_option linter.unusedVariables false
theorem cellsFInt : Tryz.prog.cellsOf 3 = 1 := by kernel_rfl
theorem cellsFStr : Tryz.prog.cellsOf 9 = 1 := by kernel_rfl
section
variable {H : Type} {enc : TypeId × Value → H} {w : World} {base : Nat} {spare : Nat → Bool} {held : Bool}
theorem flat_one {α : Type} (f : α → Value) (l : List α) : l.flatMap (fun x => [f x]) = l.map f := by
  induction l with
  | nil => rfl
  | cons x l ih => simp [List.flatMap_cons, ih]
set_option maxRecDepth 100000 in
theorem arg_strs {r : Reach} {b0 : Nat} {v : Value} {d : DataW H} {p : List MemPlace} (hv : Value.okWide Tryz.prog w r b0 147 v) (h : DataW.Trod enc Tryz.prog w base spare held 147 v d p) :
    ∃ (A : Option Addr) (cap : Nat) (l : List ByteArray), v = .slice A l.length cap ∧ Reads w w.heap.size 1 A l.length (strs l) ∧ (∀ y ∈ l, y.size ≤ maxLen) ∧ l.length ≤ cap ∧ cap ≤ maxLen := by
  obtain ⟨a, len, c, rfl⟩ := okWide_slice Tryz.underlying147 hv
  obtain ⟨fuel, hf⟩ := h
  obtain ⟨A, cap, l, e, hr, h2⟩ := open_list (α := ByteArray) (fun s => [.string s]) (fun s => s.size ≤ maxLen) Tryz.underlying147 cellsFStr (by decide) (fun _ => rfl) (fun _ cs _ h => by
    obtain ⟨s, e, _, hs⟩ := DataW.trod_string Tryz.underlying9 h
    exact ⟨s, e, hs⟩) hf
  rw [flat_one] at hr
  refine ⟨A, cap, l, ?_, hr, h2⟩
  have e' : [Value.slice a len c] = [.slice A l.length cap] := e
  injection e'
set_option maxRecDepth 100000 in
theorem arg_ints {r : Reach} {b0 : Nat} {v : Value} {d : DataW H} {p : List MemPlace} (hv : Value.okWide Tryz.prog w r b0 23 v) (h : DataW.Trod enc Tryz.prog w base spare held 23 v d p) :
    ∃ (A : Option Addr) (cap : Nat) (l : List Int), v = .slice A l.length cap ∧ Reads w w.heap.size 1 A l.length (l.map (Value.int .i64)) ∧ (∀ y ∈ l, I64 y) ∧ l.length ≤ cap ∧ cap ≤ maxLen := by
  obtain ⟨a, len, c, rfl⟩ := okWide_slice Tryz.underlying23 hv
  obtain ⟨fuel, hf⟩ := h
  obtain ⟨A, cap, l, e, hr, h2⟩ := open_list (α := Int) (fun s => [.int .i64 s]) I64 Tryz.underlying23 cellsFInt (by decide) (fun _ => rfl) (fun _ cs _ h => by
    obtain ⟨s, e, _, hs⟩ := DataW.trod_int Tryz.underlying3 h
    exact ⟨s, e, i64_of_wf hs⟩) hf
  rw [flat_one] at hr
  refine ⟨A, cap, l, ?_, hr, h2⟩
  have e' : [Value.slice a len c] = [.slice A l.length cap] := e
  injection e'
end
end Go.Proofs.YtnmmnejoldbeiaaGreatDoor
/- Arguments opened: frames, texts, numbers. Plain lemmas. Conditions: none of our own. -/
namespace Go.Proofs.YtnmmnejoldbeiaaGreatDoor
open Go.RowKit Go.WideShapes Go.ChangeShapes Go.Deep
set_option linter.unusedVariables false

instance : Inhabited LFrame := ⟨⟨false, 0, ⟨#[]⟩⟩⟩
def LFrame.In (x : LFrame) : Prop := x.data.size ≤ maxLen ∧ I64 x.seq
theorem cellsFBool : Tryz.prog.cellsOf 4 = 1 := by kernel_rfl
section
variable {H : Type} {enc : TypeId × Value → H} {w : World} {base : Nat} {spare : Nat → Bool} {held : Bool}
end
end Go.Proofs.YtnmmnejoldbeiaaGreatDoor
/- From a walk to a given statement: one theorem that serves every law of the seat. Conditions: none of our own. -/
namespace Go.Proofs.YtnmmnejoldbeiaaGreatDoor
open Go.RowKit Go.WideShapes Go.ChangeShapes Go.ChangeAt
set_option linter.unusedVariables false

section
variable {H : Type} {enc : TypeId × Value → H} {P : Program}

theorem post_of_below {f : Func} {s : ChangeSpec} {apart fresh handsOn again : Bool} {W W' : World} {args : Array Value} {v : Value} {ds gs : List (DataW H)} {before pa pv : List MemPlace}
    (hW : DataW.Whole enc P f.params.toList s.vars apart W args.toList ds gs before)
    (hres : ∀ (b : Nat) (sp : Nat → Bool) (hd : Bool), DataW.TrodAll enc P W' b sp hd f.resultTypes.toList (v.resultList f.resultTypes.size) (s.fn H (ds ++ gs)).results [])
    (hargs : ∀ sp : Nat → Bool, (∀ p ∈ before, sp p.block = true) → DataW.TrodAll enc P W' 0 sp true f.params.toList args.toList (s.fn H (ds ++ gs)).args pa)
    (hvars : ∀ sp : Nat → Bool, (∀ p ∈ before, sp p.block = true) → DataW.TrodVars enc P W' sp s.vars (s.fn H (ds ++ gs)).vars pv)
    (hps : before = pa ++ pv) (hb : Below W.heap.size W W')
    (hok : ∀ (j : Nat) (t : TypeId) (r : Value), f.resultTypes[j]? = some t → (v.resultList f.resultTypes.size)[j]? = some r → Value.okWide P W' .any 0 t r) :
    s.post enc P f apart fresh handsOn again W args v W' := by
  have hlt : ∀ p ∈ before, p.block < W.heap.size := fun p hp => hW.lt p hp
  have hold : ∀ p ∈ before, (fun b => decide (b < W.heap.size)) p.block = true := fun p hp => by simpa using hlt p hp
  refine ⟨ds, gs, before, [], pa, pv, hW, hres _ _ _, hargs _ hold, hvars _ hold, World.keptBut_mono (fun p hp => ⟨hp, ?_⟩) (hb.frame (· ∈ before)), fun _ => ?_⟩
  · rw [hps, List.mem_append] at hp
    exact Or.inr hp
  · obtain ⟨_, _, _, _, _, hz, hn⟩ := hW
    refine ⟨hok, _, _, ([] ++ pa) ++ pv, ⟨[] ++ pa, pv, trodAll_append (hargs _ (fun _ _ => rfl)) (hres _ _ _), hvars _ (fun _ _ => rfl), rfl, ?_, ?_⟩, ?_⟩
    · intro b off hp
      have hin : MemPlace.cell b off ∈ before := by rw [hps]; simpa using hp
      rw [hb.frozen (hlt _ hin)]
      exact hz b off hin
    · intro ha
      have := hn ha
      rw [hps] at this
      simpa using this
    · intro p hp _
      rw [hps]
      simpa using hp

theorem trodAll_below (hl : laidOutB P = true) {W W' : World} (hb : Below W.heap.size W W') {sp : Nat → Bool} :
    ∀ (ts : List TypeId) (vs : List Value) (ds : List (DataW H)) (ps : List MemPlace), (∀ t ∈ ts, P.readableRec t = true ∧ t < P.types.size) → (∀ p ∈ ps, p.block < W.heap.size) → (∀ p ∈ ps, sp p.block = true) →
      DataW.TrodAll enc P W 0 (fun _ => true) true ts vs ds ps → DataW.TrodAll enc P W' 0 sp true ts vs ds ps := by
  intro ts
  induction ts with
  | nil => intro vs ds ps _ _ _ h; cases vs <;> cases ds <;> simp_all [DataW.TrodAll]
  | cons t ts ih =>
    intro vs ds ps ht hlt hs h
    cases vs with
    | nil => simp [DataW.TrodAll] at h
    | cons v vs =>
      cases ds with
      | nil => simp [DataW.TrodAll] at h
      | cons d ds =>
        obtain ⟨p, q, h1, h2, rfl⟩ := h
        exact ⟨p, q, WideElems.Trod_stays hl (ht t (by simp)).1 (ht t (by simp)).2 h1 (fun x hx => hb.same (hlt x (by simp [hx]))) (fun x hx => hs x (by simp [hx])),
          ih vs ds q (fun t' h' => ht t' (by simp [h'])) (fun x hx => hlt x (by simp [hx])) (fun x hx => hs x (by simp [hx])) h2, rfl⟩

/-- A law: it answered true, and nothing that was there has turned. -/
theorem law_post (hl : laidOutB P = true) {f : Func} {s : ChangeSpec} {apart fresh handsOn again : Bool} {tb : TypeId} {W W' : World} {args : Array Value} {ds gs : List (DataW H)} {before : List MemPlace}
    (hr : f.resultTypes = #[tb]) (htb : P.underlying tb = some .bool) (hp : ∀ t ∈ f.params.toList, P.readableRec t = true ∧ t < P.types.size) (hv : s.vars = [])
    (hfn : s.fn H ds = { results := [.lit (.bool true)], args := ds })
    (hW : DataW.Whole enc P f.params.toList s.vars apart W args.toList ds gs before) (hb : Below W.heap.size W W') :
    s.post enc P f apart fresh handsOn again W args (.bool true) W' := by
  have hW' := hW
  obtain ⟨p, q, hA, hV, hpq, hfz, hnd⟩ := hW
  have hlt : ∀ x ∈ before, x.block < W.heap.size := fun x hx => hW'.lt x hx
  rw [hv] at hV
  obtain ⟨hgs, hq⟩ := trodVars_none hV
  subst hgs; subst hq
  simp only [List.append_nil] at hpq
  subst hpq
  refine post_of_below (pa := before) (pv := []) hW' ?_ ?_ ?_ (by simp) hb ?_
  · intro b sp hd
    rw [List.append_nil, hfn, hr]
    exact trodAll_mk1 (shut_bool htb _)
  · intro sp hs
    rw [List.append_nil, hfn]
    exact trodAll_below hl hb _ _ _ _ hp hlt hs hA
  · intro sp hs
    rw [List.append_nil, hfn, hv]
    exact rfl
  · exact ok_one hr rfl (okWide_bool_mk htb _)
end

theorem Tryz.own : ownKnob Tryz.prog.godebug = none := by kernel_rfl
theorem Tryz.laidOut : laidOutB Tryz.prog = true := by kernel_rfl
end Go.Proofs.YtnmmnejoldbeiaaGreatDoor
/- From a walk to a tied card: what serves every law of a seat whose rows list the library's one variable. Conditions: none of our own. (After the guide's worked toy on errors.As.) -/
namespace Go.Proofs.YtnmmnejoldbeiaaGreatDoor
open Go.ChangeShapes Go.WideShapes Go.RowKit
set_option linter.unusedVariables false
namespace Card

/-- What the rows list. -/
def laid : List (String × DataW Unit) := [("errors.errorType", Rows.laid_errors_errorType)]
theorem et : Tryz.prog.globalNamed "errors.errorType" = some 0 := by kernel_rfl
theorem rt : (Tryz.prog.cutTypes.find? (·.1 == "internal/reflectlite.rtype")).map (·.2) = some 238 := by kernel_rfl
theorem oneRow : ((List.range Tryz.prog.types.size).filter fun t => Tryz.prog.rowNamed t [101, 114, 114, 111, 114]) = [32] := by kernel_rfl
theorem handle : typeHandle Tryz.prog 32 = .pointer (some ⟨9, 32, none⟩) := by kernel_rfl
/-- What the condition gives a walk: the variable's one cell. -/
theorem glob_of_laid {W : World} (h : laidMetH Tryz.prog laid W) : Glob W := by
  have h' : laidMet Tryz.prog [] W ∧ handlesMet Tryz.prog laid W := h
  obtain ⟨name, u, ty, e1, e2, e3, e4, e5⟩ := h'.2 _ (List.mem_singleton.2 rfl)
  have en : name = [101, 114, 114, 111, 114] := (Option.some.inj e1).symm
  subst en
  obtain rfl := Option.some.inj (rt.symm.trans e2)
  have hm : ty ∈ (List.range Tryz.prog.types.size).filter fun t => Tryz.prog.rowNamed t [101, 114, 114, 111, 114] := List.mem_filter.2 ⟨List.mem_range.2 e3, e4⟩
  rw [oneRow] at hm
  obtain rfl := List.mem_singleton.1 hm
  rw [handle] at e5
  unfold Glob
  simpa using World.var?_cell et e5 0
/-- A world that meets the condition: the settled one, the variable's cell laid. -/
noncomputable def laidWorld (os : Os) : World :=
  let w0 := World.holding Tryz.prog os ⟨#[], #[], []⟩
  { w0 with heap := w0.heap.modify 0 fun
      | .cells _ t frozen => .cells #[.iface 238 (.agg #[.pointer (some ⟨9, 32, none⟩)])] t frozen
      | o => o }
theorem laidWorld_met (os : Os) (args : Array Value) : laidMetH Tryz.prog laid ((laidWorld os).forCall (fun _ _ => 0) ⟨#[], args, []⟩).memory :=
  laidMetH_of_parts (laidMet_nil _ _) (by kernel_rfl)
end Card
end Go.Proofs.YtnmmnejoldbeiaaGreatDoor
/- leaflaw2.SyncTells, proved: what any vector lacks of any ops; what two have of each other; parcels, made and opened. Conditions: the library's one variable holds what its text lays (the card ties it). -/
namespace Go.Proofs.YtnmmnejoldbeiaaGreatDoor
open Go.RowKit Go.WideShapes Go.ChangeShapes Go.ChangeAt
set_option linter.unusedVariables false
namespace lawSyncTells
def lackS (L : List LOp) (v : List Int) : Int := if vecErr v ≠ 0 then vecErr v else if 400 < L.length then 4 else 0
theorem lack_start (L : List LOp) (v : List Int) : lackE L v = if lackS L v ≠ 0 then lackS L v else opsFault L := by
  unfold lackE lackS
  by_cases h1 : vecErr v ≠ 0
  · rw [if_pos h1, if_pos h1, if_pos h1]
  · rw [if_neg h1, if_neg h1]
    by_cases h2 : 400 < L.length
    · rw [if_pos h2, if_pos h2, if_pos (by decide)]
    · rw [if_neg h2, if_neg h2, if_neg (by decide)]
def ELoop (L : List LOp) (w : World) (v : List Int) (n : Nat) (e i : Value) (wr : World) : Prop :=
  ∃ k : Nat, ∃ ke : Int, k ≤ n ∧ i = .int .i64 k ∧ e = .int .i64 ke ∧ Hid (lackE L v = if ke ≠ 0 then ke else opsFault (L.drop k)) ∧ Hid (Below w.heap.size w wr)
def WantS (w : World) (L : List LOp) (v : List Int) (want : Value) (wx : World) : Prop :=
  ∃ V c zs, want = .slice V (zs : List OpAt).length c ∧ zs.map OpAt.op = giveO (lackE L v) (lacksR L v) ∧ zs.length ≤ 1000000 ∧ Reads wx wx.heap.size 6 V zs.length (ocells zs) ∧ (∀ y ∈ zs, y.Good wx) ∧ Below w.heap.size w wx
/-- Where the code stands at region n. -/
def headAt (n : Nat) : Code → Bool
  | .region k _ _ => k == n
  | .seq a _ => headAt n a
  | _ => false
def fromAt (n : Nat) : Code → Option Code
  | .seq a b => if headAt n a then some (.seq a b) else match fromAt n a with
    | some c => some c
    | none => fromAt n b
  | .block _ c => fromAt n c
  | .scope c => fromAt n c
  | _ => none
noncomputable def tailCode : Code := ((Tryz.f4.body.bind (fromAt 22)).getD .skip)
set_option maxRecDepth 100000 in
set_option maxHeartbeats 8000000 in
theorem tail (w wc : World) (K : Option Addr) (ck : Nat) (v : List Int) (parcel : ByteArray) (hglob : Glob w) (hv : Reads w w.heap.size 1 K v.length (ints v)) (hnv : v.length ≤ 9223372036854775807) (hp : parcel.size ≤ 9223372036854775807)
    (bd bc bm bo : Nat) (s1 s2 : LDoc) (hf : Four w w.heap.size bd bc bm bo s1 s2 s1 s2 wc) {u0 u1 u4 u5 u6 u7 u8 u10 u11 u12 u13 u23 u24 u25 u26 u27 u28 u29 u30 u31 u32 u33 u34 u35 u36 u37 u38 u39 u40 u41 u42 u43 u44 u45 u46 u47 u48 u49 u50 u51 u52 u53 u54 u55 u56 u57 u58 u59 u60 u61 u62 u63 u64 u65 u66 u67 u68 u69 u70 u71 u72 u73 u74 u75 u76 u77 u78 u79 u80 u81 u82 u83 u84 u85 u86 u87 u88 u89 u90 u91 u92 u93 u94 u95 u96 u97 u98 u99 u100 u101 u102 u103 u104 u105 u106 u107 u108 u109 u110 u111 u112 u113 u114 u115 u116 u117 u118 u119 u120 u121 u122 u123 u124 u125 u126 u127 u128 u129 u130 u131 u132 u133 u134 u135 u136 u137 u138 u139 u140 u141 u142 u143 u144 u145 u146 u147 u148 u149 u150 u151 u152 u153 u154 u155 u156 u157 u158 u159 u160 u161 u162 u163 u164 u165 u166 u167 u168 u169 u170 u171 u172 u173 u174 u175 u176 u177 u178 u179 u180 u181 u182 u183 u184 u185 u186 u187 u188 u189 u190 u191 u192 u193 u194 u195 u196 u197 u198 u199 u200 u201 u202 u203 u204 u205 u206 u207 u208 u209 u210 u211 u212 u213 u214 u215 u216 u217 u218 u219 u220 u221 u222 u223 : Value} :
    Code.wp Tryz.prog tailCode (bodyPost Tryz.prog Tryz.f4 (CheckPost w (.bool true))) ⟨#[u0, u1, .slice K v.length ck, .string parcel, u4, u5, u6, u7, u8, .int .i64 (vecErr v), u10, u11, u12, u13, .bool true, .bool true, .pointer (some ⟨bd, 0, none⟩), .pointer (some ⟨bm, 0, none⟩), .bool true, .pointer (some ⟨bc, 0, none⟩), .pointer (some ⟨bo, 0, none⟩), .bool true, .string (s1.parcR v), u23, u24, u25, u26, u27, u28, u29, u30, u31, u32, u33, u34, u35, u36, u37, u38, u39, u40, u41, u42, u43, u44, u45, u46, u47, u48, u49, u50, u51, u52, u53, u54, u55, u56, u57, u58, u59, u60, u61, u62, u63, u64, u65, u66, u67, u68, u69, u70, u71, u72, u73, u74, u75, u76, u77, u78, u79, u80, u81, u82, u83, u84, u85, u86, u87, u88, u89, u90, u91, u92, u93, u94, u95, u96, u97, u98, u99, u100, u101, u102, u103, u104, u105, u106, u107, u108, u109, u110, u111, u112, u113, u114, u115, u116, u117, u118, u119, u120, u121, u122, u123, u124, u125, u126, u127, u128, u129, u130, u131, u132, u133, u134, u135, u136, u137, u138, u139, u140, u141, u142, u143, u144, u145, u146, u147, u148, u149, u150, u151, u152, u153, u154, u155, u156, u157, u158, u159, u160, u161, u162, u163, u164, u165, u166, u167, u168, u169, u170, u171, u172, u173, u174, u175, u176, u177, u178, u179, u180, u181, u182, u183, u184, u185, u186, u187, u188, u189, u190, u191, u192, u193, u194, u195, u196, u197, u198, u199, u200, u201, u202, u203, u204, u205, u206, u207, u208, u209, u210, u211, u212, u213, u214, u215, u216, u217, u218, u219, u220, u221, u222, u223], []⟩ wc := by
  have HGL := Lib.hid hglob
  have HV := Lib.hid hv
  have HE0 : errV 0 = .nilIface := rfl
  clear hglob hv
  conv => arg 2; whnf
  have HF8 := Lib.hid hf
  have HPC := Lib.hid (hf.parcel K ck v ((HV.out.below hf.below).more hf.below.size) hnv)
  clear hf
  generalize vecErr v = ve at *
  go_wp2_with fail
  refine HPC.out.mono ?_
  rintro e w9 ⟨rfl, hf⟩
  have HF9 := Lib.hid hf
  have HER := Lib.hid (error_any w9 ve ve (HGL.out.below hf.below (Nat.le_refl _)))
  rw [show (ve == ve) = true by simp] at HER
  clear hf HPC HF8
  go_wp2_with fail
  refine HER.out.mono ?_
  rintro e w10 ⟨rfl, hb10⟩
  have HF10 := Lib.hid (HF9.out.step hb10)
  clear hb10 HER HF9
  obtain ⟨Am, cm, Ko, ko, hcl, hL⟩ := HF10.out.swap.rgive
  have HCL := Lib.hid hcl
  have HL := Lib.hid hL
  clear hL hcl
  obtain ⟨d3, d2⟩ := HCL.out w10 (Below.refl _ _)
  obtain ⟨p2, hp2⟩ : ∃ p, p = s2.tookN (lacksR s1.ops s2.known) := ⟨_, rfl⟩
  obtain ⟨ge, hge⟩ : ∃ p, p = LDoc.gaveE s1 s2 := ⟨_, rfl⟩
  rw [← hp2, ← hge] at HL
  have HP2e := Lib.hid hp2
  have HGE := Lib.hid hge
  clear hp2 hge
  go_upto_region 24 with (fail)
  go_cut [9, 25] (fun e n wx => e = .int .i64 ge ∧ n = .int .i64 p2 ∧ Four w w.heap.size bd bc bm bo s1 s2 s1 (LDoc.gave s1 s2) wx)
  case first =>
    go_region_held3 (fun w' => w'.cell? ⟨bm, 3, none⟩ = some (.slice Am s1.ops.length cm) ∧ w'.cell? ⟨bo, 2, none⟩ = some (.slice Ko s2.known.length ko))
      (first | go_keep | (refine ⟨?_, ?_⟩ <;> assumption))
      (first
        | (go_at_call 29; refine (HL.out _ (by first | exact Below.refl _ _ | exact below_drewN (Below.refl _ _) _)).mono ?_; rintro e w11 ⟨V, L, c, rfl, hb11, hT⟩
           have HT := Lib.hid hT
           clear d3 d2
           obtain ⟨d3, d2⟩ := HCL.out w11 hb11
           clear hb11 hT)
        | (go_at_call 35; refine (HT.out _ (by first | exact Below.refl _ _ | exact below_drewN (Below.refl _ _) _)).mono ?_; rintro e w12 ⟨rfl, hf, r3, r2⟩
           have HF12 := Lib.hid hf.swap
           clear hf HT d3 d2))
    all_goals
      go_wp2_with fail
      go_meet
      case rel => exact ⟨rfl, rfl, HF12.out⟩
  case rest =>
  obtain ⟨rfl, rfl, hf⟩ := hcut
  have HF13 := Lib.hid hf
  clear hf HF10 HL HCL d3 d2
  obtain ⟨Ao, co, Km, km, hcl, hL⟩ := HF13.out.rgive
  have HCL := Lib.hid hcl
  have HL := Lib.hid hL
  clear hL hcl
  have HCLX := HCL
  obtain ⟨d3, d2⟩ := HCL.out wc (Below.refl _ _)
  obtain ⟨q2, hq2⟩ : ∃ p, p = s1.tookN (lacksR (LDoc.gave s1 s2).ops s1.known) := ⟨_, rfl⟩
  obtain ⟨g2, hg2⟩ : ∃ p, p = LDoc.gaveE (LDoc.gave s1 s2) s1 := ⟨_, rfl⟩
  rw [← hq2, ← hg2] at HL
  obtain ⟨be, hbe⟩ : ∃ p, p = LDoc.bothE s1 s2 := ⟨_, rfl⟩
  have HBE0 : Hid (ge = 0 → be = g2 ∧ LDoc.bothA s1 s2 = LDoc.gave (LDoc.gave s1 s2) s1) := fun h => by
    have h1 := HGE.out
    rw [h] at h1
    exact ⟨by rw [hbe, hg2]; exact if_neg (by simp [← h1]), if_neg (by simp [← h1])⟩
  have HBE1 : Hid (ge ≠ 0 → be = ge ∧ LDoc.bothA s1 s2 = s1) := fun h => by
    have h1 := HGE.out
    exact ⟨by rw [hbe, h1]; exact if_pos (by rw [← h1]; exact h), if_pos (by rw [← h1]; exact h)⟩
  have HNM : Hid (be = 0 → p2 = LDoc.bothN s1 s2 ∧ q2 = LDoc.bothM s1 s2) := fun h => by
    have := both_num (a := s1) (b := s2) (by rw [← hbe]; exact h)
    exact ⟨HP2e.out.trans this.1, hq2.trans this.2⟩
  have HNZ : Hid (be ≠ 0 → LDoc.bothN s1 s2 = 0 ∧ LDoc.bothM s1 s2 = 0) := fun h => by
    rw [hbe] at h
    exact ⟨if_neg h, if_neg h⟩
  have HBEE := Lib.hid hbe
  clear hq2 hg2 hbe
  obtain ⟨sA, hsA⟩ : ∃ p, p = LDoc.bothA s1 s2 := ⟨_, rfl⟩
  obtain ⟨sB, hsB⟩ : ∃ p, p = LDoc.gave s1 s2 := ⟨_, rfl⟩
  rw [← hsA, ← hsB] at HBE0
  rw [← hsA] at HBE1
  rw [← hsB] at HF13 HL d3 HCLX
  have HCL := HCLX
  clear HCLX
  have HSA := Lib.hid hsA.symm
  have HSB := Lib.hid hsB.symm
  clear hsA hsB
  go_upto_if 129 with (fail)
  go_cut [9, 26] (fun e t wx => e = .int .i64 be ∧ (∃ tt : Int, t = .int .i64 tt ∧ (be = 0 → tt = q2)) ∧ Four w w.heap.size bd bc bm bo s1 s2 sA sB wx)
  case first =>
    by_cases h0 : ge = 0
    · have g0 : (ge == 0) = true := by simp [h0]
      obtain ⟨e1, e2⟩ := HBE0.out h0
      have E1 := Lib.hid e1
      have E2 := Lib.hid e2
      clear h0 e1 e2
      go_wp2_with fail
      go_region_held3 (fun w' => w'.cell? ⟨bo, 3, none⟩ = some (.slice Ao sB.ops.length co) ∧ w'.cell? ⟨bm, 2, none⟩ = some (.slice Km s1.known.length km))
        (first | go_keep | (refine ⟨?_, ?_⟩ <;> assumption))
        (first
          | (go_at_call 29; refine (HL.out _ (by first | exact Below.refl _ _ | exact below_drewN (Below.refl _ _) _)).mono ?_; rintro e w11 ⟨V, L, c, rfl, hb11, hT⟩
             have HT := Lib.hid hT
             clear d3 d2
             obtain ⟨d3, d2⟩ := HCL.out w11 hb11
             clear hb11 hT)
          | (go_at_call 35; refine (HT.out _ (by first | exact Below.refl _ _ | exact below_drewN (Below.refl _ _) _)).mono ?_; rintro e w12 ⟨rfl, hf, r3, r2⟩
             have HF12 := Lib.hid hf
             clear hf HT d3 d2))
      all_goals
        go_wp2_with fail
        go_meet
        case rel => exact ⟨by rw [E1.out], ⟨q2, rfl, fun _ => rfl⟩, by rw [E2.out]; exact HF12.out⟩
    · have g0 : (ge == 0) = false := by simp [h0]
      have g00 : (ge != 0) = true := by simp [h0]
      obtain ⟨e1, e2⟩ := HBE1.out h0
      have E1 := Lib.hid e1
      have E2 := Lib.hid e2
      have H0 := Lib.hid h0
      clear e1 e2
      go_wp2_with fail
      go_meet
      case rel => exact ⟨by rw [E1.out], ⟨0, rfl, fun h => absurd (E1.out.symm.trans h) H0.out⟩, by rw [E2.out]; exact HF13.out⟩
  case rest =>
  obtain ⟨rfl, ⟨tt, rfl, htt⟩, hf⟩ := hcut
  have HTT := Lib.hid htt
  have HF14 := Lib.hid hf
  clear hf htt HF13 HL HCL d3 d2 HBE0 HBE1
  go_upto_if 145 with (fail)
  go_cut [25, 26] (fun n t wx => n = .int .i64 (LDoc.bothN s1 s2) ∧ t = .int .i64 (LDoc.bothM s1 s2) ∧ Four w w.heap.size bd bc bm bo s1 s2 sA sB wx)
  case first =>
    by_cases h0 : be = 0
    · have g0 : (be == 0) = true := by simp [h0]
      have g00 : (be != 0) = false := by simp [h0]
      have H0 := Lib.hid h0
      clear h0
      go_wp2_with fail
      go_meet
      case rel => exact ⟨by rw [(HNM.out H0.out).1], by rw [← (HNM.out H0.out).2, HTT.out H0.out], HF14.out⟩
    · have g0 : (be == 0) = false := by simp [h0]
      have g00 : (be != 0) = true := by simp [h0]
      have H0 := Lib.hid h0
      go_wp2_with fail
      go_meet
      case rel => exact ⟨by rw [(HNZ.out H0.out).1], by rw [(HNZ.out H0.out).2], HF14.out⟩
  case rest =>
  obtain ⟨rfl, rfl, hf⟩ := hcut
  have HBT : Hid (Calls Tryz.prog 36 #[.pointer (some ⟨bd, 0, none⟩), .pointer (some ⟨bc, 0, none⟩)] wc (fun e w' => e = .returned (.tuple #[.int .i64 (LDoc.bothN s1 s2), .int .i64 (LDoc.bothM s1 s2), errV be]) ∧ Four w w.heap.size bd bc bm bo sA sB sA sB w')) := by
    have := hf.both
    rw [← HBEE.out, HSA.out, HSB.out] at this
    exact this
  clear hf HF14 HNM HNZ HTT
  generalize LDoc.bothN s1 s2 = bn at *
  generalize LDoc.bothM s1 s2 = bq at *
  go_wp2_with fail
  refine HBT.out.mono ?_
  rintro e w15 ⟨rfl, hf⟩
  have HF15 := Lib.hid hf
  have HER := Lib.hid (error_any w15 be be (HGL.out.below hf.below (Nat.le_refl _)))
  rw [show (be == be) = true by simp] at HER
  clear hf HBT
  go_wp2_with fail
  refine HER.out.mono ?_
  rintro e w16 ⟨rfl, hb16⟩
  have HOM := Lib.hid ((HF15.out.step hb16).openM parcel hp)
  clear hb16 HER HF15
  go_wp2_with fail
  refine HOM.out.mono ?_
  rintro e w17 ⟨rfl, hf⟩
  have HF17 := Lib.hid hf
  have HOD := Lib.hid (hf.openD parcel)
  clear hf HOM
  go_wp2_with fail
  refine HOD.out.mono ?_
  rintro e w18 ⟨rfl, hf⟩
  have HF18 := Lib.hid hf
  have HER := Lib.hid (error_any w18 (sA.openE parcel) (sA.openE parcel) (HGL.out.below hf.below (Nat.le_refl _)))
  rw [show (sA.openE parcel == sA.openE parcel) = true by simp] at HER
  clear hf HOD HF17
  go_wp2_with fail
  refine HER.out.mono ?_
  rintro e w19 ⟨rfl, hb19⟩
  have HF19 := Lib.hid (HF18.out.step hb19)
  clear hb19 HER HF18
  obtain ⟨Ax, cx, hcl, hL⟩ := HF19.out.books
  have HCL := Lib.hid hcl
  have HL := Lib.hid hL
  obtain ⟨Ay, cy, hcl2, hL2⟩ := HF19.out.swap.books
  have HCL2 := Lib.hid hcl2
  have HL2 := Lib.hid hL2
  clear hcl hL hcl2 hL2
  have HBR : Hid (Below w19.heap.size w19 w19) := Below.refl _ _
  have r0 := HCL.out w19 HBR.out
  have r1 := HCL2.out w19 HBR.out
  have gtx : ((s1.parcR v).toList == (s1.parcR v).toList) = true := by simp
  have gn1 : (bn == bn) = true := by simp
  have gn2 : (bq == bq) = true := by simp
  have gn3 : (sA.openN parcel == sA.openN parcel) = true := by simp
  generalize sA.openR parcel = sF at *
  go_wp2_with fail
  go_region_held3 (fun w' => w'.cell? ⟨bm, 0, none⟩ = some (.slice Ax sF.book.length cx))
    (first | go_keep | assumption)
    (first
      | (go_at_call 22; refine (HL.out _ (by first | exact HBR.out | exact below_drewN HBR.out _ | exact HBR.out.drew)).mono ?_; rintro e w20 ⟨V, L, c, rfl, hb20, hT⟩
         have HB20 := Lib.hid hb20
         have HT := Lib.hid (hT w20 (Below.refl _ _))
         clear r0
         have r0 := HCL.out w20 hb20
         clear hb20 hT)
      | (go_at_call 21; refine HT.out.mono ?_; rintro e w21 ⟨rfl, hb21⟩
         have HBa := Lib.hid hb21
         clear r0
         have r0 := HCL.out w21 hb21
         clear hb21 HT HB20))
  have r2 := HCL2.out w21 HBa.out
  clear r1
  go_wp2_with fail
  go_region_held3 (fun w' => w'.cell? ⟨bo, 0, none⟩ = some (.slice Ay sB.book.length cy))
    (first | go_keep | assumption)
    (first
      | (go_at_call 22; refine (HL2.out _ (by first | exact HBa.out | exact below_drewN HBa.out _ | exact HBa.out.drew)).mono ?_; rintro e w22 ⟨V, L, c, rfl, hb20, hT⟩
         have HB20 := Lib.hid hb20
         have HT := Lib.hid (hT w22 (Below.refl _ _))
         clear r2
         have r2 := HCL2.out w22 hb20
         clear hb20 hT)
      | (go_at_call 21; refine HT.out.mono ?_; rintro e w23 ⟨rfl, hb21⟩
         have HBb := Lib.hid hb21
         clear r2
         have r2 := HCL2.out w23 hb21
         clear hb21 HT HB20))
  have HFIN : Hid (Below w.heap.size w w23) := HF19.out.below.trans (HBb.out.mono HF19.out.below.size)
  go_wp2_with fail
  go_ret
  exact ⟨rfl, HFIN.out⟩
set_option maxRecDepth 100000 in
set_option maxHeartbeats 8000000 in
theorem walk (w : World) (A0 A1 K : Option Addr) (c0 c1 ck : Nat) (ys zs : List OpAt) (v : List Int) (parcel : ByteArray) (hglob : Glob w) (h0 : Reads w w.heap.size 6 A0 ys.length (ocells ys)) (hg : ∀ y ∈ ys, y.Good w) (h1 : Reads w w.heap.size 6 A1 zs.length (ocells zs)) (hg1 : ∀ y ∈ zs, y.Good w)
    (hv : Reads w w.heap.size 1 K v.length (ints v)) (hn0 : ys.length ≤ 9223372036854775807) (hn1 : zs.length ≤ 9223372036854775807) (hnv : v.length ≤ 9223372036854775807) (hp : parcel.size ≤ 9223372036854775807) :
    Calls Tryz.prog 4 #[.slice A0 ys.length c0, .slice A1 zs.length c1, .slice K v.length ck, .string parcel] w (CheckPost w (.bool true)) := by
  have HR0 := Lib.hid h0
  have HR1 := Lib.hid h1
  have HG := Lib.hid hg
  have HG1 := Lib.hid hg1
  have HV := Lib.hid hv
  have HGL := Lib.hid hglob
  have HE0 : errV 0 = .nilIface := rfl
  have HRV := Lib.hid (fun W (hb : Below w.heap.size w W) => rvector_any W K ck v ((hv.below hb).more hb.size) hnv)
  have HLS := Lib.hid (lack_start (ys.map OpAt.op) v)
  have HLL : Hid (lackS (ys.map OpAt.op) v = if vecErr v ≠ 0 then vecErr v else if 400 < ys.length then 4 else 0) := by show _ = _; unfold lackS; rw [List.length_map]
  have HBW : Hid (Below w.heap.size w w) := Below.refl _ _
  clear h0 h1 hg hg1 hv hglob
  go_enter Tryz.func4, Tryz.ntmps4
  go_wp2_with fail
  refine (HRV.out w HBW.out).mono ?_
  rintro e w' ⟨rfl, hw'⟩
  obtain rfl := hw'.symm
  go_upto_region 2 with (fail)
  go_cut [43] (fun q wx => q = .bool (decide (vecErr v = 0) && decide (400 < ys.length)) ∧ wx = w)
  case first =>
    by_cases hve : vecErr v = 0
    · have gv : (vecErr v == 0) = true := by simp [hve]
      have HVE := Lib.hid hve
      clear hve
      by_cases h4 : 400 < ys.length
      · have g4 : decide ((ys.length : Int) > 400) = true := decide_eq_true (by omega)
        have g41 : (400 : Int) < (ys.length : Int) := by omega
        have H4 := Lib.hid h4
        go_wp2_with fail
        go_meet
        case rel => exact ⟨by rw [decide_eq_true HVE.out, decide_eq_true H4.out]; rfl, rfl⟩
      · have g4 : decide ((ys.length : Int) > 400) = false := decide_eq_false (by omega)
        have g41 : ¬ (400 : Int) < (ys.length : Int) := by omega
        have H4 := Lib.hid h4
        go_wp2_with fail
        go_meet
        case rel => exact ⟨by rw [decide_eq_true HVE.out, decide_eq_false H4.out]; rfl, rfl⟩
    · have gv : (vecErr v == 0) = false := by simp [hve]
      have HVE := Lib.hid hve
      clear hve
      go_wp2_with fail
      go_meet
      case rel => exact ⟨by rw [decide_eq_false HVE.out]; rfl, rfl⟩
  case rest =>
  obtain ⟨rfl, hwc⟩ := hcut
  obtain rfl := hwc.symm
  generalize hq : (decide (vecErr v = 0) && decide (400 < ys.length)) = q at *
  have HQ := Lib.hid hq
  clear hq
  go_upto_if 43 with (fail)
  go_cut [9] (fun ev wx => ev = .int .i64 (lackS (ys.map OpAt.op) v) ∧ wx = w)
  case first =>
    cases q with
    | true =>
      have HF : Hid (lackS (ys.map OpAt.op) v = 4) := by
        show _ = _
        have := HQ.out
        simp at this
        rw [HLL.out, if_neg (by simp [this.1]), if_pos this.2]
      go_wp2_with fail
      go_meet
      case rel => exact ⟨by rw [HF.out], rfl⟩
    | false =>
      have HF : Hid (lackS (ys.map OpAt.op) v = vecErr v) := by
        show _ = _
        have := HQ.out
        rw [HLL.out]
        by_cases hve : vecErr v = 0
        · rw [if_neg (by simp [hve]), if_neg (by intro h; rw [decide_eq_true hve, decide_eq_true h] at this; cases this), hve]
        · rw [if_pos hve]
      go_wp2_with fail
      go_meet
      case rel => exact ⟨by rw [HF.out], rfl⟩
  case rest =>
  obtain ⟨rfl, hwc⟩ := hcut
  obtain rfl := hwc.symm
  clear HLL HQ
  generalize hls : lackS (ys.map OpAt.op) v = ls at *
  clear hls
  go_upto_block 0 with (fail)
  go_cut [9, 10] (fun ev _ wx => ev = .int .i64 (lackE (ys.map OpAt.op) v) ∧ Below w.heap.size w wx)
  case first =>
    go_wp2_with fail
    go_loopw [9, 10] (fun e i wr => ELoop (ys.map OpAt.op) w v ys.length e i wr) (fun _ i _ => ys.length - (intOf i).toNat)
    case atStart => exact ⟨0, ls, Nat.zero_le _, rfl, rfl, HLS.out, Below.refl _ _⟩
    case round =>
      obtain ⟨k, ke, hk, rfl, rfl, HKE, HKB⟩ := hrel
      have k0 : (0 : Int) ≤ (k : Int) := by omega
      by_cases hke : ke = 0
      · subst hke
        by_cases hlt : k < ys.length
        · have k1 : (k : Int) < (ys.length : Int) := by omega
          obtain ⟨ad, rfl, _, d0, d1, d2, d3, d4, d5⟩ := (HR0.out.below HKB.out).op hlt
          have HGK := (HG.out _ (List.getElem_mem hlt)).below HKB.out
          have HOP := Lib.hid (rop_any wr ys[k].at_ ys[k].cap ys[k].op HGK.1 (by have := HGK.2.1; unfold maxLen at this; exact this))
          have HN : Hid (lackE (ys.map OpAt.op) v = if opErr ys[k].op ≠ 0 then opErr ys[k].op else opsFault ((ys.map OpAt.op).drop (k + 1))) := by
            show _ = _
            have e := HKE.out
            rw [if_neg (by simp)] at e
            rw [e, opsFault_drop (by simpa using hlt)]
            simp
          have q1 : IntKind.i64.wrap ((k : Int) + 1) = ((k + 1 : Nat) : Int) := by rw [IntWalk.i64_in _ (by omega)]; omega
          clear HGK HKE
          generalize ys[k] = y at *
          generalize opErr y.op = oe at *
          obtain ⟨⟨⟨yw, yn⟩, what, p, letter, seen⟩, ya, yc⟩ := y
          unfold LOp.val at HOP
          dsimp only at d0 d1 d2 d3 d4 d5 HOP
          go_wp2_with fail
          refine HOP.out.mono ?_
          rintro e w2 ⟨rfl, hb2⟩
          have HB2 := Lib.hid (HKB.out.trans (hb2.mono HKB.out.size))
          clear hb2 HOP
          go_wp2_with fail
          go_roundw
          case rel => exact ⟨k + 1, oe, by omega, rfl, rfl, HN, HB2⟩
          case measure => simp [intOf]; omega
        · have k1 : ¬ (k : Int) < (ys.length : Int) := by omega
          have HF : Hid (lackE (ys.map OpAt.op) v = 0) := by
            show _ = _
            rw [HKE.out, if_neg (by simp), List.drop_eq_nil_of_le (by simp; omega)]
            rfl
          go_wp2_with fail
          go_meet
          case rel => exact ⟨by rw [HF.out], HKB.out⟩
      · have gk : (ke == 0) = false := by simp [hke]
        have gk2 : (ke != 0) = true := by simp [hke]
        have HF : Hid (lackE (ys.map OpAt.op) v = ke) := by show _ = _; rw [HKE.out, if_pos hke]
        by_cases hlt : k < ys.length
        · have k1 : (k : Int) < (ys.length : Int) := by omega
          go_wp2_with fail
          go_meet
          case rel => exact ⟨by rw [HF.out], HKB.out⟩
        · have k1 : ¬ (k : Int) < (ys.length : Int) := by omega
          go_wp2_with fail
          go_meet
          case rel => exact ⟨by rw [HF.out], HKB.out⟩
  case rest =>
  obtain ⟨rfl, hbc⟩ := hcut
  have HBC := Lib.hid hbc
  clear hbc HLS
  generalize hle : lackE (ys.map OpAt.op) v = le at *
  have HLE := Lib.hid hle
  have HOF : Hid (le = 0 → vecErr v = 0 ∧ ys.length ≤ 400 ∧ ∀ o ∈ ys.map OpAt.op, opErr o = 0) := fun h => by
    have h1 := HLE.out
    rw [h] at h1
    unfold lackE at h1
    by_cases hv : vecErr v ≠ 0
    · rw [if_pos hv] at h1; exact absurd h1 hv
    · rw [if_neg hv, List.length_map] at h1
      by_cases h4 : 400 < ys.length
      · rw [if_pos h4] at h1; cases h1
      · rw [if_neg h4] at h1
        exact ⟨by omega, by omega, opsFault_ok h1⟩
  clear hle
  go_upto_if 60 with (fail)
  go_cut [11] (fun want wx => WantS w (ys.map OpAt.op) v want wx)
  case first =>
    by_cases h0 : le = 0
    · have g0 : (le == 0) = true := by simp [h0]
      obtain ⟨f1, f2, f3⟩ := HOF.out h0
      have HLK := Lib.hid (rlacks_any wc A0 c0 ys K ck v ((HR0.out.below HBC.out).more HBC.out.size) (fun y hy => (op_ok (f3 y.op (List.mem_map.2 ⟨y, hy, rfl⟩))).1) (by omega) ((HV.out.below HBC.out).more HBC.out.size) (vec_ok f1).1)
      have HL0 := Lib.hid h0
      subst h0
      clear f1 f3
      go_wp2_with fail
      refine HLK.out.mono ?_
      rintro e w2 ⟨V2, c2, rfl, hO, hb2⟩
      have HB2 := Lib.hid (HBC.out.trans (hb2.mono HBC.out.size))
      have hml : (lacksO ys v).length ≤ ys.length := List.length_filter_le _ _
      have HWS : Hid (WantS w (ys.map OpAt.op) v (.slice V2 (lacksO ys v).length c2) w2) := ⟨V2, c2, lacksO ys v, rfl, by rw [lacksO_map, HLE.out]; rfl, by omega, hO.reads, fun y hy => (HG.out y (List.mem_filter.1 hy).1).below HB2.out, HB2.out⟩
      clear hO hb2 HLK hml
      go_wp2_with fail
      go_meet
      case rel => exact HWS.out
    · have g0 : (le == 0) = false := by simp [h0]
      have g00 : (le != 0) = true := by simp [h0]
      have HWS : Hid (WantS w (ys.map OpAt.op) v (.slice none 0 0) wc) := ⟨none, 0, [], rfl, by rw [HLE.out]; unfold giveO; rw [if_neg h0]; rfl, by simp, ⟨rfl, fun h => absurd h (by simp)⟩, by simp, HBC.out⟩
      go_wp2_with fail
      go_meet
      case rel => exact HWS.out
  case rest =>
  obtain ⟨V2, c2, wz, rfl, hw1, hw2, hw3, hw4, hw5⟩ := hcut
  have HW1 := Lib.hid hw1
  have HW3 := Lib.hid hw3
  have HW4 := Lib.hid hw4
  have HB3 := Lib.hid hw5
  clear hw1 hw3 hw4 hw5
  have HSL : Hid (Calls Tryz.prog 30 #[.slice A0 ys.length c0, .slice K v.length ck] wc (OutPost wc (giveO le (lacksR (ys.map OpAt.op) v)) le)) := by
    have := lacks_any wc A0 c0 ys K ck v ((HR0.out.below HB3.out).more HB3.out.size) (fun y hy => ((HG.out y hy).below HB3.out).1) (fun y hy => by have := (HG.out y hy).2.1; unfold maxLen at this; exact this) hn0 ((HV.out.below HB3.out).more HB3.out.size) hnv
    rw [HLE.out] at this
    exact this
  go_wp2_with fail
  refine HSL.out.mono ?_
  rintro e w3 ⟨V3, c3, z3, rfl, hz3, hO3, hb3⟩
  have HZ3 := Lib.hid hz3
  have HO3 := Lib.hid hO3
  have HB4 := Lib.hid (HB3.out.trans (hb3.mono HB3.out.size))
  have HB34 := Lib.hid hb3
  have HER := Lib.hid (error_any w3 le le (HGL.out.below HB4.out (Nat.le_refl _)))
  rw [show (le == le) = true by simp] at HER
  clear hz3 hO3 hb3 HSL
  go_wp2_with fail
  refine HER.out.mono ?_
  rintro e w4 ⟨rfl, hb4⟩
  have HB5 := Lib.hid (HB4.out.trans (hb4.mono HB4.out.size))
  have HOA : Hid (Calls Tryz.prog 31 #[.slice V3 z3.length c3, .slice V2 wz.length c2] w4 (CheckPost w4 (.bool true))) := by
    have lim : ∀ {w : World} {B : Nat} {e : TypeId} {size : Nat} {A : Option Addr} {n c : Nat} {xs : List Value}, Own w B e size A n c xs → n ≤ 9223372036854775807 := fun h => by
      have h3 := h.cap_le
      have h4 := h.cap_max
      unfold maxLen at h4
      omega
    have hbd := HB34.out.trans (hb4.mono HB34.out.size)
    have key := SameOps.any w4 V3 V2 c3 c2 z3 wz (HO3.out.row.below hb4).reads ((HW3.out.below hbd).more hbd.size)
      (fun y hy => ⟨((HO3.out.seen y hy).below hb4).reads, lim (HO3.out.seen y hy)⟩)
      (fun y hy => ⟨((HW4.out y hy).below hbd).1, by have h := (HW4.out y hy).2.2.2.2.2.2; unfold maxLen at h; omega⟩) (lim HO3.out.row) (by omega)
    rw [decide_eq_true (by rw [HZ3.out, HW1.out, HLE.out])] at key
    exact key
  clear hb4 HER
  go_wp2_with fail
  refine HOA.out.mono ?_
  rintro e w5 ⟨rfl, hb5⟩
  have HB6 := Lib.hid (HB5.out.trans (hb5.mono HB5.out.size))
  have HBO := Lib.hid (both_n w w5 HB6.out A0 c0 ys HGL.out HR0.out HG.out hn0)
  clear hb5 HOA HW1 HW3 HW4 HZ3 HO3 HB34 HB3 HB4 HB5 HBC HLE HOF
  go_wp2_with fail
  refine HBO.out.mono ?_
  rintro e w6 ⟨bd, bm, rfl, hP1⟩
  have HP1 := Lib.hid hP1
  have HB7 := Lib.hid hP1.below
  have HBO := Lib.hid (both_n w w6 HB7.out A1 c1 zs HGL.out HR1.out HG1.out hn1)
  clear hP1
  go_wp2_with fail
  refine HBO.out.mono ?_
  rintro e w7 ⟨bc, bo, rfl, hP2⟩
  obtain ⟨s1, s2, _, _, hF⟩ := four_make HP1.out hP2
  have HF7 := Lib.hid hF
  have HRE := Lib.hid (HRV.out w7 hF.below)
  clear hF hP2 HBO HP1
  go_wp2_with fail
  refine HRE.out.mono ?_
  rintro e w8 ⟨rfl, hw8⟩
  obtain rfl := hw8.symm
  clear HRE
  go_upto_if 97 with (fail)
  go_cut [22] (fun t wx => t = .string (s1.parcR v) ∧ Four w w.heap.size bd bc bm bo s1 s2 s1 s2 wx)
  case first =>
    by_cases hve : vecErr v = 0
    · have gv : (vecErr v == 0) = true := by simp [hve]
      obtain ⟨Am, cm, d3, hC⟩ := HF7.out.rparc K ck v ((HV.out.below HF7.out.below).more HF7.out.below.size) hve
      have HC := Lib.hid hC
      clear hC hve
      go_wp2_with fail
      refine HC.out.mono ?_
      rintro e w8 ⟨V, L, c, rfl, hC⟩
      have HC := Lib.hid hC
      clear hC d3
      go_wp2_with fail
      refine HC.out.mono ?_
      rintro e w9 ⟨rfl, hf⟩
      have HF9 := Lib.hid hf
      clear hf HC
      go_wp2_with fail
      go_meet
      case rel => exact ⟨rfl, HF9.out⟩
    · have gv : (vecErr v == 0) = false := by simp [hve]
      have gv2 : (vecErr v != 0) = true := by simp [hve]
      have HPR : Hid (s1.parcR v = ⟨#[]⟩) := if_pos hve
      go_wp2_with fail
      go_meet
      case rel => exact ⟨by rw [HPR.out], HF7.out⟩
  case rest =>
  obtain ⟨rfl, hf⟩ := hcut
  rename_i hK
  exact hK _ _ (tail w wc K ck v parcel HGL.out HV.out hnv hp bd bc bm bo s1 s2 hf)
end lawSyncTells
end Go.Proofs.YtnmmnejoldbeiaaGreatDoor
/- leaflaw2.SyncTells, proved: the statement. Conditions: the library's one variable holds what its text lays (the card ties it). -/
namespace Go.Proofs.YtnmmnejoldbeiaaGreatDoor
open Go.RowKit Go.WideShapes Go.ChangeShapes Go.ChangeAt
set_option linter.unusedVariables false
namespace lawSyncTells
set_option maxRecDepth 100000 in
theorem lifted (os : Os) (started : os.Started) (H : Type) (enc : TypeId × Value → H) :
    ReturnsInHanded {} Tryz.checked os 4 .any (fun w args => (Rows.syncTellsSpec.pre enc Tryz.prog Tryz.f4 [] false w args ∧ laidMetH Tryz.prog Card.laid w) ∧ sizedMet enc Tryz.prog Tryz.f4 (OpenSpec.ofChange Rows.syncTellsSpec) false w args)
      (Rows.syncTellsSpec.post enc Tryz.prog Tryz.f4 false true false false) := by
  refine returnsInHanded_of_change_and (C := Tryz.checked) (X := fun w _ => laidMetH Tryz.prog Card.laid w) (fun _ _ _ hh h => h.of_heap hh) Tryz.own started (by kernel_rfl) Tryz.func4
    (ChangeSpec.witness_at (enc := enc) (C := Tryz.checked) (os := os) (X := fun w _ => laidMetH Tryz.prog Card.laid w) false (Card.laidWorld os) #[.slice none 0 0, .slice none 0 0, .slice none 0 0, .string ⟨#[]⟩] 8 rfl (by kernel_rfl) (by kernel_rfl) (by kernel_rfl) (by kernel_rfl) (by kernel_rfl) (Card.laidWorld_met os _)) ?_
  intro W base args ds gs before hval0 hW _ hsz0 hL _
  have hval : ∀ (j : Nat) t v, Tryz.f4.params[j]? = some t → args[j]? = some v → Value.okWide Tryz.prog W .any base t v := hval0
  obtain ⟨p, q, hA0, _⟩ := id hW
  have hA : DataW.TrodAll enc Tryz.prog W 0 (fun _ => true) true Tryz.f4.params.toList args.toList ds p := hA0
  have hsz : (DataW.weightsEach Tryz.prog (Tryz.f4.params.toList ++ Rows.syncTellsSpec.plain.varTypes Tryz.prog) (ds ++ gs)).all (· ≤ reachBytes) = true := hsz0
  rw [Tryz.params4] at hA hval hsz
  obtain ⟨v0, v1, v2, v3, d0, d1, d2, d3, p0, p1, p2, p3, rfl, rfl, rfl, h0, h1, h2, h3⟩ := trodAll_four hA
  obtain ⟨A0, c0, l0, rfl, r0, g0, lc0, cm0⟩ := arg_ops (hval 0 22 v0 rfl rfl) h0
  obtain ⟨A1, c1, l1, rfl, r1, g1, lc1, cm1⟩ := arg_ops (hval 1 22 v1 rfl rfl) h1
  obtain ⟨A2, c2, l2, rfl, r2, g2, lc2, cm2⟩ := arg_ints (hval 2 23 v2 rfl rfl) h2
  obtain ⟨a3, rfl, rfl, rfl, wa3⟩ := Go.ChangeMaps.open_string Tryz.underlying9 (hval 3 9 v3 rfl rfl) h3
  refine (walk W A0 A1 A2 c0 c1 c2 l0 l1 l2 a3 (Card.glob_of_laid hL) r0 g0 r1 g1 r2 (by unfold maxLen at cm0; omega) (by unfold maxLen at cm1; omega) (by unfold maxLen at cm2; omega) (by unfold maxLen at wa3; exact wa3)).mono fun e W' ⟨he, hb⟩ => ⟨_, he, ?_⟩
  exact law_post Tryz.laidOut (tb := 4) (by kernel_rfl) Tryz.underlying4 (by rw [Tryz.params4]; simp only [List.mem_cons, List.not_mem_nil, or_false]; rintro t (rfl | rfl | rfl | rfl) <;> exact ⟨by kernel_rfl, of_decide_eq_true (by kernel_rfl)⟩) rfl rfl hW hb

theorem holds : Rows.SyncTellsSaid :=
  OpenClaim.holds_of_wide 4 Tryz.f4 rfl rfl rfl rfl rfl rfl rfl ⟨rfl, rfl, rfl, rfl, rfl⟩ rfl rfl rfl rfl rfl (by kernel_rfl) Tryz.func4 (by kernel_rfl)
    (of_decide_eq_true (by kernel_rfl)) (by unfold Func.isWrapper; first | (rw [if_pos (by decide +kernel)]; kernel_rfl) | (rw [if_neg (by decide +kernel)]; exact ⟨rfl, rfl⟩))
    (fun os started H enc _ => lifted os started H enc)
theorem noStand : ∀ t ∈ Tryz.f4.params.toList, Tryz.prog.wantsStandIn t = false := by
  rw [Tryz.params4]
  simp only [List.mem_cons, List.not_mem_nil, or_false]
  rintro t (rfl | rfl | rfl | rfl) <;> kernel_rfl
theorem card_holds : Rows.SyncTellsCardSaid :=
  Claim7.holds_tied_plain_at .later [] [.handle] true Rows.syncTellsCard.stood.harness true
    holds (fun _ h => by cases h) (by kernel_rfl) (fun _ h => by cases h) syncTells_row_tie rfl ⟨rfl, rfl⟩ (by kernel_rfl) rfl
    (fun f fn hf hfn => by
      obtain rfl : f = 4 := Option.some.inj ((show Tryz.prog.funcNamed Rows.syncTellsRow.func = some 4 by kernel_rfl).symm.trans hf) |>.symm
      obtain rfl : fn = Tryz.f4 := (Option.some.inj (Tryz.func4.symm.trans hfn)).symm
      exact ⟨by kernel_rfl, fun j t ht => noStand t (by
        have := Array.mem_of_getElem? ht
        simpa using this)⟩)
    (by kernel_rfl)
#print axioms card_holds
end lawSyncTells
end Go.Proofs.YtnmmnejoldbeiaaGreatDoor
