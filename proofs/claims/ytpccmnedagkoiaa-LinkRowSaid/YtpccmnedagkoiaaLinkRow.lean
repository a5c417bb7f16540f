/- IN A ROW: over a line that loses nothing all comes at the first go: the law LinkRow answers true. Conditions: none. -/
import Derived.Test.YtpccmnedagkoiaaLinkPair
import Derived.Test.YtpccmnedagkoiaaLift
namespace Go.Proofs.Ytpccmnedagkoiaa
open Go.RowKit Go.WideShapes Go.ChangeShapes Go.ChangeAt
set_option linter.unusedVariables false
namespace lawLinkRow

def x : ByteArray := ⟨#[120]⟩
/-- The one that sends, when so many have gone and come. -/
def sA (win n went : Nat) : LEnd := ⟨win, 5, List.replicate (n - went) x, went, went, 0, [], false⟩
/-- The one that hears. -/
def sB (win went : Nat) (o : Bool) : LEnd := ⟨win, 5, [], 0, 0, 0, List.replicate went x, o⟩
/-- The one that sends, while it is filled. -/
def sF (win i : Nat) : LEnd := ⟨win, 5, List.replicate i x, 0, 0, 0, [], false⟩
/-- .. when it has said all it may. -/
def sS (win n went : Nat) : LEnd := ⟨win, 5, List.replicate (n - went) x, went, went + min win (n - went), 0, [], false⟩

theorem sF_new (win : Nat) : LEnd.new win 5 = sF win 0 := rfl
theorem sB_new (win : Nat) : LEnd.new win 5 = sB win 0 false := rfl
theorem sF_all (win n : Nat) : sF win n = sA win n 0 := rfl
theorem sF_send (win i : Nat) : (sF win i).send x = sF win (i + 1) := by simp [sF, LEnd.send, List.replicate_succ']
theorem sA_ok {win n went : Nat} (h1 : 1 ≤ win) (h2 : win ≤ 16) (hn : n ≤ 90) (hw : went ≤ n) : (sA win n went).Ok := by
  constructor <;> simp [sA] <;> omega
theorem sS_ok {win n went : Nat} (h1 : 1 ≤ win) (h2 : win ≤ 16) (hn : n ≤ 90) (hw : went ≤ n) : (sS win n went).Ok := by
  constructor <;> simp [sS] <;> omega
theorem sF_ok {win i : Nat} (h1 : 1 ≤ win) (h2 : win ≤ 16) (hn : i ≤ 90) : (sF win i).Ok := by
  constructor <;> simp [sF] <;> omega
theorem sB_ok {win went : Nat} {o : Bool} (h1 : 1 ≤ win) (h2 : win ≤ 16) (hn : went ≤ 90) : (sB win went o).Ok := by
  constructor <;> simp [sB] <;> omega
theorem sA_skip (win n went : Nat) : (sA win n went).skip = 0 := by simp [LEnd.skip, sA]
theorem sA_wide (win n went : Nat) : (sA win n went).wide = min win (n - went) := by simp [LEnd.wide, sA]
theorem sA_frames (win n went : Nat) : (sA win n went).outFrames = (List.range' 0 (min win (n - went))).map (sA win n went).frame := by
  unfold LEnd.outFrames
  rw [sA_skip, sA_wide]
  simp [LEnd.ackFrames, sA]
theorem sA_len (win n went : Nat) : (sA win n went).outFrames.length = min win (n - went) := by rw [sA_frames]; simp
theorem sA_out (win n went : Nat) : (sA win n went).out = sS win n went := by
  unfold LEnd.out
  rw [sA_skip, sA_wide]
  simp only [sA, sS]
  congr 1
  · omega
  · split <;> rfl
theorem sA_frame {win n went k : Nat} (hk : k < min win (n - went)) : (sA win n went).outFrames[k]? = some ⟨false, (went : Int) + k + 1, x⟩ := by
  rw [sA_frames]
  simp only [List.getElem?_map]
  rw [List.getElem?_eq_getElem (by simpa using hk)]
  have h : k < n - went := by omega
  simp [LEnd.frame, sA, h]
theorem sB_frames (win went : Nat) (o : Bool) : (sB win went o).outFrames = (sB win went o).ackFrames := by
  simp [LEnd.outFrames, LEnd.wide, sB]
theorem sB_ack (win went : Nat) : (sB win went true).outFrames = [⟨true, went, ⟨#[]⟩⟩] := by
  rw [sB_frames]; simp [LEnd.ackFrames, sB]
theorem sB_out (win went : Nat) (o : Bool) : (sB win went o).out = sB win went false := by
  simp [LEnd.out, LEnd.wide, sB]
theorem sB_next (win went : Nat) (o : Bool) : ({ sB win went o with got := (sB win went o).got ++ [x], owes := true } : LEnd) = sB win (went + 1) true := by
  simp [sB, List.replicate_succ']
theorem sS_ack (win n went : Nat) : ({ sS win n went with data := (sS win n went).data.drop (min win (n - went)), acked := (sS win n went).acked + min win (n - went) } : LEnd) = sA win n (went + min win (n - went)) := by
  simp [sS, sA, List.drop_replicate]
  omega

def Goes (B ba bb win n : Nat) (w : World) (v : Value) (wr : World) : Prop := ∃ i : Nat, i ≤ n ∧ v = .int .i64 i ∧ PairAt wr B ba bb [] (sA win n i) (sB win i false) ∧ Below B w wr
def Hears (B ba bb win n went m Bo c : Nat) (V : Option Addr) (w : World) (v : Value) (wr : World) : Prop := ∃ k : Nat, k ≤ m ∧ v = .int .i64 k ∧ PairAt wr B ba bb (ob V) (sS win n went) (sB win (went + k) (decide (0 < k))) ∧
  Own wr Bo 36 3 V m c (fcells (sA win n went).outFrames) ∧ Below B w wr
theorem fcells_at {l : List LFrame} {k : Nat} {f : LFrame} (h : l[k]? = some f) : (fcells l)[k * 3]? = some (.bool f.ack) ∧ (fcells l)[k * 3 + 1]? = some (.int .i64 f.seq) ∧ (fcells l)[k * 3 + 2]? = some (.string f.data) := by
  induction l generalizing k with
  | nil => simp at h
  | cons a l ih =>
    cases k with
    | zero => simp at h; subst h; simp [fcells, LFrame.cells]
    | succ k =>
      have := ih (k := k) (by simpa using h)
      have e : fcells (a :: l) = a.cells ++ fcells l := rfl
      rw [e]
      have e3 : a.cells.length = 3 := rfl
      refine ⟨?_, ?_, ?_⟩
      · rw [List.getElem?_append_right (by omega), e3, show (k + 1) * 3 - 3 = k * 3 by omega]; exact this.1
      · rw [List.getElem?_append_right (by omega), e3, show (k + 1) * 3 + 1 - 3 = k * 3 + 1 by omega]; exact this.2.1
      · rw [List.getElem?_append_right (by omega), e3, show (k + 1) * 3 + 2 - 3 = k * 3 + 2 by omega]; exact this.2.2
def Sends (B ba bb win n : Nat) (w : World) (v : Value) (wr : World) : Prop := ∃ i : Nat, i ≤ n ∧ v = .int .i64 i ∧ PairAt wr B ba bb [] (sF win i) (sB win 0 false) ∧ Below B w wr

theorem hear_next {w : World} {B b : Nat} {A G : Option Addr} {ca cg : Nat} {st : LEnd} {s : Int} {d : ByteArray} (h : EndAt w B b A ca G cg st) (ok : st.Ok) (hd : d.size ≤ 200) (hs : s = (st.got.length : Int) + 1) :
    Calls Try.prog 17 #[.pointer (some ⟨b, 0, none⟩), .agg #[.bool false, .int .i64 s, .string d]] w
      (SendPost w B b A G .nilIface { st with got := st.got ++ [d], owes := true }) := by
  subst hs
  exact hear_data_next w B b A G ca cg st d h ok hd

set_option maxRecDepth 100000 in
set_option maxHeartbeats 4000000 in
theorem walk_main (w : World) (win n : Nat) (h1 : 1 ≤ win) (h2 : win ≤ 16) (hn : n ≤ 90) :
    Calls Try.prog 4 #[.int .i64 win, .int .i64 n] w fun e w' => e = .returned (.bool true) ∧ Below w.heap.size w w' := by
  go_enter Try.func4, Try.ntmps4
  go_wp2_with fail
  refine (new_ok w win 5 h1 h2 (by omega) (by omega)).mono ?_
  rintro e w1 ⟨rfl, hA, hb1⟩
  go_wp2_with fail
  refine (new_ok w1 win 5 h1 h2 (by omega) (by omega)).mono ?_
  rintro e w2 ⟨rfl, hB, hb2⟩
  have hlt := hA.blk.lt
  have hP : PairAt w2 w.heap.size w.heap.size w1.heap.size [] (sF win 0) (sB win 0 false) :=
    ⟨none, 0, none, 0, none, 0, none, 0, hA.below hb2, ⟨hB.blk, by omega, hB.data.mono (by omega), hB.got.mono (by omega), hB.apart⟩, by simp [endBlocks, ob]; omega, by simp⟩
  have hBel : Below w.heap.size w w2 := hb1.trans (hb2.mono (by omega))
  have HP := Lib.hid hP
  have HB := Lib.hid hBel
  clear hP hBel hA hB hb1 hb2
  generalize w1.heap.size = bb at *
  go_wp2_with fail
  go_loopw [9] (fun v wr => Sends w.heap.size w.heap.size bb win n w v wr) (fun v _ => (90 - (intOf v).toNat))
  case atStart => exact ⟨0, by omega, rfl, HP.out, HB.out⟩
  case round =>
    obtain ⟨i, hi, rfl, hP, hB⟩ := hrel
    by_cases hlt' : i < n
    · obtain ⟨A, ca, G, cg, hE, hk⟩ := hP.fst
      go_wp2_with fail
      refine (send_ok wr w.heap.size w.heap.size A G ca cg (sF win i) ⟨#[120]⟩ hE (by decide) (by simp [sF]; omega)).mono ?_
      rintro e w3 ⟨rfl, hT⟩
      obtain ⟨hP3, hS3⟩ := hk _ _ hT
      have hP4 : PairAt w3 w.heap.size w.heap.size bb [] (sF win (i + 1)) (sB win 0 false) := by rw [← sF_send]; exact hP3
      go_wp2_with fail
      go_roundw
      case rel => exact ⟨i + 1, by omega, by go_num, hP4, hB.trans hS3.below⟩
      case measure => simp [intOf]; omega
    · obtain rfl : i = n := by omega
      rw [sF_all] at hP
      clear hi hlt'
      go_wp2_with fail
      go_loopw [10] (fun v wr => Goes w.heap.size w.heap.size bb win i w v wr) (fun v _ => (i - (intOf v).toNat))
      case atStart => exact ⟨0, by omega, rfl, hP, hB⟩
      case round =>
        clear hP hB
        obtain ⟨went, hw, rfl, hP, hB⟩ := hrel
        by_cases hlt2 : went < i
        · go_wp2_with fail
          refine (hP.out (sA_ok h1 h2 hn hw)).mono ?_
          rintro e w3 ⟨V, c, rfl, hO, hP3, hS3⟩
          rw [sA_out] at hP3
          generalize wr.heap.size = Bo at hO
          have hm := sA_len win i went
          generalize (sA win i went).outFrames.length = m at *
          have HM := Lib.hid hm
          have hm1 : 1 ≤ m := by omega
          have hm2 : m ≤ 16 := by omega
          have hm3 : went + m ≤ i := by omega
          have hB3 := hB.trans hS3.below
          clear hm hB hP hS3
          go_upto_if 71 with (fail)
          go_cut [12] (fun v wx => v = .int .i64 (m : Int) ∧ wx = w3)
          case first =>
            by_cases hc : (win : Int) < (i : Int) - went
            · go_wp2_with fail
              go_meet
              case rel => exact ⟨by have := HM.out; congr 1; omega, rfl⟩
            · go_wp2_with fail
              go_meet
              case rel => exact ⟨by have := HM.out; congr 1; omega, rfl⟩
          case rest =>
            obtain ⟨rfl, rfl⟩ := hcut
            go_wp2_with fail
            go_loopw [13] (fun v wr => Hears w.heap.size w.heap.size bb win i went m Bo c V w v wr) (fun v _ => (m - (intOf v).toNat))
            case atStart => exact ⟨0, by omega, rfl, hP3.sub (by simp), hO, hB3⟩
            case round =>
              clear hP3 hO hB3
              obtain ⟨k, hk, rfl, hP, hO, hB⟩ := hrel
              by_cases hkm : k < m
              · obtain ⟨g, hV, hg1, hg2⟩ := hO.head (by omega)
                subst hV
                obtain ⟨f0, f1, f2⟩ := fcells_at (sA_frame (win := win) (n := i) (went := went) (k := k) (by have := HM.out; omega))
                have c0 : wr.cell? ⟨g, k * 3, none⟩ = some (.bool false) := by rw [hO.cellAt (by omega), f0]
                have c1 : wr.cell? ⟨g, k * 3 + 1, none⟩ = some (.int .i64 ((went : Int) + k + 1)) := by rw [hO.cellAt (by omega), f1]
                have c2 : wr.cell? ⟨g, k * 3 + 2, none⟩ = some (.string ⟨#[120]⟩) := by rw [hO.cellAt (by omega), f2]; rfl
                clear f0 f1 f2
                obtain ⟨A, ca, G, cg, hE, hk2⟩ := hP.swap.fst
                go_wp2_with fail
                refine (hear_next hE (sB_ok h1 h2 (by omega)) (by decide) (by simp [sB])).mono ?_
                rintro e w4 ⟨rfl, hT⟩
                obtain ⟨hP4, hS4⟩ := hk2 _ _ hT
                have hP5 : PairAt w4 w.heap.size w.heap.size bb (ob (some ⟨g, 0, none⟩)) (sS win i went) (sB win (went + (k + 1)) (decide (0 < k + 1))) := by
                  have := hP4.swap
                  rw [show (⟨#[120]⟩ : ByteArray) = x from rfl, sB_next] at this
                  simpa [Nat.add_assoc] using this
                go_wp2_with fail
                go_roundw
                case rel => exact ⟨k + 1, by omega, by go_num, hP5, hS4.own hO (fun _ h => h), hB.trans hS4.below⟩
                case measure => simp [intOf]; omega
              · obtain rfl : k = m := by omega
                have hkd : decide (0 < k) = true := by simp; omega
                rw [hkd] at hP
                clear hkd
                go_wp2_with fail
                refine (hP.swap.out (sB_ok h1 h2 (by omega))).mono ?_
                rintro e w4 ⟨V2, cc, rfl, hO2, hP2, hS2⟩
                have hl1 : (sB win (went + k) true).outFrames.length = 1 := by rw [sB_ack]; rfl
                rw [hl1] at hO2
                rw [hl1]
                rw [sB_out] at hP2
                obtain ⟨g, hV, hg1, hg2⟩ := hO2.head (by omega)
                subst hV
                rw [sB_ack] at hO2
                have c0 : w4.cell? ⟨g, 0, none⟩ = some (.bool true) := by rw [hO2.cellAt (by omega)]; rfl
                have c1 : w4.cell? ⟨g, 1, none⟩ = some (.int .i64 ((went : Int) + k)) := by rw [hO2.cellAt (by omega)]; simp [fcells, LFrame.cells]
                have c2 : w4.cell? ⟨g, 2, none⟩ = some (.string ⟨#[]⟩) := by rw [hO2.cellAt (by omega)]; rfl
                have hB4 := hB.trans hS2.below
                have hP6 := hP2.swap
                clear hl1 hO2 hP2 hS2 hP hO hB
                obtain ⟨A, ca, G, cg, hE, hk2⟩ := hP6.fst
                go_wp2_with fail
                refine (hear_ack_new w4 w.heap.size w.heap.size A G ca cg (sS win i went) k hE (sS_ok h1 h2 hn hw) (by omega) (by have := HM.out; simp [sS]; omega)).mono ?_
                rintro e w5 ⟨rfl, hT⟩
                obtain ⟨hP7, hS7⟩ := hk2 _ _ hT
                have hP8 : PairAt w5 w.heap.size w.heap.size bb [] (sA win i (went + k)) (sB win (went + k) false) := by
                  have := hP7.sub (Y := []) (by simp)
                  rw [HM.out] at this ⊢
                  rw [sS_ack] at this
                  exact this
                go_wp2_with fail
                go_roundw
                case rel => exact ⟨went + k, hm3, by go_num, hP8, hB4.trans hS7.below⟩
                case measure => simp [intOf]; omega
        · obtain rfl : went = i := by omega
          have hl0 : (sA win went went).data.length = 0 := by simp [sA]
          obtain ⟨A, ca, G, cg, hE, hk2⟩ := hP.fst
          obtain ⟨A2, ca2, G2, cg2, hE2, hk3⟩ := hP.swap.fst
          go_wp2_with fail
          refine (left_any wr _ _ A G ca cg _ hE (by simp [sA])).mono ?_
          rintro e w3 ⟨rfl, rfl⟩
          rw [hl0]
          go_wp2_with fail
          refine (got_any _ _ _ A2 G2 ca2 cg2 _ hE2 (by simp [sB]; omega)).mono ?_
          rintro e w3 ⟨V, c, rfl, hO, hb3⟩
          have hl1 : (sB win went false).got.length = went := by simp [sB]
          rw [hl1]
          have hP3 := hP.later hb3
          have hB3 := hB.trans (hb3.mono hP.base)
          clear hO hl1 hl0 hk2 hk3 hE hE2 hP hB hb3
          go_wp2_with fail
          refine (hP3.out (sA_ok h1 h2 hn hw)).mono ?_
          rintro e w4 ⟨V4, c4, rfl, hO4, hP4, hS4⟩
          have hl2 : (sA win went went).outFrames.length = 0 := by rw [sA_len]; simp
          rw [hl2]
          go_wp2_with fail
          go_ret
          exact ⟨rfl, hB3.trans hS4.below⟩

set_option maxRecDepth 100000 in
theorem walk_win (w : World) (win n : Int) (h : win < 1 ∨ 16 < win) :
    Calls Try.prog 4 #[.int .i64 win, .int .i64 n] w fun e w' => e = .returned (.bool true) ∧ Below w.heap.size w w' := by
  have HN := Lib.hid (new_bad w win 5 (by omega))
  by_cases a1 : win < 1
  · go_enter Try.func4, Try.ntmps4
    go_wp2_with fail
    refine HN.out.mono ?_
    rintro e w1 ⟨rfl, rfl⟩
    go_wp2_with fail
    refine HN.out.mono ?_
    rintro e w1 ⟨rfl, rfl⟩
    rw [errV_ne (by decide)]
    go_wp2_with fail
    go_ret
    exact ⟨rfl, Below.refl _ _⟩
  · have a2 : 16 < win := by omega
    go_enter Try.func4, Try.ntmps4
    go_wp2_with fail
    refine HN.out.mono ?_
    rintro e w1 ⟨rfl, rfl⟩
    go_wp2_with fail
    refine HN.out.mono ?_
    rintro e w1 ⟨rfl, rfl⟩
    rw [errV_ne (by decide)]
    go_wp2_with fail
    go_ret
    exact ⟨rfl, Below.refl _ _⟩

set_option maxRecDepth 100000 in
theorem walk_n (w : World) (win : Nat) (n : Int) (h1 : 1 ≤ win) (h2 : win ≤ 16) (hn : n < 0 ∨ 90 < n) :
    Calls Try.prog 4 #[.int .i64 win, .int .i64 n] w fun e w' => e = .returned (.bool true) ∧ Below w.heap.size w w' := by
  by_cases a1 : n < 0
  · go_enter Try.func4, Try.ntmps4
    go_wp2_with fail
    refine (new_ok w win 5 h1 h2 (by omega) (by omega)).mono ?_
    rintro e w1 ⟨rfl, _, hb1⟩
    go_wp2_with fail
    refine (new_ok w1 win 5 h1 h2 (by omega) (by omega)).mono ?_
    rintro e w2 ⟨rfl, _, hb2⟩
    go_wp2_with fail
    go_ret
    exact ⟨rfl, hb1.trans (hb2.mono hb1.size)⟩
  · have a2 : 90 < n := by omega
    go_enter Try.func4, Try.ntmps4
    go_wp2_with fail
    refine (new_ok w win 5 h1 h2 (by omega) (by omega)).mono ?_
    rintro e w1 ⟨rfl, _, hb1⟩
    go_wp2_with fail
    refine (new_ok w1 win 5 h1 h2 (by omega) (by omega)).mono ?_
    rintro e w2 ⟨rfl, _, hb2⟩
    go_wp2_with fail
    go_ret
    exact ⟨rfl, hb1.trans (hb2.mono hb1.size)⟩

theorem walk (w : World) (win n : Int) : Calls Try.prog 4 #[.int .i64 win, .int .i64 n] w fun e w' => e = .returned (.bool true) ∧ Below w.heap.size w w' := by
  by_cases h : win < 1 ∨ 16 < win
  · exact walk_win w win n h
  · obtain ⟨k, rfl⟩ := Int.eq_ofNat_of_zero_le (a := win) (by omega)
    by_cases hn : n < 0 ∨ 90 < n
    · exact walk_n w k n (by omega) (by omega) hn
    · obtain ⟨m, rfl⟩ := Int.eq_ofNat_of_zero_le (a := n) (by omega)
      exact walk_main w k m (by omega) (by omega) (by omega)

set_option maxRecDepth 100000 in
theorem lifted (os : Os) (started : os.Started) (H : Type) (enc : TypeId × Value → H) :
    ReturnsInHanded {} Try.checked os 4 .any (Rows.linkRowSpec.pre6 enc Try.prog Try.f4 Rows.linkRowRow.domain false) (Rows.linkRowSpec.post enc Try.prog Try.f4 false true false false) := by
  refine returnsInHanded_of_change (C := Try.checked) Try.own started (by kernel_rfl) Try.func4
    (ChangeSpec.witness6 (enc := enc) (C := Try.checked) false ⟨#[], #[.int .i64 0, .int .i64 0], []⟩ 8 (by kernel_rfl) (by kernel_rfl) (by kernel_rfl) (by kernel_rfl)) ?_
  intro W base args ds gs before hval0 hW _ _
  have hval : ∀ (j : Nat) t v, Try.f4.params[j]? = some t → args[j]? = some v → Value.okWide Try.prog W .any base t v := hval0
  obtain ⟨p, q, hA0, _⟩ := id hW
  have hA : DataW.TrodAll enc Try.prog W 0 (fun _ => true) true Try.f4.params.toList args.toList ds p := hA0
  rw [Try.params4] at hA hval
  obtain ⟨v0, v1, d0, d1, p0, p1, rfl, rfl, rfl, h0, h1⟩ := trodAll_two hA
  obtain ⟨a, rfl, rfl, rfl, wa⟩ := open_int Try.underlying3 (hval 0 3 v0 rfl rfl) h0
  obtain ⟨b, rfl, rfl, rfl, wb⟩ := open_int Try.underlying3 (hval 1 3 v1 rfl rfl) h1
  refine (walk W a b).mono fun e W' ⟨he, hb⟩ => ⟨_, he, ?_⟩
  exact law_post Try.laidOut (tb := 4) (by kernel_rfl) Try.underlying4 (by rw [Try.params4]; simp only [List.mem_cons, List.not_mem_nil, or_false]; rintro t (rfl | rfl) <;> exact ⟨by kernel_rfl, of_decide_eq_true (by kernel_rfl)⟩) rfl rfl hW hb

theorem holds : Rows.LinkRowSaid :=
  OpenClaim.holds_of_wide 4 Try.f4 rfl rfl rfl rfl rfl rfl rfl ⟨rfl, rfl, rfl, rfl, rfl⟩ rfl rfl rfl rfl rfl (by kernel_rfl) Try.func4 (by kernel_rfl)
    (of_decide_eq_true (by kernel_rfl)) (by unfold Func.isWrapper; first | (rw [if_pos (by decide +kernel)]; kernel_rfl) | (rw [if_neg (by decide +kernel)]; exact ⟨rfl, rfl⟩))
    (fun os started H enc _ => lifted os started H enc)
#print axioms holds
end lawLinkRow
end Go.Proofs.Ytpccmnedagkoiaa
