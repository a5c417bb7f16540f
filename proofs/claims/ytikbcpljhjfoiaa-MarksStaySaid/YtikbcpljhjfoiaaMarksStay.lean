/- WHAT WAS NOT SEEN STAYS: the law MarksStay answers true. Conditions: none. -/
import Derived.Test.YtikbcpljhjfoiaaMarkDel
import Derived.Test.YtikbcpljhjfoiaaSeenLaw
import Derived.Test.YtikbcpljhjfoiaaRefIn
import Derived.Test.YtikbcpljhjfoiaaSameMarks
import Derived.Test.YtikbcpljhjfoiaaOpenDir
import Derived.Test.YtikbcpljhjfoiaaLift
namespace Go.Proofs.Ytikbcpljhjfoiaa
open Go.RowKit Go.WideShapes Go.ChangeShapes Go.ChangeAt
set_option linter.unusedVariables false
namespace lawMarksStay
def nb : ByteArray := ⟨#[110, 98]⟩
def one : LMark := ⟨nb, ⟨1, 1⟩⟩
theorem fact : cutErr [] one = 0 ∧ giveM (cutErr [] one) (cutRes [] one) = [one] := by
  have h : cutErr [] one = 0 := by decide +kernel
  refine ⟨h, ?_⟩
  rw [h, giveM, if_pos rfl]
  rfl
theorem ok_msized {l : List LMark} (h : MarksOk l) : MSized l := by
  intro x hx
  have h1 := h.marks x hx
  unfold markErr at h1
  by_cases h2 : placeErr x.place ≠ 0
  · rw [if_pos h2] at h1; exact absurd h1 h2
  · have h3 : placeErr x.place = 0 := by omega
    unfold placeErr at h3
    by_cases h4 : 12 < x.place.size
    · rw [if_pos h4] at h3; omega
    · omega
/-- What holds if both are taken. -/
structure Stay (l : List LMark) (m : LMark) (x : List LMark) (seen all : List LDot) (z w : List LMark) (left : List LDot) : Prop where
  x_ok : MarksOk x
  m_ok : markErr m = 0
  p_ok : placeErr m.place = 0
  x_has : cutErr x m = 0
  y_eq : cutRes x m = x
  all_eq : seenErr x m.place = 0
  z_err : joinErr x m.place all = 0
  z_ok : MarksOk z
  z_eq : joinRes x m.place all = z
  none_err : seenErr z m.place = 0
  none_eq : seenAt z m.place = []
  lens : z.length + all.length = x.length
  w_err : joinErr x m.place seen = 0
  w_ok : MarksOk w
  w_eq : joinRes x m.place seen = w
  left_err : seenErr w m.place = 0
  left_eq : seenAt w m.place = if inD seen m.dot = true then [] else [m.dot]
  few1 : all.length ≤ 40
  few2 : seen.length ≤ 40
theorem stay {l : List LMark} {m : LMark} (h2 : cutErr l m = 0) : Stay l m (cutRes l m) (seenAt l m.place) (seenAt (cutRes l m) m.place) (joinRes (cutRes l m) m.place (seenAt (cutRes l m) m.place)) (joinRes (cutRes l m) m.place (seenAt l m.place)) (seenAt (joinRes (cutRes l m) m.place (seenAt l m.place)) m.place) := by
  obtain ⟨b, c, _⟩ := cut_ok h2
  have hx := cut_marks h2
  have hp : placeErr m.place = 0 := by
    unfold markErr at c
    by_cases h3 : placeErr m.place ≠ 0
    · rw [if_pos h3] at c; exact absurd c h3
    · omega
  have sl : (seenAt l m.place).length ≤ 40 := Nat.le_trans (seenAt_len _ _) b.few
  have sx : (seenAt (cutRes l m) m.place).length ≤ 40 := Nat.le_trans (seenAt_len _ _) hx.few
  have je : ∀ seen : List LDot, seen.length ≤ 40 → riseErr seen = 0 → joinErr (cutRes l m) m.place seen = 0 := fun seen hs hr => by
    unfold joinErr
    rw [if_neg (fun h => h (marks_zero hx)), if_neg (fun h => h hp), if_neg (by omega), hr]
  have se : ∀ k : List LMark, MarksOk k → seenErr k m.place = 0 := fun k hk => by
    unfold seenErr
    rw [if_neg (fun h => h (marks_zero hk)), hp]
  refine ⟨hx, c, hp, cut_zero hx c (.inl (cut_twice b.rising m)), if_pos (cut_twice b.rising m), se _ hx, je _ sx (rise_zero (seenAt_ok hx _) (seenAt_pair hx.rising _)), join_ok hx _ _, rfl, se _ (join_ok hx _ _), seenAt_self _ _, join_len _ _, je _ sl (rise_zero (seenAt_ok b _) (seenAt_pair b.rising _)), join_ok hx _ _, rfl, se _ (join_ok hx _ _), seenAt_cut b.rising m, sx, sl⟩
set_option maxRecDepth 100000 in
set_option maxHeartbeats 8000000 in
theorem walk (w : World) (A : Option Addr) (c : Nat) (l : List LMark) (m : LMark) (h : Reads w w.heap.size 3 A l.length (mcells l)) (hs : MSized l) (hn : l.length ≤ 9223372036854775807) (hm : m.place.size ≤ 9223372036854775807) :
    Calls Try.prog 4 #[.slice A l.length c, .agg #[.string m.place, .int .i64 m.dot.who, .int .i64 m.dot.n]] w (CheckPost w (.bool true)) := by
  obtain ⟨W0, hW0⟩ : ∃ W0, W0 = (w.alloc (.cells #[.string m.place, .int .i64 m.dot.who, .int .i64 m.dot.n] 43)).alloc (.cells #[.string ⟨#[110, 98]⟩, .int .i64 1, .int .i64 1] 43) := ⟨_, rfl⟩
  have HSZ : Hid (w.heap.size + 1 < W0.heap.size) := by show _ < _; rw [hW0]; simp
  have HBW : Hid (Below w.heap.size w W0) := by show Below _ _ _; rw [hW0]; exact ((Below.refl _ _).alloc (Nat.le_refl _) _).alloc (by simp) _
  have HR : Hid (∀ W, Below W0.heap.size W0 W → Reads W W.heap.size 3 A l.length (mcells l)) := fun W hb => ((((h.below HBW.out).more HBW.out.size).below hb).more hb.size)
  have HBK : Hid (∀ W, Below W0.heap.size W0 W → W.cell? ⟨w.heap.size, 0, none⟩ = some (.string m.place) ∧ W.cell? ⟨w.heap.size, 1, none⟩ = some (.int .i64 m.dot.who) ∧ W.cell? ⟨w.heap.size, 2, none⟩ = some (.int .i64 m.dot.n)) := fun W hb => by
    have h0 : Blk W0 w.heap.size 43 #[.string m.place, .int .i64 m.dot.who, .int .i64 m.dot.n] := by rw [hW0]; exact (Blk.new w _ _).alloc _
    have k := h0.below hb (by have := HSZ.out; omega)
    exact ⟨by rw [k.cell]; rfl, by rw [k.cell]; rfl, by rw [k.cell]; rfl⟩
  have HBO : Hid (∀ W, Below W0.heap.size W0 W → W.cell? ⟨w.heap.size + 1, 0, none⟩ = some (.string ⟨#[110, 98]⟩) ∧ W.cell? ⟨w.heap.size + 1, 1, none⟩ = some (.int .i64 1) ∧ W.cell? ⟨w.heap.size + 1, 2, none⟩ = some (.int .i64 1)) := fun W hb => by
    have h0 : Blk W0 (w.heap.size + 1) 43 #[.string ⟨#[110, 98]⟩, .int .i64 1, .int .i64 1] := by rw [hW0]; exact blk_new_at (by simp)
    have k := h0.below hb HSZ.out
    exact ⟨by rw [k.cell]; rfl, by rw [k.cell]; rfl, by rw [k.cell]; rfl⟩
  have HB0 : Hid (Below W0.heap.size W0 W0) := Below.refl _ _
  have KC := Lib.hid (fun W A c l m hr hs hn hm => cut_any W A c l m hr hs hn hm)
  have KS := Lib.hid (fun W A c l p hr hs hn hp => mseen_any W A c l p hr hs hn hp)
  have KJ := Lib.hid (fun W A c l p A2 c2 seen hr hs hn hp h2 hn2 => join_any W A c l p A2 c2 seen hr hs hn hp h2 hn2)
  have HS : Hid (MSized l) := hs
  have HN : Hid (l.length ≤ 9223372036854775807) := hn
  have HM : Hid (m.place.size ≤ 9223372036854775807) := hm
  clear h hs hn hm
  obtain ⟨q, ⟨d, n⟩⟩ := m
  simp only at hW0 HBK HM
  go_enter Try.func4, Try.ntmps4
  go_wp2_with fail
  rw [← hW0]
  clear hW0
  refine (KC.out _ none 0 [] one Reads.none_ (by intro x hx; simp at hx) (by simp) (by decide)).mono ?_
  rintro e w1 ⟨V0, c0, rfl, hO, hb1⟩
  rw [fact.2] at hO ⊢
  rw [fact.1, show errV 0 = .nilIface from rfl]
  obtain ⟨g0, rfl, _, _⟩ := hO.head (by simp)
  have f0 : w1.cell? ⟨g0, 0, none⟩ = some (.string ⟨#[110, 98]⟩) := by rw [hO.cellAt (by simp)]; rfl
  have f1 : w1.cell? ⟨g0, 1, none⟩ = some (.int .i64 1) := by rw [hO.cellAt (by simp)]; rfl
  have f2 : w1.cell? ⟨g0, 2, none⟩ = some (.int .i64 1) := by rw [hO.cellAt (by simp)]; rfl
  obtain ⟨o0, o1, o2⟩ := HBO.out _ hb1
  have heq := fun W => SameMarks.eq_one W ⟨#[110, 98]⟩ ⟨#[110, 98]⟩ 1 1 1 1
  have HB1 := Lib.hid hb1
  clear hb1 hO
  go_wp2_with fail
  go_quiet (fail)
  clear f0 f1 f2 o0 o1 o2 heq
  rename_i nq
  have HB2 : Hid (Below W0.heap.size W0 (w1.drewN nq)) := below_drewN HB1.out _
  generalize w1.drewN nq = w2 at *
  clear HB1
  obtain ⟨d0, d1, d2⟩ := HBK.out _ HB2.out
  go_wp2_with fail
  refine (KS.out _ A c l q (HR.out _ HB2.out) HS.out HN.out HM.out).mono ?_
  rintro e w3 ⟨Vs, cs, rfl, hO, hb⟩
  have HB3 := Lib.hid (HB2.out.trans (hb.mono HB2.out.size))
  have HSR : Hid (∀ W, Below w3.heap.size w3 W → Reads W W.heap.size 2 Vs (giveD (seenErr l q) (seenAt l q)).length (dcells (giveD (seenErr l q) (seenAt l q)))) := fun W hb => (hO.reads.below hb).more hb.size
  clear hO hb d0 d1 d2 HB2
  obtain ⟨d0, d1, d2⟩ := HBK.out _ HB3.out
  go_wp2_with fail
  refine (KC.out _ A c l ⟨q, ⟨d, n⟩⟩ (HR.out _ HB3.out) HS.out HN.out HM.out).mono ?_
  rintro e w4 ⟨Vx, cx, rfl, hO, hb⟩
  have HB4 := Lib.hid (HB3.out.trans (hb.mono HB3.out.size))
  have HB34 : Hid (Below w3.heap.size w3 w4) := hb
  have HXR : Hid (∀ W, Below w4.heap.size w4 W → Reads W W.heap.size 3 Vx (giveM (cutErr l ⟨q, ⟨d, n⟩⟩) (cutRes l ⟨q, ⟨d, n⟩⟩)).length (mcells (giveM (cutErr l ⟨q, ⟨d, n⟩⟩) (cutRes l ⟨q, ⟨d, n⟩⟩)))) := fun W hb => (hO.reads.below hb).more hb.size
  have HXC : Hid ((giveM (cutErr l ⟨q, ⟨d, n⟩⟩) (cutRes l ⟨q, ⟨d, n⟩⟩)).length ≤ cx ∧ cx ≤ 9223372036854775807) := ⟨hO.cap_le, by have := hO.cap_max; unfold maxLen at this; exact this⟩
  clear hO hb d0 d1 d2
  by_cases he1 : seenErr l q = 0
  · by_cases he2 : cutErr l ⟨q, ⟨d, n⟩⟩ = 0
    · have ST := stay he2
      have e1 : giveD (seenErr l q) (seenAt l q) = seenAt l q := if_pos he1
      have e2 : giveM (cutErr l ⟨q, ⟨d, n⟩⟩) (cutRes l ⟨q, ⟨d, n⟩⟩) = cutRes l ⟨q, ⟨d, n⟩⟩ := if_pos he2
      rw [e1] at HSR ⊢
      rw [e2] at HXR HXC ⊢
      rw [he1, he2, show errV 0 = .nilIface from rfl]
      simp only at ST
      clear e1 e2 he1 he2 KC HS HN HR HB3
      generalize cutRes l ⟨q, ⟨d, n⟩⟩ = x at *
      generalize seenAt l q = seen at *
      generalize hall : seenAt x q = all at *
      generalize joinRes x q all = z at *
      generalize joinRes x q seen = ww at *
      generalize hleft : seenAt ww q = left at *
      have HALL := Lib.hid hall
      have HLEFT := Lib.hid hleft
      have KC := Lib.hid (fun W A c l m hr hs hn hm => cut_any W A c l m hr hs hn hm)
      have HST := Lib.hid ST
      have hxl := ST.x_ok.few
      have hzl := ST.z_ok.few
      have hwl := ST.w_ok.few
      have hln := ST.lens
      have hf1 := ST.few1
      have hf2 := ST.few2
      have HXS := Lib.hid (ok_msized ST.x_ok)
      have HZS := Lib.hid (ok_msized ST.z_ok)
      have HWS := Lib.hid (ok_msized ST.w_ok)
      have EY1 := Lib.hid ST.x_has
      have EY : Hid (giveM (cutErr x ⟨q, ⟨d, n⟩⟩) (cutRes x ⟨q, ⟨d, n⟩⟩) = x) := by show _ = _; rw [ST.x_has, giveM, if_pos rfl]; exact ST.y_eq
      have EA1 := Lib.hid ST.all_eq
      have EA : Hid (giveD (seenErr x q) (seenAt x q) = all) := by show _ = _; rw [ST.all_eq, giveD, if_pos rfl]; exact HALL.out
      have EZ1 := Lib.hid ST.z_err
      have EZ : Hid (giveM (joinErr x q all) (joinRes x q all) = z) := by show _ = _; rw [ST.z_err, giveM, if_pos rfl]; exact ST.z_eq
      have EN1 := Lib.hid ST.none_err
      have EN : Hid (giveD (seenErr z q) (seenAt z q) = []) := by show _ = _; rw [ST.none_err, giveD, if_pos rfl]; exact ST.none_eq
      have EW1 := Lib.hid ST.w_err
      have EW : Hid (giveM (joinErr x q seen) (joinRes x q seen) = ww) := by show _ = _; rw [ST.w_err, giveM, if_pos rfl]; exact ST.w_eq
      have EL1 := Lib.hid ST.left_err
      have EL : Hid (giveD (seenErr ww q) (seenAt ww q) = left) := by show _ = _; rw [ST.left_err, giveD, if_pos rfl]; exact HLEFT.out
      have ELL : Hid (left = if inD seen ⟨d, n⟩ = true then [] else [⟨d, n⟩]) := by show _ = _; rw [← HLEFT.out]; exact ST.left_eq
      clear ST hall hleft
      obtain ⟨d0, d1, d2⟩ := HBK.out _ HB4.out
      go_wp2_with fail
      refine (KC.out _ Vx cx x ⟨q, ⟨d, n⟩⟩ (HXR.out _ (Below.refl _ _)) HXS.out (by omega) HM.out).mono ?_
      rintro e w5 ⟨Vy, cy, rfl, hO, hb⟩
      rw [EY.out] at hO ⊢
      rw [EY1.out, show errV 0 = .nilIface from rfl]
      have HX5 : Hid (Below w4.heap.size w4 w5) := hb
      have HYR := Lib.hid hO.reads
      clear hO hb d0 d1 d2
      go_wp2_with fail
      refine (SameMarks.any _ Vx Vy cx cy x x (HXR.out _ HX5.out) HYR.out (by omega) (by omega)).mono ?_
      rintro e w6 ⟨rfl, hb⟩
      rw [decide_eq_true (show x = x from rfl)]
      have HX6 := Lib.hid (HX5.out.trans (hb.mono HX5.out.size))
      clear hb HYR HX5
      have HBK4 : Hid (∀ W, Below w4.heap.size w4 W → W.cell? ⟨w.heap.size, 0, none⟩ = some (.string q) ∧ W.cell? ⟨w.heap.size, 1, none⟩ = some (.int .i64 d) ∧ W.cell? ⟨w.heap.size, 2, none⟩ = some (.int .i64 n)) := fun W hb => HBK.out W (HB4.out.trans (hb.mono HB4.out.size))
      obtain ⟨d0, d1, d2⟩ := HBK4.out _ HX6.out
      go_wp2_with fail
      refine (KS.out _ Vx cx x q (HXR.out _ HX6.out) HXS.out (by omega) HM.out).mono ?_
      rintro e w7 ⟨Va, ca, rfl, hO, hb⟩
      rw [EA.out] at hO ⊢
      rw [EA1.out, show errV 0 = .nilIface from rfl]
      have HX7 := Lib.hid (HX6.out.trans (hb.mono HX6.out.size))
      have HAR := Lib.hid hO.reads
      clear hO hb d0 d1 d2
      obtain ⟨d0, d1, d2⟩ := HBK4.out _ HX7.out
      go_wp2_with fail
      refine (KJ.out _ Vx cx x q Va ca all (HXR.out _ HX7.out) HXS.out (by omega) HM.out HAR.out (by omega)).mono ?_
      rintro e w8 ⟨Vz, cz, rfl, hO, hb⟩
      rw [EZ.out] at hO ⊢
      rw [EZ1.out, show errV 0 = .nilIface from rfl]
      have HX8 := Lib.hid (HX7.out.trans (hb.mono HX7.out.size))
      have HZR := Lib.hid hO.reads
      clear hO hb d0 d1 d2
      obtain ⟨d0, d1, d2⟩ := HBK4.out _ HX8.out
      go_wp2_with fail
      refine (KS.out _ Vz cz z q HZR.out HZS.out (by omega) HM.out).mono ?_
      rintro e w9 ⟨Vn, cn, rfl, hO, hb⟩
      rw [EN.out, EN1.out, show errV 0 = .nilIface from rfl]
      have HX9 := Lib.hid (HX8.out.trans (hb.mono HX8.out.size))
      clear hO hb d0 d1 d2
      obtain ⟨d0, d1, d2⟩ := HBK4.out _ HX9.out
      have hsum : ((z.length : Int) + (all.length : Int) != (x.length : Int)) = false := by rw [bne_eq_false_iff_eq]; omega
      go_wp2_with fail
      refine (KJ.out _ Vx cx x q Vs cs seen (HXR.out _ HX9.out) HXS.out (by omega) HM.out (HSR.out _ (HB34.out.trans (HX9.out.mono HB34.out.size))) (by omega)).mono ?_
      rintro e w10 ⟨Vw, cw, rfl, hO, hb⟩
      rw [EW.out] at hO ⊢
      rw [EW1.out, show errV 0 = .nilIface from rfl]
      have HX10 := Lib.hid (HX9.out.trans (hb.mono HX9.out.size))
      have HWR := Lib.hid hO.reads
      clear hO hb d0 d1 d2
      obtain ⟨d0, d1, d2⟩ := HBK4.out _ HX10.out
      go_wp2_with fail
      refine (KS.out _ Vw cw ww q HWR.out HWS.out (by omega) HM.out).mono ?_
      rintro e w11 ⟨Vl, cl, rfl, hO, hb⟩
      rw [EL.out] at hO ⊢
      rw [EL1.out, show errV 0 = .nilIface from rfl]
      have HX11 := Lib.hid (HX10.out.trans (hb.mono HX10.out.size))
      have HLR := Lib.hid hO
      clear hO hb d0 d1 d2
      obtain ⟨d0, d1, d2⟩ := HBK4.out _ HX11.out
      go_wp2_with fail
      refine (rin_any _ Vs cs seen ⟨d, n⟩ (HSR.out _ (HB34.out.trans (HX11.out.mono HB34.out.size))) (by omega)).mono ?_
      rintro e w12 ⟨rfl, hb⟩
      have HX12 := Lib.hid (HX11.out.trans (hb.mono HX11.out.size))
      have HLO := Lib.hid (HLR.out.below hb)
      have HBF : Hid (Below w.heap.size w w12) := HBW.out.trans ((HB4.out.trans (HX12.out.mono HB4.out.size)).mono HBW.out.size)
      clear hb d0 d1 d2 HLR
      obtain ⟨d0, d1, d2⟩ := HBK4.out _ HX12.out
      cases hi : inD seen ⟨d, n⟩ with
      | true =>
        have HLE : Hid (left = []) := by show _ = _; rw [ELL.out, if_pos hi]
        rw [HLE.out]
        clear hi
        go_wp2_with fail
        go_quiet (fail)
        go_wp2_with fail
        go_ret
        exact ⟨rfl, below_drewN HBF.out _⟩
      | false =>
        have HLE : Hid (left = [⟨d, n⟩]) := by show _ = _; rw [ELL.out, if_neg (by rw [hi]; decide)]
        rw [HLE.out] at HLO ⊢
        obtain ⟨g1, rfl, _, _⟩ := HLO.out.head (by simp)
        have k0 : w12.cell? ⟨g1, 0, none⟩ = some (.int .i64 d) := by rw [HLO.out.cellAt (by simp)]; rfl
        have k1 : w12.cell? ⟨g1, 1, none⟩ = some (.int .i64 n) := by rw [HLO.out.cellAt (by simp)]; rfl
        have heq := fun W => MarkJoin.eq_dot W d d n n
        have e3 : (d == d && (n == n)) = true := by simp
        clear hi
        go_wp2_with fail
        go_quiet (fail)
        go_wp2_with fail
        go_ret
        exact ⟨rfl, below_drewN HBF.out _⟩
    · have HV := Lib.hid (errV_ne he2)
      have HBF : Hid (Below w.heap.size w w4) := HBW.out.trans (HB4.out.mono HBW.out.size)
      rw [he1, show errV 0 = .nilIface from rfl, HV.out]
      clear he1 he2
      go_wp2_with fail
      go_ret
      exact ⟨rfl, HBF.out⟩
  · have HV := Lib.hid (errV_ne he1)
    have HBF : Hid (Below w.heap.size w w4) := HBW.out.trans (HB4.out.mono HBW.out.size)
    rw [HV.out]
    clear he1
    go_wp2_with fail
    go_ret
    exact ⟨rfl, HBF.out⟩
set_option maxRecDepth 100000 in
theorem lifted (os : Os) (started : os.Started) (H : Type) (enc : TypeId × Value → H) :
    ReturnsInHanded {} Try.checked os 4 .any (Rows.marksStaySpec.pre6 enc Try.prog Try.f4 Rows.marksStayRow.domain false) (Rows.marksStaySpec.post enc Try.prog Try.f4 false true false false) := by
  refine returnsInHanded_of_change (C := Try.checked) Try.own started (by kernel_rfl) Try.func4
    (ChangeSpec.witness6 (enc := enc) (C := Try.checked) false ⟨#[], #[.slice none 0 0, .agg #[.string ⟨#[]⟩, .int .i64 0, .int .i64 0]], []⟩ 8 (by kernel_rfl) (by kernel_rfl) (by kernel_rfl) (by kernel_rfl)) ?_
  intro W base args ds gs before hval0 hW _ _
  have hval : ∀ (j : Nat) t v, Try.f4.params[j]? = some t → args[j]? = some v → Value.okWide Try.prog W .any base t v := hval0
  obtain ⟨p, q, hA0, _⟩ := id hW
  have hA : DataW.TrodAll enc Try.prog W 0 (fun _ => true) true Try.f4.params.toList args.toList ds p := hA0
  rw [Try.params4] at hA hval
  obtain ⟨v0, v1, d0, d1, p0, p1, rfl, rfl, rfl, h0, h1⟩ := trodAll_two hA
  obtain ⟨A0, c0, l0, rfl, r0, g0, lc0, cm0⟩ := arg_marks (hval 0 39 v0 rfl rfl) h0
  obtain ⟨y1, rfl, g1⟩ := arg_mark (hval 1 43 v1 rfl rfl) h1
  refine (walk W A0 c0 l0 y1 r0 (fun x hx => by have := (g0 x hx).1; unfold maxLen at this; omega) (by unfold maxLen at cm0; omega) (by have := g1.1; unfold maxLen at this; omega)).mono fun e W' ⟨he, hb⟩ => ⟨_, he, ?_⟩
  exact law_post Try.laidOut (tb := 4) (by kernel_rfl) Try.underlying4 (by rw [Try.params4]; simp only [List.mem_cons, List.not_mem_nil, or_false]; rintro t (rfl | rfl) <;> exact ⟨by kernel_rfl, of_decide_eq_true (by kernel_rfl)⟩) rfl rfl hW hb

theorem holds : Rows.MarksStaySaid :=
  OpenClaim.holds_of_wide 4 Try.f4 rfl rfl rfl rfl rfl rfl rfl ⟨rfl, rfl, rfl, rfl, rfl⟩ rfl rfl rfl rfl rfl (by kernel_rfl) Try.func4 (by kernel_rfl)
    (of_decide_eq_true (by kernel_rfl)) (by unfold Func.isWrapper; first | (rw [if_pos (by decide +kernel)]; kernel_rfl) | (rw [if_neg (by decide +kernel)]; exact ⟨rfl, rfl⟩))
    (fun os started H enc _ => lifted os started H enc)
#print axioms holds
end lawMarksStay
end Go.Proofs.Ytikbcpljhjfoiaa
