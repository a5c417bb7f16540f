/- leaflaw2.LinkKeeps, walked. Conditions: none of our own. -/
import Derived.BigRegion
import Derived.Deep.CutBlock
import Derived.Test.YtlcjgldlblpboaaKeepScene
import Derived.Test.YtlcjgldlblpboaaSameTexts
namespace Go.Proofs.Ytlcjgldlblpboaa
open Go.RowKit
set_option linter.unusedVariables false
namespace lawLinkKeeps
def nums (l : List Int) : List Value := l.map (Value.int .i64)
def xT : ByteArray := ⟨#[120]⟩
theorem one_out : ((LEnd.new 1 1).send xT).outFrames = [⟨false, 1, xT⟩] := by rfl
/-- What holds of both ends and of what is under way. -/
structure KInv (win wait : Nat) (T : List ByteArray) (fs : List LFrame) (sa sb : LEnd) : Prop where
  ka : KA win wait T sa
  kb : KB win wait T sa.acked sa.said sb
  kf : ∀ f ∈ fs, KF T sa.said f
theorem out_len {win wait : Nat} {T : List ByteArray} {sa : LEnd} (h : KA win wait T sa) (h2 : win ≤ 16) : sa.outFrames.length ≤ 16 := by
  rw [h.frames, List.length_map, List.length_range']
  have : sa.wide ≤ sa.win := by unfold LEnd.wide; omega
  have := h.win
  omega
theorem KInv.tail {win wait : Nat} {T : List ByteArray} {f : LFrame} {fs : List LFrame} {sa sb : LEnd} (h : KInv win wait T (f :: fs) sa sb) : KInv win wait T fs sa sb := ⟨h.ka, h.kb, fun x hx => h.kf x (by simp [hx])⟩
theorem KInv.turn {win wait : Nat} {T : List ByteArray} {f : LFrame} {fs : List LFrame} {sa sb : LEnd} (h : KInv win wait T (f :: fs) sa sb) : KInv win wait T (fs ++ [f]) sa sb := ⟨h.ka, h.kb, fun x hx => h.kf x (by simp at hx ⊢; rcases hx with h | h <;> simp [h])⟩
theorem KInv.hear {win wait : Nat} {T : List ByteArray} {f : LFrame} {fs : List LFrame} {sa sb : LEnd} (h : KInv win wait T (f :: fs) sa sb) (hT : ∀ x ∈ T, x.size ≤ 200) : sb.hearErr f = 0 ∧ KInv win wait T (f :: fs) sa (sb.hear f) := by
  obtain ⟨k1, k2, k3, k4⟩ := h.kb.hear h.ka.said hT (h.kf f (by simp))
  exact ⟨k1, h.ka, k2, h.kf⟩
def MainAt (w : World) (bb : Nat) (win wait : Nat) (T : List ByteArray) (V : Option Addr) (cv : Nat) (nf : Nat) (most : Nat) (tk : Nat) (u at_ : Value) (wr : World) : Prop :=
  ∃ (p : Nat) (fs : List LFrame) (A : Option Addr) (g o c : Nat) (sa sb : LEnd), at_ = .int .i64 (p : Nat) ∧ p ≤ nf ∧ u = .slice A fs.length c ∧ fs.length ≤ most ∧ Hid (KS w w.heap.size w.heap.size bb T V cv fs A g o c sa sb wr) ∧ Hid (KInv win wait T fs sa sb) ∧ Hid (sa.ticks ≤ tk)
def MainLoop (w : World) (bb : Nat) (win wait : Nat) (T : List ByteArray) (V : Option Addr) (cv : Nat) (nf : Nat) (u at_ i : Value) (wr : World) : Prop :=
  ∃ k : Nat, k ≤ 40 ∧ i = .int .i64 (k : Nat) ∧ MainAt w bb win wait T V cv nf (20 * k) k u at_ wr
def FateLoop (w : World) (bb : Nat) (win wait : Nat) (T : List ByteArray) (V : Option Addr) (cv : Nat) (nf most tk : Nat) (u at_ i : Value) (wr : World) : Prop :=
  ∃ k : Nat, k ≤ 4 ∧ i = .int .i64 (k : Nat) ∧ MainAt w bb win wait T V cv nf (most + k) tk u at_ wr
def EndLoop (w : World) (bb : Nat) (win wait : Nat) (T : List ByteArray) (V : Option Addr) (cv : Nat) (i : Value) (wr : World) : Prop :=
  ∃ (k : Nat) (fs : List LFrame) (A : Option Addr) (g o c : Nat) (sa sb : LEnd), k ≤ 30 * (wait + 2) ∧ i = .int .i64 (k : Nat) ∧ Hid (KS w w.heap.size w.heap.size bb T V cv fs A g o c sa sb wr) ∧ Hid (KA win wait T sa ∧ KB win wait T sa.acked sa.said sb) ∧ Hid (sa.ticks ≤ 1000 + k) ∧ Hid (rest sa + k ≤ 30 * (wait + 2))
/-- The loop of sends. -/
def SendLoop (w : World) (B ba bb : Nat) (win wait : Nat) (n : Nat) (s i : Value) (wr : World) : Prop := ∃ (k : Nat) (T : List ByteArray) (V : Option Addr) (cv : Nat) (sa : LEnd), k ≤ n ∧ k ≤ 30 ∧ i = .int .i64 (k : Nat) ∧ s = .slice V T.length cv ∧ T.length ≤ k ∧ Hid (KS w B ba bb T V cv [] none 0 0 0 sa (LEnd.new win wait) wr) ∧ Hid (KA win wait T sa ∧ sa.acked = 0 ∧ sa.said = 0 ∧ sa.ticks = 0) ∧ Hid (∀ x ∈ T, x.size ≤ 200)
set_option maxRecDepth 100000 in
set_option maxHeartbeats 16000000 in
theorem walk_main (w : World) (win wait : Nat) (g1 : 1 ≤ win) (g2 : win ≤ 16) (g3 : 1 ≤ wait) (g4 : wait ≤ 20) (A : Option Addr) (ca : Nat) (data : List ByteArray) (h0 : Reads w w.heap.size 1 A data.length (strs data)) (hsz : ∀ x ∈ data, x.size ≤ maxLen) (hdl : data.length ≤ 9223372036854775807)
    (F : Option Addr) (cf : Nat) (fates : List Int) (h1 : Reads w w.heap.size 1 F fates.length (nums fates)) (hfl : fates.length ≤ 9223372036854775807) :
    Calls Try.prog 3 #[.int .i64 (win : Nat), .int .i64 (wait : Nat), .slice A data.length ca, .slice F fates.length cf] w (fun e w' => e = .returned (.bool true) ∧ Below w.heap.size w w') := by
  have HD := Lib.hid h0
  have HF := Lib.hid h1
  have HSZ := Lib.hid hsz
  clear h0 h1 hsz
  go_enter Try.func3, Try.ntmps3
  go_wp2_with fail
  refine (new_ok w win wait g1 g2 g3 g4).mono ?_
  rintro e w1 ⟨rfl, hA, hb1⟩
  go_wp2_with fail
  refine (new_ok w1 win wait g1 g2 g3 g4).mono ?_
  rintro e w2 ⟨rfl, hB, hb2⟩
  have hlt := hA.blk.lt
  have hP : PairAt w2 w.heap.size w.heap.size w1.heap.size [] (LEnd.new win wait) (LEnd.new win wait) :=
    ⟨none, 0, none, 0, none, 0, none, 0, hA.below hb2, ⟨hB.blk, by omega, hB.data.mono (by omega), hB.got.mono (by omega), hB.apart⟩, by simp [endBlocks, ob]; omega, by simp⟩
  have hBel : Below w.heap.size w w2 := hb1.trans (hb2.mono (by omega))
  have HP := Lib.hid hP
  have HB2 := Lib.hid hBel
  clear hP hBel hA hB hb1 hb2
  obtain ⟨bb, hbb⟩ : ∃ bb, bb = w1.heap.size := ⟨_, rfl⟩
  rw [← hbb] at HP ⊢
  clear hbb hlt
  go_wp2_with fail
  refine (new_ok w2 1 1 (by omega) (by omega) (by omega) (by omega)).mono ?_
  rintro e w3 ⟨rfl, hO, hb3⟩
  have HO3 := Lib.hid hO
  have HB3 : Hid (Below w2.heap.size w2 w3) := hb3
  clear hO hb3
  obtain ⟨bo, hbo⟩ : ∃ bo, bo = w2.heap.size := ⟨_, rfl⟩
  have HSND := Lib.hid (send_ok w3 w2.heap.size w2.heap.size none none 0 0 (LEnd.new 1 1) xT HO3.out (by decide) (by decide))
  rw [← hbo] at HSND ⊢
  have HBO := Lib.hid hbo
  clear hbo
  unfold xT at HSND
  go_wp2_with fail
  refine HSND.out.mono ?_
  rintro e w4 ⟨rfl, A4, c4, G4, cg4, hE4, hO4, _⟩
  have HE4 := Lib.hid hE4
  have HB4 : Hid (Below bo w2 w4) := by
    rw [HBO.out]
    exact HB3.out.trans (hO4.below HB3.out.size (fun i hi => by have := HBO.out; simp [endBlocks, ob] at hi; omega))
  clear hE4 hO4 HSND HO3
  have HOUT := Lib.hid (out_any w4 bo bo A4 c4 G4 cg4 ((LEnd.new 1 1).send ⟨#[120]⟩) HE4.out ⟨by decide, by decide, by decide, by decide, by decide, by decide, by decide, by decide, by decide⟩)
  go_wp2_with fail
  refine HOUT.out.mono ?_
  rintro e w5 ⟨V5, c5, rfl, hO5, hE5, hL5⟩
  have e1 : ((LEnd.new 1 1).send ⟨#[120]⟩).outFrames = [⟨false, 1, ⟨#[120]⟩⟩] := rfl
  rw [e1] at hO5
  obtain ⟨gf, rfl, hgf1, hgf2⟩ := hO5.head (by decide)
  have x1 : w5.cell? ⟨gf, 1, none⟩ = some (.int .i64 1) := by rw [hO5.cellAt (by decide)]; rfl
  have x2 : w5.cell? ⟨gf, 2, none⟩ = some (.string ⟨#[120]⟩) := by rw [hO5.cellAt (by decide)]; rfl
  have HB5 : Hid (Below w2.heap.size w2 w5) := by
    have hb4 := HB4.out
    have hlt4 := HE4.out.blk.lt
    rw [← HBO.out]
    exact hb4.trans (hL5.below (Nat.le_of_lt hlt4) (fun i hi => by simp at hi; omega))
  have hP5 := HP.out.later HB5.out
  have HKS : Hid (KS w w.heap.size w.heap.size bb [] none 0 [] none 0 0 0 (LEnd.new win wait) (LEnd.new win wait) w5) :=
    ⟨by simpa [ob, fob] using hP5, Own.nil _ _ _ _, FRow.nil _ _, by simp [ob], HB2.out.trans (HB5.out.mono HB2.out.size), Nat.le_refl _⟩
  clear hO5 hE5 hL5 e1 hP5 HB5 HP HOUT HE4 HB4 HB3 hgf1 hgf2 HB2
  go_upto_region 9 with (fail)
  go_cut [95] (fun v wx => v = .bool false ∧ Hid (KS w w.heap.size w.heap.size bb [] none 0 [] none 0 0 0 (LEnd.new win wait) (LEnd.new win wait) wx))
  case first =>
    have hq : ((⟨#[120]⟩ : ByteArray).toList == (⟨#[120]⟩ : ByteArray).toList) = true := BEq.rfl
    go_wp2_with fail
    go_meet
    case rel => exact ⟨by simp, HKS⟩
  case rest =>
    obtain ⟨rfl, HK⟩ := hcut
    clear HKS x1 x2
    go_upto_block 0 with (fail)
    go_cut [16] (fun s wx => ∃ (T : List ByteArray) (V : Option Addr) (cv : Nat) (sa : LEnd), s = .slice V T.length cv ∧ T.length ≤ 30 ∧ Hid (KS w w.heap.size w.heap.size bb T V cv [] none 0 0 0 sa (LEnd.new win wait) wx) ∧ Hid (KA win wait T sa ∧ sa.acked = 0 ∧ sa.said = 0 ∧ sa.ticks = 0) ∧ Hid (∀ x ∈ T, x.size ≤ 200))
    case first =>
      go_wp2_with fail
      go_loopw [16, 17] (fun s i wr => SendLoop w w.heap.size w.heap.size bb win wait data.length s i wr) (fun _ i _ => data.length - (intOf i).toNat)
      case atStart => exact ⟨0, [], none, 0, _, Nat.zero_le _, by omega, rfl, rfl, Nat.le_refl _, HK, Lib.hid ⟨KA.new win wait, rfl, rfl, rfl⟩, Lib.hid (by simp)⟩
      case round =>
        obtain ⟨k, T, V, cv, sa, hk, hk3, rfl, rfl, hT, HS, HKA, HT⟩ := hrel
        clear HK
        have k0 : (0 : Int) ≤ (k : Int) := by omega
        have k9 : (k : Int) ≤ 30 := by omega
        by_cases hkd : k < data.length
        · have k1 : (k : Int) < (data.length : Int) := by omega
          by_cases hk30 : k < 30
          · have k2 : (k : Int) < 30 := by omega
            obtain ⟨ad, hA, hab, hcell⟩ := HD.out.2 (by omega)
            have hcl : ∀ W, Below w.heap.size w W → W.cell? (ad.add k) = some (.string data[k]) := fun W hW => by
              rw [hW.cell (by rw [block_of_add]; exact hab)]
              exact hcell k _ (strs_get hkd)
            subst hA
            have HCL := Lib.hid hcl
            have c1 := hcl wr HS.out.below
            have hx := HSZ.out data[k] (List.getElem_mem hkd)
            have hal : sa.data.length < 100 := by have := HKA.out.1.len; omega
            have HSD := Lib.hid (HS.out.sendA data[k] hx hal)
            clear hcl hcell hab hal
            generalize data[k] = x at *
            go_wp2_with fail
            refine HSD.out.mono ?_
            by_cases hxs : 200 < x.size
            · rw [if_pos hxs, if_pos hxs]
              rintro e w6 ⟨rfl, h6⟩
              have HS6 := Lib.hid h6
              clear h6 HSD hxs c1
              rw [errV_ne (show (4 : Int) ≠ 0 by decide)]
              go_wp2_with fail
              go_roundw
              case rel => exact ⟨k + 1, T, V, cv, sa, by omega, by omega, by go_num, rfl, by omega, HS6, HKA, HT⟩
              case measure => simp [intOf]; omega
            · rw [if_neg hxs, if_neg hxs]
              rintro e w6 ⟨rfl, h6⟩
              have HS6 := Lib.hid h6
              have c2 := HCL.out w6 h6.below
              rw [show errV 0 = .nilIface from rfl]
              have HXS : Hid (x.size ≤ 200) := by show _ ≤ _; omega
              have HSA := Lib.hid (h6.step ((Below.refl w6.heap.size w6).alloc (Nat.le_refl _) (.cells #[.string x] 9)))
              have HRW := Lib.hid (Reads.row w6 9 #[.string x])
              have HFT : Fits (T.length + 1) 16 := Fits.of_small (by omega) (by decide)
              have HBS := Lib.hid HSA.out.hB
              clear h6 HSD hxs c1
              go_wp2_with (at_builtin; go_loud (refine wpList_app _ (.tmp 113) (.tmp 118) rfl rfl elemS rfl rfl HSA.out.sent HRW.out (oneCells_strs [x]) HFT HBS.out ?_; intro V7 cv7 w7 HO7 HL7 HX7; have HS7 := Lib.hid (HSA.out.more HO7 HL7 HX7); clear HO7 HL7 HX7))
              go_roundw
              case rel =>
                refine ⟨k + 1, T ++ [x], V7, cv7, sa.send x, by omega, by omega, by go_num, by simp, by simp; omega, HS7, Lib.hid ⟨HKA.out.1.send x, HKA.out.2.1, HKA.out.2.2.1, HKA.out.2.2.2⟩, Lib.hid (fun y hy => ?_)⟩
                rcases List.mem_append.1 hy with hy | hy
                · exact HT.out y hy
                · simp at hy; subst hy; exact HXS.out
              case measure => simp [intOf]; omega
          · have k2 : ¬ (k : Int) < 30 := by omega
            have hT3 : T.length ≤ 30 := by omega
            clear hk30
            go_wp2_with fail
            go_meet
            case rel => exact ⟨T, V, cv, sa, rfl, hT3, HS, HKA, HT⟩
        · have k1 : ¬ (k : Int) < (data.length : Int) := by omega
          have hT3 : T.length ≤ 30 := by omega
          clear hkd
          go_wp2_with fail
          go_meet
          case rel => exact ⟨T, V, cv, sa, rfl, hT3, HS, HKA, HT⟩
    case rest =>
      obtain ⟨T, V, cv, sa, rfl, hT, HS, HKA, HT⟩ := hcut
      clear HK
      go_upto_block 2 with (fail)
      have HST : Hid (MainAt w bb win wait T V cv fates.length 0 0 (.slice none 0 0) (.int .i64 (0 : Nat)) wc) := ⟨0, [], none, 0, 0, 0, sa, _, rfl, Nat.zero_le _, rfl, Nat.le_refl _, HS, Lib.hid ⟨HKA.out.1, by rw [HKA.out.2.1, HKA.out.2.2.1]; exact ⟨rfl, rfl, rfl, rfl, rfl, rfl, rfl, Nat.le_refl _, Nat.le_refl _⟩, by simp⟩, by show _ ≤ _; rw [HKA.out.2.2.2]; exact Nat.le_refl _⟩
      clear HS HKA
      go_cut [] (fun wx => ∃ u a, MainAt w bb win wait T V cv fates.length 1000 1000 u a wx)
      case first =>
        go_wp2_with fail
        go_loopw [18, 19, 20] (fun u a i wr => MainLoop w bb win wait T V cv fates.length u a i wr) (fun _ _ i _ => 40 - (intOf i).toNat)
        case atStart => exact ⟨0, by omega, rfl, HST.out⟩
        case round =>
          obtain ⟨k, hk, rfl, p, fs, A1, g, o, c, sa, sb, rfl, hp, rfl, hfs, HS, HI, HTK⟩ := hrel
          clear HST
          have k0 : (0 : Int) ≤ (k : Int) := by omega
          have k9 : (k : Int) ≤ 40 := by omega
          by_cases hk40 : k < 40
          · have k1 : (k : Int) < 40 := by omega
            have HOKA := Lib.hid (HI.out.ka.ok g1 g2 g3 g4 hT (by have := HTK.out; omega))
            have HOL := Lib.hid (out_len HI.out.ka g2)
            have HOA := Lib.hid (HS.out.outA HOKA.out)
            go_wp2_with fail
            refine HOA.out.mono ?_
            rintro e w6 ⟨G6, cg6, rfl, hO6, h6⟩
            have HO6 := Lib.hid hO6.reads
            have HS6 := Lib.hid h6
            have hB6 := h6.hB
            have hsum : fs.length + sa.outFrames.length ≤ 1000000 := by have := HOL.out; omega
            clear hO6 h6 HOA HS
            go_upto_region 24 with (at_builtin; go_loud (refine wpList_frow (.tmp 126) (.tmp 127) rfl rfl rfl rfl HS6.out.row hB6 HO6.out hsum ?_; intro A7 g7 o7 c7 w7 hR7 hL7 hX7; have HS7 := Lib.hid (HS6.out.app hR7 (by simp) hL7 hX7); clear hR7 hL7 hX7))
            have HI7 : Hid (KInv win wait T (fs ++ sa.outFrames) sa.out sb) := by
              have hka := HI.out.ka
              refine ⟨hka.out, HI.out.kb.more (Nat.le_refl _) (Nat.le_max_left _ _), fun f hf => ?_⟩
              rcases List.mem_append.1 hf with hf | hf
              · exact (HI.out.kf f hf).more (Nat.le_max_left _ _)
              · exact hka.said_all f hf
            have HTK7 : Hid (sa.out.ticks ≤ k) := by
              show (if sa.skip < sa.wide then 0 else sa.ticks) ≤ k
              have := HTK.out
              split <;> omega
            have hfs7 : (fs ++ sa.outFrames).length ≤ 20 * k + 16 := by have := HOL.out; simp; omega
            have HLE : Hid (fs.length + sa.outFrames.length = (fs ++ sa.outFrames).length) := by show _ = _; simp
            rw [HLE.out]
            clear HOKA HOL HI HTK HS6 HO6 hB6 hsum HLE hfs
            generalize fs ++ sa.outFrames = fs2 at *
            generalize sa.out = sa2 at *
            have HTA := Lib.hid (HS7.out.tickA (by have := HTK7.out; omega))
            go_wp2_with fail
            refine HTA.out.mono ?_
            rintro e w8 ⟨rfl, h8⟩
            have HS8 := Lib.hid h8
            have HI8 : Hid (KInv win wait T fs2 sa2.tick sb) := ⟨HI7.out.ka.tick, HI7.out.kb, HI7.out.kf⟩
            have HTK8 : Hid (sa2.tick.ticks ≤ k + 1) := by show sa2.ticks + 1 ≤ k + 1; have := HTK7.out; omega
            clear h8 HTA HS7 HI7 HTK7
            generalize sa2.tick = sa3 at *
            have HMA : Hid (MainAt w bb win wait T V cv fates.length (20 * k + 16) (k + 1) (.slice A7 fs2.length c7) (.int .i64 (p : Nat)) w8) := ⟨p, fs2, A7, g7, o7, c7, sa3, sb, rfl, hp, rfl, hfs7, HS8, HI8, HTK8⟩
            clear HS8 HI8 HTK8 hfs7 hp
            go_upto_block 4 with (fail)
            go_cut [18, 19] (fun u a wx => MainAt w bb win wait T V cv fates.length (20 * k + 20) (k + 1) u a wx)
            case first =>
              go_wp2_with fail
              go_loopw [18, 19, 22] (fun u a i wr => FateLoop w bb win wait T V cv fates.length (20 * k + 16) (k + 1) u a i wr) (fun _ _ i _ => 4 - (intOf i).toNat)
              case atStart => exact ⟨0, by omega, rfl, HMA.out⟩
              case round =>
                obtain ⟨j, hj, rfl, p, fs, A1, g, o, c, sa, sb, rfl, hp, rfl, hfs, HS, HI, HTK⟩ := hrel
                clear HMA
                have j0 : (0 : Int) ≤ (j : Int) := by omega
                have j9 : (j : Int) ≤ 4 := by omega
                have p0 : (0 : Int) ≤ (p : Int) := by omega
                by_cases hj4 : j < 4
                · have j1 : (j : Int) < 4 := by omega
                  cases hfz : fs with
                  | nil =>
                    subst hfz
                    have hfin : MainAt w bb win wait T V cv fates.length (20 * k + 20) (k + 1) (.slice A1 0 c) (.int .i64 (p : Nat)) wr := ⟨p, [], A1, g, o, c, sa, sb, rfl, hp, rfl, by simp, HS, HI, HTK⟩
                    have HFIN := Lib.hid hfin
                    clear hfin HS HI HTK
                    go_wp2_with fail
                    go_meet
                    case rel => exact HFIN.out
                  | cons f t =>
                    subst hfz
                    by_cases hpf : p < fates.length
                    · have p1 : (p : Int) < (fates.length : Int) := by omega
                      obtain ⟨hA1, hc0, hn0, x0, x1, x2⟩ := HS.out.row.head
                      subst hA1
                      obtain ⟨ad, hFa, hab, hcell⟩ := HF.out.2 (by omega)
                      have hfc : (wr.alloc (.cells #[.bool f.ack, .int .i64 f.seq, .string f.data] 33)).cell? (ad.add p) = some (.int .i64 fates[p]) := by
                        have hW := HS.out.below.alloc (Nat.le_trans (Nat.le_refl _) HS.out.below.size) (.cells #[.bool f.ack, .int .i64 f.seq, .string f.data] 33)
                        rw [hW.cell (by rw [block_of_add]; exact hab)]
                        exact hcell p _ (by simp [nums, hpf])
                      subst hFa
                      have HS1 := Lib.hid (HS.out.step ((Below.refl wr.heap.size wr).alloc (Nat.le_refl _) (.cells #[.bool f.ack, .int .i64 f.seq, .string f.data] 33)))
                      have HBX := Lib.hid (Blk.new wr 33 #[.bool f.ack, .int .i64 f.seq, .string f.data])
                      obtain ⟨W1, hW1⟩ : ∃ W1, W1 = wr.alloc (.cells #[.bool f.ack, .int .i64 f.seq, .string f.data] 33) := ⟨_, rfl⟩
                      obtain ⟨gx, hgx⟩ : ∃ gx, gx = wr.heap.size := ⟨_, rfl⟩
                      rw [← hW1] at HS1 hfc HBX
                      rw [← hgx] at HBX
                      have HGX : Hid (g < gx) := by show g < gx; rw [hgx]; exact HS.out.row.came.lt hc0
                      obtain ⟨y, hy⟩ : ∃ y, y = fates[p] := ⟨_, rfl⟩
                      rw [← hy] at hfc
                      clear hcell hab hy HS
                      go_upto_region 29 with (fail)
                      rw [← hW1, ← hgx]
                      clear hW1 hgx x0 x1 x2
                      by_cases hy0 : y = 0
                      · have z0 : (y == 0) = true := by simpa using hy0
                        clear hy0
                        go_wp2_with fail
                        go_roundw
                        case rel => exact ⟨j + 1, by omega, by go_num, p + 1, t, _, g, o + 3, c - 1, sa, sb, by go_num, by omega, rfl, by simp at hfs; omega, HS1.out.tail', Lib.hid HI.out.tail, HTK⟩
                        case measure => simp [intOf]; omega
                      · have z0 : (y == 0) = false := by simpa using hy0
                        have d0 : W1.cell? ⟨gx, 0, none⟩ = some (.bool f.ack) := by rw [HBX.out.cell]; rfl
                        have d1 : W1.cell? ⟨gx, 1, none⟩ = some (.int .i64 f.seq) := by rw [HBX.out.cell]; rfl
                        have d2 : W1.cell? ⟨gx, 2, none⟩ = some (.string f.data) := by rw [HBX.out.cell]; rfl
                        by_cases hy1 : y = 1
                        · have z1 : (y == 1) = true := by simpa using hy1
                          have HDX : Hid (∀ w7 c', Only (fob g c') ((W1.alloc (.cells #[.bool f.ack, .int .i64 f.seq, .string f.data] 33)).drew) w7 → w7.cell? ⟨gx, 0, none⟩ = some (.bool f.ack) ∧ w7.cell? ⟨gx, 1, none⟩ = some (.int .i64 f.seq) ∧ w7.cell? ⟨gx, 2, none⟩ = some (.string f.data)) := fun w7 c' hL => by
                            have hb := (hL.blk (HBX.out.alloc (.cells #[.bool f.ack, .int .i64 f.seq, .string f.data] 33)).drew (fun hm => by
                              unfold fob at hm
                              by_cases hc : 0 < c'
                              · rw [if_pos hc] at hm; simp at hm; have := HGX.out; omega
                              · rw [if_neg hc] at hm; simp at hm))
                            exact ⟨by rw [hb.cell]; rfl, by rw [hb.cell]; rfl, by rw [hb.cell]; rfl⟩
                          have hT1 := HS1.out.tail'
                          obtain ⟨o2, hif⟩ : ∃ o2 : Nat, (if c = 1 then some (⟨g, o, none⟩ : Addr) else some ⟨g, o + 3, none⟩) = some ⟨g, o2, none⟩ := by
                            by_cases hc1 : c = 1
                            · exact ⟨o, if_pos hc1⟩
                            · exact ⟨o + 3, if_neg hc1⟩
                          rw [hif] at hT1
                          have HSA := Lib.hid (hT1.step (((Below.refl W1.heap.size W1).alloc (Nat.le_refl _) (.cells #[.bool f.ack, .int .i64 f.seq, .string f.data] 33)).drew))
                          have HRW := Lib.hid ((Reads.row W1 33 #[.bool f.ack, .int .i64 f.seq, .string f.data]).drew)
                          have hB1 := HSA.out.hB
                          have HRA := HSA.out.row
                          have hsum : t.length + 1 ≤ 1000000 := by simp at hfs; omega
                          have hca : (1 : Int) ≤ (t.length : Int) + 1 := by omega
                          have hcb : t.length + 1 ≤ c := by have := HS1.out.row.came.le; simpa using this
                          have hcc : (t.length : Int) + 1 ≤ (c : Int) := by omega
                          have hcd : (1 : Int) ≤ (c : Int) := by omega
                          clear hy0 hy1 hT1
                          go_upto_region 35 with (fail)
                          go_region_held3 (fun w' => w'.cell? ⟨gx, 0, none⟩ = some (.bool f.ack) ∧ w'.cell? ⟨gx, 1, none⟩ = some (.int .i64 f.seq) ∧ w'.cell? ⟨gx, 2, none⟩ = some (.string f.data))
                            (first | go_keep | (refine ⟨?_, ?_, ?_⟩ <;> assumption))
                            ((refine step_frow (.tmp 165) (.tmp 167) rfl rfl rfl rfl HRA hB1 (news := [f]) HRW.out hsum ?_
                              intro A7 g7 o7 c7 w7 hR7 hL7 hX7
                              have HS7 := Lib.hid (HSA.out.app hR7 (by simp) hL7 hX7)
                              obtain ⟨d0, d1, d2⟩ := HDX.out w7 _ hL7
                              clear hR7 hL7 hX7))
                          go_wp2_with fail
                          go_roundw
                          case rel => exact ⟨j + 1, by omega, by go_num, p + 1, t ++ [f], A7, g7, o7, c7, sa, sb, by go_num, by omega, by simp, by simp at hfs ⊢; omega, HS7, Lib.hid HI.out.turn, HTK⟩
                          case measure => simp [intOf]; omega
                        · have z1 : (y == 1) = false := by simpa using hy1
                          obtain ⟨k1, k2⟩ := HI.out.hear HT.out
                          have hsd : sa.said ≤ 30 := by have := HI.out.ka.said; omega
                          have HSH := Lib.hid (HS1.out.hearB (HI.out.kb.ok g1 g2 g3 g4 hsd) f (by have := (HI.out.kf f (by simp)).size HT.out; omega))
                          rw [k1, show errV 0 = .nilIface from rfl] at HSH
                          have HI2 := Lib.hid k2
                          clear k1 k2 hsd HI HS1
                          generalize sb.hear f = sb2 at *
                          by_cases hy2 : y = 2
                          · have z2 : (y == 2) = true := by simpa using hy2
                            clear hy0 hy1 hy2
                            go_wp2_with fail
                            refine HSH.out.mono ?_
                            rintro e w7 ⟨rfl, h7⟩
                            have HS7 := Lib.hid h7
                            clear h7 HSH d0 d1 d2
                            go_wp2_with fail
                            go_roundw
                            case rel => exact ⟨j + 1, by omega, by go_num, p + 1, f :: t, _, g, o, c, sa, sb2, by go_num, by omega, rfl, by simp at hfs ⊢; omega, HS7, HI2, HTK⟩
                            case measure => simp [intOf]; omega
                          · have z2 : (y == 2) = false := by simpa using hy2
                            clear hy0 hy1 hy2
                            go_wp2_with fail
                            refine HSH.out.mono ?_
                            rintro e w7 ⟨rfl, h7⟩
                            have HS7 := Lib.hid h7
                            clear h7 HSH d0 d1 d2
                            go_wp2_with fail
                            go_roundw
                            case rel => exact ⟨j + 1, by omega, by go_num, p + 1, t, _, g, o + 3, c - 1, sa, sb2, by go_num, by omega, rfl, by simp at hfs; omega, HS7.out.tail', Lib.hid HI2.out.tail, HTK⟩
                            case measure => simp [intOf]; omega
                    · have p1 : ¬ (p : Int) < (fates.length : Int) := by omega
                      have hfin : MainAt w bb win wait T V cv fates.length (20 * k + 20) (k + 1) (.slice A1 (t.length + 1) c) (.int .i64 (p : Nat)) wr := ⟨p, f :: t, A1, g, o, c, sa, sb, rfl, hp, rfl, by omega, HS, HI, HTK⟩
                      have HFIN := Lib.hid hfin
                      clear hfin HS HI HTK hpf
                      go_wp2_with fail
                      go_meet
                      case rel => exact HFIN.out
                · have j1 : ¬ (j : Int) < 4 := by omega
                  have hfin : MainAt w bb win wait T V cv fates.length (20 * k + 20) (k + 1) (.slice A1 fs.length c) (.int .i64 (p : Nat)) wr := ⟨p, fs, A1, g, o, c, sa, sb, rfl, hp, rfl, by omega, HS, HI, HTK⟩
                  have HFIN := Lib.hid hfin
                  clear hfin HS HI HTK hj4
                  go_wp2_with fail
                  go_meet
                  case rel => exact HFIN.out
            case rest =>
              obtain ⟨p, fs, A1, g, o, c, sa, sb, rfl, hp, rfl, hfs, HS, HI, HTK⟩ := hcut
              clear HMA
              have hsd : sa.said ≤ 30 := by have := HI.out.ka.said; omega
              obtain ⟨q1, q2, q3, q4⟩ := HI.out.kb.out
              have HOB := Lib.hid (HS.out.outB (HI.out.kb.ok g1 g2 g3 g4 hsd))
              have hbk : (∀ f ∈ sb.outFrames, f = ⟨true, sb.out.got.length, ⟨#[]⟩⟩) ∧ sb.outFrames.length ≤ 1 := by
                rw [q3, q4]
                split <;> simp
              have HBK := Lib.hid hbk.1
              have hbl := hbk.2
              have HI2 : Hid (KInv win wait T fs sa sb.out) := ⟨HI.out.ka, q1, HI.out.kf⟩
              clear q1 q2 q3 q4 hbk HI
              generalize sb.outFrames = bk at *
              generalize sb.out = sb2 at *
              go_wp2_with fail
              refine HOB.out.mono ?_
              rintro e w9 ⟨G9, cg9, rfl, hO9, h9⟩
              have HO9 := Lib.hid hO9.reads
              have HS9 := Lib.hid h9
              have HB9 : Hid (Below w.heap.size w w9) := h9.below
              have HW9 : Hid (w.heap.size ≤ w9.heap.size) := HB9.out.size
              clear hO9 h9 HOB HS
              go_upto_block 7 with (fail)
              go_cut [19] (fun a wx => ∃ (p : Nat) (sa : LEnd), a = .int .i64 (p : Nat) ∧ p ≤ fates.length ∧ Hid (KS w w.heap.size w.heap.size bb T V cv fs A1 g o c sa sb2 wx) ∧ Hid (KInv win wait T fs sa sb2) ∧ Hid (sa.ticks ≤ k + 1))
              case first =>
                go_wp2_with fail
                go_loopw [19, 25] (fun a i wr => ∃ (j p : Nat) (sa : LEnd), j ≤ bk.length ∧ i = .int .i64 (j : Nat) ∧ a = .int .i64 (p : Nat) ∧ p ≤ fates.length ∧ Hid (KS w w.heap.size w.heap.size bb T V cv fs A1 g o c sa sb2 wr) ∧ Hid (KInv win wait T fs sa sb2) ∧ Hid (sa.ticks ≤ k + 1) ∧ Hid (j = 0 → Below w9.heap.size w9 wr)) (fun _ i _ => bk.length - (intOf i).toNat)
                case atStart => exact ⟨0, p, sa, Nat.zero_le _, rfl, rfl, hp, HS9, HI2, HTK, Lib.hid (fun _ => Below.refl _ _)⟩
                case round =>
                  obtain ⟨j, p, sa, hj, rfl, rfl, hp, HS, HI, HTK, HJ⟩ := hrel
                  clear HS9 HI2
                  have j0 : (0 : Int) ≤ (j : Int) := by omega
                  have p0 : (0 : Int) ≤ (p : Int) := by omega
                  by_cases hjb : j < bk.length
                  · have hj0 : j = 0 := by omega
                    have j1 : (j : Int) < (bk.length : Int) := by omega
                    have hf := HBK.out bk[j] (List.getElem_mem hjb)
                    obtain ⟨ad, rfl, hab, hcell⟩ := (HO9.out.below (HJ.out hj0)).2 (by omega)
                    have hcf : ∀ r u, r < 3 → (LFrame.cells bk[j])[r]? = some u → wr.cell? ((ad.add (j * 3)).add r) = some u := fun r u hr hu => by
                      rw [add_of_add]
                      refine hcell _ u ?_
                      have h9 : bk = bk.take j ++ bk[j] :: bk.drop (j + 1) := by rw [← List.drop_eq_getElem_cons hjb, List.take_append_drop]
                      have h8 : fcells bk = fcells (bk.take j) ++ (LFrame.cells bk[j] ++ fcells (bk.drop (j + 1))) := by
                        conv => lhs; rw [h9]
                        rw [fcells_append]
                        rfl
                      rw [h8, List.getElem?_append_right (by rw [fcells_len, List.length_take]; omega), fcells_len, List.length_take, show j * 3 + r - min j bk.length * 3 = r by omega, List.getElem?_append_left (by simp [LFrame.cells]; omega)]
                      exact hu
                    rw [hf] at hcf
                    have x0 : wr.cell? (ad.add (j * 3)) = some (.bool true) := by have := hcf 0 _ (by decide) rfl; rw [add_of_add, Nat.add_zero] at this; exact this
                    have x1 : wr.cell? ⟨(ad.add (j * 3)).block, (ad.add (j * 3)).off + 1, none⟩ = some (.int .i64 (sb2.got.length : Nat)) := hcf 1 _ (by decide) rfl
                    have x2 : wr.cell? ⟨(ad.add (j * 3)).block, (ad.add (j * 3)).off + 2, none⟩ = some (.string ⟨#[]⟩) := hcf 2 _ (by decide) rfl
                    obtain ⟨m1, m2, m3, m4, m5⟩ := HI.out.ka.hear HI.out.kb
                    have hgl := HI.out.kb.high
                    have hsd := HI.out.ka.said
                    have HHA := Lib.hid (HS.out.hearA (HI.out.ka.ok g1 g2 g3 g4 hT (by have := HTK.out; omega)) ⟨true, (sb2.got.length : Nat), ⟨#[]⟩⟩ (by show (⟨#[]⟩ : ByteArray).size ≤ 9223372036854775807; decide))
                    rw [m1, show errV 0 = .nilIface from rfl] at HHA
                    have HIH : Hid (KInv win wait T fs (sa.hear ⟨true, (sb2.got.length : Nat), ⟨#[]⟩⟩) sb2) := ⟨m2, by rw [m3, m4]; exact ⟨HI.out.kb.win, HI.out.kb.wait, HI.out.kb.data, HI.out.kb.acked, HI.out.kb.said, HI.out.kb.ticks, HI.out.kb.got, Nat.le_refl _, HI.out.kb.high⟩, fun f hf => by rw [m3]; exact HI.out.kf f hf⟩
                    have HTH : Hid ((sa.hear ⟨true, (sb2.got.length : Nat), ⟨#[]⟩⟩).ticks ≤ k + 1) := by show _ ≤ _; rw [m5]; exact HTK.out
                    have hbl3 : (sb2.got.length : Int) ≤ 30 := by omega
                    have hj0' : j + 1 ≠ 0 := by omega
                    clear m1 m2 m3 m4 m5 hf hcf hcell hab hgl hsd hj0
                    generalize sa.hear ⟨true, (sb2.got.length : Nat), ⟨#[]⟩⟩ = sa4 at *
                    by_cases hpf : p < fates.length
                    · have p1 : (p : Int) < (fates.length : Int) := by omega
                      obtain ⟨af, hFa, hafb, hfcell⟩ := HF.out.2 (by omega)
                      have hfc : wr.cell? (af.add p) = some (.int .i64 fates[p]) := by
                        rw [HS.out.below.cell (by rw [block_of_add]; exact hafb)]
                        exact hfcell p _ (by simp [nums, hpf])
                      subst hFa
                      generalize fates[p] = y at *
                      by_cases hy0 : y = 0
                      · have z0 : (y == 0) = true := by simpa using hy0
                        clear hy0 hfcell hafb
                        go_wp2_with fail
                        go_roundw
                        case rel => exact ⟨j + 1, p + 1, sa, by omega, by go_num, by go_num, by omega, HS, HI, HTK, Lib.hid (fun h => by omega)⟩
                        case measure => simp [intOf]; omega
                      · have z0 : (y == 0) = false := by simpa using hy0
                        clear hy0 hfcell hafb
                        go_wp2_with fail
                        refine HHA.out.mono ?_
                        rintro e w10 ⟨rfl, h10⟩
                        have HS10 := Lib.hid h10
                        clear h10 HHA x0 x1 x2
                        go_wp2_with fail
                        go_roundw
                        case rel => exact ⟨j + 1, p, sa4, by omega, by go_num, rfl, hp, HS10, HIH, HTH, Lib.hid (fun h => by omega)⟩
                        case measure => simp [intOf]; omega
                    · have p1 : ¬ (p : Int) < (fates.length : Int) := by omega
                      clear hpf
                      go_wp2_with fail
                      refine HHA.out.mono ?_
                      rintro e w10 ⟨rfl, h10⟩
                      have HS10 := Lib.hid h10
                      clear h10 HHA x0 x1 x2
                      go_wp2_with fail
                      go_roundw
                      case rel => exact ⟨j + 1, p, sa4, by omega, by go_num, rfl, hp, HS10, HIH, HTH, Lib.hid (fun h => by omega)⟩
                      case measure => simp [intOf]; omega
                  · have j1 : ¬ (j : Int) < (bk.length : Int) := by omega
                    clear hjb
                    go_wp2_with fail
                    go_meet
                    case rel => exact ⟨p, sa, rfl, hp, HS, HI, HTK⟩
              case rest =>
                obtain ⟨p, sa, rfl, hp, HS, HI, HTK⟩ := hcut
                clear HS9 HI2 HBK HO9
                have hgl := HI.out.kb.high
                have hsd := HI.out.ka.said
                have HG := Lib.hid (HS.out.gotB (by omega))
                have HGT := Lib.hid HI.out.kb.got
                have hgT : sb2.got.length ≤ T.length := by omega
                clear hgl hsd
                go_wp2_with fail
                refine HG.out.mono ?_
                rintro e w11 ⟨G11, cg11, rfl, hO11, h11⟩
                have HS11 := Lib.hid h11
                have HCC := h11.sent.cap_le
                have hrd : Reads w11 w11.heap.size 1 V sb2.got.length (strs (T.take sb2.got.length)) := by
                  have h1 := h11.sent.reads
                  refine ⟨by rw [strs_len, List.length_take]; omega, fun hn => ?_⟩
                  obtain ⟨ad, e, hb, hc⟩ := h1.2 (by omega)
                  refine ⟨ad, e, hb, fun j u hu => hc j u ?_⟩
                  have e2 : strs (T.take sb2.got.length) = (strs T).take sb2.got.length := by simp [strs, List.map_take]
                  rw [e2, List.getElem?_take] at hu
                  by_cases hjn : j < sb2.got.length
                  · rw [if_pos hjn] at hu; exact hu
                  · rw [if_neg hjn] at hu; cases hu
                rw [← HGT.out] at hrd
                have HTX := Lib.hid (fun cc => texts_any w11 G11 V cg11 cc sb2.got sb2.got hO11.reads hrd (by omega) (by omega))
                rw [show decide (sb2.got = sb2.got) = true by simp] at HTX
                have t1 : ¬ (sb2.got.length : Int) > (T.length : Int) := by omega
                have t2 : ¬ (T.length : Int) < (sb2.got.length : Int) := by omega
                have t3 : (sb2.got.length : Int) ≤ (cv : Int) := by omega
                have t4 : (0 : Int) ≤ (sb2.got.length : Int) := by omega
                clear hO11 h11 hrd HG HS HGT
                go_wp2_with fail
                refine (HTX.out _).mono ?_
                intro e w12 hp12
                obtain ⟨rfl, hb12⟩ := hp12
                have HS12 := Lib.hid (HS11.out.step hb12)
                clear hb12 HTX HS11
                go_wp2_with fail
                go_roundw
                case rel => exact ⟨k + 1, by omega, by go_num, p, fs, A1, g, o, c, sa, sb2, rfl, hp, rfl, by omega, HS12, HI, HTK⟩
                case measure => simp [intOf]; omega
          · have k1 : ¬ (k : Int) < 40 := by omega
            clear hk40
            go_wp2_with fail
            go_meet
            case rel => exact ⟨_, _, p, fs, A1, g, o, c, sa, sb, rfl, hp, rfl, by omega, HS, HI, by show _ ≤ _; have := HTK.out; omega⟩
      case rest => as_aux_lemma =>
        obtain ⟨u, a, p, fs, A1, g, o, c, sa, sb, rfl, hp, rfl, hfs, HS, HI, HTK⟩ := hcut
        clear HST
        have w0 : (1 : Int) ≤ (wait : Int) := by omega
        have w1 : (wait : Int) ≤ 20 := by omega
        have HRS : Hid (rest sa ≤ 30 * (wait + 2)) := by
          have h1 := rest_le sa
          have h2 := HI.out.ka.len
          have h3 := HI.out.ka.wait
          rw [h3] at h1
          have h4 := Nat.mul_le_mul_right (wait + 1) (show sa.data.length ≤ 30 by omega)
          show rest sa ≤ _
          omega
        go_upto_block 9 with (fail)
        go_cut [] (fun wx => ∃ (fs : List LFrame) (A : Option Addr) (g o c : Nat) (sa sb : LEnd), Hid (KS w w.heap.size w.heap.size bb T V cv fs A g o c sa sb wx) ∧ Hid (KA win wait T sa ∧ KB win wait T sa.acked sa.said sb ∧ sa.data.length = 0))
        case first =>
          go_wp2_with fail
          go_loopw [28] (fun i wr => EndLoop w bb win wait T V cv i wr) (fun i _ => 30 * (wait + 2) - (intOf i).toNat)
          case atStart => exact ⟨0, fs, A1, g, o, c, sa, sb, Nat.zero_le _, rfl, HS, Lib.hid ⟨HI.out.ka, HI.out.kb⟩, by show _ ≤ _; have := HTK.out; omega, by show _ ≤ _; have := HRS.out; omega⟩
          case round =>
            clear HS HI HTK HRS hfs hp
            obtain ⟨k, fs, A1, g, o, c, sa, sb, hk, rfl, HS, HI, HTK, HR⟩ := hrel
            have k0 : (0 : Int) ≤ (k : Int) := by omega
            have k9 : (k : Int) ≤ 660 := by omega
            have hdl : sa.data.length ≤ 30 := by have := HI.out.1.len; omega
            by_cases hkw : k < 30 * (wait + 2)
            · have k1 : (k : Int) < 30 * ((wait : Int) + 2) := by omega
              have HLF := Lib.hid (HS.out.leftA (by omega))
              go_wp2_with fail
              refine HLF.out.mono ?_
              rintro e w6 ⟨rfl, hw⟩
              obtain rfl := hw.symm
              clear hw HLF
              by_cases hd0 : sa.data.length = 0
              · have z0 : ¬ (0 : Int) < (sa.data.length : Int) := by omega
                have z1 : ¬ (sa.data.length : Int) > 0 := by omega
                have HFIN : Hid (KA win wait T sa ∧ KB win wait T sa.acked sa.said sb ∧ sa.data.length = 0) := ⟨HI.out.1, HI.out.2, hd0⟩
                clear hd0
                go_wp2_with fail
                go_meet
                case rel => exact ⟨fs, A1, g, o, c, sa, sb, HS, HFIN⟩
              · have z0 : (0 : Int) < (sa.data.length : Int) := by omega
                have z1 : (sa.data.length : Int) > 0 := by omega
                have HD0 : Hid (0 < sa.data.length) := by show 0 < _; omega
                have hsd : sa.said ≤ 30 := by have := HI.out.1.said; omega
                have HSY := Lib.hid (HS.out.sayA (HI.out.1.ok g1 g2 g3 g4 hT (by have := HTK.out; omega)))
                clear hd0 hsd HS
                go_wp2_with fail
                refine HSY.out.mono ?_
                rintro e w7 ⟨G7, cg7, gg7, rfl, h7, hG7⟩
                have HS7 := Lib.hid h7
                have HG7 := Lib.hid hG7
                have hol := out_len HI.out.1 g2
                have HSA : Hid (∀ f ∈ sa.outFrames, KF T sa.out.said f) := HI.out.1.said_all
                clear h7 hG7 HSY z0 z1
                go_upto_block 11 with (fail)
                go_cut [] (fun wx => Hid (KS w w.heap.size w.heap.size bb T V cv sa.outFrames G7 gg7 0 cg7 sa.out (sa.outFrames.foldl LEnd.hear sb) wx) ∧ Hid (KB win wait T sa.acked sa.out.said (sa.outFrames.foldl LEnd.hear sb)))
                case first =>
                  go_wp2_with fail
                  go_loopw [30] (fun i wr => ∃ j : Nat, j ≤ sa.outFrames.length ∧ i = .int .i64 (j : Nat) ∧ Hid (KS w w.heap.size w.heap.size bb T V cv sa.outFrames G7 gg7 0 cg7 sa.out ((sa.outFrames.take j).foldl LEnd.hear sb) wr) ∧ Hid (KB win wait T sa.acked sa.out.said ((sa.outFrames.take j).foldl LEnd.hear sb))) (fun i _ => sa.outFrames.length - (intOf i).toNat)
                  case atStart => exact ⟨0, Nat.zero_le _, rfl, HS7, Lib.hid (HI.out.2.more (Nat.le_refl _) (Nat.le_max_left _ _))⟩
                  case round =>
                    obtain ⟨j, hj, rfl, HS, HKB⟩ := hrel
                    clear HS7
                    have j0 : (0 : Int) ≤ (j : Int) := by omega
                    have j9 : (j : Int) ≤ 16 := by omega
                    by_cases hjl : j < sa.outFrames.length
                    · have j1 : (j : Int) < (sa.outFrames.length : Int) := by omega
                      obtain ⟨ad, hGad, x0, x1, x2⟩ := HS.out.frameAt HG7.out hjl
                      subst hGad
                      have hkf := HSA.out _ (List.getElem_mem hjl)
                      have hso := HI.out.1.out.said
                      obtain ⟨q1, q2, q3, q4⟩ := HKB.out.hear hso HT.out hkf
                      have htk : (sa.outFrames.take (j + 1)).foldl LEnd.hear sb = ((sa.outFrames.take j).foldl LEnd.hear sb).hear sa.outFrames[j] := by rw [List.take_succ_eq_append_getElem hjl, List.foldl_append]; rfl
                      have HSH := Lib.hid (HS.out.hearB (HKB.out.ok g1 g2 g3 g4 (by omega)) sa.outFrames[j] (by have := hkf.size HT.out; omega))
                      rw [q1, show errV 0 = .nilIface from rfl, ← htk] at HSH
                      rw [← htk] at q2
                      have HKB2 := Lib.hid q2
                      clear q1 q2 q3 q4 hkf hso htk HS HKB
                      generalize sa.outFrames[j] = f at *
                      go_wp2_with fail
                      refine HSH.out.mono ?_
                      rintro e w8 ⟨rfl, h8⟩
                      have HS8 := Lib.hid h8
                      clear h8 HSH x0 x1 x2
                      go_wp2_with fail
                      go_roundw
                      case rel => exact ⟨j + 1, by omega, by go_num, HS8, HKB2⟩
                      case measure => simp [intOf]; omega
                    · have j1 : ¬ (j : Int) < (sa.outFrames.length : Int) := by omega
                      have htk : sa.outFrames.take j = sa.outFrames := List.take_of_length_le (by omega)
                      rw [htk] at HS HKB
                      clear hjl htk
                      go_wp2_with fail
                      go_meet
                      case rel => exact ⟨HS, HKB⟩
                case rest =>
                  obtain ⟨HS, HKB⟩ := hcut
                  clear HS7 HG7 HSA
                  obtain ⟨sb1, hsb1⟩ : ∃ sb1, sb1 = sa.outFrames.foldl LEnd.hear sb := ⟨_, rfl⟩
                  rw [← hsb1] at HS HKB
                  have hround := fun a1 ha1 => rest_round g1 HI.out.1 HI.out.2 HT.out HD0.out hsb1 (a1 := a1) ha1
                  have HRO := Lib.hid hround
                  have hso := HI.out.1.out.said
                  obtain ⟨q1, q2, q3, q4⟩ := HKB.out.out
                  have HSY := Lib.hid (HS.out.sayB (HKB.out.ok g1 g2 g3 g4 (by omega)))
                  have hbk : (∀ f ∈ sb1.outFrames, f = ⟨true, sb1.out.got.length, ⟨#[]⟩⟩) ∧ sb1.outFrames.length ≤ 1 := by
                    rw [q3, q4]
                    split <;> simp
                  have HBK := Lib.hid hbk.1
                  have hbl := hbk.2
                  have HKB2 := Lib.hid q1
                  have HSO := Lib.hid hso
                  have hgl : sb1.out.got.length ≤ 30 := by have := q1.high; omega
                  clear hsb1 hround q1 q2 q3 q4 hbk hso HKB HS
                  go_wp2_with fail
                  refine HSY.out.mono ?_
                  rintro e w9 ⟨G9, cg9, gg9, rfl, h9, hG9⟩
                  have HS9 := Lib.hid h9
                  have HG9 := Lib.hid hG9
                  clear h9 hG9 HSY
                  obtain ⟨tk, htk⟩ : ∃ tk, tk = sa.out.ticks := ⟨_, rfl⟩
                  have HTKO : Hid (tk ≤ 1000 + k) := by
                    rw [htk]
                    show (if sa.skip < sa.wide then 0 else sa.ticks) ≤ 1000 + k
                    have := HTK.out
                    split <;> omega
                  have HTKE := Lib.hid htk
                  clear htk
                  go_upto_block 13 with (fail)
                  go_cut [] (fun wx => Hid (KS w w.heap.size w.heap.size bb T V cv sb1.outFrames G9 gg9 0 cg9 (sb1.outFrames.foldl LEnd.hear sa.out) sb1.out wx) ∧ Hid ((sb1.outFrames.foldl LEnd.hear sa.out).ticks = tk))
                  case first =>
                    go_wp2_with fail
                    go_loopw [32] (fun i wr => ∃ j : Nat, j ≤ sb1.outFrames.length ∧ i = .int .i64 (j : Nat) ∧ Hid (KS w w.heap.size w.heap.size bb T V cv sb1.outFrames G9 gg9 0 cg9 ((sb1.outFrames.take j).foldl LEnd.hear sa.out) sb1.out wr) ∧ Hid (((sb1.outFrames.take j).foldl LEnd.hear sa.out).ticks = tk)) (fun i _ => sb1.outFrames.length - (intOf i).toNat)
                    case atStart => exact ⟨0, Nat.zero_le _, rfl, HS9, Lib.hid HTKE.out.symm⟩
                    case round =>
                      obtain ⟨j, hj, rfl, HS, HT9⟩ := hrel
                      clear HS9
                      have j0 : (0 : Int) ≤ (j : Int) := by omega
                      have j9 : (j : Int) ≤ 16 := by omega
                      by_cases hjl : j < sb1.outFrames.length
                      · have j1 : (j : Int) < (sb1.outFrames.length : Int) := by omega
                        have hj0 : j = 0 := by omega
                        obtain ⟨ad, hGad, x0, x1, x2⟩ := HS.out.frameAt HG9.out hjl
                        subst hGad
                        have hfe := HBK.out _ (List.getElem_mem hjl)
                        have hz : (sb1.outFrames.take j).foldl LEnd.hear sa.out = sa.out := by rw [hj0]; rfl
                        have htk2 : (sb1.outFrames.take (j + 1)).foldl LEnd.hear sa.out = sa.out.hear ⟨true, (sb1.out.got.length : Nat), ⟨#[]⟩⟩ := by rw [List.take_succ_eq_append_getElem hjl, List.foldl_append, hz, hfe]; rfl
                        rw [hz] at HS
                        rw [hfe] at x0 x1 x2
                        obtain ⟨m1, m2, m3, m4, m5⟩ := HI.out.1.out.hear (b := sb1.out) HKB2.out
                        have HSH := Lib.hid (HS.out.hearA (HI.out.1.out.ok g1 g2 g3 g4 hT (by have := HTKO.out; have := HTKE.out; omega)) ⟨true, (sb1.out.got.length : Nat), ⟨#[]⟩⟩ (by show (⟨#[]⟩ : ByteArray).size ≤ 9223372036854775807; decide))
                        rw [← htk2] at HSH m5
                        have HT10 : Hid (((sb1.outFrames.take (j + 1)).foldl LEnd.hear sa.out).ticks = tk) := m5.trans HTKE.out.symm
                        obtain ⟨ev, hev⟩ : ∃ ev, ev = errV (sa.out.hearErr ⟨true, (sb1.out.got.length : Nat), ⟨#[]⟩⟩) := ⟨_, rfl⟩
                        rw [← hev] at HSH
                        clear m1 m2 m3 m4 m5 hfe hz htk2 hj0 hev HS HT9
                        go_wp2_with fail
                        refine HSH.out.mono ?_
                        rintro e w10 ⟨rfl, h10⟩
                        have HS10 := Lib.hid h10
                        clear h10 HSH x0 x1 x2
                        go_wp2_with fail
                        go_roundw
                        case rel => exact ⟨j + 1, by omega, by go_num, HS10, HT10⟩
                        case measure => simp [intOf]; omega
                      · have j1 : ¬ (j : Int) < (sb1.outFrames.length : Int) := by omega
                        have htk2 : sb1.outFrames.take j = sb1.outFrames := List.take_of_length_le (by omega)
                        rw [htk2] at HS HT9
                        clear hjl htk2
                        go_wp2_with fail
                        go_meet
                        case rel => exact ⟨HS, HT9⟩
                  case rest =>
                    obtain ⟨HS, HT9⟩ := hcut
                    clear HS9 HG9
                    obtain ⟨q1, q2, q3⟩ := HRO.out _ rfl
                    have HTI := Lib.hid (HS.out.tickA (by rw [HT9.out]; have := HTKO.out; omega))
                    have HQ := Lib.hid (show KA win wait T (sb1.outFrames.foldl LEnd.hear sa.out).tick ∧ KB win wait T (sb1.outFrames.foldl LEnd.hear sa.out).tick.acked (sb1.outFrames.foldl LEnd.hear sa.out).tick.said sb1.out from ⟨q1, q2⟩)
                    have HR2 : Hid (rest (sb1.outFrames.foldl LEnd.hear sa.out).tick + (k + 1) ≤ 30 * (wait + 2)) := by show _ ≤ _; have := HR.out; omega
                    have HT2 : Hid ((sb1.outFrames.foldl LEnd.hear sa.out).tick.ticks ≤ 1000 + (k + 1)) := by show (sb1.outFrames.foldl LEnd.hear sa.out).ticks + 1 ≤ _; rw [HT9.out]; have := HTKO.out; omega
                    clear q1 q2 q3 HS HT9 HRO
                    generalize (sb1.outFrames.foldl LEnd.hear sa.out).tick = sa9 at *
                    go_wp2_with fail
                    refine HTI.out.mono ?_
                    rintro e w11 ⟨rfl, h11⟩
                    have HS11 := Lib.hid h11
                    clear h11 HTI
                    go_wp2_with fail
                    go_roundw
                    case rel => exact ⟨k + 1, _, _, _, _, _, sa9, sb1.out, by omega, by go_num, HS11, HQ, HT2, HR2⟩
                    case measure => simp [intOf]; omega
            · have k1 : ¬ (k : Int) < 30 * ((wait : Int) + 2) := by omega
              have HFIN : Hid (KA win wait T sa ∧ KB win wait T sa.acked sa.said sb ∧ sa.data.length = 0) := by
                refine ⟨HI.out.1, HI.out.2, ?_⟩
                have h1 := HR.out
                by_cases hd0 : sa.data.length = 0
                · exact hd0
                · exfalso
                  unfold rest at h1
                  rw [if_neg hd0] at h1
                  have : 1 ≤ (if sa.said < sa.acked + sa.wide then sa.wait + 1 else sa.wait - sa.ticks + 1) := by split <;> omega
                  omega
              clear hkw
              go_wp2_with fail
              go_meet
              case rel => exact ⟨fs, A1, g, o, c, sa, sb, HS, HFIN⟩
        case rest =>
          clear HS HI HTK HRS hfs hp
          obtain ⟨fs, A1, g, o, c, sa, sb, HS, HI⟩ := hcut
          obtain ⟨h1, h2, h3⟩ := HI.out
          have hlen := h1.len
          have hle := h1.le
          have hsa := h1.said
          have hlo := h2.low
          have hhi := h2.high
          have hgt : sb.got = T := by
            have := h2.got
            rw [List.take_of_length_le (by omega)] at this
            exact this
          have HGT := Lib.hid hgt
          have HD3 := Lib.hid h3
          have HG := Lib.hid (HS.out.gotB (by omega))
          rw [hgt] at HG
          clear h1 h2 h3 hlen hle hsa hlo hhi hgt HI
          go_wp2_with fail
          refine HG.out.mono ?_
          rintro e w11 ⟨G11, cg11, rfl, hO11, h11⟩
          have HS11 := Lib.hid h11
          have HTX := Lib.hid (texts_any w11 G11 V cg11 cv T T hO11.reads h11.sent.reads (by omega) (by omega))
          rw [show decide (T = T) = true by simp] at HTX
          clear hO11 h11 HG HS
          go_wp2_with fail
          refine HTX.out.mono ?_
          intro e w12 hp12
          obtain ⟨rfl, hb12⟩ := hp12
          have HS12 := Lib.hid (HS11.out.step hb12)
          have HLF := Lib.hid (HS12.out.leftA (by rw [HD3.out]; omega))
          rw [HD3.out] at HLF
          clear hb12 HTX HS11
          go_wp2_with fail
          refine HLF.out.mono ?_
          rintro e w13 ⟨rfl, hw⟩
          obtain rfl := hw.symm
          go_wp2_with fail
          go_ret
          exact ⟨by simp, HS12.out.below⟩
end lawLinkKeeps
end Go.Proofs.Ytlcjgldlblpboaa
