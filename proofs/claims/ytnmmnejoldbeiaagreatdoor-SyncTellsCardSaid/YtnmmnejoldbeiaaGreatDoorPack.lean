/- op.Pack, walked: the exact bytes of a parcel, or what is wrong. Conditions: stated. -/
import Derived.Test.YtnmmnejoldbeiaaGreatDoorOpEnc
import Derived.Test.YtnmmnejoldbeiaaGreatDoorSmall
namespace Go.Proofs.YtnmmnejoldbeiaaGreatDoor
open Go.RowKit
set_option linter.unusedVariables false
def opsErr : List LOp → Int
  | [] => 0
  | o :: t => if opErr o = 0 then opsErr t else opErr o
def twoB (n : Nat) : List UInt8 := [u8 ((n : Int) / 256), u8 ((n : Int) % 256)]
def packBody (l : List LOp) : List UInt8 := l.flatMap fun o => twoB (opBytes o).length ++ opBytes o
def packErr (l : List LOp) : Int := if 400 < l.length then 4 else opsErr l
def packBytes (l : List LOp) : List UInt8 := twoB l.length ++ packBody l
def packRes (l : List LOp) : ByteArray := if packErr l = 0 then strOf (packBytes l) else ⟨#[]⟩
def PackPost (w : World) (l : List LOp) (e : Ending) (w' : World) : Prop := e = .returned (.tuple #[.string (packRes l), errV (packErr l)]) ∧ Below w.heap.size w w'
theorem opsErr_append {l : List LOp} {o : LOp} {t : List LOp} (h : opsErr l = 0) : opsErr (l ++ o :: t) = if opErr o = 0 then opsErr t else opErr o := by
  induction l with
  | nil => rfl
  | cons a l ih =>
    unfold opsErr at h
    by_cases ha : opErr a = 0
    · rw [if_pos ha] at h
      rw [List.cons_append, opsErr, if_pos ha, ih h]
    · rw [if_neg ha] at h; exact absurd h ha
theorem opBytes_len {o : LOp} (h : opErr o = 0) : (opBytes o).length ≤ 139 := by
  have := body_len (opOk_of h)
  unfold opBytes
  rw [List.length_append]
  simp only [List.length_cons, List.length_nil]
  omega
theorem packBody_len {l : List LOp} (h : opsErr l = 0) : (packBody l).length ≤ 141 * l.length := by
  induction l with
  | nil => simp [packBody]
  | cons a l ih =>
    unfold opsErr at h
    by_cases ha : opErr a = 0
    · rw [if_pos ha] at h
      have := ih h
      have h2 := opBytes_len ha
      unfold packBody at this ⊢
      rw [List.flatMap_cons, List.length_append, List.length_append, List.length_cons]
      have h3 : (twoB (opBytes a).length).length = 2 := rfl
      omega
    · rw [if_neg ha] at h; exact absurd h ha
theorem own_str {wr : World} {B n cv : Nat} {V : Option Addr} {l : List UInt8} (h : Own wr B 5 1 V n cv (bs l)) (hn : 0 < n) :
    (convert 109 9 (.slice V n cv)).run Tryz.prog wr = .ok (.string (strOf l)) wr := by
  obtain ⟨g, rfl, _, _⟩ := h.head hn
  have hl := h.len
  rw [bs_len] at hl
  have hl : n = l.length := by omega
  subst hl
  refine run_convert_bytes_back (P := Tryz.prog) wr 109 9 5 ⟨g, 0, none⟩ cv l Tryz.underlying109 Tryz.underlying5 Tryz.underlying9 (fun j hj => ?_)
  have e : (⟨g, 0, none⟩ : Addr).add j = ⟨g, j, none⟩ := by unfold Addr.add; by_cases h : j = 0 <;> simp [h]
  rw [e, h.cellAt (by omega)]
  simp [bs, hj]
/-- Midway: so many ops are written. -/
structure PackSt (w : World) (l : List LOp) (k : Nat) (V : Option Addr) (n cv : Nat) (wr : World) : Prop where
  own : Own wr w.heap.size 5 1 V n cv (bs (twoB l.length ++ packBody (l.take k)))
  bel : Below w.heap.size w wr
  ok : opsErr (l.take k) = 0
def PackLoop (w : World) (l : List LOp) (i v : Value) (wr : World) : Prop := ∃ k V n cv, k ≤ l.length ∧ i = .int .i64 (k : Nat) ∧ v = .slice V n cv ∧ Hid (PackSt w l k V n cv wr)
set_option maxRecDepth 100000 in
set_option maxHeartbeats 4000000 in
theorem pack_any (w : World) (A : Option Addr) (ca : Nat) (l : List OpAt) (h : Reads w w.heap.size 6 A l.length (ocells l)) (hg : ∀ y ∈ l, Reads w w.heap.size 2 y.at_ y.op.seen.length (dcells y.op.seen) ∧ y.op.place.size ≤ 9223372036854775807) (hl : l.length ≤ 9223372036854775807) :
    Calls Tryz.prog 80 #[.slice A l.length ca] w (PackPost w (l.map OpAt.op)) := by
  have HR := Lib.hid h
  have HG := Lib.hid hg
  have HT := Lib.hid (fun w n h0 h1 => two_any w n h0 h1)
  have HEN := Lib.hid (fun W A c o h hp => encode_any W A c o h hp)
  clear h hg
  by_cases h4 : 400 < l.length
  · have HP : Hid (packErr (l.map OpAt.op) = 4) := by show _ = _; rw [packErr, if_pos (by simpa using h4)]
    have k4 : (400 : Int) < (l.length : Int) := by omega
    clear h4
    go_enter Tryz.func80, Tryz.ntmps80
    go_wp2_with fail
    refine bodyPost_ret (results_tmp2 rfl _ _ _) rfl ⟨?_, Below.refl _ _⟩
    rw [packRes, HP.out, if_neg (by decide)]
    rfl
  · have k4 : ¬ (400 : Int) < (l.length : Int) := by omega
    have HP : Hid (packErr (l.map OpAt.op) = opsErr (l.map OpAt.op)) := by show _ = _; rw [packErr, if_neg (by simpa using h4)]
    have hl4 : l.length ≤ 400 := by omega
    clear h4 hl
    go_enter Tryz.func80, Tryz.ntmps80
    go_wp2_with fail
    refine (HT.out _ _ (by omega) (by omega)).mono ?_
    rintro e w1 ⟨rfl, rfl⟩
    have HS0 : Hid (PackSt w (l.map OpAt.op) 0 (some ⟨w.heap.size, 0, none⟩) 2 2 (w.alloc (.cells #[.int .u8 ((l.length : Int) / 256), .int .u8 ((l.length : Int) % 256)] 5))) := by
      refine ⟨?_, (Below.refl _ _).alloc (Nat.le_refl _) _, rfl⟩
      have := Own.fresh w w.heap.size (Nat.le_refl _) (twoB l.length) (by simp [twoB]) #[.int .u8 ((l.length : Int) / 256), .int .u8 ((l.length : Int) % 256)] (by simp [bs, twoB, u8_val (show 0 ≤ (l.length : Int) / 256 by omega) (show (l.length : Int) / 256 ≤ 255 by omega), u8_val (show 0 ≤ (l.length : Int) % 256 by omega) (show (l.length : Int) % 256 ≤ 255 by omega)])
      rw [List.length_map]
      simpa [packBody, twoB] using this
    go_wp2_with fail
    go_loopw [4, 18] (fun v i wr => PackLoop w (l.map OpAt.op) i v wr) (fun v i _ => l.length - (intOf i).toNat)
    case atStart => exact ⟨0, _, _, _, Nat.zero_le _, rfl, rfl, HS0⟩
    case round =>
      obtain ⟨k, V, n, cv, hk, rfl, rfl, HM⟩ := hrel
      rw [List.length_map] at hk
      clear HS0
      by_cases hkn : k < l.length
      · obtain ⟨ad, rfl, hab, c0, c1, c2, c3, c4, c5⟩ := (HR.out.below HM.out.bel).op hkn
        have k1 : (k : Int) < (l.length : Int) := by omega
        have k0 : (0 : Int) ≤ (k : Int) := by omega
        have hgk := HG.out _ (List.getElem_mem hkn)
        have HGR := Lib.hid ((hgk.1.below HM.out.bel).more HM.out.bel.size)
        have HGP := Lib.hid hgk.2
        have hdr : l.map OpAt.op = (l.map OpAt.op).take k ++ l[k].op :: (l.drop (k + 1)).map OpAt.op := by
          rw [← List.map_take, ← List.map_cons, ← List.map_append, ← List.drop_eq_getElem_cons hkn, List.take_append_drop]
        have htk : (l.map OpAt.op).take (k + 1) = (l.map OpAt.op).take k ++ [l[k].op] := by
          rw [List.take_succ_eq_append_getElem (by simpa using hkn), List.getElem_map]
        have HDR := Lib.hid hdr
        have HTK := Lib.hid htk
        clear hgk hdr htk
        generalize l[k] = y at *
        obtain ⟨o, yA, yc⟩ := y
        simp only at HDR HTK HGR HGP c0 c1 c2 c3 c4 c5
        have HBN := Lib.hid (Blk.new wr 30 (o.cells yA yc))
        have HO := Lib.hid (Below.alloc (Below.refl wr.heap.size wr) (Nat.le_refl _) (.cells (o.cells yA yc) 30))
        have b0 := HBN.out.cell 0
        have b1 := HBN.out.cell 1
        have b2 := HBN.out.cell 2
        have b3 := HBN.out.cell 3
        have b4 := HBN.out.cell 4
        have b5 := HBN.out.cell 5
        obtain ⟨⟨d1, d2⟩, o2, o3, o4, o5⟩ := o
        unfold LOp.cells at *
        simp only at b0 b1 b2 b3 b4 b5 c0 c1 c2 c3 c4 c5 HGR HGP
        obtain ⟨W1, hW1⟩ : ∃ W1, W1 = wr.alloc (.cells #[.int .i64 d1, .int .i64 d2, .int .i64 o2, .string o3, .int .i64 o4, .slice yA o5.length yc] 30) := ⟨_, rfl⟩
        have HGR1 : Hid (Reads W1 W1.heap.size 2 yA o5.length (dcells o5)) := by rw [hW1]; exact (HGR.out.below ((Below.refl _ _).alloc (Nat.le_refl _) _)).more (by simp)
        have HB1 : Hid (Below w.heap.size w W1) := by rw [hW1]; exact HM.out.bel.alloc HM.out.bel.size _
        have HV1 : Hid (Own W1 w.heap.size 5 1 V n cv (bs (twoB (l.map OpAt.op).length ++ packBody ((l.map OpAt.op).take k)))) := by rw [hW1]; exact HM.out.own.alloc _
        clear HO HBN HGR
        go_wp2_with fail
        rw [← hW1]
        clear hW1 b0 b1 b2 b3 b4 b5 c0 c1 c2 c3 c4 c5
        refine (HEN.out W1 yA yc ⟨⟨d1, d2⟩, o2, o3, o4, o5⟩ HGR1.out HGP.out).mono ?_
        generalize (⟨⟨d1, d2⟩, o2, o3, o4, o5⟩ : LOp) = o at *
        rintro e w2 ⟨rfl, hb2⟩
        have HB2 : Hid (Below w.heap.size w w2) := HB1.out.trans (hb2.mono HB1.out.size)
        have HV2 := Lib.hid (HV1.out.below hb2)
        clear hb2 HV1 HB1 HGR1
        by_cases he : opErr o = 0
        · have her : encRes o = strOf (opBytes o) := by rw [encRes, if_pos he]
          have HOK : Hid (opsErr ((l.map OpAt.op).take (k + 1)) = 0) := by show _ = _; rw [HTK.out, opsErr_append HM.out.ok, if_pos he]; rfl
          rw [show errV (opErr o) = .nilIface by rw [he]; rfl, her]
          have hsz : (strOf (opBytes o)).size = (opBytes o).length := strOf_size _
          have hlen := opBytes_len he
          have hn : n = 2 + (packBody ((l.map OpAt.op).take k)).length := by
            have h1 := HV2.out.len
            rw [bs_len, List.length_append] at h1
            have h2 : (twoB (l.map OpAt.op).length).length = 2 := rfl
            omega
          have hpl := packBody_len HM.out.ok
          rw [List.length_take, List.length_map] at hpl
          have hn2 : n ≤ 60000 := by have : min k l.length ≤ 400 := by omega
                                     omega
          have hz1 : (0 : Int) ≤ ((strOf (opBytes o)).size : Int) := by omega
          have hz2 : ((strOf (opBytes o)).size : Int) ≤ 65535 := by omega
          have HF1 : Fits (n + 2) 1 := Fits.of_small (by omega) (by decide)
          have HF2 : Fits (n + 2 + (strOf (opBytes o)).size) 1 := Fits.of_small (by omega) (by decide)
          have HPO : Hid (bs (twoB (l.map OpAt.op).length ++ packBody ((l.map OpAt.op).take k)) ++ bs (twoB (strOf (opBytes o)).size) ++ bs (strOf (opBytes o)).data.toList = bs (twoB (l.map OpAt.op).length ++ packBody ((l.map OpAt.op).take (k + 1)))) := by
            show _ = _
            rw [HTK.out, bs_append, bs_append, hsz]
            congr 1
            unfold packBody
            simp [strOf]
          have HT2 := Lib.hid (fun W => two_post W _ hz1 hz2)
          have HBS : w.heap.size ≤ w2.heap.size := HB2.out.size
          clear he her hsz hlen hn hpl hn2 hz1 hz2 HDR HP
          go_wp2_with fail
          refine (HT2.out w2).mono ?_
          rintro e w3 ⟨g, rfl, HRd, hb3⟩
          have HB3 : Hid (Below w.heap.size w w3) := HB2.out.trans (hb3.mono HB2.out.size)
          have HV3 := Lib.hid (HV2.out.below hb3)
          have HRD := Lib.hid HRd
          clear hb3 HRd HV2 HB2 HT2
          go_wp2_with (at_builtin; first
            | ((refine wpList_app _ (.tmp 30) (.tmp 33) rfl rfl elemB rfl rfl HV3.out HRD.out (oneCells_bs _) HF1 HB3.out.size ?_; intro V4 cv4 w4 HO HL HX; have HV4 := Lib.hid HO; have HB4 : Hid (Below w.heap.size w w4) := (HB3.out.trans (HL.below HB3.out.size (fun i hi => (HV3.out.lt i hi).1))); clear HO HL HX))
            | ((refine wpList_appS (.tmp 34) (.tmp 35) rfl rfl rfl rfl HV4.out HF2 HB4.out.size ?_; intro V5 cv5 w5 HO HL; have HV5 := Lib.hid HO; have HB5 : Hid (Below w.heap.size w w5) := (HB4.out.trans (HL.below HB4.out.size (fun i hi => (HV4.out.lt i hi).1))); clear HO HL)))
          go_roundw
          case rel => exact ⟨k + 1, V5, n + 2 + (strOf (opBytes o)).size, cv5, by simp; omega, by go_num, rfl, Lib.hid ⟨by rw [← HPO.out]; exact HV5.out, HB5.out, HOK.out⟩⟩
          case measure => simp [intOf]; omega
        · have HEP : Hid (packErr (l.map OpAt.op) = opErr o) := by show _ = _; rw [HP.out, HDR.out, opsErr_append HM.out.ok, if_neg he]
          have HNE := Lib.hid he
          rw [show errV (opErr o) = .iface 106 (.int .i64 (opErr o)) by rw [errV, if_neg he]]
          clear he
          go_wp2_with fail
          refine bodyPost_ret (results_tmp2 rfl _ _ _) rfl ⟨?_, HB2.out⟩
          rw [packRes, HEP.out, if_neg HNE.out, errV, if_neg HNE.out]
          rfl
      · have k1 : ¬ (k : Int) < (l.length : Int) := by omega
        have hk : k = l.length := by omega
        have htk : (l.map OpAt.op).take k = l.map OpAt.op := by rw [hk]; exact List.take_of_length_le (by simp)
        have HPB : Hid (packRes (l.map OpAt.op) = strOf (twoB (l.map OpAt.op).length ++ packBody ((l.map OpAt.op).take k)) ∧ packErr (l.map OpAt.op) = 0) := by
          have := HM.out.ok
          rw [htk] at this ⊢
          exact ⟨by rw [packRes, HP.out, if_pos this]; rfl, HP.out.trans this⟩
        have hn : 0 < n := by
          have h1 := HM.out.own.len
          rw [bs_len, List.length_append] at h1
          have h2 : (twoB (l.map OpAt.op).length).length = 2 := rfl
          omega
        have hcv := own_str HM.out.own hn
        clear hk htk HP hn
        go_wp2_with fail
        refine bodyPost_ret (results_tmp2 rfl _ _ _) rfl ⟨?_, HM.out.bel⟩
        rw [HPB.out.1, HPB.out.2, List.length_map]
        rfl
end Go.Proofs.YtnmmnejoldbeiaaGreatDoor
