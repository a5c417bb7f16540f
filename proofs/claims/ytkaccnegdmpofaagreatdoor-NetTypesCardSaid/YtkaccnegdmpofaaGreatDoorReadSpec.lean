/- 2 texts in one: each says ahead of itself what is proved, and its conditions. -/
import Derived.Test.YtkaccnegdmpofaaGreatDoorOpEnc
import Derived.Test.YtkaccnegdmpofaaGreatDoorSmall
/- op.Pack, walked: the exact bytes of a parcel, or what is wrong. Conditions: stated. -/
namespace Go.Proofs.YtkaccnegdmpofaaGreatDoor
open Go.RowKit
set_option linter.unusedVariables false
def opsErr : List LOp → Int
  | [] => 0
  | o :: t => if opErr o = 0 then opsErr t else opErr o
def twoB (n : Nat) : List UInt8 := [u8 ((n : Int) / 256), u8 ((n : Int) % 256)]
def packBody (l : List LOp) : List UInt8 := l.flatMap fun o => twoB (opBytes o).length ++ opBytes o
def packErr (l : List LOp) : Int := if 400 < l.length then 4 else opsErr l
def packBytes (l : List LOp) : List UInt8 := twoB l.length ++ packBody l
def packRes (l : List LOp) : ByteArray := if packErr l = 0 then strOf (packBytes l) else ⟨#[]⟩
def PackPost (w : World) (l : List LOp) (e : Ending) (w' : World) : Prop := e = .returned (.tuple #[.string (packRes l), errV (packErr l)]) ∧ Below w.heap.size w w'
theorem opsErr_append {l : List LOp} {o : LOp} {t : List LOp} (h : opsErr l = 0) : opsErr (l ++ o :: t) = if opErr o = 0 then opsErr t else opErr o := by
  induction l with
  | nil => rfl
  | cons a l ih =>
    unfold opsErr at h
    by_cases ha : opErr a = 0
    · rw [if_pos ha] at h
      rw [List.cons_append, opsErr, if_pos ha, ih h]
    · rw [if_neg ha] at h; exact absurd h ha
theorem opBytes_len {o : LOp} (h : opErr o = 0) : (opBytes o).length ≤ 139 := by
  have := body_len (opOk_of h)
  unfold opBytes
  rw [List.length_append]
  simp only [List.length_cons, List.length_nil]
  omega
theorem packBody_len {l : List LOp} (h : opsErr l = 0) : (packBody l).length ≤ 141 * l.length := by
  induction l with
  | nil => simp [packBody]
  | cons a l ih =>
    unfold opsErr at h
    by_cases ha : opErr a = 0
    · rw [if_pos ha] at h
      have := ih h
      have h2 := opBytes_len ha
      unfold packBody at this ⊢
      rw [List.flatMap_cons, List.length_append, List.length_append, List.length_cons]
      have h3 : (twoB (opBytes a).length).length = 2 := rfl
      omega
    · rw [if_neg ha] at h; exact absurd h ha
theorem own_str {wr : World} {B n cv : Nat} {V : Option Addr} {l : List UInt8} (h : Own wr B 5 1 V n cv (bs l)) (hn : 0 < n) :
    (convert 154 9 (.slice V n cv)).run Tryz.prog wr = .ok (.string (strOf l)) wr := by
  obtain ⟨g, rfl, _, _⟩ := h.head hn
  have hl := h.len
  rw [bs_len] at hl
  have hl : n = l.length := by omega
  subst hl
  refine run_convert_bytes_back (P := Tryz.prog) wr 154 9 5 ⟨g, 0, none⟩ cv l Tryz.underlying154 Tryz.underlying5 Tryz.underlying9 (fun j hj => ?_)
  have e : (⟨g, 0, none⟩ : Addr).add j = ⟨g, j, none⟩ := by unfold Addr.add; by_cases h : j = 0 <;> simp [h]
  rw [e, h.cellAt (by omega)]
  simp [bs, hj]
/-- Midway: so many ops are written. -/
structure PackSt (w : World) (l : List LOp) (k : Nat) (V : Option Addr) (n cv : Nat) (wr : World) : Prop where
  own : Own wr w.heap.size 5 1 V n cv (bs (twoB l.length ++ packBody (l.take k)))
  bel : Below w.heap.size w wr
  ok : opsErr (l.take k) = 0
def PackLoop (w : World) (l : List LOp) (i v : Value) (wr : World) : Prop := ∃ k V n cv, k ≤ l.length ∧ i = .int .i64 (k : Nat) ∧ v = .slice V n cv ∧ Hid (PackSt w l k V n cv wr)
set_option maxRecDepth 100000 in
set_option maxHeartbeats 4000000 in
theorem pack_any (w : World) (A : Option Addr) (ca : Nat) (l : List OpAt) (h : Reads w w.heap.size 6 A l.length (ocells l)) (hg : ∀ y ∈ l, Reads w w.heap.size 2 y.at_ y.op.seen.length (dcells y.op.seen) ∧ y.op.place.size ≤ 9223372036854775807) (hl : l.length ≤ 9223372036854775807) :
    Calls Tryz.prog 167 #[.slice A l.length ca] w (PackPost w (l.map OpAt.op)) := by
  have HR := Lib.hid h
  have HG := Lib.hid hg
  have HT := Lib.hid (fun w n h0 h1 => two_any w n h0 h1)
  have HEN := Lib.hid (fun W A c o h hp => encode_any W A c o h hp)
  clear h hg
  by_cases h4 : 400 < l.length
  · have HP : Hid (packErr (l.map OpAt.op) = 4) := by show _ = _; rw [packErr, if_pos (by simpa using h4)]
    have k4 : (400 : Int) < (l.length : Int) := by omega
    clear h4
    go_enter Tryz.func167, Tryz.ntmps167
    go_wp2_with fail
    refine bodyPost_ret (results_tmp2 rfl _ _ _) rfl ⟨?_, Below.refl _ _⟩
    rw [packRes, HP.out, if_neg (by decide)]
    rfl
  · have k4 : ¬ (400 : Int) < (l.length : Int) := by omega
    have HP : Hid (packErr (l.map OpAt.op) = opsErr (l.map OpAt.op)) := by show _ = _; rw [packErr, if_neg (by simpa using h4)]
    have hl4 : l.length ≤ 400 := by omega
    clear h4 hl
    go_enter Tryz.func167, Tryz.ntmps167
    go_wp2_with fail
    refine (HT.out _ _ (by omega) (by omega)).mono ?_
    rintro e w1 ⟨rfl, rfl⟩
    have HS0 : Hid (PackSt w (l.map OpAt.op) 0 (some ⟨w.heap.size, 0, none⟩) 2 2 (w.alloc (.cells #[.int .u8 ((l.length : Int) / 256), .int .u8 ((l.length : Int) % 256)] 5))) := by
      refine ⟨?_, (Below.refl _ _).alloc (Nat.le_refl _) _, rfl⟩
      have := Own.fresh w w.heap.size (Nat.le_refl _) (twoB l.length) (by simp [twoB]) #[.int .u8 ((l.length : Int) / 256), .int .u8 ((l.length : Int) % 256)] (by simp [bs, twoB, u8_val (show 0 ≤ (l.length : Int) / 256 by omega) (show (l.length : Int) / 256 ≤ 255 by omega), u8_val (show 0 ≤ (l.length : Int) % 256 by omega) (show (l.length : Int) % 256 ≤ 255 by omega)])
      rw [List.length_map]
      simpa [packBody, twoB] using this
    go_wp2_with fail
    go_loopw [4, 18] (fun v i wr => PackLoop w (l.map OpAt.op) i v wr) (fun v i _ => l.length - (intOf i).toNat)
    case atStart => exact ⟨0, _, _, _, Nat.zero_le _, rfl, rfl, HS0⟩
    case round =>
      obtain ⟨k, V, n, cv, hk, rfl, rfl, HM⟩ := hrel
      rw [List.length_map] at hk
      clear HS0
      by_cases hkn : k < l.length
      · obtain ⟨ad, rfl, hab, c0, c1, c2, c3, c4, c5⟩ := (HR.out.below HM.out.bel).op hkn
        have k1 : (k : Int) < (l.length : Int) := by omega
        have k0 : (0 : Int) ≤ (k : Int) := by omega
        have hgk := HG.out _ (List.getElem_mem hkn)
        have HGR := Lib.hid ((hgk.1.below HM.out.bel).more HM.out.bel.size)
        have HGP := Lib.hid hgk.2
        have hdr : l.map OpAt.op = (l.map OpAt.op).take k ++ l[k].op :: (l.drop (k + 1)).map OpAt.op := by
          rw [← List.map_take, ← List.map_cons, ← List.map_append, ← List.drop_eq_getElem_cons hkn, List.take_append_drop]
        have htk : (l.map OpAt.op).take (k + 1) = (l.map OpAt.op).take k ++ [l[k].op] := by
          rw [List.take_succ_eq_append_getElem (by simpa using hkn), List.getElem_map]
        have HDR := Lib.hid hdr
        have HTK := Lib.hid htk
        clear hgk hdr htk
        generalize l[k] = y at *
        obtain ⟨o, yA, yc⟩ := y
        simp only at HDR HTK HGR HGP c0 c1 c2 c3 c4 c5
        have HBN := Lib.hid (Blk.new wr 48 (o.cells yA yc))
        have HO := Lib.hid (Below.alloc (Below.refl wr.heap.size wr) (Nat.le_refl _) (.cells (o.cells yA yc) 48))
        have b0 := HBN.out.cell 0
        have b1 := HBN.out.cell 1
        have b2 := HBN.out.cell 2
        have b3 := HBN.out.cell 3
        have b4 := HBN.out.cell 4
        have b5 := HBN.out.cell 5
        obtain ⟨⟨d1, d2⟩, o2, o3, o4, o5⟩ := o
        unfold LOp.cells at *
        simp only at b0 b1 b2 b3 b4 b5 c0 c1 c2 c3 c4 c5 HGR HGP
        obtain ⟨W1, hW1⟩ : ∃ W1, W1 = wr.alloc (.cells #[.int .i64 d1, .int .i64 d2, .int .i64 o2, .string o3, .int .i64 o4, .slice yA o5.length yc] 48) := ⟨_, rfl⟩
        have HGR1 : Hid (Reads W1 W1.heap.size 2 yA o5.length (dcells o5)) := by rw [hW1]; exact (HGR.out.below ((Below.refl _ _).alloc (Nat.le_refl _) _)).more (by simp)
        have HB1 : Hid (Below w.heap.size w W1) := by rw [hW1]; exact HM.out.bel.alloc HM.out.bel.size _
        have HV1 : Hid (Own W1 w.heap.size 5 1 V n cv (bs (twoB (l.map OpAt.op).length ++ packBody ((l.map OpAt.op).take k)))) := by rw [hW1]; exact HM.out.own.alloc _
        clear HO HBN HGR
        go_wp2_with fail
        rw [← hW1]
        clear hW1 b0 b1 b2 b3 b4 b5 c0 c1 c2 c3 c4 c5
        refine (HEN.out W1 yA yc ⟨⟨d1, d2⟩, o2, o3, o4, o5⟩ HGR1.out HGP.out).mono ?_
        generalize (⟨⟨d1, d2⟩, o2, o3, o4, o5⟩ : LOp) = o at *
        rintro e w2 ⟨rfl, hb2⟩
        have HB2 : Hid (Below w.heap.size w w2) := HB1.out.trans (hb2.mono HB1.out.size)
        have HV2 := Lib.hid (HV1.out.below hb2)
        clear hb2 HV1 HB1 HGR1
        by_cases he : opErr o = 0
        · have her : encRes o = strOf (opBytes o) := by rw [encRes, if_pos he]
          have HOK : Hid (opsErr ((l.map OpAt.op).take (k + 1)) = 0) := by show _ = _; rw [HTK.out, opsErr_append HM.out.ok, if_pos he]; rfl
          rw [show errV (opErr o) = .nilIface by rw [he]; rfl, her]
          have hsz : (strOf (opBytes o)).size = (opBytes o).length := strOf_size _
          have hlen := opBytes_len he
          have hn : n = 2 + (packBody ((l.map OpAt.op).take k)).length := by
            have h1 := HV2.out.len
            rw [bs_len, List.length_append] at h1
            have h2 : (twoB (l.map OpAt.op).length).length = 2 := rfl
            omega
          have hpl := packBody_len HM.out.ok
          rw [List.length_take, List.length_map] at hpl
          have hn2 : n ≤ 60000 := by have : min k l.length ≤ 400 := by omega
                                     omega
          have hz1 : (0 : Int) ≤ ((strOf (opBytes o)).size : Int) := by omega
          have hz2 : ((strOf (opBytes o)).size : Int) ≤ 65535 := by omega
          have HF1 : Fits (n + 2) 1 := Fits.of_small (by omega) (by decide)
          have HF2 : Fits (n + 2 + (strOf (opBytes o)).size) 1 := Fits.of_small (by omega) (by decide)
          have HPO : Hid (bs (twoB (l.map OpAt.op).length ++ packBody ((l.map OpAt.op).take k)) ++ bs (twoB (strOf (opBytes o)).size) ++ bs (strOf (opBytes o)).data.toList = bs (twoB (l.map OpAt.op).length ++ packBody ((l.map OpAt.op).take (k + 1)))) := by
            show _ = _
            rw [HTK.out, bs_append, bs_append, hsz]
            congr 1
            unfold packBody
            simp [strOf]
          have HT2 := Lib.hid (fun W => two_post W _ hz1 hz2)
          have HBS : w.heap.size ≤ w2.heap.size := HB2.out.size
          clear he her hsz hlen hn hpl hn2 hz1 hz2 HDR HP
          go_wp2_with fail
          refine (HT2.out w2).mono ?_
          rintro e w3 ⟨g, rfl, HRd, hb3⟩
          have HB3 : Hid (Below w.heap.size w w3) := HB2.out.trans (hb3.mono HB2.out.size)
          have HV3 := Lib.hid (HV2.out.below hb3)
          have HRD := Lib.hid HRd
          clear hb3 HRd HV2 HB2 HT2
          go_wp2_with (at_builtin; first
            | ((refine wpList_app _ (.tmp 30) (.tmp 33) rfl rfl elemB rfl rfl HV3.out HRD.out (oneCells_bs _) HF1 HB3.out.size ?_; intro V4 cv4 w4 HO HL HX; have HV4 := Lib.hid HO; have HB4 : Hid (Below w.heap.size w w4) := (HB3.out.trans (HL.below HB3.out.size (fun i hi => (HV3.out.lt i hi).1))); clear HO HL HX))
            | ((refine wpList_appS (.tmp 34) (.tmp 35) rfl rfl rfl rfl HV4.out HF2 HB4.out.size ?_; intro V5 cv5 w5 HO HL; have HV5 := Lib.hid HO; have HB5 : Hid (Below w.heap.size w w5) := (HB4.out.trans (HL.below HB4.out.size (fun i hi => (HV4.out.lt i hi).1))); clear HO HL)))
          go_roundw
          case rel => exact ⟨k + 1, V5, n + 2 + (strOf (opBytes o)).size, cv5, by simp; omega, by go_num, rfl, Lib.hid ⟨by rw [← HPO.out]; exact HV5.out, HB5.out, HOK.out⟩⟩
          case measure => simp [intOf]; omega
        · have HEP : Hid (packErr (l.map OpAt.op) = opErr o) := by show _ = _; rw [HP.out, HDR.out, opsErr_append HM.out.ok, if_neg he]
          have HNE := Lib.hid he
          rw [show errV (opErr o) = .iface 97 (.int .i64 (opErr o)) by rw [errV, if_neg he]]
          clear he
          go_wp2_with fail
          refine bodyPost_ret (results_tmp2 rfl _ _ _) rfl ⟨?_, HB2.out⟩
          rw [packRes, HEP.out, if_neg HNE.out, errV, if_neg HNE.out]
          rfl
      · have k1 : ¬ (k : Int) < (l.length : Int) := by omega
        have hk : k = l.length := by omega
        have htk : (l.map OpAt.op).take k = l.map OpAt.op := by rw [hk]; exact List.take_of_length_le (by simp)
        have HPB : Hid (packRes (l.map OpAt.op) = strOf (twoB (l.map OpAt.op).length ++ packBody ((l.map OpAt.op).take k)) ∧ packErr (l.map OpAt.op) = 0) := by
          have := HM.out.ok
          rw [htk] at this ⊢
          exact ⟨by rw [packRes, HP.out, if_pos this]; rfl, HP.out.trans this⟩
        have hn : 0 < n := by
          have h1 := HM.out.own.len
          rw [bs_len, List.length_append] at h1
          have h2 : (twoB (l.map OpAt.op).length).length = 2 := rfl
          omega
        have hcv := own_str HM.out.own hn
        clear hk htk HP hn
        go_wp2_with fail
        refine bodyPost_ret (results_tmp2 rfl _ _ _) rfl ⟨?_, HM.out.bel⟩
        rw [HPB.out.1, HPB.out.2, List.length_map]
        rfl
end Go.Proofs.YtkaccnegdmpofaaGreatDoor
/- Bytes read as an op: plain. Conditions: none. -/
namespace Go.Proofs.YtkaccnegdmpofaaGreatDoor
open Go.RowKit
set_option linter.unusedVariables false
/-- Dots that are read, so many. -/
def rdDots : Nat → List UInt8 → Option (List LDot × List UInt8)
  | 0, s => some ([], s)
  | n + 1, a :: b :: c :: t => (rdDots n t).map fun r => (⟨(a.toNat : Int), ((b.toNat * 256 + c.toNat : Nat) : Int)⟩ :: r.1, r.2)
  | _ + 1, _ => none
/-- What comes behind the place. -/
def rdTail (dot : LDot) (what : Nat) (p : ByteArray) (s : List UInt8) : Option (LOp × List UInt8) :=
  if what = 1 then (match s with
    | [] => none
    | x :: t => some (⟨dot, 1, p, (x.toNat : Int), []⟩, t))
  else if what = 4 then (match s with
    | [] => none
    | x :: t => (rdDots x.toNat t).map fun r => (⟨dot, 4, p, 0, r.1⟩, r.2))
  else some (⟨dot, (what : Int), p, 0, []⟩, s)
/-- An op that is read. -/
def rdOp : List UInt8 → Option (LOp × List UInt8)
  | a :: b :: c :: d :: e :: t => if t.length < e.toNat then none else rdTail ⟨(b.toNat : Int), ((c.toNat * 256 + d.toNat : Nat) : Int)⟩ a.toNat (strOf (t.take e.toNat)) (t.drop e.toNat)
  | _ => none
theorem u8_nat {n : Int} (h0 : 0 ≤ n) (h1 : n ≤ 255) : (u8 n).toNat = n.toNat := by have := u8_val h0 h1; omega
theorem rdDots_bytes (ds : List LDot) (t : List UInt8) (h : ∀ d ∈ ds, 0 ≤ d.who ∧ d.who ≤ 255 ∧ 0 ≤ d.n ∧ d.n ≤ 65535) : rdDots ds.length (ds.flatMap dotBytes ++ t) = some (ds, t) := by
  induction ds with
  | nil => rfl
  | cons d ds ih =>
    obtain ⟨h1, h2, h3, h4⟩ := h d (by simp)
    have ih := ih (fun x hx => h x (by simp [hx]))
    rw [List.flatMap_cons]
    show rdDots (ds.length + 1) (u8 d.who :: u8 (d.n / 256) :: u8 (d.n % 256) :: (ds.flatMap dotBytes ++ t)) = _
    rw [rdDots, ih, u8_nat h1 h2, u8_nat (by omega) (by omega), u8_nat (by omega) (by omega)]
    obtain ⟨dw, dn⟩ := d
    simp only [Option.map_some, Option.some.injEq, Prod.mk.injEq, List.cons.injEq, LDot.mk.injEq, and_true]
    simp only at h1 h2 h3 h4
    omega
theorem rise_in {l : List LDot} (h : riseErr l = 0) : ∀ d ∈ l, dotErr d = 0 := by
  unfold riseErr at h
  split at h
  · rename_i hh
    rw [List.all_eq_true] at hh
    intro d hd
    simpa using hh d hd
  · cases h
theorem rdOp_bytes {o : LOp} (h : o.Ok) (t : List UInt8) : rdOp (opHead o ++ opTail o ++ t) = some (o, t) := by
  have hw := h.who
  have hn := h.n
  have ha := h.what
  have hps := place_small h.place
  have hpl : o.place.data.toList.length = o.place.size := by rw [Array.length_toList]; rfl
  unfold opHead
  rw [List.append_assoc, List.append_assoc]
  show rdOp (u8 o.what :: u8 o.dot.who :: u8 (o.dot.n / 256) :: u8 (o.dot.n % 256) :: u8 (o.place.size : Int) :: (o.place.data.toList ++ (opTail o ++ t))) = _
  have e5 : (u8 (o.place.size : Int)).toNat = o.place.size := by rw [u8_nat (by omega) (by omega)]; omega
  rw [rdOp, e5, if_neg (by rw [List.length_append, hpl]; omega), List.take_append_of_le_length (by omega), List.take_of_length_le (by omega), List.drop_append_of_le_length (by omega), List.drop_of_length_le (by omega), List.nil_append]
  rw [u8_nat (n := o.what) (by omega) (by omega), u8_nat (n := o.dot.who) (by omega) (by omega), u8_nat (n := o.dot.n / 256) (by omega) (by omega), u8_nat (n := o.dot.n % 256) (by omega) (by omega)]
  have edot : (⟨((o.dot.who.toNat : Nat) : Int), (((o.dot.n / 256).toNat * 256 + (o.dot.n % 256).toNat : Nat) : Int)⟩ : LDot) = o.dot := by
    obtain ⟨⟨w, n⟩, _⟩ := o
    simp only [LDot.mk.injEq]
    simp only at hw hn
    omega
  have epl : strOf o.place.data.toList = o.place := by apply ByteArray.ext; simp [strOf]
  rw [edot, epl]
  unfold rdTail opTail
  obtain ⟨dot, what, place, letter, seen⟩ := o
  simp only at ha hw hn ⊢
  have hl := h.letter
  have hno := h.none_
  have hsn := h.seen
  have hfw := h.few
  simp only at hl hno hsn hfw
  by_cases h1 : what = 1
  · subst h1
    have hl2 := hl rfl
    obtain rfl : seen = [] := hsn (by decide)
    rw [if_pos (by decide), if_pos rfl]
    show some _ = _
    have e : (((u8 letter).toNat : Nat) : Int) = letter := u8_val (by omega) (by omega)
    rw [e]
    rfl
  · obtain rfl : letter = 0 := hno h1
    rw [if_neg (by omega), if_neg h1]
    by_cases h4 : what = 4
    · subst h4
      rw [if_pos (by decide), if_pos rfl]
      show (rdDots (u8 (seen.length : Int)).toNat (seen.flatMap dotBytes ++ t)).map _ = _
      rw [u8_nat (by omega) (by omega), show ((seen.length : Int)).toNat = seen.length by omega, rdDots_bytes seen t (fun d hd => by
        have := dotErr_ok (rise_in h.rise d hd)
        omega)]
      rfl
    · obtain rfl : seen = [] := hsn h4
      rw [if_neg (by omega), if_neg h4]
      show some _ = _
      rw [show ((what.toNat : Nat) : Int) = what by omega]
      rfl
/-- The op that bytes are. -/
def decOf (b : ByteArray) : Option LOp := match rdOp b.data.toList with
  | none => none
  | some r => if opErr r.1 = 0 ∧ opBytes r.1 = b.data.toList then some r.1 else none
theorem dec_some {b : ByteArray} {o : LOp} (h : decOf b = some o) : opErr o = 0 ∧ opBytes o = b.data.toList := by
  unfold decOf at h
  split at h
  · cases h
  · split at h
    · rename_i hh
      injection h with h
      subst h
      exact hh
    · cases h
theorem dec_enc {o : LOp} (h : opErr o = 0) : decOf (strOf (opBytes o)) = some o := by
  unfold decOf
  have e : (strOf (opBytes o)).data.toList = opBytes o := rfl
  have e2 := rdOp_bytes (opOk_of h) [u8 ((sumB (opHead o ++ opTail o) : Int) % 253)]
  rw [e]
  have e3 : rdOp (opBytes o) = some (o, [u8 ((sumB (opHead o ++ opTail o) : Int) % 253)]) := e2
  rw [e3]
  exact if_pos ⟨h, rfl⟩
end Go.Proofs.YtkaccnegdmpofaaGreatDoor
