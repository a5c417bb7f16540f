/- 5 texts in one: each says ahead of itself what is proved, and its conditions. -/
import Derived.Deep.RegionLaw
import Derived.Defers
import Derived.Laws.Pointers
import Derived.Laws.Rows
import Derived.Recover
import Derived.WalkLawsBesides
import Derived.Test.YthfbjfocmnikaaaGreatDoorOpEnc
import Derived.Test.YthfbjfocmnikaaaGreatDoorSmall
/- Bytes read as an op: plain. Conditions: none. -/
namespace Go.Proofs.YthfbjfocmnikaaaGreatDoor
open Go.RowKit
set_option linter.unusedVariables false
/-- Dots that are read, so many. -/
def rdDots : Nat → List UInt8 → Option (List LDot × List UInt8)
  | 0, s => some ([], s)
  | n + 1, a :: b :: c :: t => (rdDots n t).map fun r => (⟨(a.toNat : Int), ((b.toNat * 256 + c.toNat : Nat) : Int)⟩ :: r.1, r.2)
  | _ + 1, _ => none
/-- What comes behind the place. -/
def rdTail (dot : LDot) (what : Nat) (p : ByteArray) (s : List UInt8) : Option (LOp × List UInt8) :=
  if what = 1 then (match s with
    | [] => none
    | x :: t => some (⟨dot, 1, p, (x.toNat : Int), []⟩, t))
  else if what = 4 then (match s with
    | [] => none
    | x :: t => (rdDots x.toNat t).map fun r => (⟨dot, 4, p, 0, r.1⟩, r.2))
  else some (⟨dot, (what : Int), p, 0, []⟩, s)
/-- An op that is read. -/
def rdOp : List UInt8 → Option (LOp × List UInt8)
  | a :: b :: c :: d :: e :: t => if t.length < e.toNat then none else rdTail ⟨(b.toNat : Int), ((c.toNat * 256 + d.toNat : Nat) : Int)⟩ a.toNat (strOf (t.take e.toNat)) (t.drop e.toNat)
  | _ => none
theorem u8_nat {n : Int} (h0 : 0 ≤ n) (h1 : n ≤ 255) : (u8 n).toNat = n.toNat := by have := u8_val h0 h1; omega
theorem rdDots_bytes (ds : List LDot) (t : List UInt8) (h : ∀ d ∈ ds, 0 ≤ d.who ∧ d.who ≤ 255 ∧ 0 ≤ d.n ∧ d.n ≤ 65535) : rdDots ds.length (ds.flatMap dotBytes ++ t) = some (ds, t) := by
  induction ds with
  | nil => rfl
  | cons d ds ih =>
    obtain ⟨h1, h2, h3, h4⟩ := h d (by simp)
    have ih := ih (fun x hx => h x (by simp [hx]))
    rw [List.flatMap_cons]
    show rdDots (ds.length + 1) (u8 d.who :: u8 (d.n / 256) :: u8 (d.n % 256) :: (ds.flatMap dotBytes ++ t)) = _
    rw [rdDots, ih, u8_nat h1 h2, u8_nat (by omega) (by omega), u8_nat (by omega) (by omega)]
    obtain ⟨dw, dn⟩ := d
    simp only [Option.map_some, Option.some.injEq, Prod.mk.injEq, List.cons.injEq, LDot.mk.injEq, and_true]
    simp only at h1 h2 h3 h4
    omega
theorem rise_in {l : List LDot} (h : riseErr l = 0) : ∀ d ∈ l, dotErr d = 0 := by
  unfold riseErr at h
  split at h
  · rename_i hh
    rw [List.all_eq_true] at hh
    intro d hd
    simpa using hh d hd
  · cases h
theorem rdOp_bytes {o : LOp} (h : o.Ok) (t : List UInt8) : rdOp (opHead o ++ opTail o ++ t) = some (o, t) := by
  have hw := h.who
  have hn := h.n
  have ha := h.what
  have hps := place_small h.place
  have hpl : o.place.data.toList.length = o.place.size := by rw [Array.length_toList]; rfl
  unfold opHead
  rw [List.append_assoc, List.append_assoc]
  show rdOp (u8 o.what :: u8 o.dot.who :: u8 (o.dot.n / 256) :: u8 (o.dot.n % 256) :: u8 (o.place.size : Int) :: (o.place.data.toList ++ (opTail o ++ t))) = _
  have e5 : (u8 (o.place.size : Int)).toNat = o.place.size := by rw [u8_nat (by omega) (by omega)]; omega
  rw [rdOp, e5, if_neg (by rw [List.length_append, hpl]; omega), List.take_append_of_le_length (by omega), List.take_of_length_le (by omega), List.drop_append_of_le_length (by omega), List.drop_of_length_le (by omega), List.nil_append]
  rw [u8_nat (n := o.what) (by omega) (by omega), u8_nat (n := o.dot.who) (by omega) (by omega), u8_nat (n := o.dot.n / 256) (by omega) (by omega), u8_nat (n := o.dot.n % 256) (by omega) (by omega)]
  have edot : (⟨((o.dot.who.toNat : Nat) : Int), (((o.dot.n / 256).toNat * 256 + (o.dot.n % 256).toNat : Nat) : Int)⟩ : LDot) = o.dot := by
    obtain ⟨⟨w, n⟩, _⟩ := o
    simp only [LDot.mk.injEq]
    simp only at hw hn
    omega
  have epl : strOf o.place.data.toList = o.place := by apply ByteArray.ext; simp [strOf]
  rw [edot, epl]
  unfold rdTail opTail
  obtain ⟨dot, what, place, letter, seen⟩ := o
  simp only at ha hw hn ⊢
  have hl := h.letter
  have hno := h.none_
  have hsn := h.seen
  have hfw := h.few
  simp only at hl hno hsn hfw
  by_cases h1 : what = 1
  · subst h1
    have hl2 := hl rfl
    obtain rfl : seen = [] := hsn (by decide)
    rw [if_pos (by decide), if_pos rfl]
    show some _ = _
    have e : (((u8 letter).toNat : Nat) : Int) = letter := u8_val (by omega) (by omega)
    rw [e]
    rfl
  · obtain rfl : letter = 0 := hno h1
    rw [if_neg (by omega), if_neg h1]
    by_cases h4 : what = 4
    · subst h4
      rw [if_pos (by decide), if_pos rfl]
      show (rdDots (u8 (seen.length : Int)).toNat (seen.flatMap dotBytes ++ t)).map _ = _
      rw [u8_nat (by omega) (by omega), show ((seen.length : Int)).toNat = seen.length by omega, rdDots_bytes seen t (fun d hd => by
        have := dotErr_ok (rise_in h.rise d hd)
        omega)]
      rfl
    · obtain rfl : seen = [] := hsn h4
      rw [if_neg (by omega), if_neg h4]
      show some _ = _
      rw [show ((what.toNat : Nat) : Int) = what by omega]
      rfl
/-- The op that bytes are. -/
def decOf (b : ByteArray) : Option LOp := match rdOp b.data.toList with
  | none => none
  | some r => if opErr r.1 = 0 ∧ opBytes r.1 = b.data.toList then some r.1 else none
theorem dec_some {b : ByteArray} {o : LOp} (h : decOf b = some o) : opErr o = 0 ∧ opBytes o = b.data.toList := by
  unfold decOf at h
  split at h
  · cases h
  · split at h
    · rename_i hh
      injection h with h
      subst h
      exact hh
    · cases h
theorem dec_enc {o : LOp} (h : opErr o = 0) : decOf (strOf (opBytes o)) = some o := by
  unfold decOf
  have e : (strOf (opBytes o)).data.toList = opBytes o := rfl
  have e2 := rdOp_bytes (opOk_of h) [u8 ((sumB (opHead o ++ opTail o) : Int) % 253)]
  rw [e]
  have e3 : rdOp (opBytes o) = some (o, [u8 ((sumB (opHead o ++ opTail o) : Int) % 253)]) := e2
  rw [e3]
  exact if_pos ⟨h, rfl⟩
end Go.Proofs.YthfbjfocmnikaaaGreatDoor
/- (*op.reader).take, one, two, walked: where there are bytes enough, and where there are not (they panic). Conditions: none of our own. -/
namespace Go.Proofs.YthfbjfocmnikaaaGreatDoor
open Go.RowKit
set_option linter.unusedVariables false
theorem bits_two (c d : Nat) (hc : c < 256) (hd : d < 256) : bits .or .i64 ((c : Int) * 256) (d : Int) = ((c * 256 + d : Nat) : Int) := by
  have h0 : ((c : Int) * 256) = ((c * 256 : Nat) : Int) := by omega
  have h1 : (BitVec.ofInt 64 ((c * 256 : Nat) : Int)).toNat = c * 256 := by
    rw [BitVec.ofInt_natCast, BitVec.toNat_ofNat]; exact Nat.mod_eq_of_lt (by omega)
  have h2 : (BitVec.ofInt 64 (d : Int)).toNat = d := by
    rw [BitVec.ofInt_natCast, BitVec.toNat_ofNat]; exact Nat.mod_eq_of_lt (by omega)
  have h3 : c * 256 ||| d = c * 256 + d := by
    rw [show c * 256 = c <<< 8 by rw [Nat.shiftLeft_eq], Nat.shiftLeft_add_eq_or_of_lt (show d < 2 ^ 8 by omega)]
  rw [h0]
  show IntKind.i64.wrap ((BitVec.ofInt 64 ((c * 256 : Nat) : Int) ||| BitVec.ofInt 64 (d : Int)).toNat : Int) = _
  rw [BitVec.toNat_or, h1, h2, h3]
  exact IntWalk.i64_in _ (by omega)
/-- What ends a reading. -/
def wrongP : List PanicEntry := [{ v := .iface 297 (.agg #[]), recovered := false }]
theorem strOf_sz (l : List UInt8) : (strOf l).size = l.length := strOf_size l
theorem strOf_ext (l : List UInt8) (i j : Nat) : (strOf l).extract i j = strOf ((l.take j).drop i) := by
  apply ByteArray.ext
  rw [ByteArray.data_extract]
  apply Array.ext'
  rw [Array.toList_extract, List.extract_eq_take_drop]
  show (l.drop i).take (j - i) = (l.take j).drop i
  rw [List.drop_take]
/-- The reader's bytes. -/
def RdAt (w : World) (b : Nat) (l : List UInt8) : Prop := Blk w b 255 #[.string (strOf l)]
/-- What a reading leaves. -/
def RdTo (w : World) (b : Nat) (l : List UInt8) (w' : World) : Prop := RdAt w' b l ∧ Only [b] w w'
theorem RdTo.trans {w w1 w2 : World} {b : Nat} {l l' : List UInt8} (h : RdTo w b l w1) (h2 : RdTo w1 b l' w2) : RdTo w b l' w2 := ⟨h2.1, h.2.trans h2.2⟩
theorem rdTo_set {w : World} {b : Nat} {l : List UInt8} (h : RdAt w b l) (l' : List UInt8) : RdTo w b l' (w.setCell ⟨b, 0, none⟩ (.string (strOf l'))) :=
  ⟨Blk.set_ (t := 255) h 0 (.string (strOf l')), (Only.refl _ _).setCell (.inl (by simp)) _⟩
section
variable (w : World) (b : Nat) (l : List UInt8) (h : RdAt w b l)
include h
set_option maxRecDepth 100000 in
theorem take_ok (n : Nat) (hn : n ≤ l.length) :
    Calls Tryz.prog 213 #[.pointer (some ⟨b, 0, none⟩), .int .i64 n] w fun e w' => e = .returned (.string (strOf (l.take n))) ∧ RdTo w b (l.drop n) w' := by
  have c0 : w.cell? ⟨b, 0, none⟩ = some (.string (strOf l)) := Blk.cell h 0
  have f0 : w.frozen? ⟨b, 0, none⟩ = false := Blk.frozen h 0
  have hs := strOf_sz l
  have n0 : (0 : Int) ≤ (n : Int) := by omega
  have n1 : (n : Int) ≤ ((strOf l).size : Int) := by omega
  have n2 : ¬ ((strOf l).size : Int) < (n : Int) := by omega
  have HE1 : Hid ((strOf l).extract 0 n = strOf (l.take n)) := by show _ = _; rw [strOf_ext]; rfl
  have HE2 : Hid ((strOf l).extract n (strOf l).size = strOf (l.drop n)) := by show _ = _; rw [strOf_ext, hs, List.take_length]
  have HF := Lib.hid (rdTo_set h (l.drop n))
  rw [← HE2.out] at HF
  rw [← HE1.out]
  clear h hs HE1 HE2
  generalize strOf l = s at *
  go_enter Tryz.func213, Tryz.ntmps213
  go_wp2_with fail
  go_ret
  exact ⟨rfl, HF.out⟩
set_option maxRecDepth 100000 in
theorem take_bad (n : Nat) (hn : l.length < n) :
    Calls Tryz.prog 213 #[.pointer (some ⟨b, 0, none⟩), .int .i64 n] w fun e w' => e = .panicked wrongP ∧ Only [b] w w' := by
  have c0 : w.cell? ⟨b, 0, none⟩ = some (.string (strOf l)) := Blk.cell h 0
  have hs := strOf_sz l
  have n2 : ((strOf l).size : Int) < (n : Int) := by omega
  clear h hs
  generalize strOf l = s at *
  go_enter Tryz.func213, Tryz.ntmps213
  go_wp2_with fail
  exact ⟨rfl, rfl, Only.refl _ _⟩
end
set_option maxRecDepth 100000 in
theorem one_ok (w : World) (b : Nat) (c : UInt8) (t : List UInt8) (h : RdAt w b (c :: t)) :
    Calls Tryz.prog 211 #[.pointer (some ⟨b, 0, none⟩)] w fun e w' => e = .returned (.int .i64 (c.toNat : Int)) ∧ RdTo w b t w' := by
  have HT := Lib.hid (take_ok w b (c :: t) h 1 (by simp))
  have hsz : (strOf [c]).size = 1 := strOf_sz [c]
  have hx : ∀ (hh : 0 < (strOf [c]).size), ((strOf [c])[0]'hh).toNat = c.toNat := fun _ => rfl
  have hby := UInt8.toNat_lt c
  have g3 : wrap64 ((c.toNat : Nat) : Int) = ((c.toNat : Nat) : Int) := by unfold wrap64; omega
  have HX := Lib.hid hx
  have HG := Lib.hid g3
  have n1 : (0 : Int) < ((strOf [c]).size : Int) := by omega
  simp only [List.take_succ_cons, List.take_zero, List.drop_succ_cons, List.drop_zero] at HT
  clear h hx g3
  generalize strOf [c] = s at *
  go_enter Tryz.func211, Tryz.ntmps211
  go_wp2_with fail
  refine HT.out.mono ?_
  rintro e w1 ⟨rfl, hr⟩
  have HR := Lib.hid hr
  clear hr
  go_wp2_with fail
  go_ret
  exact ⟨by rw [← HG.out, ← HX.out (by omega)]; rfl, HR.out⟩
set_option maxRecDepth 100000 in
theorem one_bad (w : World) (b : Nat) (h : RdAt w b []) :
    Calls Tryz.prog 211 #[.pointer (some ⟨b, 0, none⟩)] w fun e w' => e = .panicked wrongP ∧ Only [b] w w' := by
  have HT := Lib.hid (take_bad w b [] h 1 (by simp))
  clear h
  go_enter Tryz.func211, Tryz.ntmps211
  go_wp2_with fail
  refine HT.out.mono ?_
  rintro e w1 ⟨rfl, ho⟩
  have HO := Lib.hid ho
  clear ho
  go_wp2_with fail
  exact ⟨rfl, rfl, HO.out⟩
set_option maxRecDepth 100000 in
theorem two_ok (w : World) (b : Nat) (c d : UInt8) (t : List UInt8) (h : RdAt w b (c :: d :: t)) :
    Calls Tryz.prog 212 #[.pointer (some ⟨b, 0, none⟩)] w fun e w' => e = .returned (.int .i64 ((c.toNat * 256 + d.toNat : Nat) : Int)) ∧ RdTo w b t w' := by
  have H1 := Lib.hid (one_ok w b c (d :: t) h)
  have H2 := Lib.hid (fun W hW => one_ok W b d t hW)
  have hc := UInt8.toNat_lt c
  have hd := UInt8.toNat_lt d
  clear h
  go_enter Tryz.func212, Tryz.ntmps212
  go_wp2_with fail
  refine H1.out.mono ?_
  rintro e w1 ⟨rfl, hr⟩
  have HR := Lib.hid hr
  clear hr
  go_wp2_with fail
  refine (H2.out w1 HR.out.1).mono ?_
  rintro e w2 ⟨rfl, hr⟩
  have HR2 := Lib.hid (HR.out.trans hr)
  clear hr
  go_wp2_with fail
  go_ret
  exact ⟨by rw [← bits_two _ _ hc hd]; rfl, HR2.out⟩
set_option maxRecDepth 100000 in
theorem two_bad (w : World) (b : Nat) (l : List UInt8) (h : RdAt w b l) (hl : l.length < 2) :
    Calls Tryz.prog 212 #[.pointer (some ⟨b, 0, none⟩)] w fun e w' => e = .panicked wrongP ∧ Only [b] w w' := by
  match l, hl with
  | [], _ =>
    have H1 := Lib.hid (one_bad w b h)
    clear h
    go_enter Tryz.func212, Tryz.ntmps212
    go_wp2_with fail
    refine H1.out.mono ?_
    rintro e w1 ⟨rfl, ho⟩
    have HO := Lib.hid ho
    clear ho
    go_wp2_with fail
    exact ⟨rfl, rfl, HO.out⟩
  | [c], _ =>
    have H1 := Lib.hid (one_ok w b c [] h)
    have H2 := Lib.hid (fun W hW => one_bad W b hW)
    clear h
    go_enter Tryz.func212, Tryz.ntmps212
    go_wp2_with fail
    refine H1.out.mono ?_
    rintro e w1 ⟨rfl, hr⟩
    have HR := Lib.hid hr
    clear hr
    go_wp2_with fail
    refine (H2.out w1 HR.out.1).mono ?_
    rintro e w2 ⟨rfl, ho⟩
    have HO := Lib.hid (HR.out.2.trans ho)
    clear ho
    go_wp2_with fail
    exact ⟨rfl, rfl, HO.out⟩
end Go.Proofs.YthfbjfocmnikaaaGreatDoor
/- (*op.reader).op, walked: an op is read, or the reading panics. Conditions: none of our own. -/
namespace Go.Proofs.YthfbjfocmnikaaaGreatDoor
open Go.RowKit
set_option linter.unusedVariables false
theorem elemDt : Elem Tryz.prog 28 27 2 16 := Elem.mk_ (z := .agg #[.int .i64 0, .int .i64 0]) Tryz.underlying28 (by kernel_rfl) rfl (by decide)
theorem oneCells_dt (a b : Int) : OneCells [.int .i64 a, .int .i64 b] := by
  intro u hu
  simp only [List.mem_cons, List.not_mem_nil, or_false] at hu
  rcases hu with rfl | rfl <;> rfl
def RdOpPost (w : World) (b : Nat) (r : Option (LOp × List UInt8)) (e : Ending) (w' : World) : Prop :=
  match r with
  | none => e = .panicked wrongP ∧ Only [b] w w'
  | some (o, t) => ∃ A c, e = .returned (o.val A c) ∧ Own w' w.heap.size 27 2 A o.seen.length c (dcells o.seen) ∧ RdTo w b t w'
theorem Blk.set6 {W : World} {g2 : Nat} {t : TypeId} {v0 v1 v2 v3 v4 v5 : Value} (h : Blk W g2 t #[v0, v1, v2, v3, v4, v5]) (u0 u1 u2 u3 u4 u5 : Value) :
    Blk ((((((W.setCell ⟨g2, 0, none⟩ u0).setCell ⟨g2, 1, none⟩ u1).setCell ⟨g2, 2, none⟩ u2).setCell ⟨g2, 3, none⟩ u3).setCell ⟨g2, 4, none⟩ u4).setCell ⟨g2, 5, none⟩ u5) g2 t #[u0, u1, u2, u3, u4, u5] :=
  (((((h.set_ 0 u0).set_ 1 u1).set_ 2 u2).set_ 3 u3).set_ 4 u4).set_ 5 u5
theorem set6_only (W : World) (g2 : Nat) (u0 u1 u2 u3 u4 u5 : Value) : Only [g2] W ((((((W.setCell ⟨g2, 0, none⟩ u0).setCell ⟨g2, 1, none⟩ u1).setCell ⟨g2, 2, none⟩ u2).setCell ⟨g2, 3, none⟩ u3).setCell ⟨g2, 4, none⟩ u4).setCell ⟨g2, 5, none⟩ u5) := by
  have only : ∀ {X : World} (k : Nat) (u : Value), Only [g2] W X → Only [g2] W (X.setCell ⟨g2, k, none⟩ u) := fun k u hX => hX.setCell (.inl (by simp)) u
  exact only _ _ (only _ _ (only _ _ (only _ _ (only _ _ (only _ _ (Only.refl _ _))))))
theorem fin_to {w W : World} {b g2 : Nat} {l : List UInt8} (hsz : w.heap.size ≤ g2) (hb : b < g2) (h : RdAt W b l) (ho : Only [b] w W) (u0 u1 u2 u3 u4 u5 : Value) :
    RdTo w b l ((((((W.setCell ⟨g2, 0, none⟩ u0).setCell ⟨g2, 1, none⟩ u1).setCell ⟨g2, 2, none⟩ u2).setCell ⟨g2, 3, none⟩ u3).setCell ⟨g2, 4, none⟩ u4).setCell ⟨g2, 5, none⟩ u5) := by
  have far : ∀ {X : World} (k : Nat) (u : Value), RdAt X b l → RdAt (X.setCell ⟨g2, k, none⟩ u) b l := fun k u hX => Blk.far hX (by simp; omega) u
  have only : ∀ {X : World} (k : Nat) (u : Value), Only [b] w X → Only [b] w (X.setCell ⟨g2, k, none⟩ u) := fun k u hX => hX.setCell (.inr (by simp; omega)) u
  exact ⟨far _ _ (far _ _ (far _ _ (far _ _ (far _ _ (far _ _ h))))), only _ _ (only _ _ (only _ _ (only _ _ (only _ _ (only _ _ ho)))))⟩
theorem res_at {W : World} {g2 : Nat} {v0 v1 v2 v3 v4 v5 : Value} (h2 : Blk W g2 30 #[v0, v1, v2, v3, v4, v5]) {tmps : Array Value} (ht : tmps.getD 2 undef = .pointer (some ⟨g2, 0, none⟩)) :
    (results Tryz.f178 tmps).run Tryz.prog W = .ok (.agg #[v0, v1, v2, v3, v4, v5]) W :=
  results_cell_row (P := Tryz.prog) rfl tmps W g2 30 #[v0, v1, v2, v3, v4, v5] (0, 0) _ ht h2 Tryz.underlying30 rfl (by kernel_rfl)
theorem fin_at {W : World} {g2 g3 : Nat} {u0 u1 u2 u3 u4 u5 v0 v1 v2 v3 v4 v5 : Value} (h : Blk W g3 30 #[u0, u1, u2, u3, u4, u5]) (h2 : Blk W g2 30 #[v0, v1, v2, v3, v4, v5]) :
    (W.cell? ⟨g3, 0, none⟩ = some u0 ∧ W.cell? ⟨g3, 1, none⟩ = some u1 ∧ W.cell? ⟨g3, 2, none⟩ = some u2 ∧ W.cell? ⟨g3, 3, none⟩ = some u3 ∧ W.cell? ⟨g3, 4, none⟩ = some u4 ∧ W.cell? ⟨g3, 5, none⟩ = some u5) ∧
    (W.cell? ⟨g2, 0, none⟩ = some v0 ∧ W.cell? ⟨g2, 1, none⟩ = some v1 ∧ W.cell? ⟨g2, 2, none⟩ = some v2 ∧ W.cell? ⟨g2, 3, none⟩ = some v3 ∧ W.cell? ⟨g2, 4, none⟩ = some v4 ∧ W.cell? ⟨g2, 5, none⟩ = some v5) ∧
    (W.frozen? ⟨g2, 0, none⟩ = false ∧ W.frozen? ⟨g2, 1, none⟩ = false ∧ W.frozen? ⟨g2, 2, none⟩ = false ∧ W.frozen? ⟨g2, 3, none⟩ = false ∧ W.frozen? ⟨g2, 4, none⟩ = false ∧ W.frozen? ⟨g2, 5, none⟩ = false) :=
  ⟨⟨h.cell 0, h.cell 1, h.cell 2, h.cell 3, h.cell 4, h.cell 5⟩, ⟨h2.cell 0, h2.cell 1, h2.cell 2, h2.cell 3, h2.cell 4, h2.cell 5⟩, ⟨h2.frozen 0, h2.frozen 1, h2.frozen 2, h2.frozen 3, h2.frozen 4, h2.frozen 5⟩⟩
/-- Midway: k dots are read. -/
structure LpMid (w : World) (b g2 g3 : Nat) (hd : Array Value) (m : Nat) (t : List UInt8) (k : Nat) (V : Option Addr) (cv : Nat) (ds : List LDot) (rest : List UInt8) (wr : World) : Prop where
  rd : RdAt wr b rest
  only : Only [b] w wr
  res : Blk wr g2 30 #[.int .i64 0, .int .i64 0, .int .i64 0, .string ⟨#[]⟩, .int .i64 0, .slice none 0 0]
  var : Blk wr g3 30 (hd.push (.slice V k cv))
  own : Own wr w.heap.size 27 2 V k cv (dcells ds)
  is : rdDots m t = (rdDots (m - k) rest).map fun r => (ds ++ r.1, r.2)
def LpAt (w : World) (b g2 g3 : Nat) (hd : Array Value) (m : Nat) (t : List UInt8) (i : Value) (wr : World) : Prop :=
  ∃ k V cv ds rest, k ≤ m ∧ i = .int .i64 (k : Nat) ∧ Hid (LpMid w b g2 g3 hd m t k V cv ds rest wr)
section
variable (w : World) (b : Nat)
set_option maxRecDepth 100000 in
set_option maxHeartbeats 4000000 in
theorem rdop_short (l : List UInt8) (h : RdAt w b l) (hl : l.length < 4) : Calls Tryz.prog 178 #[.pointer (some ⟨b, 0, none⟩)] w (fun e w' => e = .panicked wrongP ∧ Only [b] w w') := by
  obtain ⟨W0, hW0⟩ : ∃ W0, W0 = w.alloc (.cells #[.int .i64 0, .int .i64 0, .int .i64 0, .string ⟨#[]⟩, .int .i64 0, .slice none 0 0] 30) := ⟨_, rfl⟩
  have HO0 : Hid (Only [b] w W0) := by rw [hW0]; exact (Only.refl _ _).alloc _
  have HR0 : Hid (RdAt W0 b l) := by rw [hW0]; exact Blk.alloc (t := 255) h _
  have HOB := Lib.hid (fun W hW => one_bad W b hW)
  have HOK := Lib.hid (fun W c t hW => one_ok W b c t hW)
  have HTB := Lib.hid (fun W l hW hl => two_bad W b l hW hl)
  clear h
  match l, hl with
  | [], _ =>
    go_enter Tryz.func178, Tryz.ntmps178
    go_wp2_with fail
    rw [← hW0]
    refine (HOB.out W0 HR0.out).mono ?_
    rintro e w1 ⟨rfl, ho⟩
    have HO := Lib.hid (HO0.out.trans ho)
    clear ho
    go_wp2_with fail
    exact ⟨rfl, rfl, HO.out⟩
  | [a], _ =>
    go_enter Tryz.func178, Tryz.ntmps178
    go_wp2_with fail
    rw [← hW0]
    refine (HOK.out W0 a [] HR0.out).mono ?_
    rintro e w1 ⟨rfl, hr⟩
    have HR := Lib.hid hr
    have HO := Lib.hid (HO0.out.trans hr.2)
    clear hr
    go_wp2_with fail
    refine (HOB.out w1 HR.out.1).mono ?_
    rintro e w2 ⟨rfl, ho⟩
    have HO := Lib.hid (HO.out.trans ho)
    clear ho
    go_wp2_with fail
    exact ⟨rfl, rfl, HO.out⟩
  | a :: a2 :: r, hl =>
    have hr2 : r.length < 2 := by simp at hl; omega
    go_enter Tryz.func178, Tryz.ntmps178
    go_wp2_with fail
    rw [← hW0]
    refine (HOK.out W0 a (a2 :: r) HR0.out).mono ?_
    rintro e w1 ⟨rfl, hr⟩
    have HR := Lib.hid hr
    have HO := Lib.hid (HO0.out.trans hr.2)
    clear hr
    go_wp2_with fail
    refine (HOK.out w1 a2 r HR.out.1).mono ?_
    rintro e w2 ⟨rfl, hr⟩
    have HR := Lib.hid hr
    have HO := Lib.hid (HO.out.trans hr.2)
    clear hr
    go_wp2_with fail
    refine (HTB.out w2 r HR.out.1 hr2).mono ?_
    rintro e w3 ⟨rfl, ho⟩
    have HO := Lib.hid (HO.out.trans ho)
    clear ho
    go_wp2_with fail
    exact ⟨rfl, rfl, HO.out⟩
set_option maxRecDepth 100000 in
set_option maxHeartbeats 8000000 in
theorem rdop_long (a a2 a3 a4 : UInt8) (l : List UInt8) (h : RdAt w b (a :: a2 :: a3 :: a4 :: l)) : Calls Tryz.prog 178 #[.pointer (some ⟨b, 0, none⟩)] w (RdOpPost w b (rdOp (a :: a2 :: a3 :: a4 :: l))) := by
  obtain ⟨W0, hW0⟩ : ∃ W0, W0 = w.alloc (.cells #[.int .i64 0, .int .i64 0, .int .i64 0, .string ⟨#[]⟩, .int .i64 0, .slice none 0 0] 30) := ⟨_, rfl⟩
  have HO0 : Hid (Only [b] w W0) := by rw [hW0]; exact (Only.refl _ _).alloc _
  have HR0 : Hid (RdAt W0 b (a :: a2 :: a3 :: a4 :: l)) := by rw [hW0]; exact Blk.alloc (t := 255) h _
  have HX0 : Hid (Blk W0 w.heap.size 30 #[.int .i64 0, .int .i64 0, .int .i64 0, .string ⟨#[]⟩, .int .i64 0, .slice none 0 0]) := by rw [hW0]; exact Blk.new w 30 _
  have hbl : b < w.heap.size := Blk.lt h
  have HOB := Lib.hid (fun W hW => one_bad W b hW)
  have HOK := Lib.hid (fun W c t hW => one_ok W b c t hW)
  have HTW := Lib.hid (fun W c d t hW => two_ok W b c d t hW)
  have HWB := Lib.hid (fun W l hW hl => two_bad W b l hW hl)
  have HTO := Lib.hid (fun W l hW n hn => take_ok W b l hW n hn)
  have HTB := Lib.hid (fun W l hW n hn => take_bad W b l hW n hn)
  obtain ⟨R, hR⟩ : ∃ R, R = rdOp (a :: a2 :: a3 :: a4 :: l) := ⟨_, rfl⟩
  have HRR := Lib.hid hR
  rw [← hR]
  clear h hR
  obtain ⟨g2, hg2⟩ : ∃ g2, g2 = w.heap.size := ⟨_, rfl⟩
  rw [← hg2] at HX0 hbl
  have HG2 := Lib.hid hg2
  go_enter Tryz.func178, Tryz.ntmps178
  go_wp2_with fail
  rw [← hW0, ← hg2]
  clear hW0 hg2
  refine (HOK.out W0 a _ HR0.out).mono ?_
  rintro e w1 ⟨rfl, hr⟩
  have HR1 := Lib.hid hr
  clear hr
  go_wp2_with fail
  refine (HOK.out w1 a2 _ HR1.out.1).mono ?_
  rintro e w2 ⟨rfl, hr⟩
  have HR2 := Lib.hid (HR1.out.trans hr)
  clear hr HR1
  go_wp2_with fail
  obtain ⟨n, hn⟩ : ∃ n : Nat, n = a3.toNat * 256 + a4.toNat := ⟨_, rfl⟩
  have HN := Lib.hid hn
  have HT2 := Lib.hid (HTW.out w2 a3 a4 _ HR2.out.1)
  rw [← hn] at HT2
  clear hn HTW
  refine HT2.out.mono ?_
  rintro e w3 ⟨rfl, hr⟩
  have HR3 := Lib.hid (HR2.out.trans hr)
  clear hr HR2 HT2
  have HO3 := Lib.hid (HO0.out.trans HR3.out.2)
  have HX3 : Hid (Blk w3 g2 30 #[.int .i64 0, .int .i64 0, .int .i64 0, .string ⟨#[]⟩, .int .i64 0, .slice none 0 0]) := HR3.out.2.blk HX0.out (by simp; omega)
  obtain ⟨W4, hW4⟩ : ∃ W4, W4 = w3.alloc (.cells #[.int .i64 a2.toNat, .int .i64 n, .int .i64 a.toNat, .string ⟨#[]⟩, .int .i64 0, .slice none 0 0] 30) := ⟨_, rfl⟩
  obtain ⟨g3, hg3⟩ : ∃ g3, g3 = w3.heap.size := ⟨_, rfl⟩
  have HR4 : Hid (RdAt W4 b l) := by rw [hW4]; exact Blk.alloc (t := 255) HR3.out.1 _
  have HX4 : Hid (Blk W4 g2 30 #[.int .i64 0, .int .i64 0, .int .i64 0, .string ⟨#[]⟩, .int .i64 0, .slice none 0 0]) := by rw [hW4]; exact HX3.out.alloc _
  have HY4 : Hid (Blk W4 g3 30 #[.int .i64 a2.toNat, .int .i64 n, .int .i64 a.toNat, .string ⟨#[]⟩, .int .i64 0, .slice none 0 0]) := by rw [hW4, hg3]; exact Blk.new w3 30 _
  have HO4 : Hid (Only [b] w W4) := by rw [hW4]; exact HO3.out.alloc _
  have hg23 : g2 < g3 := by have := HX3.out.lt; omega
  have hsz : w.heap.size ≤ g2 := by rw [HG2.out]; exact Nat.le_refl _
  clear HR3 HO3 HX3 HX0 HR0 HO0
  go_wp2_with fail
  rw [← hW4, ← hg3]
  clear hW4 hg3
  cases l with
  | nil =>
    have HRN : Hid (R = none) := by show _ = _; rw [HRR.out]; rfl
    refine (HOB.out W4 HR4.out).mono ?_
    rintro e w5 ⟨rfl, ho⟩
    have HO := Lib.hid (HO4.out.trans ho)
    clear ho
    go_wp2_with fail
    refine ⟨rfl, ?_⟩
    rw [HRN.out]
    exact ⟨rfl, HO.out⟩
  | cons x t =>
    refine (HOK.out W4 x t HR4.out).mono ?_
    rintro e w5 ⟨rfl, hr⟩
    have HR5 := Lib.hid hr.1
    have HO5 := Lib.hid (HO4.out.trans hr.2)
    have HX5 := Lib.hid (hr.2.blk HX4.out (by simp; omega))
    have HY5 := Lib.hid (hr.2.blk HY4.out (by simp; omega))
    clear hr HR4 HX4 HY4 HO4
    go_wp2_with fail
    by_cases hlen : t.length < x.toNat
    · have HRN : Hid (R = none) := by show _ = _; rw [HRR.out, rdOp, if_pos hlen]
      refine (HTB.out w5 t HR5.out x.toNat hlen).mono ?_
      rintro e w6 ⟨rfl, ho⟩
      have HO := Lib.hid (HO5.out.trans ho)
      clear ho hlen
      go_wp2_with fail
      refine ⟨rfl, ?_⟩
      rw [HRN.out]
      exact ⟨rfl, HO.out⟩
    · have HRT : Hid (R = rdTail ⟨(a2.toNat : Int), (n : Int)⟩ a.toNat (strOf (t.take x.toNat)) (t.drop x.toNat)) := by show _ = _; rw [HRR.out, rdOp, if_neg hlen, HN.out]
      refine (HTO.out w5 t HR5.out x.toNat (by omega)).mono ?_
      rintro e w6 ⟨rfl, hr⟩
      have HR6 := Lib.hid hr.1
      have HO6 := Lib.hid (HO5.out.trans hr.2)
      have HX6 := Lib.hid (hr.2.blk HX5.out (by simp; omega))
      have HY6 := Lib.hid (hr.2.blk HY5.out (by simp; omega))
      clear hr hlen HR5 HX5 HY5 HO5 HRR HN HTO HTB
      generalize strOf (t.take x.toNat) = p at *
      generalize t.drop x.toNat = t2 at *
      have c0 : w6.cell? ⟨g3, 3, none⟩ = some (.string ⟨#[]⟩) := by rw [HY6.out.cell]; rfl
      have f0 := HY6.out.frozen 3
      have HR7 : Hid (RdAt (w6.setCell ⟨g3, 3, none⟩ (.string p)) b t2) := Blk.far HR6.out (by simp; omega) _
      have HX7 := Lib.hid (HX6.out.far (p := ⟨g3, 3, none⟩) (by simp; omega) (.string p))
      have HY7 : Hid (Blk (w6.setCell ⟨g3, 3, none⟩ (.string p)) g3 30 #[.int .i64 a2.toNat, .int .i64 n, .int .i64 a.toNat, .string p, .int .i64 0, .slice none 0 0]) := HY6.out.set_ 3 (.string p)
      have HO7 : Hid (Only [b] w (w6.setCell ⟨g3, 3, none⟩ (.string p))) := HO6.out.setCell (.inr (by simp; omega)) _
      have HB7 : Hid (Below g2 w6 w6) := Below.refl _ _
      obtain ⟨w7, hw7⟩ : ∃ w7, w7 = w6.setCell ⟨g3, 3, none⟩ (.string p) := ⟨_, rfl⟩
      rw [← hw7] at HR7 HX7 HY7 HO7
      clear HR6 HX6 HY6 HO6 HB7
      have hwh : a.toNat < 256 := UInt8.toNat_lt a
      go_upto_region 3 with fail
      rw [← hw7]
      clear hw7 c0 f0
      have d2 : w7.cell? ⟨g3, 2, none⟩ = some (.int .i64 a.toNat) := by rw [HY7.out.cell]; rfl
      by_cases h1 : a.toNat = 1
      · have e1 : ((a.toNat : Int) == 1) = true := by rw [beq_iff_eq]; omega
        have e4 : ((a.toNat : Int) == 4) = false := by rw [beq_eq_false_iff_ne]; omega
        cases t2 with
        | nil =>
          have HRN : Hid (R = none) := by show _ = _; rw [HRT.out]; unfold rdTail; rw [if_pos h1]
          clear h1
          go_wp2_with fail
          refine (HOB.out w7 HR7.out).mono ?_
          rintro e w8 ⟨rfl, ho⟩
          have HO := Lib.hid (HO7.out.trans ho)
          clear ho
          go_wp2_with fail
          refine ⟨rfl, ?_⟩
          rw [HRN.out]
          exact ⟨rfl, HO.out⟩
        | cons y t3 =>
          have HRS : Hid (R = some (⟨⟨(a2.toNat : Int), (n : Int)⟩, (a.toNat : Int), p, (y.toNat : Int), []⟩, t3)) := by
            show _ = _
            rw [HRT.out]
            unfold rdTail
            rw [if_pos h1, h1]
            rfl
          clear h1
          go_wp2_with fail
          refine (HOK.out w7 y t3 HR7.out).mono ?_
          rintro e w8 ⟨rfl, hr⟩
          have HR8 := Lib.hid hr.1
          have HO8 := Lib.hid (HO7.out.trans hr.2)
          have HX8 := Lib.hid (hr.2.blk HX7.out (by simp; omega))
          have HY8 := Lib.hid (hr.2.blk HY7.out (by simp; omega))
          clear hr d2
          have c0 : w8.cell? ⟨g3, 4, none⟩ = some (.int .i64 0) := by rw [HY8.out.cell]; rfl
          have f0 := HY8.out.frozen 4
          have HR9 : Hid (RdAt (w8.setCell ⟨g3, 4, none⟩ (.int .i64 y.toNat)) b t3) := Blk.far HR8.out (by simp; omega) _
          have HX9 := Lib.hid (HX8.out.far (p := ⟨g3, 4, none⟩) (by simp; omega) (.int .i64 y.toNat))
          have HY9 : Hid (Blk (w8.setCell ⟨g3, 4, none⟩ (.int .i64 y.toNat)) g3 30 #[.int .i64 a2.toNat, .int .i64 n, .int .i64 a.toNat, .string p, .int .i64 y.toNat, .slice none 0 0]) := HY8.out.set_ 4 (.int .i64 y.toNat)
          have HO9 : Hid (Only [b] w (w8.setCell ⟨g3, 4, none⟩ (.int .i64 y.toNat))) := HO8.out.setCell (.inr (by simp; omega)) _
          have HE := Lib.hid (fin_at HY9.out HX9.out)
          obtain ⟨⟨d0, d1, d2, d3, d4, d5⟩, ⟨x0, x1, x2, x3, x4, x5⟩, ⟨y0, y1, y2, y3, y4, y5⟩⟩ := HE.out
          go_wp2_with fail
          refine bodyPost_ret (res_at (HX9.out.set6 _ _ _ _ _ _) rfl) rfl ?_
          rw [HRS.out]
          exact ⟨none, 0, rfl, Own.nil _ _ _ _, fin_to hsz hbl HR9.out HO9.out _ _ _ _ _ _⟩
      · have e1 : ((a.toNat : Int) == 1) = false := by rw [beq_eq_false_iff_ne]; omega
        by_cases h4 : a.toNat = 4
        · have e4 : ((a.toNat : Int) == 4) = true := by rw [beq_iff_eq]; omega
          cases t2 with
          | nil =>
            have HRN : Hid (R = none) := by show _ = _; rw [HRT.out]; unfold rdTail; rw [if_neg h1, if_pos h4]
            clear h1 h4
            go_wp2_with fail
            refine (HOB.out w7 HR7.out).mono ?_
            rintro e w8 ⟨rfl, ho⟩
            have HO := Lib.hid (HO7.out.trans ho)
            clear ho
            go_wp2_with fail
            refine ⟨rfl, ?_⟩
            rw [HRN.out]
            exact ⟨rfl, HO.out⟩
          | cons y t3 =>
            have HRS : Hid (R = (rdDots y.toNat t3).map fun r => (⟨⟨(a2.toNat : Int), (n : Int)⟩, (a.toNat : Int), p, 0, r.1⟩, r.2)) := by
              show _ = _
              rw [HRT.out]
              unfold rdTail
              rw [if_neg h1, if_pos h4, h4]
              rfl
            clear h1 h4
            go_wp2_with fail
            refine (HOK.out w7 y t3 HR7.out).mono ?_
            rintro e w8 ⟨rfl, hr⟩
            have HL8 : Hid (LpMid w b g2 g3 #[.int .i64 a2.toNat, .int .i64 n, .int .i64 a.toNat, .string p, .int .i64 0] y.toNat t3 0 none 0 [] t3 w8) := ⟨hr.1, HO7.out.trans hr.2, hr.2.blk HX7.out (by simp; omega), hr.2.blk HY7.out (by simp; omega), Own.nil _ _ _ _, by cases rdDots y.toNat t3 <;> rfl⟩
            clear hr d2 HX7 HY7 HR7 HO7
            have hy := UInt8.toNat_lt y
            go_wp2_with fail
            go_loopw [28] (fun i wr => LpAt w b g2 g3 #[.int .i64 a2.toNat, .int .i64 n, .int .i64 a.toNat, .string p, .int .i64 0] y.toNat t3 i wr) (fun i _ => y.toNat - (intOf i).toNat)
            case atStart => exact ⟨0, none, 0, [], t3, Nat.zero_le _, rfl, HL8.out⟩
            case round =>
              obtain ⟨k, V, cv, ds, rest, hk, rfl, HM⟩ := hrel
              clear HL8
              have k0 : (0 : Int) ≤ (k : Int) := by omega
              have hdl := HM.out.own.len
              by_cases hlt : k < y.toNat
              · have k1 : (k : Int) < (y.toNat : Int) := by omega
                have hsub : y.toNat - k = (y.toNat - (k + 1)) + 1 := by omega
                have d5 : wr.cell? ⟨g3, 5, none⟩ = some (.slice V k cv) := by rw [HM.out.var.cell]; rfl
                cases rest with
                | nil =>
                  have HRN : Hid (R = none) := by show _ = _; rw [HRS.out, HM.out.is, hsub]; rfl
                  clear hsub
                  go_wp2_with fail
                  refine wp_region_held_drew (S := fun W => W.cell? ⟨g3, 5, none⟩ = some (.slice V k cv)) (by kernel_rfl) (by simpa using d5) (fun hS0 => ?_)
                  refine wpAnyH_take (i := 0) (v := .pointer (some ⟨g3, 5, none⟩)) rfl (by kernel_rfl) (by kernel_rfl) (by kernel_rfl) (fun _ _ _ h => h) (Or.inl ⟨by kernel_rfl, fun w hw => by go_simp⟩) hS0 ?_
                  simp only [List.getElem_toArray, List.getElem_cons_succ, List.getElem_cons_zero, Act.put, List.setIfInBounds_toArray, List.set_cons_zero, List.set_cons_succ]
                  refine wpAnyH_take (i := 1) (v := .slice V k cv) rfl (by kernel_rfl) (by kernel_rfl) (by kernel_rfl) (fun _ _ _ h => h) (Or.inl ⟨by kernel_rfl, fun w hw => by go_simp⟩) hS0 ?_
                  simp only [List.getElem_toArray, List.getElem_cons_succ, List.getElem_cons_zero, Act.put, List.setIfInBounds_toArray, List.set_cons_zero, List.set_cons_succ]
                  refine wpAnyH_take (i := 2) (v := .pointer (some ⟨b, 0, none⟩)) rfl (by kernel_rfl) (by kernel_rfl) (by kernel_rfl) (fun _ _ _ h => h) (Or.inl ⟨by kernel_rfl, fun w hw => by go_simp⟩) hS0 ?_
                  simp only [List.getElem_toArray, List.getElem_cons_succ, List.getElem_cons_zero, Act.put, List.setIfInBounds_toArray, List.set_cons_zero, List.set_cons_succ]
                  refine wpAnyH_take (i := 4) (v := .pointer (some ⟨b, 0, none⟩)) rfl (by kernel_rfl) (by kernel_rfl) (by kernel_rfl) (fun _ _ _ h => h) (Or.inl ⟨by kernel_rfl, fun w hw => by go_simp⟩) hS0 ?_
                  simp only [List.getElem_toArray, List.getElem_cons_succ, List.getElem_cons_zero, Act.put, List.setIfInBounds_toArray, List.set_cons_zero, List.set_cons_succ]
                  refine wpAnyH_ready (rs := [3]) (by kernel_rfl) (by simp) ?_
                  refine AllReadyH.cons rfl (fun K hK => ?_) AllReadyH.nil
                  rw [if_pos (by rfl)]
                  go_simp
                  refine (HOB.out wr.drew (Blk.drew (t := 255) HM.out.rd)).mono ?_
                  rintro e wA ⟨rfl, ho⟩
                  have HO := Lib.hid (HM.out.only.drew.trans ho)
                  clear ho
                  go_wp2_with fail
                  refine ⟨rfl, ?_⟩
                  rw [HRN.out]
                  exact ⟨rfl, HO.out⟩
                | cons c rest =>
                  by_cases hr2 : rest.length < 2
                  · have HRN : Hid (R = none) := by
                      show _ = _
                      rw [HRS.out, HM.out.is, hsub]
                      match rest, hr2 with
                      | [], _ => rfl
                      | [d], _ => rfl
                    clear hsub
                    go_wp2_with fail
                    refine wp_region_held_drew (S := fun W => W.cell? ⟨g3, 5, none⟩ = some (.slice V k cv)) (by kernel_rfl) (by simpa using d5) (fun hS0 => ?_)
                    refine wpAnyH_take (i := 0) (v := .pointer (some ⟨g3, 5, none⟩)) rfl (by kernel_rfl) (by kernel_rfl) (by kernel_rfl) (fun _ _ _ h => h) (Or.inl ⟨by kernel_rfl, fun w hw => by go_simp⟩) hS0 ?_
                    simp only [List.getElem_toArray, List.getElem_cons_succ, List.getElem_cons_zero, Act.put, List.setIfInBounds_toArray, List.set_cons_zero, List.set_cons_succ]
                    refine wpAnyH_take (i := 1) (v := .slice V k cv) rfl (by kernel_rfl) (by kernel_rfl) (by kernel_rfl) (fun _ _ _ h => h) (Or.inl ⟨by kernel_rfl, fun w hw => by go_simp⟩) hS0 ?_
                    simp only [List.getElem_toArray, List.getElem_cons_succ, List.getElem_cons_zero, Act.put, List.setIfInBounds_toArray, List.set_cons_zero, List.set_cons_succ]
                    refine wpAnyH_take (i := 2) (v := .pointer (some ⟨b, 0, none⟩)) rfl (by kernel_rfl) (by kernel_rfl) (by kernel_rfl) (fun _ _ _ h => h) (Or.inl ⟨by kernel_rfl, fun w hw => by go_simp⟩) hS0 ?_
                    simp only [List.getElem_toArray, List.getElem_cons_succ, List.getElem_cons_zero, Act.put, List.setIfInBounds_toArray, List.set_cons_zero, List.set_cons_succ]
                    refine wpAnyH_take (i := 4) (v := .pointer (some ⟨b, 0, none⟩)) rfl (by kernel_rfl) (by kernel_rfl) (by kernel_rfl) (fun _ _ _ h => h) (Or.inl ⟨by kernel_rfl, fun w hw => by go_simp⟩) hS0 ?_
                    simp only [List.getElem_toArray, List.getElem_cons_succ, List.getElem_cons_zero, Act.put, List.setIfInBounds_toArray, List.set_cons_zero, List.set_cons_succ]
                    refine wpAnyH_ready (rs := [3]) (by kernel_rfl) (by simp) ?_
                    refine AllReadyH.cons rfl (fun K hK => ?_) AllReadyH.nil
                    rw [if_pos (by rfl)]
                    go_simp
                    refine (HOK.out wr.drew c rest (Blk.drew (t := 255) HM.out.rd)).mono ?_
                    rintro e wA ⟨rfl, hr⟩
                    have HRA := Lib.hid hr.1
                    have HOA := Lib.hid (HM.out.only.drew.trans hr.2)
                    have HXA : Hid (Blk wA g2 30 #[.int .i64 0, .int .i64 0, .int .i64 0, .string ⟨#[]⟩, .int .i64 0, .slice none 0 0]) := hr.2.blk HM.out.res.drew (by simp; omega)
                    have HYA : Hid (Blk wA g3 30 #[.int .i64 a2.toNat, .int .i64 n, .int .i64 a.toNat, .string p, .int .i64 0, .slice V k cv]) := hr.2.blk HM.out.var.drew (by simp; omega)
                    have HVA : Hid (Own wA w.heap.size 27 2 V k cv (dcells ds)) := HM.out.own.drew.only hr.2 (fun g hg hm => by simp at hm; subst hm; exact HM.out.own.blk_ne HM.out.rd (by decide) hg)
                    have dA : wA.cell? ⟨g3, 5, none⟩ = some (.slice V k cv) := by rw [HYA.out.cell]; rfl
                    clear hr
                    refine hK.out _ _ dA (fun hS1 => ?_)
                    clear hK K
                    try simp only [List.getElem_toArray, List.getElem_cons_succ, List.getElem_cons_zero, Act.put, List.setIfInBounds_toArray, List.set_cons_zero, List.set_cons_succ]
                    refine wpAnyH_ready (rs := [5]) (by kernel_rfl) (by simp) ?_
                    refine AllReadyH.cons rfl (fun K hK => ?_) AllReadyH.nil
                    rw [if_pos (by rfl)]
                    go_simp
                    refine (HWB.out wA rest HRA.out hr2).mono ?_
                    rintro e wB ⟨rfl, ho⟩
                    have HO := Lib.hid (HOA.out.trans ho)
                    clear ho
                    go_wp2_with fail
                    refine ⟨rfl, ?_⟩
                    rw [HRN.out]
                    exact ⟨rfl, HO.out⟩
                  · obtain ⟨d1, d2, rest, rfl⟩ : ∃ d1 d2 r, rest = d1 :: d2 :: r := by
                      match rest, hr2 with
                      | d1 :: d2 :: r, _ => exact ⟨d1, d2, r, rfl⟩
                      | [], h => simp at h
                      | [d], h => simp at h
                    clear hr2
                    obtain ⟨nn, hnn⟩ : ∃ nn : Nat, nn = d1.toNat * 256 + d2.toNat := ⟨_, rfl⟩
                    have HIS : Hid (rdDots y.toNat t3 = (rdDots (y.toNat - (k + 1)) rest).map fun r => ((ds ++ [⟨(c.toNat : Int), (nn : Int)⟩]) ++ r.1, r.2)) := by
                      show _ = _
                      rw [HM.out.is, hsub, rdDots, Option.map_map, hnn]
                      congr 1
                      funext r
                      simp
                    have HTW2 := Lib.hid (fun W hW => two_ok W b d1 d2 rest hW)
                    rw [← hnn] at HTW2
                    clear hsub hnn
                    go_wp2_with fail
                    have hkl : k ≤ 255 := by omega
                    go_region_law ((first
                      | (refine step_app _ (.tmp 31) (.tmp 37) rfl rfl elemDt rfl rfl (HVB.out.alloc _) (Reads.row wB 27 #[.int .i64 c.toNat, .int .i64 nn]) (oneCells_dt _ _) (Fits.of_small (by omega) (by decide)) (by simp; omega) ?_
                         intro V8 cV w8 hO hL hg
                         have HVC := Lib.hid hO
                         have HYC := Lib.hid (hL.blk (HYB.out.alloc _) (HVB.out.blk_ne HYB.out (by decide)))
                         have HXC := Lib.hid (hL.blk (HXB.out.alloc _) (HVB.out.blk_ne HXB.out (by decide)))
                         have HRC : Hid (RdAt w8 b rest) := hL.blk (t := 255) (Blk.alloc (t := 255) HRB.out _) (HVB.out.blk_ne (t := 255) HRB.out (by decide))
                         have HOC : Hid (Only [b] w w8) := (HOB2.out.alloc _).trans_new (hL.mono (fun i hi => .inl hi)) (fun i hi => .inr (HVB.out.lt i hi).1)
                         have dC : w8.cell? ⟨g3, 5, none⟩ = some (.slice V k cv) := by { rw [HYC.out.cell]; rfl }
                         have fC := HYC.out.frozen 5
                         clear hO hL hg)
                      | (go_simp
                         go_at_call 211
                         refine (HOK.out wr.drew c (d1 :: d2 :: rest) (Blk.drew (t := 255) HM.out.rd)).mono ?_
                         rintro e wA ⟨rfl, hr⟩
                         have HRA := Lib.hid hr.1
                         have HOA := Lib.hid (HM.out.only.drew.trans hr.2)
                         have HXA : Hid (Blk wA g2 30 #[.int .i64 0, .int .i64 0, .int .i64 0, .string ⟨#[]⟩, .int .i64 0, .slice none 0 0]) := hr.2.blk HM.out.res.drew (by simp; omega)
                         have HYA : Hid (Blk wA g3 30 #[.int .i64 a2.toNat, .int .i64 n, .int .i64 a.toNat, .string p, .int .i64 0, .slice V k cv]) := hr.2.blk HM.out.var.drew (by simp; omega)
                         have HVA : Hid (Own wA w.heap.size 27 2 V k cv (dcells ds)) := HM.out.own.drew.only hr.2 (fun g hg hm => by simp at hm; subst hm; exact HM.out.own.blk_ne HM.out.rd (by decide) hg)
                         have dA : wA.cell? ⟨g3, 5, none⟩ = some (.slice V k cv) := by { rw [HYA.out.cell]; rfl }
                         clear hr)
                      | (go_simp
                         go_at_call 212
                         refine (HTW2.out wA HRA.out).mono ?_
                         rintro e wB ⟨rfl, hr⟩
                         have HRB := Lib.hid hr.1
                         have HOB2 := Lib.hid (HOA.out.trans hr.2)
                         have HXB := Lib.hid (hr.2.blk HXA.out (by simp; omega))
                         have HYB := Lib.hid (hr.2.blk HYA.out (by simp; omega))
                         have HVB : Hid (Own wB w.heap.size 27 2 V k cv (dcells ds)) := HVA.out.only hr.2 (fun g hg hm => by simp at hm; subst hm; exact HVA.out.blk_ne HRA.out (by decide) hg)
                         have dB : wB.cell? ⟨g3, 5, none⟩ = some (.slice V k cv) := by { rw [HYB.out.cell]; rfl }
                         have dB2 : (wB.alloc (.cells #[.int .i64 c.toNat, .int .i64 nn] 27)).cell? ⟨g3, 5, none⟩ = some (.slice V k cv) := by { rw [(HYB.out.alloc _).cell]; rfl }
                         have hws : w.heap.size ≤ wB.heap.size := HOB2.out.size
                         clear hr)))
                    all_goals
                      go_wp2_with fail
                      go_roundw
                      case rel =>
                        exact ⟨k + 1, V8, cV, ds ++ [⟨(c.toNat : Int), (nn : Int)⟩], rest, by omega, by go_num, Lib.hid ⟨Blk.far HRC.out (by simp; omega) _, HOC.out.setCell (.inr (by simp; omega)) _, HXC.out.far (by simp; omega) _, HYC.out.set_ 5 _, (by rw [show dcells (ds ++ [⟨(c.toNat : Int), (nn : Int)⟩]) = dcells ds ++ [.int .i64 c.toNat, .int .i64 nn] by simp [dcells, LDot.cells]]; exact HVC.out.only ((Only.refl [g3] _).setCell (.inl (by simp)) _) (fun g hg hm => by simp at hm; subst hm; exact HVC.out.blk_ne HYC.out (by decide) hg)), HIS.out⟩⟩
                      case measure => simp [intOf]; omega
              · have k1 : ¬ (k : Int) < (y.toNat : Int) := by omega
                have hk : k = y.toNat := by omega
                have HRF : Hid (R = some (⟨⟨(a2.toNat : Int), (n : Int)⟩, (a.toNat : Int), p, 0, ds⟩, rest)) := by
                  show _ = _
                  rw [HRS.out, HM.out.is, hk, Nat.sub_self]
                  simp [rdDots]
                have HDL : Hid (k = ds.length) := by have := hdl; rw [dcells_len] at this; show _ = _; omega
                have HE := Lib.hid (fin_at HM.out.var HM.out.res)
                obtain ⟨⟨d0, d1, d2, d3, d4, d5⟩, ⟨x0, x1, x2, x3, x4, x5⟩, ⟨y0, y1, y2, y3, y4, y5⟩⟩ := HE.out
                clear hk hdl
                go_wp2_with fail
                refine bodyPost_ret (res_at (HM.out.res.set6 _ _ _ _ _ _) rfl) rfl ?_
                rw [HRF.out]
                refine ⟨V, cv, by rw [HDL.out]; rfl, ?_, fin_to hsz hbl HM.out.rd HM.out.only _ _ _ _ _ _⟩
                rw [← HDL.out]
                exact HM.out.own.only (set6_only _ _ _ _ _ _ _ _) (fun g hg hm => by simp at hm; subst hm; exact HM.out.own.blk_ne HM.out.res (by decide) hg)
        · have e4 : ((a.toNat : Int) == 4) = false := by rw [beq_eq_false_iff_ne]; omega
          have HRS : Hid (R = some (⟨⟨(a2.toNat : Int), (n : Int)⟩, (a.toNat : Int), p, 0, []⟩, t2)) := by show _ = _; rw [HRT.out]; unfold rdTail; rw [if_neg h1, if_neg h4]
          clear h1 h4 HRT d2
          have HE := Lib.hid (fin_at HY7.out HX7.out)
          obtain ⟨⟨d0, d1, d2, d3, d4, d5⟩, ⟨x0, x1, x2, x3, x4, x5⟩, ⟨y0, y1, y2, y3, y4, y5⟩⟩ := HE.out
          go_wp2_with fail
          refine bodyPost_ret (res_at (HX7.out.set6 _ _ _ _ _ _) rfl) rfl ?_
          rw [HRS.out]
          exact ⟨none, 0, rfl, Own.nil _ _ _ _, fin_to hsz hbl HR7.out HO7.out _ _ _ _ _ _⟩
end
end Go.Proofs.YthfbjfocmnikaaaGreatDoor
/- guard's two contracts (a frame that panics with wrong{}; one that returns), and the closures' ones. -/
namespace Go.Proofs.YthfbjfocmnikaaaGreatDoor
open Go.RowKit
set_option linter.unusedVariables false
def caughtP : List PanicEntry := [{ v := .iface 297 (.agg #[]), recovered := true }]
set_option maxRecDepth 100000 in
theorem guard_caught (g : Nat) (t : TypeId) (v : Value) (w : World) (h : Blk w g t #[v]) :
    CallsD Tryz.prog 177 #[.pointer (some ⟨g, 0, none⟩)] (.panicking wrongP) w fun e u' w' =>
      e = .returned (.tuple #[]) ∧ u' = .panicking caughtP ∧ w' = (w.alloc (.cells #[] 297)).setCell ⟨g, 0, none⟩ (errV 2) := by
  have hta : ∀ (w : World) (t : TypeId), (Instr.typeAssert (.iface 297 (.agg #[])) t 297 true).run Tryz.prog w = .ok (.tuple #[.agg #[], .bool true]) w := fun _ _ => by kernel_rfl
  have c1 : (w.alloc (.cells #[] 297)).cell? ⟨g, 0, none⟩ = some v := by rw [(h.alloc _).cell]; rfl
  have f1 : (w.alloc (.cells #[] 297)).frozen? ⟨g, 0, none⟩ = false := (h.alloc _).frozen 0
  clear h
  refine callsD_of_wpS Tryz.func177 rfl fun c₀ cs hu => ?_
  apply wpS_seq
  apply wpS_region
  simp [wpOpsS, go_sem, recoverD, hu, wrongP, Tryz.ntmps177, Exit.thenS]
  refine wpS_of_wp ?_
  go_wp2
  cases c₀
  simp_all [bodyPostS, results, Tryz.results177, errV, caughtP]
set_option maxRecDepth 100000 in
theorem guard_idle (p : Addr) (w : World) :
    CallsD Tryz.prog 177 #[.pointer (some p)] .returning w fun e u' w' => e = .returned (.tuple #[]) ∧ u' = .returning ∧ w' = w := by
  refine callsD_of_wpS Tryz.func177 rfl fun c₀ cs hu => ?_
  apply wpS_seq
  apply wpS_region
  simp [wpOpsS, go_sem, recoverD, hu, Tryz.ntmps177, Exit.thenS]
  refine wpS_of_wp ?_
  go_wp2
  cases c₀
  simp_all [bodyPostS, results, Tryz.results177]
theorem results_cells2 {fn : Func} {p q : Tmp} {ty tz : TypeId} (h : fn.results = #[.cell p ty, .cell q tz]) (tmps : Array Value) (w : World) (A B : Addr) (va vb : Value)
    (hp : tmps.getD p undef = .pointer (some A)) (hq : tmps.getD q undef = .pointer (some B)) (ha : (loadVar ty A).run Tryz.prog w = .ok va w) (hb : (loadVar tz B).run Tryz.prog w = .ok vb w) :
    (results fn tmps).run Tryz.prog w = .ok (.tuple #[va, vb]) w := by
  have hp' : tmps[p]?.getD undef = .pointer (some A) := by simpa using hp
  have hq' : tmps[q]?.getD undef = .pointer (some B) := by simpa using hq
  simp [results, h, hp', hq', asAddr, ha, hb]
theorem load_err (w : World) (g : Nat) (t : TypeId) (v : Value) (h : Blk w g t #[v]) : (loadVar 32 ⟨g, 0, none⟩).run Tryz.prog w = .ok v w := by
  have c : w.cell? ⟨g, 0, none⟩ = some v := by rw [h.cell]; rfl
  simp [go_sem, loadVar, c]
theorem load_op (w : World) (g : Nat) (v0 v1 v2 v3 v4 v5 : Value) (h : Blk w g 30 #[v0, v1, v2, v3, v4, v5]) : (loadVar 30 ⟨g, 0, none⟩).run Tryz.prog w = .ok (.agg #[v0, v1, v2, v3, v4, v5]) w :=
  run_loadVar_row w g 30 30 _ (0, 0) _ h Tryz.underlying30 rfl (by kernel_rfl)
set_option maxRecDepth 100000 in
theorem dclose_nil (w : World) (g1 g0 : Nat) (t : TypeId) (u : FrameMode) (h : Blk w g1 t #[.nilIface]) :
    CallsD Tryz.prog 176 #[.pointer (some ⟨g1, 0, none⟩), .pointer (some ⟨g0, 0, none⟩)] u w fun e u' w' => u' = u ∧ (e = .returned (.tuple #[]) ∧ w' = w) := by
  have c : w.cell? ⟨g1, 0, none⟩ = some .nilIface := by rw [h.cell]; rfl
  clear h
  go_enter_d Tryz.func176, Tryz.ntmps176
  go_wp2
  go_end0
  exact ⟨rfl, rfl⟩
set_option maxRecDepth 100000 in
theorem dclose_err (w : World) (g1 g0 : Nat) (t : TypeId) (u : FrameMode) (n : Int) (hn : n ≠ 0) (h : Blk w g1 t #[errV n]) (v0 v1 v2 v3 v4 v5 : Value) (h0 : Blk w g0 30 #[v0, v1, v2, v3, v4, v5]) :
    CallsD Tryz.prog 176 #[.pointer (some ⟨g1, 0, none⟩), .pointer (some ⟨g0, 0, none⟩)] u w fun e u' w' => u' = u ∧ (e = .returned (.tuple #[]) ∧
      Blk w' g0 30 #[.int .i64 0, .int .i64 0, .int .i64 0, .string ⟨#[]⟩, .int .i64 0, .slice none 0 0] ∧ Only [g0] w w') := by
  have c : w.cell? ⟨g1, 0, none⟩ = some (.iface 119 (.int .i64 n)) := by rw [h.cell, errV, if_neg hn]; rfl
  have hq := h0.set6 (.int .i64 0) (.int .i64 0) (.int .i64 0) (.string ⟨#[]⟩) (.int .i64 0) (.slice none 0 0)
  have ho := set6_only w g0 (.int .i64 0) (.int .i64 0) (.int .i64 0) (.string ⟨#[]⟩) (.int .i64 0) (.slice none 0 0)
  have x0 : w.cell? ⟨g0, 0, none⟩ = some v0 := h0.cell 0
  have x1 : w.cell? ⟨g0, 1, none⟩ = some v1 := h0.cell 1
  have x2 : w.cell? ⟨g0, 2, none⟩ = some v2 := h0.cell 2
  have x3 : w.cell? ⟨g0, 3, none⟩ = some v3 := h0.cell 3
  have x4 : w.cell? ⟨g0, 4, none⟩ = some v4 := h0.cell 4
  have x5 : w.cell? ⟨g0, 5, none⟩ = some v5 := h0.cell 5
  have y0 := h0.frozen 0
  have y1 := h0.frozen 1
  have y2 := h0.frozen 2
  have y3 := h0.frozen 3
  have y4 := h0.frozen 4
  have y5 := h0.frozen 5
  have HQ := Lib.hid hq
  have HO := Lib.hid ho
  clear h h0 hq ho
  go_enter_d Tryz.func176, Tryz.ntmps176
  go_wp2
  go_end0
  exact ⟨rfl, HQ.out, HO.out⟩
end Go.Proofs.YthfbjfocmnikaaaGreatDoor
/- op.Decode, walked: the op that the bytes are, or ErrSyntax. -/
namespace Go.Proofs.YthfbjfocmnikaaaGreatDoor
open Go.RowKit
set_option linter.unusedVariables false
theorem rdop_any (w : World) (b : Nat) (l : List UInt8) (h : RdAt w b l) : Calls Tryz.prog 178 #[.pointer (some ⟨b, 0, none⟩)] w (RdOpPost w b (rdOp l)) := by
  match l, h with
  | a :: a2 :: a3 :: a4 :: l, h => exact rdop_long w b a a2 a3 a4 l h
  | [], h => exact rdop_short w b _ h (by simp)
  | [a], h => exact rdop_short w b _ h (by simp)
  | [a, a2], h => exact rdop_short w b _ h (by simp)
  | [a, a2, a3], h => exact rdop_short w b _ h (by simp)
theorem rdOp_place {l : List UInt8} {r : LOp × List UInt8} (h : rdOp l = some r) : r.1.place.size ≤ 255 := by
  unfold rdOp at h
  split at h
  · rename_i a b c d e t
    split at h
    · cases h
    · have he := UInt8.toNat_lt e
      have hp : (strOf (t.take e.toNat)).size ≤ 255 := by rw [strOf_size, List.length_take]; omega
      unfold rdTail at h
      split at h
      · split at h
        · cases h
        · injection h with h; subst h; exact hp
      · split at h
        · split at h
          · cases h
          · rename_i x t2 _
            cases hd : rdDots x.toNat t2 with
            | none => rw [hd] at h; cases h
            | some v => rw [hd] at h; injection h with h; subst h; exact hp
        · injection h with h; subst h; exact hp
  · cases h
def zeroOp : Value := .agg #[.int .i64 0, .int .i64 0, .int .i64 0, .string ⟨#[]⟩, .int .i64 0, .slice none 0 0]
def DecPost (w : World) (r : Option LOp) (e : Ending) (w' : World) : Prop :=
  match r with
  | none => e = .returned (.tuple #[zeroOp, errV 2]) ∧ Below w.heap.size w w'
  | some o => ∃ A c, e = .returned (.tuple #[o.val A c, .nilIface]) ∧ Own w' w.heap.size 27 2 A o.seen.length c (dcells o.seen) ∧ Below w.heap.size w w'
theorem leave_err (w W : World) (g0 g1 : Nat) (tmps : Array Value) (u : FrameMode) (hu : u = .returning) (ht2 : tmps.getD 2 undef = .pointer (some ⟨g0, 0, none⟩)) (ht3 : tmps.getD 3 undef = .pointer (some ⟨g1, 0, none⟩)) {t : TypeId} {v0 v1 v2 v3 v4 v5 : Value}
    (h1 : Blk W g1 t #[errV 2]) (h0 : Blk W g0 30 #[v0, v1, v2, v3, v4, v5]) (hne : g1 ≠ g0) (hg : w.heap.size ≤ g0) (hb : Below w.heap.size w W) :
    Leaves Tryz.prog Tryz.f123 tmps (DecPost w none) [{ target := .fn (.func 176) #[.pointer (some ⟨g1, 0, none⟩), .pointer (some ⟨g0, 0, none⟩)], args := #[] }] u W := by
  subst hu
  refine leaves_cons (f := 176) (args := #[.pointer (some ⟨g1, 0, none⟩), .pointer (some ⟨g0, 0, none⟩)]) (by simp) (by simp [go_sem]) ?_
  refine (dclose_err W g1 g0 t .returning 2 (by decide) h1 v0 v1 v2 v3 v4 v5 h0).mono ?_
  rintro e u' w3 ⟨rfl, rfl, hq, ho⟩
  exact ⟨_, results_cells2 rfl _ _ ⟨g0, 0, none⟩ ⟨g1, 0, none⟩ _ _ ht2 ht3 (load_op _ _ _ _ _ _ _ _ hq) (load_err _ _ _ _ (ho.blk h1 (by simp; exact hne))), rfl, hb.trans (ho.below hb.size (by simpa using hg))⟩
theorem leave_ok (w W : World) (o : LOp) (A : Option Addr) (c : Nat) (g0 g1 : Nat) (tmps : Array Value) (u : FrameMode) (hu : u = .returning) (ht2 : tmps.getD 2 undef = .pointer (some ⟨g0, 0, none⟩)) (ht3 : tmps.getD 3 undef = .pointer (some ⟨g1, 0, none⟩)) {t : TypeId}
    (h1 : Blk W g1 t #[.nilIface]) (h0 : Blk W g0 30 (o.cells A c)) (hown : Own W w.heap.size 27 2 A o.seen.length c (dcells o.seen)) (hb : Below w.heap.size w W) :
    Leaves Tryz.prog Tryz.f123 tmps (DecPost w (some o)) [{ target := .fn (.func 176) #[.pointer (some ⟨g1, 0, none⟩), .pointer (some ⟨g0, 0, none⟩)], args := #[] }] u W := by
  subst hu
  refine leaves_cons (f := 176) (args := #[.pointer (some ⟨g1, 0, none⟩), .pointer (some ⟨g0, 0, none⟩)]) (by simp) (by simp [go_sem]) ?_
  refine (dclose_nil W g1 g0 t .returning h1).mono ?_
  rintro e u' w3 ⟨rfl, rfl, rfl⟩
  exact ⟨_, results_cells2 rfl _ _ ⟨g0, 0, none⟩ ⟨g1, 0, none⟩ _ _ ht2 ht3 (load_op _ _ _ _ _ _ _ _ h0) (load_err _ _ _ _ h1), A, c, rfl, hown, hb⟩
theorem six_then {w W W' : World} {g0 : Nat} {te : TypeId} {ve u0 u1 u2 u3 u4 u5 : Value} (v0 v1 v2 v3 v4 v5 v : Value) (hX : Blk W g0 30 #[u0, u1, u2, u3, u4, u5]) (hE : Blk W (g0 + 1) te #[ve]) (hb : Below g0 w W)
    (hW : W' = (((((((W.setCell ⟨g0, 0, none⟩ v0).setCell ⟨g0, 1, none⟩ v1).setCell ⟨g0, 2, none⟩ v2).setCell ⟨g0, 3, none⟩ v3).setCell ⟨g0, 4, none⟩ v4).setCell ⟨g0, 5, none⟩ v5).setCell ⟨g0 + 1, 0, none⟩ v)) :
    Blk W' (g0 + 1) te #[v] ∧ Blk W' g0 30 #[v0, v1, v2, v3, v4, v5] ∧ Below g0 w W' ∧ Only [g0, g0 + 1] W W' := by
  subst hW
  have ho := set6_only W g0 v0 v1 v2 v3 v4 v5
  have ho2 : Only [g0, g0 + 1] W _ := (ho.mono (S' := [g0, g0 + 1]) (fun i hi => .inl (by simp at hi; simp [hi]))).setCell (p := ⟨g0 + 1, 0, none⟩) (.inl (by simp)) v
  exact ⟨(ho.blk hE (by simp)).set_ 0 v, (hX.set6 v0 v1 v2 v3 v4 v5).far (by simp) v, hb.trans (ho2.below (Nat.le_of_lt hX.lt) (by simp)), ho2⟩
set_option maxRecDepth 100000 in
set_option maxHeartbeats 4000000 in
theorem decode_any (w : World) (b : List UInt8) : Calls Tryz.prog 123 #[.string (strOf b)] w (DecPost w (decOf (strOf b))) := by
  have hmf : ∀ (fn : Fn) (first cap : Array Value) (w : World), (Instr.makeFunc fn first cap).run Tryz.prog w = .ok (.func fn first cap) w := fun _ _ _ _ => rfl
  obtain ⟨W0, hW0⟩ : ∃ W0, W0 = (((w.alloc (.cells #[.int .i64 0, .int .i64 0, .int .i64 0, .string ⟨#[]⟩, .int .i64 0, .slice none 0 0] 30)).alloc (.cells #[.nilIface] 32)).alloc (.cells #[.string (strOf b)] 255)) := ⟨_, rfl⟩
  obtain ⟨g0, hg0⟩ : ∃ g0, g0 = w.heap.size := ⟨_, rfl⟩
  have HX0 : Hid (Blk W0 g0 30 #[.int .i64 0, .int .i64 0, .int .i64 0, .string ⟨#[]⟩, .int .i64 0, .slice none 0 0]) := by rw [hW0, hg0]; exact ((Blk.new w _ _).alloc _).alloc _
  have HE0 : Hid (Blk W0 (g0 + 1) 32 #[.nilIface]) := by
    rw [hW0, hg0]
    have := Blk.new (w.alloc (.cells #[.int .i64 0, .int .i64 0, .int .i64 0, .string ⟨#[]⟩, .int .i64 0, .slice none 0 0] 30)) 32 #[.nilIface]
    simp only [World.size_alloc] at this
    exact this.alloc _
  have HR0 : Hid (RdAt W0 (g0 + 1 + 1) b) := by
    rw [hW0, hg0]
    have := Blk.new ((w.alloc (.cells #[.int .i64 0, .int .i64 0, .int .i64 0, .string ⟨#[]⟩, .int .i64 0, .slice none 0 0] 30)).alloc (.cells #[.nilIface] 32)) 255 #[.string (strOf b)]
    simp only [World.size_alloc] at this
    exact this
  have HB0 : Hid (Below g0 w W0) := by rw [hW0, hg0]; exact (((Below.refl _ _).alloc (Nat.le_refl _) _).alloc (by simp) _).alloc (by simp; omega) _
  have HOP := Lib.hid (fun W l h => rdop_any W (g0 + 1 + 1) l h)
  have HEN := Lib.hid (fun W A c o h hp => encode_any W A c o h hp)
  have HG0 := Lib.hid hg0
  obtain ⟨R, hR⟩ : ∃ R, R = decOf (strOf b) := ⟨_, rfl⟩
  have HRR := Lib.hid hR
  rw [← hR]
  clear hR
  obtain ⟨s, hs⟩ : ∃ s, s = strOf b := ⟨_, rfl⟩
  rw [← hs] at hW0 ⊢
  have HS := Lib.hid hs
  clear hs
  go_enter_defers Tryz.func123, Tryz.ntmps123
  go_wp2_with fail
  rw [← hW0, ← hg0]
  clear hW0 hg0
  cases hrd : rdOp b with
  | none =>
    have HRN : Hid (R = none) := by show _ = _; rw [HRR.out]; unfold decOf; rw [show (strOf b).data.toList = b from rfl, hrd]
    have HC := HOP.out W0 b HR0.out
    rw [hrd] at HC
    refine HC.mono ?_
    rintro e w1 ⟨rfl, ho⟩
    have HE1 := Lib.hid (ho.blk HE0.out (by simp))
    have HX1 := Lib.hid (ho.blk HX0.out (by simp; omega))
    have HB1 : Hid (Below g0 w w1) := HB0.out.trans (ho.below (Nat.le_of_lt HX0.out.lt) (by simp; omega))
    clear ho HC
    go_wp2_with fail
    refine leaves_cons (f := 177) (args := #[.pointer (some ⟨g0 + 1, 0, none⟩)]) (by simp) (by simp [go_sem]) ?_
    refine (guard_caught (g0 + 1) 32 .nilIface w1 HE1.out).mono ?_
    rintro e u' w2 ⟨rfl, rfl, rfl⟩
    rw [HRN.out]
    refine leave_err w _ g0 (g0 + 1) _ _ rfl rfl rfl (t := 32) ((HE1.out.alloc _).set_ 0 (errV 2)) ((HX1.out.alloc _).far (by simp) _) (by omega) (by rw [HG0.out]; exact Nat.le_refl _) ?_
    rw [← HG0.out]
    exact (HB1.out.alloc (Nat.le_of_lt HX1.out.lt) _).setCell (by simp) _
  | some r =>
    obtain ⟨o, t⟩ := r
    have hp := rdOp_place hrd
    have HC := HOP.out W0 b HR0.out
    rw [hrd] at HC
    refine HC.mono ?_
    rintro e w1 ⟨A, c, rfl, hown, hrt⟩
    have HOW := Lib.hid hown
    have HRT := Lib.hid hrt
    have HP := Lib.hid hp
    have HX1 := Lib.hid (hrt.2.blk HX0.out (by simp; omega))
    have HE1 := Lib.hid (hrt.2.blk HE0.out (by simp))
    have x0 := HX1.out.cell 0
    have x1 := HX1.out.cell 1
    have x2 := HX1.out.cell 2
    have x3 := HX1.out.cell 3
    have x4 := HX1.out.cell 4
    have x5 := HX1.out.cell 5
    have y0 := HX1.out.frozen 0
    have y1 := HX1.out.frozen 1
    have y2 := HX1.out.frozen 2
    have y3 := HX1.out.frozen 3
    have y4 := HX1.out.frozen 4
    have y5 := HX1.out.frozen 5
    unfold LOp.val
    have HXS := Lib.hid (HX1.out.set6 (.int .i64 o.dot.who) (.int .i64 o.dot.n) (.int .i64 o.what) (.string o.place) (.int .i64 o.letter) (.slice A o.seen.length c))
    have HOS := Lib.hid (set6_only w1 g0 (.int .i64 o.dot.who) (.int .i64 o.dot.n) (.int .i64 o.what) (.string o.place) (.int .i64 o.letter) (.slice A o.seen.length c))
    have HES := Lib.hid (HOS.out.blk HE1.out (by simp))
    have HVS : Hid (Own _ g0 27 2 A o.seen.length c (dcells o.seen)) := (hown.mono (B' := g0) (Nat.le_of_lt HX0.out.lt)).only HOS.out (fun g hg hm => by simp at hm; subst hm; exact hown.blk_ne HX1.out (by decide) hg)
    have HBS : Hid (Below g0 w _) := (HB0.out.trans (hrt.2.below (Nat.le_of_lt HX0.out.lt) (by simp; omega))).trans (HOS.out.below (Nat.le_of_lt HX1.out.lt) (by simp))
    clear hrt hown hp HC
    go_wp2_with fail
    obtain ⟨W2, hW2⟩ : ∃ W2, W2 = ((((((w1.setCell ⟨g0, 0, none⟩ (.int .i64 o.dot.who)).setCell ⟨g0, 1, none⟩ (.int .i64 o.dot.n)).setCell ⟨g0, 2, none⟩ (.int .i64 o.what)).setCell ⟨g0, 3, none⟩ (.string o.place)).setCell ⟨g0, 4, none⟩ (.int .i64 o.letter)).setCell ⟨g0, 5, none⟩ (.slice A o.seen.length c)) := ⟨_, rfl⟩
    rw [← hW2] at HXS HOS HES HVS HBS ⊢
    clear hW2
    clear x0 x1 x2 x3 x4 x5 y0 y1 y2 y3 y4 y5
    refine (HEN.out W2 A c o HVS.out.reads (by have := HP.out; omega)).mono ?_
    rintro e w3 ⟨rfl, hb3⟩
    have HX3 := Lib.hid (HXS.out.below hb3 HXS.out.lt)
    have HE3 := Lib.hid (HES.out.below hb3 HES.out.lt)
    have HV3 := Lib.hid (HVS.out.below hb3)
    have HB3 : Hid (Below g0 w w3) := HBS.out.trans (hb3.mono (Nat.le_of_lt HXS.out.lt))
    clear hb3
    have x0 := HX3.out.cell 0
    have x1 := HX3.out.cell 1
    have x2 := HX3.out.cell 2
    have x3 := HX3.out.cell 3
    have x4 := HX3.out.cell 4
    have x5 := HX3.out.cell 5
    have y0 := HX3.out.frozen 0
    have y1 := HX3.out.frozen 1
    have y2 := HX3.out.frozen 2
    have y3 := HX3.out.frozen 3
    have y4 := HX3.out.frozen 4
    have y5 := HX3.out.frozen 5
    have e0 := HE3.out.cell 0
    have f0 := HE3.out.frozen 0
    simp only [List.getElem?_toArray, List.getElem?_cons_zero, List.getElem?_cons_succ, Array.setIfInBounds] at x0 x1 x2 x3 x4 x5 e0
    have HST := Lib.hid (fun v W' h => six_then (w := w) (W' := W') (.int .i64 o.dot.who) (.int .i64 o.dot.n) (.int .i64 o.what) (.string o.place) (.int .i64 o.letter) (.slice A o.seen.length c) v HX3.out HE3.out HB3.out h)
    have HDE : Hid (decOf (strOf b) = if opErr o = 0 ∧ opBytes o = b then some o else none) := by
      show _ = _
      unfold decOf
      rw [show (strOf b).data.toList = b from rfl, hrd]
    by_cases he : opErr o = 0
    · have her : encRes o = strOf (opBytes o) := by rw [encRes, if_pos he]
      by_cases hq : opBytes o = b
      · have HRO : Hid (R = some o) := by show _ = _; rw [HRR.out, HDE.out, if_pos ⟨he, hq⟩]
        have hne : ((encRes o).toList == s.toList) = true := by rw [HS.out, her, hq]; exact BEq.rfl
        rw [show errV (opErr o) = .nilIface by rw [he]; rfl]
        clear he hq her
        go_wp2_with fail
        rw [HRO.out]
        refine leaves_cons (f := 177) (args := #[.pointer (some ⟨g0 + 1, 0, none⟩)]) (by simp) (by simp [go_sem]) ?_
        refine (guard_idle ⟨g0 + 1, 0, none⟩ _).mono ?_
        rintro e u' w4 ⟨rfl, rfl, rfl⟩
        obtain ⟨k1, k2, k3, k4⟩ := HST.out .nilIface _ rfl
        refine leave_ok w _ o A c g0 (g0 + 1) _ _ rfl rfl rfl (t := 32) k1 k2 ?_ ?_
        · rw [← HG0.out]
          exact HV3.out.only k4 (fun g hg hm => by
            simp at hm
            rcases hm with rfl | rfl
            · exact HV3.out.blk_ne HX3.out (by decide) hg
            · exact HV3.out.blk_ne HE3.out (by decide) hg)
        · rw [← HG0.out]; exact k3
      · have HRO : Hid (R = none) := by show _ = _; rw [HRR.out, HDE.out, if_neg (fun h => hq h.2)]
        have hne : ((encRes o).toList == s.toList) = false := by rw [HS.out, her, strOf_toList, strOf_toList]; simpa using hq
        rw [show errV (opErr o) = .nilIface by rw [he]; rfl]
        clear he hq her
        go_wp2_with fail
        rw [HRO.out]
        refine leaves_cons (f := 177) (args := #[.pointer (some ⟨g0 + 1, 0, none⟩)]) (by simp) (by simp [go_sem]) ?_
        refine (guard_idle ⟨g0 + 1, 0, none⟩ _).mono ?_
        rintro e u' w4 ⟨rfl, rfl, rfl⟩
        obtain ⟨k1, k2, k3, k4⟩ := HST.out (errV 2) _ rfl
        refine leave_err w _ g0 (g0 + 1) _ _ rfl rfl rfl (t := 32) k1 k2 (by omega) (by rw [HG0.out]; exact Nat.le_refl _) ?_
        rw [← HG0.out]; exact k3
    · have HRO : Hid (R = none) := by show _ = _; rw [HRR.out, HDE.out, if_neg (fun h => he h.1)]
      rw [show errV (opErr o) = .iface 119 (.int .i64 (opErr o)) by rw [errV, if_neg he]]
      clear he
      go_wp2_with fail
      rw [HRO.out]
      refine leaves_cons (f := 177) (args := #[.pointer (some ⟨g0 + 1, 0, none⟩)]) (by simp) (by simp [go_sem]) ?_
      refine (guard_idle ⟨g0 + 1, 0, none⟩ _).mono ?_
      rintro e u' w4 ⟨rfl, rfl, rfl⟩
      obtain ⟨k1, k2, k3, k4⟩ := HST.out (errV 2) _ rfl
      refine leave_err w _ g0 (g0 + 1) _ _ rfl rfl rfl (t := 32) k1 k2 (by omega) (by rw [HG0.out]; exact Nat.le_refl _) ?_
      rw [← HG0.out]; exact k3
end Go.Proofs.YthfbjfocmnikaaaGreatDoor
