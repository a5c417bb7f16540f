/- (*op.reader).take, one, two, walked: where there are bytes enough, and where there are not (they panic). Conditions: none of our own. -/
import Derived.WalkLawsBesides
import Derived.Test.YtlcjgldlblpboaaDoorReadSpec
namespace Go.Proofs.YtlcjgldlblpboaaDoor
open Go.RowKit
set_option linter.unusedVariables false
theorem bits_two (c d : Nat) (hc : c < 256) (hd : d < 256) : bits .or .i64 ((c : Int) * 256) (d : Int) = ((c * 256 + d : Nat) : Int) := by
  have h0 : ((c : Int) * 256) = ((c * 256 : Nat) : Int) := by omega
  have h1 : (BitVec.ofInt 64 ((c * 256 : Nat) : Int)).toNat = c * 256 := by
    rw [BitVec.ofInt_natCast, BitVec.toNat_ofNat]; exact Nat.mod_eq_of_lt (by omega)
  have h2 : (BitVec.ofInt 64 (d : Int)).toNat = d := by
    rw [BitVec.ofInt_natCast, BitVec.toNat_ofNat]; exact Nat.mod_eq_of_lt (by omega)
  have h3 : c * 256 ||| d = c * 256 + d := by
    rw [show c * 256 = c <<< 8 by rw [Nat.shiftLeft_eq], Nat.shiftLeft_add_eq_or_of_lt (show d < 2 ^ 8 by omega)]
  rw [h0]
  show IntKind.i64.wrap ((BitVec.ofInt 64 ((c * 256 : Nat) : Int) ||| BitVec.ofInt 64 (d : Int)).toNat : Int) = _
  rw [BitVec.toNat_or, h1, h2, h3]
  exact IntWalk.i64_in _ (by omega)
/-- What ends a reading. -/
def wrongP : List PanicEntry := [{ v := .iface 77 (.agg #[]), recovered := false }]
theorem strOf_sz (l : List UInt8) : (strOf l).size = l.length := strOf_size l
theorem strOf_ext (l : List UInt8) (i j : Nat) : (strOf l).extract i j = strOf ((l.take j).drop i) := by
  apply ByteArray.ext
  rw [ByteArray.data_extract]
  apply Array.ext'
  rw [Array.toList_extract, List.extract_eq_take_drop]
  show (l.drop i).take (j - i) = (l.take j).drop i
  rw [List.drop_take]
/-- The reader's bytes. -/
def RdAt (w : World) (b : Nat) (l : List UInt8) : Prop := Blk w b 66 #[.string (strOf l)]
/-- What a reading leaves. -/
def RdTo (w : World) (b : Nat) (l : List UInt8) (w' : World) : Prop := RdAt w' b l ∧ Only [b] w w'
theorem RdTo.trans {w w1 w2 : World} {b : Nat} {l l' : List UInt8} (h : RdTo w b l w1) (h2 : RdTo w1 b l' w2) : RdTo w b l' w2 := ⟨h2.1, h.2.trans h2.2⟩
theorem rdTo_set {w : World} {b : Nat} {l : List UInt8} (h : RdAt w b l) (l' : List UInt8) : RdTo w b l' (w.setCell ⟨b, 0, none⟩ (.string (strOf l'))) :=
  ⟨Blk.set_ (t := 66) h 0 (.string (strOf l')), (Only.refl _ _).setCell (.inl (by simp)) _⟩
section
variable (w : World) (b : Nat) (l : List UInt8) (h : RdAt w b l)
include h
set_option maxRecDepth 100000 in
theorem take_ok (n : Nat) (hn : n ≤ l.length) :
    Calls Tryd.prog 35 #[.pointer (some ⟨b, 0, none⟩), .int .i64 n] w fun e w' => e = .returned (.string (strOf (l.take n))) ∧ RdTo w b (l.drop n) w' := by
  have c0 : w.cell? ⟨b, 0, none⟩ = some (.string (strOf l)) := Blk.cell h 0
  have f0 : w.frozen? ⟨b, 0, none⟩ = false := Blk.frozen h 0
  have hs := strOf_sz l
  have n0 : (0 : Int) ≤ (n : Int) := by omega
  have n1 : (n : Int) ≤ ((strOf l).size : Int) := by omega
  have n2 : ¬ ((strOf l).size : Int) < (n : Int) := by omega
  have HE1 : Hid ((strOf l).extract 0 n = strOf (l.take n)) := by show _ = _; rw [strOf_ext]; rfl
  have HE2 : Hid ((strOf l).extract n (strOf l).size = strOf (l.drop n)) := by show _ = _; rw [strOf_ext, hs, List.take_length]
  have HF := Lib.hid (rdTo_set h (l.drop n))
  rw [← HE2.out] at HF
  rw [← HE1.out]
  clear h hs HE1 HE2
  generalize strOf l = s at *
  go_enter Tryd.func35, Tryd.ntmps35
  go_wp2_with fail
  go_ret
  exact ⟨rfl, HF.out⟩
set_option maxRecDepth 100000 in
theorem take_bad (n : Nat) (hn : l.length < n) :
    Calls Tryd.prog 35 #[.pointer (some ⟨b, 0, none⟩), .int .i64 n] w fun e w' => e = .panicked wrongP ∧ Only [b] w w' := by
  have c0 : w.cell? ⟨b, 0, none⟩ = some (.string (strOf l)) := Blk.cell h 0
  have hs := strOf_sz l
  have n2 : ((strOf l).size : Int) < (n : Int) := by omega
  clear h hs
  generalize strOf l = s at *
  go_enter Tryd.func35, Tryd.ntmps35
  go_wp2_with fail
  exact ⟨rfl, rfl, Only.refl _ _⟩
end
set_option maxRecDepth 100000 in
theorem one_ok (w : World) (b : Nat) (c : UInt8) (t : List UInt8) (h : RdAt w b (c :: t)) :
    Calls Tryd.prog 40 #[.pointer (some ⟨b, 0, none⟩)] w fun e w' => e = .returned (.int .i64 (c.toNat : Int)) ∧ RdTo w b t w' := by
  have HT := Lib.hid (take_ok w b (c :: t) h 1 (by simp))
  have hsz : (strOf [c]).size = 1 := strOf_sz [c]
  have hx : ∀ (hh : 0 < (strOf [c]).size), ((strOf [c])[0]'hh).toNat = c.toNat := fun _ => rfl
  have hby := UInt8.toNat_lt c
  have g3 : wrap64 ((c.toNat : Nat) : Int) = ((c.toNat : Nat) : Int) := by unfold wrap64; omega
  have HX := Lib.hid hx
  have HG := Lib.hid g3
  have n1 : (0 : Int) < ((strOf [c]).size : Int) := by omega
  simp only [List.take_succ_cons, List.take_zero, List.drop_succ_cons, List.drop_zero] at HT
  clear h hx g3
  generalize strOf [c] = s at *
  go_enter Tryd.func40, Tryd.ntmps40
  go_wp2_with fail
  refine HT.out.mono ?_
  rintro e w1 ⟨rfl, hr⟩
  have HR := Lib.hid hr
  clear hr
  go_wp2_with fail
  go_ret
  exact ⟨by rw [← HG.out, ← HX.out (by omega)]; rfl, HR.out⟩
set_option maxRecDepth 100000 in
theorem one_bad (w : World) (b : Nat) (h : RdAt w b []) :
    Calls Tryd.prog 40 #[.pointer (some ⟨b, 0, none⟩)] w fun e w' => e = .panicked wrongP ∧ Only [b] w w' := by
  have HT := Lib.hid (take_bad w b [] h 1 (by simp))
  clear h
  go_enter Tryd.func40, Tryd.ntmps40
  go_wp2_with fail
  refine HT.out.mono ?_
  rintro e w1 ⟨rfl, ho⟩
  have HO := Lib.hid ho
  clear ho
  go_wp2_with fail
  exact ⟨rfl, rfl, HO.out⟩
set_option maxRecDepth 100000 in
theorem two_ok (w : World) (b : Nat) (c d : UInt8) (t : List UInt8) (h : RdAt w b (c :: d :: t)) :
    Calls Tryd.prog 34 #[.pointer (some ⟨b, 0, none⟩)] w fun e w' => e = .returned (.int .i64 ((c.toNat * 256 + d.toNat : Nat) : Int)) ∧ RdTo w b t w' := by
  have H1 := Lib.hid (one_ok w b c (d :: t) h)
  have H2 := Lib.hid (fun W hW => one_ok W b d t hW)
  have hc := UInt8.toNat_lt c
  have hd := UInt8.toNat_lt d
  clear h
  go_enter Tryd.func34, Tryd.ntmps34
  go_wp2_with fail
  refine H1.out.mono ?_
  rintro e w1 ⟨rfl, hr⟩
  have HR := Lib.hid hr
  clear hr
  go_wp2_with fail
  refine (H2.out w1 HR.out.1).mono ?_
  rintro e w2 ⟨rfl, hr⟩
  have HR2 := Lib.hid (HR.out.trans hr)
  clear hr
  go_wp2_with fail
  go_ret
  exact ⟨by rw [← bits_two _ _ hc hd]; rfl, HR2.out⟩
set_option maxRecDepth 100000 in
theorem two_bad (w : World) (b : Nat) (l : List UInt8) (h : RdAt w b l) (hl : l.length < 2) :
    Calls Tryd.prog 34 #[.pointer (some ⟨b, 0, none⟩)] w fun e w' => e = .panicked wrongP ∧ Only [b] w w' := by
  match l, hl with
  | [], _ =>
    have H1 := Lib.hid (one_bad w b h)
    clear h
    go_enter Tryd.func34, Tryd.ntmps34
    go_wp2_with fail
    refine H1.out.mono ?_
    rintro e w1 ⟨rfl, ho⟩
    have HO := Lib.hid ho
    clear ho
    go_wp2_with fail
    exact ⟨rfl, rfl, HO.out⟩
  | [c], _ =>
    have H1 := Lib.hid (one_ok w b c [] h)
    have H2 := Lib.hid (fun W hW => one_bad W b hW)
    clear h
    go_enter Tryd.func34, Tryd.ntmps34
    go_wp2_with fail
    refine H1.out.mono ?_
    rintro e w1 ⟨rfl, hr⟩
    have HR := Lib.hid hr
    clear hr
    go_wp2_with fail
    refine (H2.out w1 HR.out.1).mono ?_
    rintro e w2 ⟨rfl, ho⟩
    have HO := Lib.hid (HR.out.2.trans ho)
    clear ho
    go_wp2_with fail
    exact ⟨rfl, rfl, HO.out⟩
end Go.Proofs.YtlcjgldlblpboaaDoor
