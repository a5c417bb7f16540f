/- 3 texts in one: each says ahead of itself what is proved, and its conditions. -/
import Derived.Test.YtgkfmpkankjkdaaClear
import Derived.Test.YtgkfmpkankjkdaaMapLaw
import Derived.Test.YtgkfmpkankjkdaaSame0
import Derived.Test.YtgkfmpkankjkdaaStrs
/- slices.DeleteFunc of texts by a closure that asks for one text. Conditions: few texts. -/
namespace Go.Proofs.Ytgkfmpkankjkdaa
open Go.RowKit
set_option linter.unusedVariables false
namespace StrDel
def isB (p q : ByteArray) : Bool := q.toList == p.toList
def keepB (p q : ByteArray) : Bool := !isB p q
/-- What the closure has caught: a box that holds p. -/
structure Env (w : World) (B : Nat) (p : ByteArray) (b : Nat) : Prop where
  lt : b < B
  cell : w.cell? ⟨b, 0, none⟩ = some (.string p)
theorem Env.below {w w' : World} {B : Nat} {p : ByteArray} {b : Nat} (h : Env w B p b) (hb : Below B w w') : Env w' B p b := ⟨h.lt, (hb.cell h.lt).trans h.cell⟩
theorem Env.only {w w' : World} {B : Nat} {p : ByteArray} {b : Nat} {S : List Nat} (h : Env w B p b) (hB : B ≤ w.heap.size) (ho : Only S w w') (hs : b ∉ S) : Env w' B p b := ⟨h.lt, (ho.cell (by have := h.lt; show b < _; omega) hs).trans h.cell⟩
set_option maxRecDepth 100000 in
theorem fn_any (w : World) (B : Nat) (p : ByteArray) (b : Nat) (q : ByteArray) (h : Env w B p b) :
    Calls Try.prog 51 #[.string q, .pointer (some ⟨b, 0, none⟩)] w (fun e w' => e = .returned (.bool (isB p q)) ∧ w' = w) := by
  have c0 := h.cell
  clear h
  go_enter Try.func51, Try.ntmps51
  go_wp2_with fail
  go_ret
  exact ⟨rfl, rfl⟩
def FirstAt (l : List ByteArray) (p : ByteArray) (r : Int) : Prop := (r = -1 ∧ ∀ x ∈ l, isB p x = false) ∨ ∃ k, ∃ hk : k < l.length, r = (k : Int) ∧ isB p l[k] = true ∧ ∀ j (hj : j < l.length), j < k → isB p l[j] = false
def FirstLoop (w : World) (l : List ByteArray) (p : ByteArray) (i : Value) (wr : World) : Prop := ∃ k : Nat, k ≤ l.length ∧ i = .int .i64 k ∧ wr = w ∧ Hid (∀ j (hj : j < l.length), j < k → isB p l[j] = false)
set_option maxRecDepth 100000 in
set_option maxHeartbeats 2000000 in
theorem first_any (w : World) (B : Nat) (p : ByteArray) (b : Nat) (h : Env w B p b) (A : Option Addr) (c : Nat) (l : List ByteArray) (hr : Reads w w.heap.size 1 A l.length (strs l)) (hn : l.length ≤ 1000000) :
    Calls Try.prog 69 #[.slice A l.length c, .func (Fn.func 51) #[] #[.pointer (some ⟨b, 0, none⟩)]] w (fun e w' => ∃ r, e = .returned (.int .i64 r) ∧ FirstAt l p r ∧ w' = w) := by
  have HF := Lib.hid (fun q => fn_any w B p b q h)
  have HR := Lib.hid hr
  clear h hr
  go_enter Try.func69, Try.ntmps69
  go_wp2_with fail
  go_loopw [8] (fun i wr => FirstLoop w l p i wr) (fun i _ => l.length - (intOf i).toNat)
  case atStart => exact ⟨0, by omega, rfl, rfl, fun j hj h => by omega⟩
  case round =>
    obtain ⟨k, hk, rfl, rfl, HN⟩ := hrel
    have hk0 : (0 : Int) ≤ (k : Int) := by omega
    by_cases hkn : k < l.length
    · obtain ⟨ad, rfl, hb, c0⟩ := HR.out.text hkn
      have hlt : (k : Int) < (l.length : Int) := by omega
      have HX : Hid (isB p l[k] = false → ∀ j (hj : j < l.length), j < k + 1 → isB p l[j] = false) := fun hne j hj hjk => by
        rcases Nat.eq_or_lt_of_le (Nat.le_of_lt_succ hjk) with h | h
        · subst h; exact hne
        · exact HN.out j hj h
      have HY : Hid (isB p l[k] = true → FirstAt l p k) := fun he => .inr ⟨k, hkn, rfl, he, HN.out⟩
      generalize l[k] = x at c0 HX HY
      have HF1 := Lib.hid (HF.out x)
      cases hj : isB p x with
      | true =>
        have HT := Lib.hid (HY.out hj)
        rw [hj] at HF1
        clear hj
        go_wp2_with fail
        refine HF1.out.mono ?_
        rintro e w1 ⟨rfl, rfl⟩
        go_wp2_with fail
        go_ret
        exact ⟨(k : Int), rfl, HT.out, rfl⟩
      | false =>
        have HT := Lib.hid (HX.out hj)
        rw [hj] at HF1
        clear hj
        go_wp2_with fail
        refine HF1.out.mono ?_
        rintro e w1 ⟨rfl, rfl⟩
        go_wp2_with fail
        go_roundw
        case rel => exact ⟨k + 1, by omega, by go_num, rfl, HT⟩
        case measure => simp [intOf]; omega
    · have hd : ¬ (k : Int) < (l.length : Int) := by omega
      have HT : Hid (FirstAt l p (-1)) := .inl ⟨rfl, fun x hx => by
        obtain ⟨j, hj, rfl⟩ := List.getElem_of_mem hx
        exact HN.out j hj (by omega)⟩
      go_wp2_with fail
      go_ret
      exact ⟨-1, rfl, HT.out, rfl⟩
def DelLoop (w : World) (B g c : Nat) (l : List ByteArray) (p : ByteArray) (i j : Value) (wr : World) : Prop :=
  ∃ (a b : Nat) (X : List ByteArray), a < b ∧ b ≤ l.length ∧ i = .int .i64 a ∧ j = .int .i64 b ∧ X.length = l.length ∧ Hid (X.take a = (l.take b).filter (keepB p)) ∧ Hid (X.drop b = l.drop b) ∧
    Hid (Own wr B 9 1 (some ⟨g, 0, none⟩) l.length c (strs X)) ∧ Hid (Only [g] w wr)
def DelPost (w : World) (B : Nat) (A : Option Addr) (l' : List ByteArray) (e : Ending) (w' : World) : Prop := ∃ A' c, e = .returned (.slice A' l'.length c) ∧ Own w' B 9 1 A' l'.length c (strs l') ∧ Only (ob A) w w' ∧ ∀ g ∈ ob A', g ∈ ob A
theorem strs_set (X : List ByteArray) (a : Nat) (q : ByteArray) : (strs X).set a (.string q) = strs (X.set a q) := by
  unfold strs
  rw [List.map_set]
theorem zero_str (w : World) : (zeroValue 9).run Try.prog w = .ok (.string ⟨#[]⟩) w := by kernel_rfl
set_option maxRecDepth 100000 in
set_option maxHeartbeats 4000000 in
theorem del_any (w : World) (B : Nat) (p : ByteArray) (b0 : Nat) (h : Env w w.heap.size p b0) (A : Option Addr) (c : Nat) (l : List ByteArray) (hO : Own w B 9 1 A l.length c (strs l)) (hap : ∀ g ∈ ob A, g ≠ b0) (hn : l.length ≤ 100000) :
    Calls Try.prog 50 #[.slice A l.length c, .func (Fn.func 51) #[] #[.pointer (some ⟨b0, 0, none⟩)]] w (DelPost w B A (l.filter (keepB p))) := by
  have HFi := Lib.hid (first_any w w.heap.size p b0 h A c l hO.reads (by omega))
  have HO := Lib.hid hO
  have HEN := Lib.hid h
  have HAP := Lib.hid hap
  have hcap := hO.cap_le
  have hcm : c ≤ 9223372036854775807 := by have := hO.cap_max; unfold maxLen at this; omega
  clear h hO hap
  go_enter Try.func50, Try.ntmps50
  go_wp2_with fail
  refine HFi.out.mono ?_
  rintro e w1 ⟨r, rfl, hr, rfl⟩
  rcases hr with ⟨rfl, hno⟩ | ⟨k, hk, rfl, hj, hfirst⟩
  · have HJ : Hid (l.filter (keepB p) = l) := List.filter_eq_self.2 (fun x hx => by unfold keepB; rw [hno x hx]; rfl)
    clear hno
    go_wp2_with fail
    go_ret
    rw [HJ.out]
    exact ⟨A, c, rfl, HO.out, Only.refl _ _, fun g hg => hg⟩
  · obtain ⟨g, rfl, hg1, hg2⟩ := HO.out.head (by omega)
    have hgb : b0 ≠ g := fun e => HAP.out g (by simp [ob]) e.symm
    have g0 : ((k : Int) == -1) = false := by rw [beq_eq_false_iff_ne]; omega
    have HST : Hid (l.take k = (l.take (k + 1)).filter (keepB p)) := by
      show _ = _
      rw [List.take_succ_eq_append_getElem hk, List.filter_append, List.filter_eq_self.2 (fun x hx => by
        obtain ⟨j, hj, rfl⟩ := List.getElem_of_mem hx
        rw [List.length_take] at hj
        rw [List.getElem_take]
        unfold keepB
        rw [hfirst j (by omega) (by omega)]; rfl)]
      simp [keepB, hj]
    clear hj hfirst
    go_wp2_with fail
    go_loopw [5, 6] (fun i j wr => DelLoop w1 B g c l p i j wr) (fun _ j _ => l.length - (intOf j).toNat)
    case atStart => exact ⟨k, k + 1, l, by omega, by omega, rfl, by go_num, rfl, HST, rfl, HO, Only.refl _ _⟩
    case round =>
      obtain ⟨a, b, X, hab, hbl, rfl, rfl, hX, HT, HD, HOr, HL⟩ := hrel
      by_cases hbn : b < l.length
      · have hbX : b < X.length := by omega
        have haX : a < X.length := by omega
        have hlt : (b : Int) < (l.length : Int) := by omega
        have hlt' : (a : Int) < (l.length : Int) := by omega
        have b00 : (0 : Int) ≤ (b : Int) := by omega
        have a0 : (0 : Int) ≤ (a : Int) := by omega
        have hx : X[b] = l[b] := by
          have := HD.out
          rw [List.drop_eq_getElem_cons hbX, List.drop_eq_getElem_cons hbn] at this
          exact (List.cons.injEq .. ▸ this).1
        have c0 : wr.cell? ⟨g, b, none⟩ = some (.string X[b]) := by rw [HOr.out.cellAt (by omega), strs_get hbX]
        rw [hx] at c0
        have HTJ : Hid (isB p l[b] = true → (l.take (b + 1)).filter (keepB p) = (l.take b).filter (keepB p)) := fun h => by
          rw [List.take_succ_eq_append_getElem hbn, List.filter_append]; simp [keepB, h]
        have HTK : Hid (isB p l[b] = false → (l.take (b + 1)).filter (keepB p) = (l.take b).filter (keepB p) ++ [l[b]]) := fun h => by
          rw [List.take_succ_eq_append_getElem hbn, List.filter_append]; simp [keepB, h]
        have HXS : Hid ((X.set a l[b]).take (a + 1) = X.take a ++ [l[b]]) := by
          show _ = _
          rw [List.take_succ_eq_append_getElem (by rw [List.length_set]; exact haX), List.getElem_set_self, List.take_set_of_le (Nat.le_refl _)]
        have HXD : Hid ((X.set a l[b]).drop (b + 1) = l.drop (b + 1)) := by
          show _ = _
          rw [List.drop_set_of_lt (by omega)]
          have := HD.out
          rw [List.drop_eq_getElem_cons hbX, List.drop_eq_getElem_cons hbn] at this
          exact (List.cons.injEq .. ▸ this).2
        have HDD : Hid (X.drop (b + 1) = l.drop (b + 1)) := by
          show _ = _
          have := HD.out
          rw [List.drop_eq_getElem_cons hbX, List.drop_eq_getElem_cons hbn] at this
          exact (List.cons.injEq .. ▸ this).2
        have HF1 := Lib.hid (fun x => fn_any wr w1.heap.size p b0 x (HEN.out.only (Nat.le_refl _) HL.out (by simp; exact hgb)))
        clear hx
        generalize l[b] = x at *
        cases hj : isB p x with
        | true =>
          have HT2 : Hid (X.take a = (l.take (b + 1)).filter (keepB p)) := by show _ = _; rw [HTJ.out hj]; exact HT.out
          have HF2 := Lib.hid (HF1.out x)
          rw [hj] at HF2
          clear hj HTJ HTK HF1
          go_wp2_with fail
          refine HF2.out.mono ?_
          rintro e w2 ⟨rfl, rfl⟩
          go_wp2_with fail
          go_roundw
          case rel => exact ⟨a, b + 1, X, by omega, by omega, rfl, by go_num, hX, HT2, HDD, HOr, HL⟩
          case measure => simp [intOf]; omega
        | false =>
          have HT2 : Hid ((X.set a x).take (a + 1) = (l.take (b + 1)).filter (keepB p)) := by show _ = _; rw [HTK.out hj, HXS.out, HT.out]
          have HF2 := Lib.hid (HF1.out x)
          rw [hj] at HF2
          have HO1 := Lib.hid (HOr.out.storeK (k := a) (by omega) (.string x))
          rw [strs_set] at HO1
          have hv0 : ∃ v, wr.cell? ⟨g, a, none⟩ = some v := by rw [HOr.out.cellAt (by omega)]; exact ⟨_, strs_get haX⟩
          have f0 := HOr.out.frozenAt a
          have HL2 : Hid (Only [g] w1 (wr.setCell ⟨g, a, none⟩ (.string x))) := HL.out.setCell (p := ⟨g, a, none⟩) (.inl (by simp)) _
          obtain ⟨v0, v0h⟩ := hv0
          clear hj HTJ HTK HF1
          go_wp2_with fail
          refine HF2.out.mono ?_
          rintro e w2 ⟨rfl, rfl⟩
          go_wp2_with fail
          go_roundw
          case rel => exact ⟨a + 1, b + 1, X.set a x, by omega, by omega, by go_num, by go_num, by rw [List.length_set]; exact hX, HT2, HXD, HO1, HL2⟩
          case measure => simp [intOf]; omega
      · obtain rfl : b = l.length := by omega
        have hd : ¬ (l.length : Int) < (l.length : Int) := by omega
        have HJ : Hid (X.take a = l.filter (keepB p)) := by show _ = _; rw [HT.out, List.take_length]
        have HJL : Hid ((l.filter (keepB p)).length = a) := by show _ = _; rw [← HJ.out, List.length_take]; omega
        obtain ⟨w2, hcl, hO2, hL2⟩ := clear_own (P := Try.prog) (size := 1) (t := 70) (z := .string ⟨#[]⟩) Try.underlying70 zero_str rfl (by intro u hu; simp [Value.cells] at hu; rcases hu with rfl; rfl) HOr.out a (by omega)
        have hst : (strs X).take (a * 1) = strs (X.take a) := by unfold strs; rw [Nat.mul_one, List.map_take]
        rw [hst, HJ.out] at hO2
        have HO2 := Lib.hid hO2
        have HL2 : Hid (Only [g] w1 w2) := HL.out.trans hL2
        have q0 : (0 : Int) ≤ (a : Int) := by omega
        have q1 : (a : Int) ≤ (l.length : Int) := by omega
        have q2 : (a : Int) ≤ (c : Int) := by omega
        have q3 : ¬ (c = a) := by omega
        rw [Nat.mul_one] at hcl
        clear hO2 hL2 hst
        go_wp2_with fail
        go_ret
        refine ⟨some ⟨g, 0, none⟩, c, by rw [HJL.out]; rfl, by rw [HJL.out]; exact HO2.out, by simpa [ob] using HL2.out, fun g' hg' => by simpa [ob] using hg'⟩
end StrDel
end Go.Proofs.Ytgkfmpkankjkdaa
/- Maps whose keys are texts; what is deleted of a map. Plain lemmas. Conditions: none. -/
namespace Go.Proofs.Ytgkfmpkankjkdaa
open Go.RowKit
set_option linter.unusedVariables false
theorem bytes_beq (a b : ByteArray) : (a == b) = decide (a = b) := by
  rcases a with ⟨⟨x⟩⟩
  rcases b with ⟨⟨y⟩⟩
  have h1 : ((⟨⟨x⟩⟩ : ByteArray) == ⟨⟨y⟩⟩) = ((⟨x⟩ : Array UInt8) == ⟨y⟩) := rfl
  rw [h1, Bool.eq_iff_iff, beq_iff_eq, decide_eq_true_iff]
  constructor
  · intro h; rw [h]
  · intro h; injection h
section
variable {P : Program} {V : Type}
theorem findNow_str (g : V → Value) (a : ByteArray) : ∀ (es : List MapEntry) (kvs : List (ByteArray × V)) (i : Nat), Pairs Value.string g es kvs → Instr.findNow .string (.string a) es i = some (seek g a kvs i)
  | [], kvs, i => fun h => by
    cases kvs with
    | nil => rfl
    | cons x l => simp [Pairs] at h
  | e :: es, kvs, i => fun h => by
    cases kvs with
    | nil => simp [Pairs] at h
    | cons x l =>
      obtain ⟨k, v⟩ := x
      simp only [Pairs, List.map_cons, List.cons.injEq, Prod.mk.injEq] at h
      obtain ⟨⟨h1, h2⟩, h3⟩ := h
      unfold Instr.findNow seek
      rw [h1]
      simp only [Instr.sameNow, bytes_beq]
      by_cases hk : a = k
      · simp [hk, h2]
      · simp only [decide_eq_false hk, if_neg hk]
        exact findNow_str g a es l (i + 1) h3
theorem strKey {t : TypeId} (ht : P.underlying t = some .string) : KeyOk P t Value.string where
  find := fun V g W a es kvs h => MapKept.run_findKey ht (findNow_str g a es kvs 0 h)
  chk := fun W em a => by
    have key : ∀ n : Nat, (Instr.checkKey em (n + 1) t (.string a)).run P W = .ok () W := fun n => by simp [Instr.checkKey, run_underlying ht]
    exact key 9999
  bits := fun a => by
    have key : ∀ n : Nat, Instr.sameBits (n + 1) (.string a) (.string a) = true := fun n => by simp [Instr.sameBits, bytes_beq]
    exact key 9999
end
section
variable {P : Program} {K V : Type} [DecidableEq K]
def delK (a : K) : List (K × V) → List (K × V)
  | [] => []
  | (k, v) :: l => if a = k then l else (k, v) :: delK a l
def Keys (kvs : List (K × V)) : Prop := (kvs.map Prod.fst).Nodup
theorem get_none {a : K} : ∀ {kvs : List (K × V)}, a ∉ kvs.map Prod.fst → get a kvs = none
  | [], _ => rfl
  | (k, v) :: l, h => by
    simp only [List.map_cons, List.mem_cons, not_or] at h
    unfold get
    rw [if_neg h.1]
    exact get_none h.2
theorem get_some {a : K} : ∀ {kvs : List (K × V)}, a ∈ kvs.map Prod.fst → ∃ v, get a kvs = some v
  | [], h => by simp at h
  | (k, v) :: l, h => by
    unfold get
    by_cases hk : a = k
    · exact ⟨v, if_pos hk⟩
    · rw [if_neg hk]
      simp only [List.map_cons, List.mem_cons] at h
      exact get_some (h.resolve_left hk)
theorem delK_sub (a : K) : ∀ (kvs : List (K × V)), ∀ b ∈ (delK a kvs).map Prod.fst, b ∈ kvs.map Prod.fst
  | [] => by simp [delK]
  | (k, v) :: l => fun b hb => by
    unfold delK at hb
    by_cases hk : a = k
    · rw [if_pos hk] at hb; simp only [List.map_cons, List.mem_cons]; exact .inr hb
    · rw [if_neg hk] at hb
      simp only [List.map_cons, List.mem_cons] at hb ⊢
      exact hb.imp id (delK_sub a l b)
theorem Keys.del {a : K} : ∀ {kvs : List (K × V)}, Keys kvs → Keys (delK a kvs)
  | [], h => h
  | (k, v) :: l, h => by
    unfold Keys at h ⊢
    simp only [List.map_cons, List.nodup_cons] at h
    unfold delK
    by_cases hk : a = k
    · rw [if_pos hk]; exact h.2
    · rw [if_neg hk]
      simp only [List.map_cons, List.nodup_cons]
      exact ⟨fun hm => h.1 (delK_sub a l k hm), Keys.del h.2⟩
theorem get_del {a b : K} : ∀ {kvs : List (K × V)}, Keys kvs → get b (delK a kvs) = if b = a then none else get b kvs
  | [], _ => by simp [delK, get]
  | (k, v) :: l, h => by
    unfold Keys at h
    simp only [List.map_cons, List.nodup_cons] at h
    unfold delK
    by_cases hk : a = k
    · rw [if_pos hk]
      by_cases hb : b = a
      · rw [if_pos hb]; exact get_none (by rw [hb, hk]; exact h.1)
      · rw [if_neg hb]
        conv => rhs; unfold get
        rw [if_neg (by rw [← hk]; exact hb)]
    · rw [if_neg hk]
      unfold get
      by_cases hb : b = k
      · rw [if_pos hb, if_neg (by rw [hb]; exact fun h => hk h.symm), if_pos hb]
      · rw [if_neg hb, if_neg hb]; exact get_del h.2
theorem ins_mem {a : K} {v : V} : ∀ {kvs : List (K × V)} {b : K}, b ∈ (ins a v kvs).map Prod.fst → b = a ∨ b ∈ kvs.map Prod.fst
  | [], b, h => by simp [ins] at h; exact .inl h
  | (k, u) :: l, b, h => by
    unfold ins at h
    by_cases hk : a = k
    · rw [if_pos hk] at h
      simp only [List.map_cons, List.mem_cons] at h ⊢
      exact h.imp id .inr
    · rw [if_neg hk] at h
      simp only [List.map_cons, List.mem_cons] at h ⊢
      rcases h with h | h
      · exact .inr (.inl h)
      · exact (ins_mem h).imp id .inr
theorem Keys.ins {a : K} {v : V} : ∀ {kvs : List (K × V)}, Keys kvs → Keys (ins a v kvs)
  | [], h => by simp [Keys, Go.Proofs.Ytgkfmpkankjkdaa.ins]
  | (k, u) :: l, h => by
    unfold Keys at h ⊢
    simp only [List.map_cons, List.nodup_cons] at h
    unfold Go.Proofs.Ytgkfmpkankjkdaa.ins
    by_cases hk : a = k
    · rw [if_pos hk]; simp only [List.map_cons, List.nodup_cons]; rw [hk]; exact h
    · rw [if_neg hk]
      simp only [List.map_cons, List.nodup_cons]
      refine ⟨fun hm => ?_, Keys.ins h.2⟩
      rcases ins_mem hm with h1 | h1
      · exact hk h1.symm
      · exact h.1 h1
theorem seek_del (f : K → Value) (g : V → Value) (a : K) : ∀ (es : List MapEntry) (kvs : List (K × V)) (i j : Nat) (u : Value), Pairs f g es kvs → seek g a kvs i = some (j, u) → j - i < es.length ∧ Pairs f g (es.eraseIdx (j - i)) (delK a kvs)
  | [], kvs, i, j, u => fun hp h => by
    cases kvs with
    | nil => simp [seek] at h
    | cons x l => simp [Pairs] at hp
  | e :: es, kvs, i, j, u => fun hp h => by
    cases kvs with
    | nil => simp [Pairs] at hp
    | cons x l =>
      obtain ⟨k, w⟩ := x
      have hp0 := hp
      simp only [Pairs, List.map_cons, List.cons.injEq, Prod.mk.injEq] at hp
      obtain ⟨⟨h1, h2⟩, h3⟩ := hp
      unfold seek at h
      unfold delK
      by_cases hk : a = k
      · rw [if_pos hk] at h
        cases h
        rw [if_pos hk, Nat.sub_self]
        exact ⟨by simp, h3⟩
      · rw [if_neg hk] at h
        rw [if_neg hk]
        have hg := seek_ge g a l (i + 1) j u h
        obtain ⟨q1, q2⟩ := seek_del f g a es l (i + 1) j u h3 h
        have e1 : j - i = (j - (i + 1)) + 1 := by omega
        rw [e1]
        refine ⟨by simp; omega, ?_⟩
        simp only [Pairs, List.eraseIdx_cons_succ, List.map_cons, List.cons.injEq, Prod.mk.injEq]
        exact ⟨⟨h1, h2⟩, q2⟩
theorem del_none (g : V → Value) (a : K) : ∀ (kvs : List (K × V)) (i : Nat), seek g a kvs i = none → delK a kvs = kvs
  | [], _, _ => rfl
  | (k, v) :: l, i, h => by
    unfold seek at h
    unfold delK
    by_cases hk : a = k
    · rw [if_pos hk] at h; cases h
    · rw [if_neg hk] at h ⊢
      rw [del_none g a l (i + 1) h]
theorem delete_run {m t t2 e : TypeId} {f : K → Value} {g : V → Value} (ok : KeyOk P t f) (hm : P.underlying m = some (.map t e)) {w : World} {r : Nat} {kvs : List (K × V)} (h : MapAt w r f g kvs) (a : K) :
    ∃ w', (∀ ty, (Builtin.delete_ #[m, t2] ty #[.map (some r), f a]).run P w = .ok (.tuple #[]) w') ∧ MapAt w' r f g (delK a kvs) ∧ Only [r] w w' := by
  obtain ⟨es, clock, hb, hp⟩ := h
  have h1 := ok.find V g w a es.toList kvs hp
  cases hs : seek g a kvs 0 with
  | none =>
    refine ⟨setBlk w r (.map es clock), fun ty => ?_, ⟨_, _, setBlk_same hb, ?_⟩, only_setBlk _⟩
    · simp [Builtin.delete_, run_underlying hm, MapKept.run_getObj_map hb, ok.chk, h1, hs, MapKept.run_setObj_map _ hb, setBlk]
    · rw [del_none g a kvs 0 hs]; exact hp
  | some x =>
    obtain ⟨j, u⟩ := x
    obtain ⟨q1, q2⟩ := seek_del f g a es.toList kvs 0 j u hp hs
    rw [Nat.sub_zero] at q1 q2
    refine ⟨setBlk w r (.map (es.eraseIdxIfInBounds j) clock), fun ty => ?_, ⟨_, _, setBlk_same hb, ?_⟩, only_setBlk _⟩
    · simp [Builtin.delete_, run_underlying hm, MapKept.run_getObj_map hb, ok.chk, h1, hs, MapKept.run_setObj_map _ hb, setBlk]
    · have : (es.eraseIdxIfInBounds j).toList = es.toList.eraseIdx j := by
        simp [Array.eraseIdxIfInBounds]
        rw [dif_pos (by simpa using q1)]
        simp
      rw [this]
      exact q2
end
end Go.Proofs.Ytgkfmpkankjkdaa
/- A cache of texts: what it holds, from the one that was asked for the longest time ago. Plain, and how it lies in memory. Conditions: none. -/
namespace Go.Proofs.Ytgkfmpkankjkdaa
open Go.RowKit
set_option linter.unusedVariables false
abbrev Kept := ByteArray × ByteArray
def sumK (m : List Kept) : Int := (m.map fun x => (x.2.size : Int)).sum
def offK (p : ByteArray) (m : List Kept) : List Kept := m.filter fun x => StrDel.keepB p x.1
def onK (p t : ByteArray) (m : List Kept) : List Kept := offK p m ++ [(p, t)]
def valK (p : ByteArray) (m : List Kept) : ByteArray := (get p m).getD ⟨#[]⟩
/-- Those that stay: as many as have room. -/
def fitK (bud : Int) : List Kept → List Kept
  | [] => []
  | x :: m => if bud < sumK (x :: m) then fitK bud m else x :: m
theorem inK {p q : ByteArray} (h : q.toList = p.toList) : q = p := by
  rw [ByteArray.toList_eq, ByteArray.toList_eq] at h
  rcases p with ⟨⟨p⟩⟩
  rcases q with ⟨⟨q⟩⟩
  simp at h
  rw [h]
theorem keepB_iff {p q : ByteArray} : StrDel.keepB p q = true ↔ q ≠ p := by
  unfold StrDel.keepB StrDel.isB
  rw [Bool.not_eq_true', beq_eq_false_iff_ne]
  constructor
  · intro h e; exact h (by rw [e])
  · intro h e; exact h (inK e)
theorem sumK_cons (x : Kept) (m : List Kept) : sumK (x :: m) = (x.2.size : Int) + sumK m := by simp [sumK]
theorem sumK_app (a b : List Kept) : sumK (a ++ b) = sumK a + sumK b := by simp [sumK]
theorem sumK_nonneg : ∀ m : List Kept, 0 ≤ sumK m
  | [] => by simp [sumK]
  | x :: m => by rw [sumK_cons]; have := sumK_nonneg m; omega
theorem offK_none {p : ByteArray} {m : List Kept} (h : p ∉ m.map Prod.fst) : offK p m = m := by
  refine List.filter_eq_self.2 fun x hx => keepB_iff.2 fun e => h ?_
  rw [← e]
  exact List.mem_map.2 ⟨x, hx, rfl⟩
theorem offK_cons (p : ByteArray) (x : Kept) (m : List Kept) : offK p (x :: m) = if x.1 = p then offK p m else x :: offK p m := by
  unfold offK
  rw [List.filter_cons]
  by_cases h : x.1 = p
  · rw [if_pos h, if_neg]; intro h2; exact keepB_iff.1 h2 h
  · rw [if_neg h, if_pos (keepB_iff.2 h)]
theorem offK_keys (p : ByteArray) (m : List Kept) : (offK p m).map Prod.fst = (m.map Prod.fst).filter (StrDel.keepB p) := by
  unfold offK
  rw [List.filter_map]
  rfl
theorem Keys.tail {x : Kept} {m : List Kept} (h : Keys (x :: m)) : x.1 ∉ m.map Prod.fst ∧ Keys m := by
  unfold Keys at h
  rw [List.map_cons, List.nodup_cons] at h
  exact h
theorem sumK_off {p : ByteArray} : ∀ {m : List Kept}, Keys m → sumK (offK p m) = sumK m - (valK p m).size
  | [], _ => rfl
  | x :: m, h => by
    obtain ⟨h1, h2⟩ := h.tail
    rw [offK_cons, sumK_cons]
    obtain ⟨k, t⟩ := x
    by_cases hk : k = p
    · rw [if_pos hk, offK_none (by rw [← hk]; exact h1)]
      have : valK p ((k, t) :: m) = t := by unfold valK get; rw [if_pos hk.symm]; rfl
      rw [this]; simp only; omega
    · rw [if_neg hk, sumK_cons, sumK_off h2]
      have : valK p ((k, t) :: m) = valK p m := by unfold valK; conv => lhs; unfold get
                                                   rw [if_neg (fun e => hk e.symm)]
      rw [this]; simp only; omega
theorem Keys.off {p : ByteArray} {m : List Kept} (h : Keys m) : Keys (offK p m) := by
  unfold Keys at h ⊢
  rw [offK_keys]
  exact h.filter _
theorem off_not (p : ByteArray) (m : List Kept) : p ∉ (offK p m).map Prod.fst := by
  rw [offK_keys]
  intro h
  exact keepB_iff.1 (List.mem_filter.1 h).2 rfl
theorem Keys.on {p t : ByteArray} {m : List Kept} (h : Keys m) : Keys (onK p t m) := by
  unfold Keys onK
  rw [List.map_append, List.nodup_append]
  refine ⟨h.off, by simp, fun a ha b hb => ?_⟩
  simp at hb
  subst hb
  intro e
  subst e
  exact off_not _ _ ha
theorem get_off {p q : ByteArray} : ∀ {m : List Kept}, get q (offK p m) = if q = p then none else get q m
  | [] => by simp [offK, get]
  | x :: m => by
    obtain ⟨k, t⟩ := x
    rw [offK_cons]
    by_cases hk : k = p
    · rw [if_pos hk, get_off]
      by_cases hq : q = p
      · rw [if_pos hq, if_pos hq]
      · rw [if_neg hq, if_neg hq]
        conv => rhs; unfold get
        rw [if_neg (by rw [hk]; exact hq)]
    · rw [if_neg hk]
      unfold get
      by_cases hq : q = k
      · rw [if_pos hq, if_neg (by rw [hq]; exact hk), if_pos hq]
      · rw [if_neg hq, if_neg hq]; exact get_off
theorem get_appl {q : ByteArray} : ∀ {a b : List Kept}, q ∈ a.map Prod.fst → get q (a ++ b) = get q a
  | [], b => fun h => by simp at h
  | (k, t) :: a, b => fun h => by
    rw [List.cons_append]
    unfold get
    by_cases hq : q = k
    · rw [if_pos hq, if_pos hq]
    · rw [if_neg hq, if_neg hq]
      rw [List.map_cons, List.mem_cons] at h
      exact get_appl (h.resolve_left hq)
theorem get_appr {q : ByteArray} : ∀ {a b : List Kept}, q ∉ a.map Prod.fst → get q (a ++ b) = get q b
  | [], b => fun h => rfl
  | (k, t) :: a, b => fun h => by
    rw [List.cons_append]
    rw [List.map_cons, List.mem_cons, not_or] at h
    conv => lhs; unfold get
    rw [if_neg h.1]
    exact get_appr h.2
theorem get_on {p t q : ByteArray} {m : List Kept} : get q (onK p t m) = if q = p then some t else get q m := by
  unfold onK
  by_cases hq : q = p
  · subst hq
    rw [if_pos rfl, get_appr (off_not _ _)]
    unfold get
    rw [if_pos rfl]
  · rw [if_neg hq]
    by_cases hm : q ∈ (offK p m).map Prod.fst
    · rw [get_appl hm, get_off, if_neg hq]
    · rw [get_appr hm]
      have h1 : get q (offK p m) = none := get_none hm
      rw [get_off, if_neg hq] at h1
      rw [h1]
      unfold get
      rw [if_neg hq]
      rfl
theorem sumK_on {p t : ByteArray} {m : List Kept} (h : Keys m) : sumK (onK p t m) = sumK m - (valK p m).size + t.size := by
  unfold onK
  rw [sumK_app, sumK_off h, sumK_cons]
  simp [sumK]
theorem val_le {p : ByteArray} : ∀ {m : List Kept}, ((valK p m).size : Int) ≤ sumK m
  | [] => by show ((0 : Nat) : Int) ≤ 0; omega
  | x :: m => by
    obtain ⟨k, t⟩ := x
    rw [sumK_cons]
    by_cases hq : p = k
    · have : valK p ((k, t) :: m) = t := by unfold valK get; rw [if_pos hq]; rfl
      rw [this]
      have := sumK_nonneg m
      simp only; omega
    · have : valK p ((k, t) :: m) = valK p m := by unfold valK; conv => lhs; unfold get
                                                   rw [if_neg hq]
      rw [this]
      have := val_le (p := p) (m := m)
      omega
theorem off_len (p : ByteArray) (m : List Kept) : (offK p m).length ≤ m.length := List.length_filter_le _ _
/-- The first of some is taken off. -/
theorem off_head {x : Kept} {m : List Kept} (h : Keys (x :: m)) : offK x.1 (x :: m) = m := by
  rw [offK_cons, if_pos rfl, offK_none h.tail.1]
structure CacheIs (w : World) (B : Nat) (S : List Nat) (b : Nat) (bud : Int) (m : List Kept) (r : Nat) (A : Option Addr) (cap : Nat) (kvs : List Kept) : Prop where
  blk : Blk w b 72 #[.int .i64 bud, .int .i64 (sumK m), .map (some r), .slice A m.length cap]
  ord : Own w B 9 1 A m.length cap (strs (m.map Prod.fst))
  map : MapAt w r Value.string Value.string kvs
  keys : Keys kvs
  same : ∀ p, get p kvs = get p m
  nodup : Keys m
  suba : ∀ g ∈ ob A, g ∈ S
  subb : b ∈ S
  subr : r ∈ S
  own : ∀ g ∈ S, B ≤ g ∧ g < w.heap.size
def CacheTo (w : World) (B : Nat) (S : List Nat) (b : Nat) (bud : Int) (m : List Kept) (w' : World) : Prop :=
  ∃ S' r A cap kvs, CacheIs w' B S' b bud m r A cap kvs ∧ Only S w w' ∧ ∀ g ∈ S', g ∈ S ∨ w.heap.size ≤ g
theorem CacheIs.only {w w' : World} {B : Nat} {S T : List Nat} {b : Nat} {bud : Int} {m : List Kept} {r : Nat} {A : Option Addr} {cap : Nat} {kvs : List Kept} (h : CacheIs w B S b bud m r A cap kvs) (ho : Only T w w') (hT : ∀ g ∈ T, g ∉ S) : CacheIs w' B S b bud m r A cap kvs where
  blk := ho.blk h.blk (fun hm => hT _ hm h.subb)
  ord := h.ord.only ho (fun g hg hm => hT g hm (h.suba g hg))
  map := h.map.only ho (fun hm => hT _ hm h.subr)
  keys := h.keys
  same := h.same
  nodup := h.nodup
  suba := h.suba
  subb := h.subb
  subr := h.subr
  own := fun g hg => ⟨(h.own g hg).1, Nat.lt_of_lt_of_le (h.own g hg).2 ho.size⟩
theorem CacheIs.below {w w' : World} {B : Nat} {S : List Nat} {b : Nat} {bud : Int} {m : List Kept} {r : Nat} {A : Option Addr} {cap : Nat} {kvs : List Kept} (h : CacheIs w B S b bud m r A cap kvs) (hb : Below w.heap.size w w') : CacheIs w' B S b bud m r A cap kvs :=
  h.only (T := []) (Only.of_below hb) (by simp)
theorem CacheTo.back {w w1 w' : World} {B : Nat} {S S1 : List Nat} {b : Nat} {bud : Int} {m : List Kept} (ho : Only S w w1) (hs : ∀ g ∈ S1, g ∈ S ∨ w.heap.size ≤ g) (h : CacheTo w1 B S1 b bud m w') : CacheTo w B S b bud m w' := by
  obtain ⟨S', r, A, cap, kvs, h1, h2, h3⟩ := h
  refine ⟨S', r, A, cap, kvs, h1, ho.trans_new h2 hs, fun g hg => ?_⟩
  have := ho.size
  rcases h3 g hg with h4 | h4
  · exact hs g h4
  · exact .inr (by omega)
end Go.Proofs.Ytgkfmpkankjkdaa
