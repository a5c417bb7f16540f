/- The document's cache: Find, Off, Used, Load of leafref2, walked. Conditions: the numbers are small. -/
import Derived.Test.YtgjhkblnohcppaaDoorCacheScene
import Derived.Test.YtgjhkblnohcppaaDoorIns
namespace Go.Proofs.YtgjhkblnohcppaaDoor
open Go.RowKit
set_option linter.unusedVariables false
def kcells (l : List Kept) : List Value := l.flatMap fun x => [.string x.1, .string x.2]
theorem kcells_len (l : List Kept) : (kcells l).length = l.length * 2 := by
  induction l with
  | nil => rfl
  | cons x l ih => show ([_, _] ++ kcells l).length = _; rw [List.length_append, ih]; simp; omega
theorem oneCells_k (l : List Kept) : OneCells (kcells l) := by
  intro u hu
  simp only [kcells, List.mem_flatMap] at hu
  obtain ⟨e, _, hu⟩ := hu
  simp only [List.mem_cons, List.not_mem_nil, or_false] at hu
  rcases hu with rfl | rfl <;> rfl
theorem kcells_take (l : List Kept) (i : Nat) : (kcells l).take (i * 2) = kcells (l.take i) := by
  induction l generalizing i with
  | nil => simp [kcells]
  | cons x l ih =>
    cases i with
    | zero => simp [kcells]
    | succ i =>
      show ([Value.string x.1, Value.string x.2] ++ kcells l).take ((i + 1) * 2) = [Value.string x.1, Value.string x.2] ++ kcells (l.take i)
      rw [← ih, List.take_append, List.take_of_length_le (by simp; omega), show (i + 1) * 2 - [Value.string x.1, .string x.2].length = i * 2 by simp; omega]
theorem kcells_drop (l : List Kept) (i : Nat) : (kcells l).drop (i * 2) = kcells (l.drop i) := by
  induction l generalizing i with
  | nil => simp [kcells]
  | cons x l ih =>
    cases i with
    | zero => simp [kcells]
    | succ i =>
      show ([Value.string x.1, Value.string x.2] ++ kcells l).drop ((i + 1) * 2) = kcells (l.drop i)
      rw [← ih, List.drop_append, List.drop_of_length_le (by simp; omega), show (i + 1) * 2 - [Value.string x.1, .string x.2].length = i * 2 by simp; omega, List.nil_append]
theorem kcells_at (l : List Kept) (k : Nat) (hk : k < l.length) : (kcells l)[k * 2]? = some (.string l[k].1) ∧ (kcells l)[k * 2 + 1]? = some (.string l[k].2) := by
  have h : kcells l = kcells (l.take k) ++ ([Value.string l[k].1, Value.string l[k].2] ++ kcells (l.drop (k + 1))) := by
    rw [← kcells_take]
    have e : [Value.string l[k].1, Value.string l[k].2] ++ kcells (l.drop (k + 1)) = kcells (l.drop k) := by rw [List.drop_eq_getElem_cons hk]; rfl
    rw [e, ← kcells_drop, List.take_append_drop]
  have hl : (kcells (l.take k)).length = k * 2 := by rw [kcells_len, List.length_take]; omega
  rw [h]
  constructor
  · rw [List.getElem?_append_right (by omega), hl]; simp
  · rw [List.getElem?_append_right (by omega), hl, show k * 2 + 1 - k * 2 = 1 by omega]; simp
theorem Reads.kept {w : World} {B : Nat} {A : Option Addr} {l : List Kept} (h : Reads w B 2 A l.length (kcells l)) {k : Nat} (hk : k < l.length) :
    ∃ ad, A = some ad ∧ ad.block < B ∧ w.cell? (ad.add (k * 2)) = some (.string l[k].1) ∧ w.cell? ⟨(ad.add (k * 2)).block, (ad.add (k * 2)).off + 1, none⟩ = some (.string l[k].2) := by
  obtain ⟨ad, e, hb, hc⟩ := h.2 (by omega)
  refine ⟨ad, e, hb, ?_, ?_⟩
  · exact hc _ _ (kcells_at l k hk).1
  · rw [show (⟨(ad.add (k * 2)).block, (ad.add (k * 2)).off + 1, none⟩ : Addr) = (ad.add (k * 2)).add 1 from rfl, add_of_add]
    exact hc _ _ (kcells_at l k hk).2
theorem elemK : Elem Tryd.prog 37 42 2 32 := Elem.mk_ (z := .agg #[.string ⟨#[]⟩, .string ⟨#[]⟩]) Tryd.underlying37 (by kernel_rfl) rfl (by decide)
/-! Plain: where one is. -/
def posK (p : ByteArray) : List Kept → Nat
  | [] => 0
  | x :: m => if x.1 = p then 0 else posK p m + 1
theorem pos_le (p : ByteArray) : ∀ l : List Kept, posK p l ≤ l.length
  | [] => Nat.le_refl _
  | x :: m => by unfold posK; have := pos_le p m; split <;> simp <;> omega
theorem pos_eq {p : ByteArray} : ∀ {l : List Kept} {k : Nat} (hk : k < l.length), k ≤ posK p l → l[k].1 = p → posK p l = k
  | [], k, hk, _, _ => by simp at hk
  | x :: m, 0, hk, h, e => by unfold posK; exact if_pos e
  | x :: m, k + 1, hk, h, e => by
    unfold posK at h ⊢
    split at h
    · omega
    · rename_i hx
      rw [if_neg hx, pos_eq (k := k) (by simpa using hk) (by omega) (by simpa using e)]
theorem pos_next {p : ByteArray} : ∀ {l : List Kept} {k : Nat} (hk : k < l.length), k ≤ posK p l → l[k].1 ≠ p → k + 1 ≤ posK p l
  | [], k, hk, _, _ => by simp at hk
  | x :: m, 0, hk, h, e => by unfold posK; rw [if_neg (show ¬ x.1 = p from e)]; omega
  | x :: m, k + 1, hk, h, e => by
    unfold posK at h ⊢
    split at h
    · omega
    · rename_i hx
      rw [if_neg hx]
      have := pos_next (p := p) (l := m) (k := k) (by simpa using hk) (by omega) (by simpa using e)
      omega
theorem pos_get {p : ByteArray} : ∀ {l : List Kept} (h : posK p l < l.length), get p l = some l[posK p l].2
  | [], h => by simp at h
  | x :: m, h => by
    by_cases hx : x.1 = p
    · have e : posK p (x :: m) = 0 := by unfold posK; exact if_pos hx
      simp only [e]
      obtain ⟨k, t⟩ := x
      unfold get
      rw [if_pos (show p = k from hx.symm)]
      rfl
    · have e : posK p (x :: m) = posK p m + 1 := by conv => lhs; unfold posK
                                                    rw [if_neg hx]
      have h2 : posK p m < m.length := by rw [e] at h; simpa using h
      simp only [e, List.getElem_cons_succ]
      rw [← pos_get h2]
      obtain ⟨k, t⟩ := x
      conv => lhs; unfold get
      rw [if_neg (fun e => hx e.symm)]
theorem pos_not {p : ByteArray} : ∀ {l : List Kept}, posK p l = l.length → get p l = none ∧ p ∉ l.map Prod.fst
  | [], h => ⟨rfl, by simp⟩
  | x :: m, h => by
    by_cases hx : x.1 = p
    · have e : posK p (x :: m) = 0 := by unfold posK; exact if_pos hx
      rw [e] at h; simp at h
    · have e : posK p (x :: m) = posK p m + 1 := by conv => lhs; unfold posK
                                                    rw [if_neg hx]
      rw [e] at h
      obtain ⟨h1, h2⟩ := pos_not (p := p) (l := m) (by simpa using h)
      obtain ⟨k, t⟩ := x
      refine ⟨?_, ?_⟩
      · unfold get; rw [if_neg (fun e => hx e.symm)]; exact h1
      · rw [List.map_cons, List.mem_cons]; rintro (e | e)
        · exact hx e.symm
        · exact h2 e
theorem pos_off {p : ByteArray} : ∀ {l : List Kept}, Keys l → posK p l < l.length → offK p l = l.take (posK p l) ++ l.drop (posK p l + 1)
  | [], _, h => by simp at h
  | x :: m, hk, h => by
    by_cases hx : x.1 = p
    · have e : posK p (x :: m) = 0 := by unfold posK; exact if_pos hx
      rw [e, offK_cons, if_pos hx, offK_none (by rw [← hx]; exact hk.tail.1)]
      rfl
    · have e : posK p (x :: m) = posK p m + 1 := by conv => lhs; unfold posK
                                                    rw [if_neg hx]
      have h2 : posK p m < m.length := by rw [e] at h; simpa using h
      rw [e, offK_cons, if_neg hx, pos_off hk.tail.2 h2]
      rfl
def findV (p : ByteArray) (l : List Kept) : Int := if posK p l < l.length then posK p l else -1
def FindKLoop (w : World) (l : List Kept) (p : ByteArray) (i : Value) (wr : World) : Prop := ∃ k : Nat, k ≤ l.length ∧ i = .int .i64 k ∧ wr = w ∧ Hid (k ≤ posK p l)
theorem same_key {p q : ByteArray} (h : p = q) : (p.toList == q.toList) = true := by rw [h]; exact beq_self_eq_true _
theorem other_key {p q : ByteArray} (h : p ≠ q) : (p.toList == q.toList) = false := by
  rw [beq_eq_false_iff_ne]; intro e; exact h (inK e)
set_option maxRecDepth 100000 in
theorem rfindK_any (w : World) (A : Option Addr) (c : Nat) (l : List Kept) (p : ByteArray) (h : Reads w w.heap.size 2 A l.length (kcells l)) (hn : l.length ≤ 100000) :
    Calls Tryd.prog 16 #[.slice A l.length c, .string p] w (fun e w' => e = .returned (.int .i64 (findV p l)) ∧ w' = w) := by
  have HR := Lib.hid h
  clear h
  go_enter Tryd.func16, Tryd.ntmps16
  go_wp2_with fail
  go_loopw [5] (fun i wr => FindKLoop w l p i wr) (fun i _ => l.length - (intOf i).toNat)
  case atStart => exact ⟨0, by omega, rfl, rfl, Nat.zero_le _⟩
  case round =>
    obtain ⟨k, hk, rfl, rfl, HK⟩ := hrel
    have k0 : (0 : Int) ≤ (k : Int) := by omega
    by_cases hkn : k < l.length
    · have k1 : (k : Int) < (l.length : Int) := by omega
      obtain ⟨ad, rfl, hb, c0, _⟩ := HR.out.kept hkn
      have HE := Lib.hid (fun (e : l[k].1 = p) => pos_eq hkn HK.out e)
      have HNX := Lib.hid (fun (e : l[k].1 ≠ p) => pos_next hkn HK.out e)
      generalize l[k].1 = q at c0 HE HNX
      by_cases hq : q = p
      · have b1 := same_key hq
        have HF : Hid (findV p l = (k : Int)) := by
          show _ = _
          unfold findV
          rw [HE.out hq, if_pos hkn]
        clear hq HE HNX
        go_wp2_with fail
        go_ret
        rw [HF.out]
        exact ⟨rfl, rfl⟩
      · have b1 := other_key hq
        have HF := Lib.hid (HNX.out hq)
        clear hq HE HNX
        go_wp2_with fail
        go_roundw
        case rel => exact ⟨k + 1, by omega, by go_num, rfl, HF⟩
        case measure => simp [intOf]; omega
    · have k1 : ¬ (k : Int) < (l.length : Int) := by omega
      have HF : Hid (findV p l = -1) := by
        show _ = _
        unfold findV
        rw [if_neg]
        have h1 := HK.out
        omega
      go_wp2_with fail
      go_ret
      rw [HF.out]
      exact ⟨rfl, rfl⟩
def UsedKLoop (w : World) (l : List Kept) (n i : Value) (wr : World) : Prop := ∃ k : Nat, k ≤ l.length ∧ n = .int .i64 (sumK (l.take k)) ∧ i = .int .i64 k ∧ wr = w
set_option maxRecDepth 100000 in
theorem rusedK_any (w : World) (A : Option Addr) (c : Nat) (l : List Kept) (h : Reads w w.heap.size 2 A l.length (kcells l)) (hn : l.length ≤ 200000) (hs : sumK l ≤ 1000000) :
    Calls Tryd.prog 22 #[.slice A l.length c] w (fun e w' => e = .returned (.int .i64 (sumK l)) ∧ w' = w) := by
  have HR := Lib.hid h
  clear h
  go_enter Tryd.func22, Tryd.ntmps22
  go_wp2_with fail
  go_loopw [3, 4] (fun n i wr => UsedKLoop w l n i wr) (fun _ i _ => l.length - (intOf i).toNat)
  case atStart => exact ⟨0, by omega, rfl, rfl, rfl⟩
  case round =>
    obtain ⟨k, hk, rfl, rfl, rfl⟩ := hrel
    have k0 : (0 : Int) ≤ (k : Int) := by omega
    by_cases hkn : k < l.length
    · have k1 : (k : Int) < (l.length : Int) := by omega
      obtain ⟨ad, rfl, hb, _, c1⟩ := HR.out.kept hkn
      have HST := Lib.hid (sum_take hkn)
      have hbd := sum_take_le (k + 1) l
      have hbe := sumK_nonneg (l.take k)
      rw [HST.out] at hbd
      have q2 : IntKind.i64.wrap (sumK (l.take k) + (l[k].2.size : Int)) = sumK (l.take k) + (l[k].2.size : Int) := IntWalk.i64_in _ (by omega)
      clear hbd hbe
      generalize sumK (l.take k) = sj at *
      generalize l[k].2 = tj at *
      go_wp2_with fail
      go_roundw
      case rel => exact ⟨k + 1, by omega, by rw [HST.out], by go_num, rfl⟩
      case measure => simp [intOf]; omega
    · have k1 : ¬ (k : Int) < (l.length : Int) := by omega
      have hf : sumK (l.take k) = sumK l := by rw [List.take_of_length_le (by omega)]
      rw [hf]
      clear hf
      go_wp2_with fail
      go_ret
      exact ⟨rfl, rfl⟩
def KRow (w : World) (base : Nat) (l : List Kept) (v : Value) (w' : World) : Prop := ∃ V c, v = .slice V l.length c ∧ Reads w' w'.heap.size 2 V l.length (kcells l) ∧ (0 < l.length → ∀ g ∈ ob V, base ≤ g) ∧ l.length ≤ c ∧ c ≤ maxLen
def KPost (w : World) (l : List Kept) (e : Ending) (w' : World) : Prop := (∃ v, e = .returned v ∧ KRow w w.heap.size l v w') ∧ Below w.heap.size w w'
set_option maxRecDepth 100000 in
set_option maxHeartbeats 4000000 in
theorem roffK_any (w : World) (A : Option Addr) (c : Nat) (l : List Kept) (i : Nat) (h : Reads w w.heap.size 2 A l.length (kcells l)) (hn : l.length ≤ 100000) (hc : l.length ≤ c) (hcm : c ≤ 9223372036854775807) (hi : i < l.length) :
    Calls Tryd.prog 19 #[.slice A l.length c, .int .i64 i] w (KPost w (l.take i ++ l.drop (i + 1))) := by
  have HR := Lib.hid h
  have hsl1 := fun W => run_nilslice elemK A l.length c i (by omega) W
  have hsl2 := fun W => run_tailAt elemK A l.length c (i + 1) (by omega) W
  have hsl2' : ∀ W, (Instr.sliceAt 37 (.slice A l.length c) (some (.int .i64 ((i : Int) + 1))) none none).run Tryd.prog W = .ok (.slice (tailA A c (i + 1) 2) (l.length - (i + 1)) (c - (i + 1))) W := hsl2
  clear hsl2
  have hF1 : Fits (0 + i) 32 := Fits.of_small (by omega) (by decide)
  have hF3 : Fits (i + (l.length - (i + 1))) 32 := Fits.of_small (by omega) (by decide)
  have HT : Hid (Reads w w.heap.size 2 A i ((kcells l).take (i * 2))) := h.head (by omega)
  have HD : Hid (Reads w w.heap.size 2 (tailA A c (i + 1) 2) (l.length - (i + 1)) ((kcells l).drop ((i + 1) * 2))) := h.tail (by omega) hc
  have h1 : OneCells ((kcells l).take (i * 2)) := fun u hu => oneCells_k l u (List.mem_of_mem_take hu)
  have h2 : OneCells ((kcells l).drop ((i + 1) * 2)) := fun u hu => oneCells_k l u (List.mem_of_mem_drop hu)
  have q1 : IntKind.i64.wrap ((i : Int) + 1) = (i : Int) + 1 := IntWalk.i64_in _ (by omega)
  have hi0 : (i : Int) < (l.length : Int) := by omega
  clear h
  go_enter Tryd.func19, Tryd.ntmps19
  go_upto_region 3 with (at_builtin; refine wpList_app _ (.tmp 6) (.tmp 9) rfl rfl elemK rfl rfl (Own.nil _ w.heap.size _ 2) HT.out h1 hF1 (Nat.le_refl _) ?_; intro V1 c1 w1 hO1 hL1 hG1)
  rw [Nat.zero_add, List.nil_append] at hO1
  have HO1 := Lib.hid hO1
  have HB1 : Hid (Below w.heap.size w w1) := hL1.below (B := w.heap.size) (by simp) (by simp [ob])
  have hz1 : w.heap.size ≤ w1.heap.size := hL1.size
  clear hO1 hL1 hG1
  go_wp2_with (at_builtin; refine wpList_app _ (.tmp 11) (.tmp 15) rfl rfl elemK rfl rfl HO1.out (HD.out.below HB1.out) h2 hF3 hz1 ?_; intro V3 c3 w3 hO3 hL3 hG3)
  go_ret
  have hlen : (l.take i ++ l.drop (i + 1)).length = i + (l.length - (i + 1)) := by rw [List.length_append, List.length_take, List.length_drop]; omega
  have hcl : kcells (l.take i ++ l.drop (i + 1)) = (kcells l).take (i * 2) ++ (kcells l).drop ((i + 1) * 2) := by
    rw [kcells_take, kcells_drop]
    simp [kcells]
  refine ⟨⟨.slice V3 (i + (l.length - (i + 1))) c3, rfl, V3, c3, by rw [hlen], ?_, fun _ g hg => (hO3.lt g hg).1, ?_, hO3.cap_max⟩, HB1.out.trans (hL3.below HB1.out.size (fun g hg => (HO1.out.lt g hg).1))⟩
  · rw [hlen, hcl]; exact hO3.reads
  · rw [hlen]; exact hO3.cap_le
/-! Load -/
def lenS : Value → Nat
  | .slice _ n _ => n
  | _ => 0
def LoadKLoop (w : World) (bud : Int) (m0 : List Kept) (v : Value) (wr : World) : Prop := ∃ m : List Kept, Hid (KRow w w.heap.size m v wr) ∧ Hid (fitK bud m0 = fitK bud m) ∧ Hid (Below w.heap.size w wr) ∧ sumK m ≤ 1000000 ∧ m.length ≤ 100001
theorem ob_tail {A : Option Addr} {c i size g : Nat} (h : g ∈ ob (tailA A c i size)) : g ∈ ob A := by
  unfold tailA at h
  split at h
  · exact h
  · cases A with
    | none => exact h
    | some a => simp [ob, block_of_add] at h ⊢; exact h
theorem KRow.tail {w wr : World} {base : Nat} {x : Kept} {m : List Kept} {V : Option Addr} {c : Nat} (h : Reads wr wr.heap.size 2 V (x :: m).length (kcells (x :: m))) (hf : ∀ g ∈ ob V, base ≤ g) (hc : (x :: m).length ≤ c) (hm : c ≤ maxLen) : KRow w base m (.slice (tailA V c 1 2) ((x :: m).length - 1) (c - 1)) wr := by
  refine ⟨tailA V c 1 2, c - 1, by simp, ?_, fun _ g hg => hf g (ob_tail hg), by simp at hc; omega, by omega⟩
  have h1 := h.tail (i := 1) (by simp) hc
  rw [kcells_drop] at h1
  simpa using h1
set_option maxRecDepth 100000 in
set_option maxHeartbeats 4000000 in
theorem rloadK_any (w : World) (A : Option Addr) (c : Nat) (l : List Kept) (p t : ByteArray) (bud : Int) (h : Reads w w.heap.size 2 A l.length (kcells l)) (hky : Keys l) (hn : l.length ≤ 90000) (hs : sumK l ≤ 500000) (ht : (t.size : Int) ≤ 100000) (hb : 0 ≤ bud) (hc : l.length ≤ c) (hcm : c ≤ 9223372036854775807) :
    Calls Tryd.prog 18 #[.slice A l.length c, .string p, .string t, .int .i64 bud] w (KPost w (fitK bud (onK p t l))) := by
  have HFD := Lib.hid (rfindK_any w A c l p h (by omega))
  have HOFF := Lib.hid (fun (hi : posK p l < l.length) => roffK_any w A c l (posK p l) h (by omega) hc hcm hi)
  have HUS := Lib.hid (fun (W : World) (V : Option Addr) (cc : Nat) (m : List Kept) hr h1 h2 => rusedK_any W V cc m hr h1 h2)
  have HRX := Lib.hid (fun W : World => Reads.row W 42 #[.string p, .string t])
  have hol := off_len p l
  have hsk := sumK_on (p := p) (t := t) hky
  have hF1 : Fits (0 + (offK p l).length) 32 := Fits.of_small (by omega) (by decide)
  have hF2 : Fits ((offK p l).length + 1) 32 := Fits.of_small (by omega) (by decide)
  have h3 : OneCells [Value.string p, .string t] := by intro u hu; simp at hu; rcases hu with rfl | rfl <;> rfl
  have HON : Hid (onK p t l = offK p l ++ [(p, t)]) := rfl
  have HS : Hid (sumK (onK p t l) ≤ 1000000) := by show _ ≤ _; omega
  have HLN : Hid ((offK p l).length + 1 ≤ 100001) := by show _ ≤ _; omega
  have HB0 : Hid (Below w.heap.size w w) := Below.refl _ _
  have HR := Lib.hid h
  clear hol hsk
  by_cases hp : posK p l < l.length
  · have e1 : findV p l = (posK p l : Int) := if_pos hp
    have HO := Lib.hid (HOFF.out hp)
    rw [← pos_off hky hp] at HO
    rw [e1] at HFD
    have g1 : (0 : Int) ≤ (posK p l : Int) := by omega
    have g2 : decide ((posK p l : Int) ≥ 0) = true := decide_eq_true g1
    clear hp HOFF e1 h
    go_enter Tryd.func18, Tryd.ntmps18
    go_wp2_with fail
    refine HFD.out.mono ?_
    rintro e w0 ⟨rfl, hw0⟩
    obtain rfl := hw0.symm
    go_wp2_with fail
    refine HO.out.mono ?_
    rintro e wX ⟨⟨v, rfl, VX, cX, rfl, hrX, _, _, _⟩, hbX⟩
    have HRW := Lib.hid hrX
    have HBX := Lib.hid hbX
    clear hrX hbX
    go_upto_region 6 with (at_builtin; go_loud (refine wpList_app _ (.tmp 19) (.tmp 20) rfl rfl elemK rfl rfl (Own.nil _ w.heap.size _ 2) HRW.out (oneCells_k _) hF1 HBX.out.size ?_; intro V1 c1 w1 hO1 hL1 hG1))
    rw [Nat.zero_add, List.nil_append] at hO1
    have HO1 := Lib.hid hO1
    have HB1 : Hid (Below w.heap.size w w1) := HBX.out.trans (hL1.below (B := w.heap.size) HBX.out.size (by simp [ob]))
    have hz1 := HB1.out.size
    clear hO1 hL1 hG1
    go_wp2_with (at_builtin; go_loud (refine wpList_app _ (.tmp 22) (.tmp 26) rfl rfl elemK rfl rfl (HO1.out.alloc _) (HRX.out w1) h3 hF2 (by simp <;> omega) ?_; intro V2 c2 w2 hO2 hL2 hG2))
    have hcl : kcells (offK p l) ++ [Value.string p, .string t] = kcells (onK p t l) := by rw [HON.out]; simp [kcells]
    have hll : (onK p t l).length = (offK p l).length + 1 := by rw [HON.out]; simp
    rw [hcl] at hO2
    have HRL : Hid (KRow w w.heap.size (onK p t l) (.slice V2 ((offK p l).length + 1) c2) w2) := ⟨V2, c2, by rw [hll], by rw [hll]; exact hO2.reads, fun _ g hg => (hO2.lt g hg).1, by rw [hll]; exact hO2.cap_le, hO2.cap_max⟩
    have HB2 : Hid (Below w.heap.size w w2) := (HB1.out.alloc HB1.out.size _).trans (hL2.below (by simp <;> omega) (fun g hg => (HO1.out.lt g hg).1))
    have HLL := Lib.hid hll
    clear hO2 hL2 hG2 hz1 hcl hll
    go_loopw [10] (fun v wr => LoadKLoop w bud (onK p t l) v wr) (fun v _ => lenS v)
    case atStart => exact ⟨onK p t l, HRL, rfl, HB2, HS.out, by have := HLL.out; have := HLN.out; omega⟩
    case round =>
      obtain ⟨m, HK, HFE, HBr, hsm, hml⟩ := hrel
      obtain ⟨V, cv, rfl, hr, hfar, hcv, hcm2⟩ := HK.out
      have HU := Lib.hid (HUS.out wr V cv m hr (by omega) hsm)
      by_cases hov : bud < sumK m
      · cases m with
        | nil => simp [sumK] at hov; first | done | omega
        | cons x m2 =>
          have g3 : decide (sumK (x :: m2) > bud) = true := decide_eq_true hov
          have HFX : Hid (fitK bud (x :: m2) = fitK bud m2) := if_pos hov
          have hsl : ∀ W, (Instr.sliceAt 37 (.slice V (x :: m2).length cv) (some (.int .i64 1)) none none).run Tryd.prog W = .ok (.slice (tailA V cv 1 2) ((x :: m2).length - 1) (cv - 1)) W := fun W => run_tailAt elemK V (x :: m2).length cv 1 (by simp) W
          have HKT := Lib.hid (KRow.tail (w := w) hr (hfar (by simp)) hcv hcm2)
          have HS2 : Hid (sumK m2 ≤ 1000000) := by have := sumK_cons x m2; show _ ≤ _; omega
          have HL2 : Hid (m2.length ≤ 100001) := by simp at hml; show _ ≤ _; omega
          have HMM : Hid ((x :: m2).length = m2.length + 1) := by show _ = _; simp
          clear hr hfar hcv hcm2 hov hsm hml HK
          generalize hsu : sumK (x :: m2) = su at *
          generalize hq : (x :: m2).length = n1 at *
          clear hsu
          have HQ := Lib.hid hq
          clear hq
          go_wp2_with fail
          refine HU.out.mono ?_
          rintro e w3 ⟨rfl, rfl⟩
          go_wp2_with fail
          go_roundw
          case rel => exact ⟨m2, HKT, by rw [HFE.out, HFX.out]; rfl, HBr, HS2.out, HL2.out⟩
          case measure => have := HMM.out; simp only [lenS]; omega
      · have g3 : ¬ bud < sumK m := hov
        have g4 : decide (sumK m > bud) = false := decide_eq_false hov
        have HFX : Hid (fitK bud (onK p t l) = m) := by
          show _ = _
          rw [HFE.out]
          cases m with
          | nil => rfl
          | cons x m2 => exact if_neg hov
        have HKR : Hid (KRow w w.heap.size m (.slice V m.length cv) wr) := HK.out
        clear hr hfar hcv hcm2 hov hsm HK
        generalize hsu : sumK m = su at *
        clear hsu
        go_wp2_with fail
        refine HU.out.mono ?_
        rintro e w3 ⟨rfl, rfl⟩
        go_wp2_with fail
        go_ret
        rw [HFX.out]
        exact ⟨⟨_, rfl, HKR.out⟩, HBr.out⟩
  · have e1 : findV p l = -1 := if_neg hp
    have hpn : offK p l = l := offK_none (pos_not (by have := pos_le p l; omega)).2
    rw [e1] at HFD
    have HRW : Hid (Reads w w.heap.size 2 A (offK p l).length (kcells (offK p l))) := by rw [hpn]; exact HR.out
    have HPN := Lib.hid hpn
    clear hp HOFF e1 h hpn
    go_enter Tryd.func18, Tryd.ntmps18
    go_wp2_with fail
    refine HFD.out.mono ?_
    rintro e wX ⟨rfl, hw0⟩
    obtain rfl := hw0.symm
    have HBX := HB0
    rw [show l.length = (offK p l).length by rw [HPN.out]]
    go_upto_region 6 with (at_builtin; go_loud (refine wpList_app _ (.tmp 19) (.tmp 20) rfl rfl elemK rfl rfl (Own.nil _ w.heap.size _ 2) HRW.out (oneCells_k _) hF1 HBX.out.size ?_; intro V1 c1 w1 hO1 hL1 hG1))
    rw [Nat.zero_add, List.nil_append] at hO1
    have HO1 := Lib.hid hO1
    have HB1 : Hid (Below w.heap.size w w1) := HBX.out.trans (hL1.below (B := w.heap.size) HBX.out.size (by simp [ob]))
    have hz1 := HB1.out.size
    clear hO1 hL1 hG1
    go_wp2_with (at_builtin; go_loud (refine wpList_app _ (.tmp 22) (.tmp 26) rfl rfl elemK rfl rfl (HO1.out.alloc _) (HRX.out w1) h3 hF2 (by simp <;> omega) ?_; intro V2 c2 w2 hO2 hL2 hG2))
    have hcl : kcells (offK p l) ++ [Value.string p, .string t] = kcells (onK p t l) := by rw [HON.out]; simp [kcells]
    have hll : (onK p t l).length = (offK p l).length + 1 := by rw [HON.out]; simp
    rw [hcl] at hO2
    have HRL : Hid (KRow w w.heap.size (onK p t l) (.slice V2 ((offK p l).length + 1) c2) w2) := ⟨V2, c2, by rw [hll], by rw [hll]; exact hO2.reads, fun _ g hg => (hO2.lt g hg).1, by rw [hll]; exact hO2.cap_le, hO2.cap_max⟩
    have HB2 : Hid (Below w.heap.size w w2) := (HB1.out.alloc HB1.out.size _).trans (hL2.below (by simp <;> omega) (fun g hg => (HO1.out.lt g hg).1))
    have HLL := Lib.hid hll
    clear hO2 hL2 hG2 hz1 hcl hll
    go_loopw [10] (fun v wr => LoadKLoop w bud (onK p t l) v wr) (fun v _ => lenS v)
    case atStart => exact ⟨onK p t l, HRL, rfl, HB2, HS.out, by have := HLL.out; have := HLN.out; omega⟩
    case round =>
      obtain ⟨m, HK, HFE, HBr, hsm, hml⟩ := hrel
      obtain ⟨V, cv, rfl, hr, hfar, hcv, hcm2⟩ := HK.out
      have HU := Lib.hid (HUS.out wr V cv m hr (by omega) hsm)
      by_cases hov : bud < sumK m
      · cases m with
        | nil => simp [sumK] at hov; first | done | omega
        | cons x m2 =>
          have g3 : decide (sumK (x :: m2) > bud) = true := decide_eq_true hov
          have HFX : Hid (fitK bud (x :: m2) = fitK bud m2) := if_pos hov
          have hsl : ∀ W, (Instr.sliceAt 37 (.slice V (x :: m2).length cv) (some (.int .i64 1)) none none).run Tryd.prog W = .ok (.slice (tailA V cv 1 2) ((x :: m2).length - 1) (cv - 1)) W := fun W => run_tailAt elemK V (x :: m2).length cv 1 (by simp) W
          have HKT := Lib.hid (KRow.tail (w := w) hr (hfar (by simp)) hcv hcm2)
          have HS2 : Hid (sumK m2 ≤ 1000000) := by have := sumK_cons x m2; show _ ≤ _; omega
          have HL2 : Hid (m2.length ≤ 100001) := by simp at hml; show _ ≤ _; omega
          have HMM : Hid ((x :: m2).length = m2.length + 1) := by show _ = _; simp
          clear hr hfar hcv hcm2 hov hsm hml HK
          generalize hsu : sumK (x :: m2) = su at *
          generalize hq : (x :: m2).length = n1 at *
          clear hsu
          have HQ := Lib.hid hq
          clear hq
          go_wp2_with fail
          refine HU.out.mono ?_
          rintro e w3 ⟨rfl, rfl⟩
          go_wp2_with fail
          go_roundw
          case rel => exact ⟨m2, HKT, by rw [HFE.out, HFX.out]; rfl, HBr, HS2.out, HL2.out⟩
          case measure => have := HMM.out; simp only [lenS]; omega
      · have g3 : ¬ bud < sumK m := hov
        have g4 : decide (sumK m > bud) = false := decide_eq_false hov
        have HFX : Hid (fitK bud (onK p t l) = m) := by
          show _ = _
          rw [HFE.out]
          cases m with
          | nil => rfl
          | cons x m2 => exact if_neg hov
        have HKR : Hid (KRow w w.heap.size m (.slice V m.length cv) wr) := HK.out
        clear hr hfar hcv hcm2 hov hsm HK
        generalize hsu : sumK m = su at *
        clear hsu
        go_wp2_with fail
        refine HU.out.mono ?_
        rintro e w3 ⟨rfl, rfl⟩
        go_wp2_with fail
        go_ret
        rw [HFX.out]
        exact ⟨⟨_, rfl, HKR.out⟩, HBr.out⟩
end Go.Proofs.YtgjhkblnohcppaaDoor
