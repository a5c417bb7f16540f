/- 3 texts in one: each says ahead of itself what is proved, and its conditions. -/
import Derived.Test.YtngalkmmpjegkaaGreatDoorBookAt
import Derived.Test.YtngalkmmpjegkaaGreatDoorDocGo
import Derived.Test.YtngalkmmpjegkaaGreatDoorMarkSeen
import Derived.Test.YtngalkmmpjegkaaGreatDoorPlace4
/- Edits of a document: which ops they are, and ops done one behind the other. Plain. Conditions: none. -/
namespace Go.Proofs.YtngalkmmpjegkaaGreatDoor
open Go.RowKit
set_option linter.unusedVariables false
/-- A maker of an author's next ops. -/
structure LMk where
  who : Int
  n : Int
  ops : List LOp
namespace LMk
def put (m : LMk) (o : LOp) : LOp := ⟨⟨m.who, m.n + 1⟩, o.what, o.place, o.letter, o.seen⟩
def add (m : LMk) (o : LOp) : LMk := ⟨m.who, m.n + 1, m.ops ++ [m.put o]⟩
def wr (m : LMk) (p : ByteArray) (c : Int) : LMk := m.add ⟨⟨0, 0⟩, 1, p, c, []⟩
def st (m : LMk) (p : ByteArray) : LMk := m.add ⟨⟨0, 0⟩, 2, p, 0, []⟩
def next (m : LMk) (left right : ByteArray) : ByteArray := strOf (betweenRes left right m.who)
/-- Letters one behind the other: the maker then, and what is wrong. -/
def typed (right : ByteArray) : List UInt8 → ByteArray → LMk → LMk × Int
  | [], _, m => (m, 0)
  | c :: t, left, m => if betweenErr left right m.who ≠ 0 then (m, betweenErr left right m.who) else typed right t (m.next left right) (m.wr (m.next left right) c.toNat)
/-- Letters from one offset to another one are struck. -/
def strikes (a b : Int) : List LLeaf → Int → LMk → LMk
  | [], _, m => m
  | x :: l, at_, m => if seenB x = true then strikes a b l (at_ + 1) (if a ≤ at_ ∧ at_ < b then m.st x.place else m) else strikes a b l at_ m
end LMk
def idxOf (l : List LLeaf) (off : Int) : Nat := if 0 < off then (nthFrom 0 l (off - 1)).toNat + 1 else 0
def leftOf (l : List LLeaf) (off : Int) : ByteArray := if 0 < off then (l.getD ((nthFrom 0 l (off - 1)).toNat) default).place else ⟨#[]⟩
def rightOf (l : List LLeaf) (i : Nat) : ByteArray := if i < l.length then (l.getD i default).place else ⟨#[]⟩
def badC (c : UInt8) : Bool := !letterB (c.toNat : Int)
def insErr (l : List LLeaf) (off : Int) (text : ByteArray) : Int := if 200 < text.size then 4 else if text.toList.any badC = true then 1 else if off < 0 ∨ ((textOf l).size : Int) < off then 1 else 0
namespace LMk
def ins (m : LMk) (l : List LLeaf) (off : Int) (text : ByteArray) : LMk × Int := if insErr l off text ≠ 0 then (m, insErr l off text) else typed (rightOf l (idxOf l off)) text.toList (leftOf l off) m
def del (m : LMk) (l : List LLeaf) (a b : Int) : LMk × Int := if a < 0 ∨ b < a ∨ ((textOf l).size : Int) < b then (m, 1) else (strikes a b l 0 m, 0)
end LMk
namespace LDoc
def maker (d : LDoc) (who : Int) : LMk := ⟨who, nOf d.known ⟨who, 0⟩, []⟩
def whoE (who : Int) : Int := if who < 1 ∨ 8 < who then 1 else 0
def insE (d : LDoc) (who off : Int) (text : ByteArray) : Int := if whoE who ≠ 0 then 1 else ((d.maker who).ins d.book off text).2
def insR (d : LDoc) (who off : Int) (text : ByteArray) : List LOp := if d.insE who off text = 0 then ((d.maker who).ins d.book off text).1.ops else []
def delE (d : LDoc) (who a b : Int) : Int := if whoE who ≠ 0 then 1 else ((d.maker who).del d.book a b).2
def delR (d : LDoc) (who a b : Int) : List LOp := if d.delE who a b = 0 then ((d.maker who).del d.book a b).1.ops else []
/-- The place of the letter at an offset. -/
def spot (d : LDoc) (off : Int) : ByteArray := (d.book.getD ((nthFrom 0 d.book off).toNat) default).place
def splE (d : LDoc) (who off : Int) : Int := if whoE who ≠ 0 then 1 else atErr d.book off
def splR (d : LDoc) (who off : Int) : List LOp := if d.splE who off = 0 then ((d.maker who).add ⟨⟨0, 0⟩, 3, d.spot off, 0, []⟩).ops else []
def fusE (d : LDoc) (who off : Int) : Int := if whoE who ≠ 0 then 1 else if atErr d.book off ≠ 0 then atErr d.book off else if seenAt d.marks (d.spot off) = [] then 5 else 0
def fusR (d : LDoc) (who off : Int) : List LOp := if d.fusE who off = 0 then ((d.maker who).add ⟨⟨0, 0⟩, 4, d.spot off, 0, seenAt d.marks (d.spot off)⟩).ops else []
/-- Ops one behind the other, till one is refused. -/
def doE (d : LDoc) : List LOp → Int
  | [] => 0
  | o :: t => if d.applyE o ≠ 0 then d.applyE o else (d.apply o).doE t
def doR (d : LDoc) : List LOp → LDoc
  | [] => d
  | o :: t => if d.applyE o ≠ 0 then d else (d.apply o).doR t
theorem doR_ok : ∀ (l : List LOp) {d : LDoc}, d.Ok → (d.doR l).Ok
  | [], _, h => h
  | o :: t, d, h => by
    unfold doR
    split
    · exact h
    · exact doR_ok t (apply_ok h o)
end LDoc
end Go.Proofs.YtngalkmmpjegkaaGreatDoor
/- What lies between: above the one, below the other, a place of its author. Plain lemmas. Conditions: stated with each. -/
namespace Go.Proofs.YtngalkmmpjegkaaGreatDoor
open Go.RowKit
set_option linter.unusedVariables false

theorem less_asymm : ∀ (x y : List UInt8), Op.bytesLess x y = true → Op.bytesLess y x = false := by
  intro x
  induction x with
  | nil => intro y h; cases y <;> simp [Op.bytesLess] at h ⊢
  | cons a x ih =>
    intro y h
    cases y with
    | nil => simp [Op.bytesLess] at h
    | cons b y =>
      simp only [Op.bytesLess, Bool.or_eq_true, Bool.and_eq_true, decide_eq_true_eq, beq_iff_eq, Bool.or_eq_false_iff, Bool.and_eq_false_iff, decide_eq_false_iff_not, beq_eq_false_iff_ne] at h ⊢
      rcases h with h | ⟨rfl, h⟩
      · refine ⟨fun h2 => ?_, .inl (fun h2 => ?_)⟩
        · have h1 := UInt8.lt_iff_toNat_lt.1 h; have h3 := UInt8.lt_iff_toNat_lt.1 h2; omega
        · subst h2; have h1 := UInt8.lt_iff_toNat_lt.1 h; omega
      · exact ⟨fun h2 => by have h3 := UInt8.lt_iff_toNat_lt.1 h2; omega, .inr (ih y h)⟩
theorem less_irrefl (x : List UInt8) : Op.bytesLess x x = false := by
  cases h : Op.bytesLess x x
  · rfl
  · rw [less_asymm x x h] at h; cases h

/-- All are letters from a to z. -/
def LowL (l : List UInt8) : Prop := ∀ c ∈ l, 97 ≤ c.toNat ∧ c.toNat ≤ 122
/-- The number of the first n letters, from the front. -/
def numF : List UInt8 → Nat → Nat
  | _, 0 => 0
  | [], _ + 1 => 0
  | c :: t, n + 1 => (c.toNat - 97) * 26 ^ n + numF t n
def digL (l : List UInt8) (i : Nat) : Nat := match l[i]? with | some c => c.toNat - 97 | none => 0
theorem numF_succ (l : List UInt8) (n : Nat) : numF l (n + 1) = numF l n * 26 + digL l n := by
  induction n generalizing l with
  | zero => cases l <;> simp [numF, digL]
  | succ n ih =>
    cases l with
    | nil => simp [numF, digL]
    | cons c t =>
      rw [numF, ih t, numF]
      have : digL (c :: t) (n + 1) = digL t n := by simp [digL]
      rw [this, Nat.add_mul, Nat.pow_succ, Nat.mul_assoc]
      omega
theorem dig_eq (s : ByteArray) (i : Nat) : dig s i = digL s.toList i := by
  unfold dig digL
  have hl := toList_len s
  by_cases h : i < s.size
  · rw [if_pos h, byteAt_in h, List.getElem?_eq_getElem (by omega)]
    have : s.toList[i]'(by omega) = s[i] := by
      simp only [ByteArray.toList_eq]
      rfl
    simp [this]
  · rw [if_neg h, List.getElem?_eq_none (by omega)]
theorem numb_eq (s : ByteArray) (n : Nat) : numb s n = numF s.toList n := by
  induction n with
  | zero => simp [numb, numF]
  | succ n ih => rw [numF_succ, ← ih, ← dig_eq]; rfl
theorem low_of {s : ByteArray} (h : Letters s) : LowL s.toList := by
  intro c hc
  obtain ⟨i, hi, rfl⟩ := List.mem_iff_getElem.1 hc
  have hl := toList_len s
  have := h i (by omega)
  rw [byteAt_in (by omega)] at this
  have e : s.toList[i] = s[i]'(by omega) := by
    simp only [ByteArray.toList_eq]
    rfl
  rw [e]
  exact this
theorem numF_lt {l : List UInt8} (h : LowL l) (n : Nat) : numF l n < 26 ^ n := by
  induction n generalizing l with
  | zero => simp [numF]
  | succ n ih =>
    cases l with
    | nil => simp [numF]; exact Nat.pos_of_ne_zero (by simp)
    | cons c t =>
      have h1 := h c (by simp)
      have h2 := ih (l := t) (fun d hd => h d (by simp [hd]))
      rw [numF, Nat.pow_succ]
      have h3 : (c.toNat - 97) * 26 ^ n ≤ 25 * 26 ^ n := Nat.mul_le_mul_right _ (by omega)
      omega
theorem less_num {x : List UInt8} (r : List UInt8) (hx : LowL x) : ∀ {l : List UInt8}, LowL l → numF l x.length < numF x x.length → Op.bytesLess l (x ++ r) = true := by
  induction x with
  | nil => intro l _ h; simp [numF] at h
  | cons d u ih =>
    intro l hl h
    cases l with
    | nil => rfl
    | cons c t =>
      have hd := hx d (by simp)
      have hc := hl c (by simp)
      have hu : LowL u := fun e he => hx e (by simp [he])
      have ht : LowL t := fun e he => hl e (by simp [he])
      simp only [List.length_cons, numF] at h
      have h1 := numF_lt hu u.length
      have h2 := numF_lt ht u.length
      simp only [List.cons_append, Op.bytesLess, Bool.or_eq_true, Bool.and_eq_true, decide_eq_true_eq, beq_iff_eq]
      rcases Nat.lt_trichotomy c.toNat d.toNat with hlt | heq | hgt
      · exact .inl (UInt8.lt_iff_toNat_lt.2 hlt)
      · exact .inr ⟨UInt8.toNat_inj.1 heq, ih hu ht (by rw [heq] at h; omega)⟩
      · exfalso
        have : (d.toNat - 97 + 1) * 26 ^ u.length ≤ (c.toNat - 97) * 26 ^ u.length := Nat.mul_le_mul_right _ (by omega)
        rw [Nat.add_mul] at this
        omega
theorem num_less {x : List UInt8} (r : List UInt8) (hx : LowL x) : ∀ {l : List UInt8}, LowL l → numF x x.length < numF l x.length → Op.bytesLess (x ++ r) l = true := by
  induction x with
  | nil => intro l _ h; simp [numF] at h
  | cons d u ih =>
    intro l hl h
    cases l with
    | nil => simp [numF] at h
    | cons c t =>
      have hd := hx d (by simp)
      have hc := hl c (by simp)
      have hu : LowL u := fun e he => hx e (by simp [he])
      have ht : LowL t := fun e he => hl e (by simp [he])
      simp only [List.length_cons, numF] at h
      have h1 := numF_lt hu u.length
      have h2 := numF_lt ht u.length
      simp only [List.cons_append, Op.bytesLess, Bool.or_eq_true, Bool.and_eq_true, decide_eq_true_eq, beq_iff_eq]
      rcases Nat.lt_trichotomy d.toNat c.toNat with hlt | heq | hgt
      · exact .inl (UInt8.lt_iff_toNat_lt.2 hlt)
      · exact .inr ⟨UInt8.toNat_inj.1 heq, ih hu ht (by rw [heq] at h; omega)⟩
      · exfalso
        have : (c.toNat - 97 + 1) * 26 ^ u.length ≤ (d.toNat - 97) * 26 ^ u.length := Nat.mul_le_mul_right _ (by omega)
        rw [Nat.add_mul] at this
        omega
theorem let_nat (x : Nat) : (UInt8.ofNat (97 + x % 26)).toNat = 97 + x % 26 := by simp; omega
theorem lets_low (x n : Nat) : LowL (lets x n) := by
  induction n generalizing x with
  | zero => intro c hc; simp [lets] at hc
  | succ n ih =>
    intro c hc
    simp only [lets, List.mem_append, List.mem_singleton] at hc
    rcases hc with hc | rfl
    · exact ih _ c hc
    · rw [let_nat]; omega
theorem numF_snoc (l : List UInt8) (c : UInt8) : numF (l ++ [c]) (l.length + 1) = numF l l.length * 26 + (c.toNat - 97) := by
  rw [numF_succ]
  congr 1
  · have : ∀ (n : Nat) (l m : List UInt8), n ≤ l.length → numF (l ++ m) n = numF l n := by
      intro n
      induction n with
      | zero => intro l m _; simp [numF]
      | succ n ih =>
        intro l m h
        cases l with
        | nil => simp at h
        | cons a l => simp only [List.cons_append, numF]; rw [ih l m (by simpa using h)]
    rw [this _ _ _ (Nat.le_refl _)]
  · simp [digL]
theorem lets_num {x n : Nat} (h : x < 26 ^ n) : numF (lets x n) n = x := by
  induction n generalizing x with
  | zero => simp at h; subst h; simp [numF]
  | succ n ih =>
    have h2 : x / 26 < 26 ^ n := by rw [Nat.div_lt_iff_lt_mul (by decide)]; rwa [Nat.pow_succ] at h
    have h3 := numF_snoc (lets (x / 26) n) (UInt8.ofNat (97 + x % 26))
    rw [lets_len, ih h2, let_nat] at h3
    rw [lets, h3]
    omega

/-- Where the quarter is. -/
theorem quarter_at {a b : ByteArray} : ∀ (f n : Nat), quarterFrom a b n f ≠ [] → ∃ m, n ≤ m ∧ m < n + f ∧ 1 ≤ many a b m ∧ quarterFrom a b n f = lets (val a b m) m := by
  intro f
  induction f with
  | zero => intro n h; simp [quarterFrom] at h
  | succ f ih =>
    intro n h
    by_cases hm : many a b n < 1
    · rw [from_next hm] at h ⊢
      obtain ⟨m, h1, h2, h3⟩ := ih (n + 1) h
      exact ⟨m, by omega, by omega, h3⟩
    · exact ⟨n, by omega, by omega, by omega, from_here hm⟩
theorem val_props {a b : ByteArray} {m : Nat} (h : 1 ≤ many a b m) : numb a m < val a b m ∧ (val a b m : Int) ≤ high b m ∧ val a b m % 26 ≠ 0 := by
  have hlow : ¬ high b m < numb a m := fun h2 => by have := many_low h2; omega
  have h1 := many_eq hlow
  have h2 := val_eq hlow (by omega)
  generalize many a b m = M at *
  generalize high b m = H at *
  generalize numb a m = L at *
  generalize val a b m = v at *
  refine ⟨?_, ?_, ?_⟩ <;> omega

structure Good (a b : ByteArray) (who : Int) (p : ByteArray) : Prop where
  check : placeErr p = 0
  who : ((byteAt p (p.size - 1) - 97 : Nat) : Int) = who
  long : (p.size : Int) = (quarter a b).length + 1
  room : roomErr a b = 0
  above : Op.bytesLess p.toList a.toList = false
  other : (p.toList == a.toList) = false
  below : b.size ≠ 0 → Op.bytesLess p.toList b.toList = true
theorem byteAt_strOf (l : List UInt8) (i : Nat) (h : i < l.length) : byteAt (strOf l) i = l[i].toNat := by
  rw [byteAt_in (by rw [strOf_size]; exact h)]
  rfl
theorem between_room {a b : ByteArray} {who : Int} (h : betweenErr a b who = 0) : 1 ≤ who ∧ who ≤ 8 ∧ roomErr a b = 0 := by
  unfold betweenErr at h
  split at h
  · cases h
  · exact ⟨by omega, by omega, h⟩
theorem room_parts {a b : ByteArray} (h : roomErr a b = 0) : readyErr a b = 0 ∧ quarter a b ≠ [] := by
  unfold roomErr at h
  split at h
  · rename_i h1; exact absurd h h1
  · rename_i h1
    split at h
    · cases h
    · rename_i h2; exact ⟨Decidable.byContradiction h1, h2⟩
theorem good_of {a b : ByteArray} {who : Int} (h : betweenErr a b who = 0) : Good a b who (strOf (betweenRes a b who)) := by
  obtain ⟨hw1, hw2, hroom⟩ := between_room h
  obtain ⟨hready, hq⟩ := room_parts hroom
  obtain ⟨⟨ka, la⟩, kb, lb⟩ := ready_ok hready
  have hres : betweenRes a b who = quarter a b ++ [UInt8.ofNat (97 + who.toNat)] := if_pos h
  obtain ⟨m, hm1, hm2, hmany, hqm⟩ := quarter_at 11 1 hq
  change quarter a b = _ at hqm
  obtain ⟨v1, v2, v3⟩ := val_props hmany
  have hhigh := (high_le (a := a) lb m (by omega)).1
  have hv26 : val a b m < 26 ^ m := by
    have h3 := numb_lt lb m
    unfold high at v2
    split at v2
    · have : 0 < 26 ^ m := Nat.pos_of_ne_zero (by simp)
      omega
    · omega
  have hnum := lets_num hv26
  have hlow := lets_low (val a b m) m
  have hlen := lets_len (val a b m) m
  have hc : (UInt8.ofNat (97 + who.toNat)).toNat = 97 + who.toNat := by simp; omega
  have hless : Op.bytesLess a.toList (betweenRes a b who) = true := by
    rw [hres, hqm]
    refine less_num _ hlow (low_of la) ?_
    rw [hlen, ← numb_eq, hnum]
    exact v1
  have hal : LowL (betweenRes a b who) := by
    rw [hres, hqm]
    intro c hcm
    rcases List.mem_append.1 hcm with h1 | h1
    · exact hlow c h1
    · simp only [List.mem_singleton] at h1
      subst h1
      rw [hc]; omega
  have hL : (betweenRes a b who).length = m + 1 := by rw [hres, hqm]; simp [hlen]
  have hlast : (betweenRes a b who)[m]'(by omega) = UInt8.ofNat (97 + who.toNat) := by
    simp only [hres, hqm]
    rw [List.getElem_append_right (by omega)]
    simp
  have hlets : ∃ k, m = k + 1 := ⟨m - 1, by omega⟩
  obtain ⟨k, rfl⟩ := hlets
  have hprev : ((betweenRes a b who)[k]'(by omega)).toNat ≠ 97 := by
    simp only [hres, hqm]
    rw [List.getElem_append_left (by omega)]
    simp only [lets]
    rw [List.getElem_append_right (by rw [lets_len]; omega)]
    simp only [lets_len, Nat.sub_self, List.getElem_cons_zero, let_nat]
    omega
  have hsz : (strOf (betweenRes a b who)).size = k + 2 := by rw [strOf_size, hL]
  have b1 : byteAt (strOf (betweenRes a b who)) (k + 1) = 97 + who.toNat := by rw [byteAt_strOf _ _ (by omega), hlast, hc]
  refine ⟨?_, ?_, ?_, hroom, ?_, ?_, ?_⟩
  · unfold placeErr
    rw [if_neg (by omega), if_pos]
    refine ⟨fun i hi => ?_, by omega, ?_, ?_, ?_⟩
    · rw [hsz] at hi
      rw [byteAt_strOf _ _ (by omega)]
      exact hal _ (List.getElem_mem _)
    · rw [hsz, show k + 2 - 1 = k + 1 by omega, b1]; omega
    · rw [hsz, show k + 2 - 1 = k + 1 by omega, b1]; omega
    · rw [hsz, show k + 2 - 2 = k by omega, byteAt_strOf _ _ (by omega)]; exact hprev
  · rw [hsz, show k + 2 - 1 = k + 1 by omega, b1]; omega
  · rw [hsz, hqm, hlen]; omega
  · rw [strOf_toList]; exact less_asymm _ _ hless
  · rw [strOf_toList]
    cases hh : (betweenRes a b who == a.toList)
    · rfl
    · exfalso
      rw [beq_iff_eq] at hh
      rw [hh, less_irrefl] at hless
      cases hless
  · intro hb
    rw [strOf_toList, hres, hqm]
    refine num_less _ hlow (low_of lb) ?_
    rw [hlen, hnum, ← numb_eq]
    unfold high at v2
    rw [if_neg hb] at v2
    omega
theorem same_iff {a b : ByteArray} {who other : Int} (h : betweenErr a b who = 0) (h2 : betweenErr a b other = 0) :
    (((strOf (betweenRes a b other)).toList == (strOf (betweenRes a b who)).toList) == (other == who)) = true := by
  obtain ⟨hw1, hw2, hroom⟩ := between_room h
  obtain ⟨ho1, ho2, _⟩ := between_room h2
  have e1 : betweenRes a b who = quarter a b ++ [UInt8.ofNat (97 + who.toNat)] := if_pos h
  have e2 : betweenRes a b other = quarter a b ++ [UInt8.ofNat (97 + other.toNat)] := if_pos h2
  rw [strOf_toList, strOf_toList, beq_iff_eq, Bool.eq_iff_iff, beq_iff_eq, beq_iff_eq, e1, e2]
  constructor
  · intro hh
    have hh2 := List.append_cancel_left hh
    simp only [List.cons.injEq, and_true] at hh2
    have h3 := congrArg UInt8.toNat hh2
    have c1 : (UInt8.ofNat (97 + who.toNat)).toNat = 97 + who.toNat := by simp; omega
    have c2 : (UInt8.ofNat (97 + other.toNat)).toNat = 97 + other.toNat := by simp; omega
    omega
  · intro hh; rw [hh]
end Go.Proofs.YtngalkmmpjegkaaGreatDoor
/- The o-th leaf that is seen: plain. Conditions: none. -/
namespace Go.Proofs.YtngalkmmpjegkaaGreatDoor
set_option linter.unusedVariables false
theorem textL_cons (x : LLeaf) (l : List LLeaf) : textL (x :: l) = (if seenB x = true then [u8 x.letter] else []) ++ textL l := by
  unfold textL
  rw [List.filter_cons]
  split <;> simp
theorem nth_seen : ∀ (l : List LLeaf) (k o : Nat), o < (textL l).length → ∃ n, ∃ hn : n < l.length, nthFrom k l (o : Int) = ((k + n : Nat) : Int) ∧ seenB l[n] = true ∧ (textL (l.take n)).length = o := by
  intro l
  induction l with
  | nil => intro k o h; simp [textL] at h
  | cons x l ih =>
    intro k o h
    rw [textL_cons] at h
    unfold nthFrom
    by_cases hs : seenB x = true
    · rw [if_pos hs] at h ⊢
      rcases Nat.eq_zero_or_pos o with h0 | h0
      · subst h0
        exact ⟨0, by simp, by simp, hs, by simp [textL]⟩
      · obtain ⟨o', rfl⟩ : ∃ o', o = o' + 1 := ⟨o - 1, by omega⟩
        simp only [List.length_append, List.length_cons, List.length_nil] at h
        obtain ⟨n, hn, h1, h2, h3⟩ := ih (k + 1) o' (by omega)
        refine ⟨n + 1, by simp; omega, ?_, by simpa using h2, ?_⟩
        · rw [if_neg (by omega), show ((o' + 1 : Nat) : Int) - 1 = (o' : Int) by omega, h1]; omega
        · rw [List.take_succ_cons, textL_cons, if_pos hs]; simp [h3]
    · rw [if_neg hs] at h ⊢
      obtain ⟨n, hn, h1, h2, h3⟩ := ih (k + 1) o (by simpa using h)
      refine ⟨n + 1, by simp; omega, by rw [h1]; omega, by simpa using h2, ?_⟩
      rw [List.take_succ_cons, textL_cons, if_neg hs]; simpa using h3
end Go.Proofs.YtngalkmmpjegkaaGreatDoor
