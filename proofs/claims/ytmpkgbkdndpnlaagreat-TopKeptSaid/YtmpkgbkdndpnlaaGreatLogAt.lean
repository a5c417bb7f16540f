/- 5 texts in one: each says ahead of itself what is proved, and its conditions. -/
import Derived.Test.YtmpkgbkdndpnlaaGreatDecode
import Derived.Test.YtmpkgbkdndpnlaaGreatDocHelp
import Derived.Test.YtmpkgbkdndpnlaaGreatDocRead
import Derived.Test.YtmpkgbkdndpnlaaGreatEditSpec
import Derived.Test.YtmpkgbkdndpnlaaGreatOpEnc
import Derived.Test.YtmpkgbkdndpnlaaGreatOpenOps
/- op.Pack, walked: the exact bytes of a parcel, or what is wrong. Conditions: stated. -/
namespace Go.Proofs.YtmpkgbkdndpnlaaGreat
open Go.RowKit
set_option linter.unusedVariables false
def opsErr : List LOp → Int
  | [] => 0
  | o :: t => if opErr o = 0 then opsErr t else opErr o
def twoB (n : Nat) : List UInt8 := [u8 ((n : Int) / 256), u8 ((n : Int) % 256)]
def packBody (l : List LOp) : List UInt8 := l.flatMap fun o => twoB (opBytes o).length ++ opBytes o
def packErr (l : List LOp) : Int := if 400 < l.length then 4 else opsErr l
def packBytes (l : List LOp) : List UInt8 := twoB l.length ++ packBody l
def packRes (l : List LOp) : ByteArray := if packErr l = 0 then strOf (packBytes l) else ⟨#[]⟩
def PackPost (w : World) (l : List LOp) (e : Ending) (w' : World) : Prop := e = .returned (.tuple #[.string (packRes l), errV (packErr l)]) ∧ Below w.heap.size w w'
theorem opsErr_append {l : List LOp} {o : LOp} {t : List LOp} (h : opsErr l = 0) : opsErr (l ++ o :: t) = if opErr o = 0 then opsErr t else opErr o := by
  induction l with
  | nil => rfl
  | cons a l ih =>
    unfold opsErr at h
    by_cases ha : opErr a = 0
    · rw [if_pos ha] at h
      rw [List.cons_append, opsErr, if_pos ha, ih h]
    · rw [if_neg ha] at h; exact absurd h ha
theorem opBytes_len {o : LOp} (h : opErr o = 0) : (opBytes o).length ≤ 139 := by
  have := body_len (opOk_of h)
  unfold opBytes
  rw [List.length_append]
  simp only [List.length_cons, List.length_nil]
  omega
theorem packBody_len {l : List LOp} (h : opsErr l = 0) : (packBody l).length ≤ 141 * l.length := by
  induction l with
  | nil => simp [packBody]
  | cons a l ih =>
    unfold opsErr at h
    by_cases ha : opErr a = 0
    · rw [if_pos ha] at h
      have := ih h
      have h2 := opBytes_len ha
      unfold packBody at this ⊢
      rw [List.flatMap_cons, List.length_append, List.length_append, List.length_cons]
      have h3 : (twoB (opBytes a).length).length = 2 := rfl
      omega
    · rw [if_neg ha] at h; exact absurd h ha
theorem own_str {wr : World} {B n cv : Nat} {V : Option Addr} {l : List UInt8} (h : Own wr B 5 1 V n cv (bs l)) (hn : 0 < n) :
    (convert 77 9 (.slice V n cv)).run Tryz.prog wr = .ok (.string (strOf l)) wr := by
  obtain ⟨g, rfl, _, _⟩ := h.head hn
  have hl := h.len
  rw [bs_len] at hl
  have hl : n = l.length := by omega
  subst hl
  refine run_convert_bytes_back (P := Tryz.prog) wr 77 9 5 ⟨g, 0, none⟩ cv l Tryz.underlying77 Tryz.underlying5 Tryz.underlying9 (fun j hj => ?_)
  have e : (⟨g, 0, none⟩ : Addr).add j = ⟨g, j, none⟩ := by unfold Addr.add; by_cases h : j = 0 <;> simp [h]
  rw [e, h.cellAt (by omega)]
  simp [bs, hj]
/-- Midway: so many ops are written. -/
structure PackSt (w : World) (l : List LOp) (k : Nat) (V : Option Addr) (n cv : Nat) (wr : World) : Prop where
  own : Own wr w.heap.size 5 1 V n cv (bs (twoB l.length ++ packBody (l.take k)))
  bel : Below w.heap.size w wr
  ok : opsErr (l.take k) = 0
def PackLoop (w : World) (l : List LOp) (i v : Value) (wr : World) : Prop := ∃ k V n cv, k ≤ l.length ∧ i = .int .i64 (k : Nat) ∧ v = .slice V n cv ∧ Hid (PackSt w l k V n cv wr)
end Go.Proofs.YtmpkgbkdndpnlaaGreat
/- op.Unpack, walked: the ops of a parcel, or ErrSyntax. -/
namespace Go.Proofs.YtmpkgbkdndpnlaaGreat
open Go.RowKit
set_option linter.unusedVariables false
def unpackN : Nat → List UInt8 → Option (List LOp)
  | 0, s => if s = [] then some [] else none
  | n + 1, c :: d :: t => if t.length < c.toNat * 256 + d.toNat then none else
      match decOf (strOf (t.take (c.toNat * 256 + d.toNat))) with
      | none => none
      | some o => (unpackN n (t.drop (c.toNat * 256 + d.toNat))).map (o :: ·)
  | _ + 1, _ => none
def unpackOf : List UInt8 → Option (List LOp)
  | c :: d :: t => if 400 < c.toNat * 256 + d.toNat then none else unpackN (c.toNat * 256 + d.toNat) t
  | _ => none
def UnpPost (w : World) (r : Option (List LOp)) (e : Ending) (w' : World) : Prop :=
  match r with
  | none => e = .returned (.tuple #[.slice none 0 0, errV 2]) ∧ Below w.heap.size w w'
  | some l => ∃ A c ys, e = .returned (.tuple #[.slice A l.length c, .nilIface]) ∧ ys.map OpAt.op = l ∧ Own w' w.heap.size 36 6 A l.length c (ocells ys) ∧
      (∀ y ∈ ys, Own w' w.heap.size 33 2 y.at_ y.op.seen.length y.cap (dcells y.op.seen) ∧ y.op.place.size ≤ 255) ∧ Below w.heap.size w w'
theorem load_cell (w : World) (g : Nat) (t : TypeId) (v : Value) (h : Blk w g t #[v]) : (loadVar 22 ⟨g, 0, none⟩).run Tryz.prog w = .ok v w := by
  have c : w.cell? ⟨g, 0, none⟩ = some v := by rw [h.cell]; rfl
  simp [go_sem, loadVar, c]
theorem elemOu : Elem Tryz.prog 22 36 6 72 := Elem.mk_ (z := .agg #[.int .i64 0, .int .i64 0, .int .i64 0, .string ⟨#[]⟩, .int .i64 0, .slice none 0 0]) Tryz.underlying22 (by kernel_rfl) rfl (by decide)
theorem Own.ne2 {w : World} {B B' size size' n n' c c' : Nat} {e e' : TypeId} {A A' : Option Addr} {xs xs' : List Value} (h : Own w B e size A n c xs) (h' : Own w B' e' size' A' n' c' xs') (hne : e ≠ e') : ∀ g ∈ ob A, g ∉ ob A' := by
  intro g hg
  rcases h.2 with ⟨he, _⟩ | ⟨g', cap, cur, he, _, hh, _⟩
  · injection he with he; subst he; simp [ob] at hg
  · injection he with he
    subst he
    have : g = g' := by simpa [ob] using hg
    subst this
    exact Own.blk_ne (t := e) h' hh (fun x => hne x.symm)
/-- Midway: so many ops are read. -/
structure UMid (w : World) (g0 m : Nat) (t : List UInt8) (k : Nat) (V : Option Addr) (cv : Nat) (ys : List OpAt) (rest : List UInt8) (wr : World) : Prop where
  rd : RdAt wr (g0 + 1 + 1) rest
  bel : Below g0 w wr
  res : Blk wr g0 22 #[.slice V k cv]
  err : Blk wr (g0 + 1) 29 #[.nilIface]
  own : Own wr g0 36 6 V k cv (ocells ys)
  seen : ∀ y ∈ ys, Own wr g0 33 2 y.at_ y.op.seen.length y.cap (dcells y.op.seen) ∧ y.op.place.size ≤ 255
  is : unpackN m t = (unpackN (m - k) rest).map fun r => ys.map OpAt.op ++ r
def ULoop (w : World) (g0 m : Nat) (t : List UInt8) (i : Value) (wr : World) : Prop :=
  ∃ k V cv ys rest, k ≤ m ∧ i = .int .i64 (k : Nat) ∧ Hid (UMid w g0 m t k V cv ys rest wr)
end Go.Proofs.YtmpkgbkdndpnlaaGreat
/- Parcels, as plain laws: what is packed is unpacked; what is unpacked is packed so. Conditions: none of our own. -/
namespace Go.Proofs.YtmpkgbkdndpnlaaGreat
open Go.RowKit
set_option linter.unusedVariables false
theorem twoB_nat {n : Nat} (h : n ≤ 65535) : ∃ c d : UInt8, twoB n = [c, d] ∧ c.toNat * 256 + d.toNat = n := by
  refine ⟨_, _, rfl, ?_⟩
  have h1 := u8_val (show (0 : Int) ≤ (n : Int) / 256 by omega) (show (n : Int) / 256 ≤ 255 by omega)
  have h2 := u8_val (show (0 : Int) ≤ (n : Int) % 256 by omega) (show (n : Int) % 256 ≤ 255 by omega)
  omega
theorem twoB_of (c d : UInt8) : twoB (c.toNat * 256 + d.toNat) = [c, d] := by
  have hc := UInt8.toNat_lt c
  have hd := UInt8.toNat_lt d
  unfold twoB u8
  have e1 : (((c.toNat * 256 + d.toNat : Nat) : Int) / 256).toNat = c.toNat := by omega
  have e2 : (((c.toNat * 256 + d.toNat : Nat) : Int) % 256).toNat = d.toNat := by omega
  rw [e1, e2]
  simp
theorem unpackN_pack {l : List LOp} (h : opsErr l = 0) : unpackN l.length (packBody l) = some l := by
  induction l with
  | nil => rfl
  | cons a l ih =>
    unfold opsErr at h
    by_cases ha : opErr a = 0
    · rw [if_pos ha] at h
      have h2 := opBytes_len ha
      obtain ⟨c, d, e1, e2⟩ := twoB_nat (n := (opBytes a).length) (by omega)
      have e : packBody (a :: l) = c :: d :: (opBytes a ++ packBody l) := by
        unfold packBody
        rw [List.flatMap_cons, e1]
        simp
      rw [e, List.length_cons, unpackN, e2, if_neg (by rw [List.length_append]; omega), List.take_left' rfl, List.drop_left' rfl, dec_enc ha, ih h]
      rfl
    · rw [if_neg ha] at h; exact absurd h ha
theorem unpack_pack {l : List LOp} (h : packErr l = 0) : unpackOf (packBytes l) = some l := by
  unfold packErr at h
  by_cases h4 : 400 < l.length
  · rw [if_pos h4] at h; omega
  · rw [if_neg h4] at h
    obtain ⟨c, d, e1, e2⟩ := twoB_nat (n := l.length) (by omega)
    have e : packBytes l = c :: d :: packBody l := by unfold packBytes; rw [e1]; rfl
    rw [e, unpackOf, e2, if_neg h4, unpackN_pack h]
theorem pack_unpackN {n : Nat} {t : List UInt8} {l : List LOp} (h : unpackN n t = some l) : opsErr l = 0 ∧ l.length = n ∧ packBody l = t := by
  induction n generalizing t l with
  | zero =>
    unfold unpackN at h
    by_cases ht : t = []
    · rw [if_pos ht] at h
      injection h with h
      subst h
      exact ⟨rfl, rfl, ht.symm⟩
    · rw [if_neg ht] at h; cases h
  | succ n ih =>
    match t, h with
    | c :: d :: t, h =>
      rw [unpackN] at h
      by_cases hq : t.length < c.toNat * 256 + d.toNat
      · rw [if_pos hq] at h; cases h
      · rw [if_neg hq] at h
        cases hd : decOf (strOf (t.take (c.toNat * 256 + d.toNat))) with
        | none => rw [hd] at h; cases h
        | some o =>
          rw [hd] at h
          simp only at h
          cases hu : unpackN n (t.drop (c.toNat * 256 + d.toNat)) with
          | none => rw [hu] at h; cases h
          | some l' =>
            rw [hu] at h
            injection h with h
            subst h
            obtain ⟨i1, i2, i3⟩ := ih hu
            obtain ⟨d1, d2⟩ := dec_some hd
            have d2' : opBytes o = t.take (c.toNat * 256 + d.toNat) := d2
            refine ⟨by rw [opsErr, if_pos d1]; exact i1, by rw [List.length_cons, i2], ?_⟩
            have hl : (opBytes o).length = c.toNat * 256 + d.toNat := by rw [d2', List.length_take]; omega
            have e : packBody (o :: l') = twoB (opBytes o).length ++ opBytes o ++ packBody l' := by unfold packBody; rw [List.flatMap_cons]
            rw [e, hl, twoB_of, d2', i3, List.append_assoc, List.take_append_drop]
            rfl
    | [], h => rw [unpackN] at h; cases h; simp
    | [a], h => rw [unpackN] at h; cases h; simp
theorem pack_unpack {t : List UInt8} {l : List LOp} (h : unpackOf t = some l) : packErr l = 0 ∧ packBytes l = t := by
  match t, h with
  | c :: d :: t, h =>
    rw [unpackOf] at h
    by_cases h4 : 400 < c.toNat * 256 + d.toNat
    · rw [if_pos h4] at h; cases h
    · rw [if_neg h4] at h
      obtain ⟨i1, i2, i3⟩ := pack_unpackN h
      refine ⟨by rw [packErr, i2, if_neg h4]; exact i1, ?_⟩
      rw [packBytes, i2, twoB_of, i3]
      rfl
  | [], h => cases h
  | [a], h => cases h
end Go.Proofs.YtmpkgbkdndpnlaaGreat
/- A log of ops as bytes, and what is redone of its beginnings: plain. Conditions: none. -/
namespace Go.Proofs.YtmpkgbkdndpnlaaGreat
open Go.RowKit
set_option linter.unusedVariables false
/-- An op as it stands in the log. -/
def logOp (o : LOp) : List UInt8 := twoB (opBytes o).length ++ opBytes o
theorem packBody_cons (o : LOp) (l : List LOp) : packBody (o :: l) = logOp o ++ packBody l := by unfold packBody logOp; rw [List.flatMap_cons]
theorem packBody_app (a b : List LOp) : packBody (a ++ b) = packBody a ++ packBody b := by unfold packBody; rw [List.flatMap_append]
theorem packBody_one (o : LOp) : packBody [o] = logOp o := by rw [packBody_cons]; simp [packBody]
theorem logOp_len (o : LOp) : (logOp o).length = 2 + (opBytes o).length := by
  unfold logOp
  rw [List.length_append]
  rfl
/-- Which ops are redone: so many tries. -/
def redoF : Nat → LDoc → List UInt8 → List LOp
  | f + 1, d, c :: e :: t => if t.length < c.toNat * 256 + e.toNat then [] else
      match decOf (strOf (t.take (c.toNat * 256 + e.toNat))) with
      | none => []
      | some o => if d.applyE o ≠ 0 then [] else o :: redoF f (d.apply o) (t.drop (c.toNat * 256 + e.toNat))
  | _, _, _ => []
def redoL (d : LDoc) (t : List UInt8) : List LOp := redoF t.length d t
theorem redoF_more : ∀ (f g : Nat) (d : LDoc) (t : List UInt8), t.length ≤ f → t.length ≤ g → redoF f d t = redoF g d t
  | 0, 0, d, t => fun _ _ => rfl
  | 0, g + 1, d, t => fun h _ => by obtain rfl := List.eq_nil_of_length_eq_zero (Nat.le_zero.1 h); rfl
  | f + 1, 0, d, t => fun _ h => by obtain rfl := List.eq_nil_of_length_eq_zero (Nat.le_zero.1 h); rfl
  | f + 1, g + 1, d, [] => fun _ _ => rfl
  | f + 1, g + 1, d, [_] => fun _ _ => rfl
  | f + 1, g + 1, d, c :: e :: t => fun h1 h2 => by
    simp only [List.length_cons] at h1 h2
    rw [redoF, redoF]
    split
    · rfl
    cases decOf (strOf (t.take (c.toNat * 256 + e.toNat))) with
    | none => rfl
    | some o =>
      simp only
      rw [redoF_more f g (d.apply o) (t.drop (c.toNat * 256 + e.toNat)) (by rw [List.length_drop]; omega) (by rw [List.length_drop]; omega)]
theorem redoL_short (d : LDoc) (t : List UInt8) (h : t.length < 2) : redoL d t = [] := by
  match t, h with
  | [], _ => rfl
  | [_], _ => rfl
theorem redoL_step (d : LDoc) (c e : UInt8) (t : List UInt8) : redoL d (c :: e :: t) = if t.length < c.toNat * 256 + e.toNat then [] else
      match decOf (strOf (t.take (c.toNat * 256 + e.toNat))) with
      | none => []
      | some o => if d.applyE o ≠ 0 then [] else o :: redoL (d.apply o) (t.drop (c.toNat * 256 + e.toNat)) := by
  unfold redoL
  rw [show (c :: e :: t).length = (t.length + 1) + 1 from rfl, redoF]
  split
  · rfl
  cases decOf (strOf (t.take (c.toNat * 256 + e.toNat))) with
  | none => rfl
  | some o =>
    simp only
    rw [redoF_more (t.length + 1) (t.drop (c.toNat * 256 + e.toNat)).length (d.apply o) (t.drop (c.toNat * 256 + e.toNat)) (by rw [List.length_drop]; omega) (Nat.le_refl _)]
/-- Ops that all go, each of them new. -/
def Goes : LDoc → List LOp → Prop
  | _, [] => True
  | d, o :: t => d.applyB o = true ∧ Goes (d.apply o) t
namespace LDoc
/-- Ops one behind the other, whatever is refused. -/
def all (d : LDoc) (l : List LOp) : LDoc := l.foldl apply d
theorem all_app (d : LDoc) (a b : List LOp) : d.all (a ++ b) = (d.all a).all b := List.foldl_append
theorem all_ok : ∀ (l : List LOp) {d : LDoc}, d.Ok → (d.all l).Ok
  | [], _, h => h
  | o :: t, d, h => all_ok t (apply_ok h o)
theorem applyB_E {d : LDoc} {o : LOp} (h : d.applyB o = true) : d.applyE o = 0 := by
  unfold applyB at h
  rw [Bool.and_eq_true, decide_eq_true_iff] at h
  exact h.1
end LDoc
theorem Goes.app : ∀ {d : LDoc} {a b : List LOp}, Goes d (a ++ b) ↔ Goes d a ∧ Goes (d.all a) b
  | d, [], b => ⟨fun h => ⟨trivial, h⟩, fun h => h.2⟩
  | d, o :: a, b => by
    show _ ∧ Goes _ (a ++ b) ↔ _
    rw [Goes.app]
    exact ⟨fun h => ⟨⟨h.1, h.2.1⟩, h.2.2⟩, fun h => ⟨h.1.1, h.1.2, h.2⟩⟩
theorem Goes.take {d : LDoc} {l : List LOp} (h : Goes d l) (k : Nat) : Goes d (l.take k) := (Goes.app.1 (by rw [List.take_append_drop]; exact h : Goes d (l.take k ++ l.drop k))).1
theorem Goes.ops : ∀ {d : LDoc} {l : List LOp}, Goes d l → (d.all l).ops = d.ops ++ l
  | d, [] => fun _ => by show d.ops = _; simp
  | d, o :: t => fun h => by
    show ((d.apply o).all t).ops = _
    rw [Goes.ops h.2]
    rcases LDoc.apply_three (d := d) o with ⟨_, _, q⟩ | ⟨q, _⟩ | ⟨_, q, _⟩
    · rw [q]; simp
    · rw [h.1] at q; cases q
    · rw [h.1] at q; cases q
theorem Goes.errs : ∀ {d : LDoc} {l : List LOp}, Goes d l → ∀ o ∈ l, opErr o = 0
  | d, [] => fun _ o ho => by simp at ho
  | d, x :: t => fun h o ho => by
    rcases List.mem_cons.1 ho with rfl | ho
    · have := LDoc.applyB_E h.1
      unfold LDoc.applyE at this
      split at this
      · omega
      · omega
    · exact Goes.errs h.2 o ho
/-- How many ops are whole among so many bytes. -/
def whole : List LOp → Nat → Nat
  | [], _ => 0
  | o :: t, k => if k < (logOp o).length then 0 else whole t (k - (logOp o).length) + 1
theorem whole_le : ∀ (l : List LOp) (k : Nat), whole l k ≤ l.length
  | [], _ => Nat.le_refl _
  | o :: t, k => by
    unfold whole
    split
    · omega
    · have := whole_le t (k - (logOp o).length); rw [List.length_cons]; omega
theorem logOp_two (o : LOp) (h : opErr o = 0) : ∃ c e : UInt8, logOp o = c :: e :: opBytes o ∧ c.toNat * 256 + e.toNat = (opBytes o).length := by
  have := opBytes_len h
  obtain ⟨c, e, h1, h2⟩ := twoB_nat (n := (opBytes o).length) (by omega)
  exact ⟨c, e, by unfold logOp; rw [h1]; rfl, h2⟩
/-- What is redone of a beginning of a log. -/
theorem redo_take : ∀ (l : List LOp) (d : LDoc) (k : Nat), Goes d l → redoL d ((packBody l).take k) = l.take (whole l k)
  | [], d, k => fun _ => by
    have : (packBody []).take k = [] := by simp [packBody]
    rw [this]; rfl
  | o :: t, d, k => fun h => by
    have he := Goes.errs h o (by simp)
    obtain ⟨c, e, h1, h2⟩ := logOp_two o he
    have hl := logOp_len o
    rw [packBody_cons]
    unfold whole
    by_cases hk : k < (logOp o).length
    · rw [if_pos hk, List.take_append_of_le_length (by omega), h1]
      match k, hk with
      | 0, _ => rfl
      | 1, _ => rfl
      | k + 2, hk =>
        rw [List.take_succ_cons, List.take_succ_cons, redoL_step, if_pos (by rw [List.length_take]; omega)]
        rfl
    · rw [if_neg hk, List.take_append, List.take_of_length_le (by omega), h1]
      show redoL d (c :: e :: (opBytes o ++ (packBody t).take _)) = _
      rw [redoL_step, if_neg (by rw [List.length_append]; omega), h2, List.take_append_of_le_length (Nat.le_refl _), List.take_of_length_le (Nat.le_refl _), dec_enc he, List.drop_append_of_le_length (Nat.le_refl _), List.drop_of_length_le (Nat.le_refl _), List.nil_append]
      simp only
      rw [if_neg (by rw [LDoc.applyB_E h.1]; simp), List.take_succ_cons, ← h1, redo_take t (d.apply o) _ h.2]
theorem whole_bytes : ∀ (l : List LOp) (k : Nat), (packBody (l.take (whole l k))).length ≤ k
  | [], k => by simp [packBody]
  | o :: t, k => by
    unfold whole
    split
    · simp [packBody]
    · have := whole_bytes t (k - (logOp o).length)
      rw [List.take_succ_cons, packBody_cons, List.length_append]
      omega
theorem whole_most : ∀ (l : List LOp) (k j : Nat), j ≤ l.length → (packBody (l.take j)).length ≤ k → j ≤ whole l k
  | [], k, j => fun h _ => by simp at h; subst h; exact Nat.zero_le _
  | o :: t, k, 0 => fun _ _ => Nat.zero_le _
  | o :: t, k, j + 1 => fun h1 h2 => by
    rw [List.take_succ_cons, packBody_cons, List.length_append] at h2
    unfold whole
    rw [if_neg (by omega)]
    have := whole_most t (k - (logOp o).length) j (by simpa using h1) (by omega)
    omega
theorem whole_all (l : List LOp) (k : Nat) (h : (packBody l).length ≤ k) : whole l k = l.length := by
  have h1 := whole_most l k l.length (Nat.le_refl _) (by rw [List.take_length]; exact h)
  have h2 := whole_le l k
  omega
theorem whole_min (l : List LOp) (k : Nat) : ((packBody l).take k).take ((packBody (l.take (whole l k))).length) = packBody (l.take (whole l k)) := by
  have h1 := whole_bytes l k
  rw [List.take_take, Nat.min_eq_left h1]
  generalize whole l k = m at *
  have h2 : packBody l = packBody (l.take m) ++ packBody (l.drop m) := by rw [← packBody_app, List.take_append_drop]
  rw [h2, List.take_append_of_le_length (Nat.le_refl _), List.take_of_length_le (Nat.le_refl _)]
theorem packBody_few {l : List LOp} (h : ∀ o ∈ l, opErr o = 0) : (packBody l).length ≤ 141 * l.length := by
  induction l with
  | nil => simp [packBody]
  | cons o t ih =>
    have := ih (fun x hx => h x (by simp [hx]))
    have h2 := opBytes_len (h o (by simp))
    rw [packBody_cons, List.length_append, logOp_len, List.length_cons]
    omega
end Go.Proofs.YtmpkgbkdndpnlaaGreat
/- A log in memory, and what its steps make of it: plain lemmas. Conditions: none. -/
namespace Go.Proofs.YtmpkgbkdndpnlaaGreat
open Go.RowKit
set_option linter.unusedVariables false
/-- A log: its bytes are a beginning of those of some ops. -/
structure LLog where
  all : List LOp
  m : Nat
  safe : Nat
  left : Int
  stopped : Bool
namespace LLog
def bytes (L : LLog) : List UInt8 := (packBody L.all).take L.m
def kept (L : LLog) : List LOp := L.all.take (whole L.all L.m)
def doc (L : LLog) : LDoc := LDoc.new.all L.kept
def new : LLog := ⟨[], 0, 0, -1, false⟩
structure Ok (L : LLog) : Prop where
  goes : Goes LDoc.new L.all
  len : L.m ≤ (packBody L.all).length
  safe : L.safe ≤ L.m
  full : L.stopped = false → L.m = (packBody L.all).length
  left : -1 ≤ L.left ∧ L.left ≤ 9223372036854775807
def down (n : Int) : Int := if n < 0 then -1 else n - 1
def fail (L : LLog) (n : Int) : LLog := { L with left := if n < -1 then -1 else n }
/-- A step: does it stop? -/
def step (L : LLog) : LLog := { L with left := down L.left, stopped := decide (L.left = 0) }
def putE (L : LLog) (o : LOp) : Int := if L.stopped = true then 6 else if L.doc.applyE o ≠ 0 then L.doc.applyE o else if L.doc.applyB o = false then 0 else if L.left = 0 then 6 else 0
def putB (L : LLog) (o : LOp) : Bool := !L.stopped && L.doc.applyB o && !decide (L.left = 0)
def put (L : LLog) (o : LOp) : LLog :=
  if L.stopped = true then L else if L.doc.applyB o = false then L
  else if L.left = 0 then ⟨L.all ++ [o], L.m + (logOp o).length / 2, L.safe, -1, true⟩
  else ⟨L.all ++ [o], L.m + (logOp o).length, L.safe, down L.left, false⟩
def syncE (L : LLog) : Int := if L.stopped = true then 6 else if L.left = 0 then 6 else 0
def sync (L : LLog) : LLog := if L.stopped = true then L else if L.left = 0 then { L with left := -1, stopped := true } else { L with left := down L.left, safe := L.m }
/-- How many bytes are there behind a crash. -/
def high (L : LLog) (keep : Int) : Nat := L.safe + (max 0 (min keep ((L.m : Int) - L.safe))).toNat
def crash (L : LLog) (keep : Int) : LLog := ⟨L.all.take (whole L.all (L.high keep)), (packBody (L.all.take (whole L.all (L.high keep)))).length, (packBody (L.all.take (whole L.all (L.high keep)))).length, -1, false⟩
theorem left_low : (-1 : Int) ≤ -1 ∧ (-1 : Int) ≤ 9223372036854775807 := by decide
theorem new_ok : new.Ok := ⟨trivial, Nat.le_refl _, Nat.le_refl _, fun _ => rfl, by decide⟩
theorem Ok.kept_all {L : LLog} (h : L.Ok) (hs : L.stopped = false) : L.kept = L.all := by
  unfold kept
  rw [whole_all _ _ (by rw [h.full hs]; exact Nat.le_refl _), List.take_length]
theorem Ok.bytes_all {L : LLog} (h : L.Ok) (hs : L.stopped = false) : L.bytes = packBody L.all := by
  unfold bytes
  rw [h.full hs, List.take_length]
theorem Ok.doc_ok {L : LLog} (h : L.Ok) : L.doc.Ok := LDoc.all_ok _ LDoc.new_ok
theorem Ok.bytes_len {L : LLog} (h : L.Ok) : L.bytes.length = L.m := by unfold bytes; rw [List.length_take, Nat.min_eq_left h.len]
theorem Ok.few {L : LLog} (h : L.Ok) : L.all.length ≤ 400 := by
  have h1 := h.goes.ops
  have h2 := (LDoc.all_ok L.all LDoc.new_ok).few
  rw [h1] at h2
  simpa [LDoc.new] using h2
theorem Ok.small {L : LLog} (h : L.Ok) : (packBody L.all).length ≤ 56400 := by
  have h1 := packBody_few (Goes.errs h.goes)
  have h2 := h.few
  omega
theorem Ok.m_small {L : LLog} (h : L.Ok) : L.m ≤ 56400 := Nat.le_trans h.len h.small
theorem down_range {n : Int} (h : -1 ≤ n ∧ n ≤ 9223372036854775807) : -1 ≤ down n ∧ down n ≤ 9223372036854775807 := by unfold down; split <;> omega
theorem Ok.goes_put {L : LLog} (h : L.Ok) (hs : L.stopped = false) {o : LOp} (hb : L.doc.applyB o = true) : Goes LDoc.new (L.all ++ [o]) := by
  refine Goes.app.2 ⟨h.goes, ?_, trivial⟩
  unfold doc at hb
  rw [h.kept_all hs] at hb
  exact hb
theorem Ok.fail {L : LLog} (h : L.Ok) {n : Int} (hn : n ≤ 9223372036854775807) : (L.fail n).Ok :=
  ⟨h.goes, h.len, h.safe, h.full, by unfold LLog.fail; simp only; split <;> omega⟩
theorem Ok.put {L : LLog} (h : L.Ok) (o : LOp) : (L.put o).Ok := by
  unfold LLog.put
  split
  · exact h
  rename_i hs
  have hs : L.stopped = false := by simpa using hs
  split
  · exact h
  rename_i hb
  have hb : L.doc.applyB o = true := by simpa using hb
  have hg := h.goes_put hs hb
  have hl : (packBody (L.all ++ [o])).length = (packBody L.all).length + (logOp o).length := by rw [packBody_app, packBody_one, List.length_append]
  have hf := h.full hs
  have h1 := h.safe
  split
  · exact ⟨hg, by simp only; rw [hl]; omega, by simp only; omega, fun hh => by simp at hh, left_low⟩
  · exact ⟨hg, by simp only; rw [hl]; omega, by simp only; omega, fun _ => by simp only; rw [hl, hf], down_range h.left⟩
theorem Ok.sync {L : LLog} (h : L.Ok) : L.sync.Ok := by
  unfold LLog.sync
  split
  · exact h
  split
  · exact ⟨h.goes, h.len, h.safe, fun hh => by simp at hh, left_low⟩
  · exact ⟨h.goes, h.len, Nat.le_refl _, h.full, down_range h.left⟩
theorem Ok.crash {L : LLog} (h : L.Ok) (keep : Int) : (L.crash keep).Ok :=
  ⟨h.goes.take _, Nat.le_refl _, Nat.le_refl _, fun _ => rfl, left_low⟩
theorem high_le {L : LLog} (h : L.Ok) (keep : Int) : L.high keep ≤ L.m := by
  have := h.safe
  unfold high
  omega
/-- What is redone of the bytes of a log. -/
theorem Ok.redo {L : LLog} (h : L.Ok) {k : Nat} (hk : k ≤ L.m) : redoL LDoc.new (L.bytes.take k) = L.all.take (whole L.all k) := by
  unfold bytes
  rw [List.take_take, Nat.min_eq_left hk]
  exact redo_take _ _ _ h.goes
theorem whole_snoc {l : List LOp} {o : LOp} {k : Nat} (hk : k < (logOp o).length) : whole (l ++ [o]) ((packBody l).length + k) = l.length := by
  have h1 := whole_most (l ++ [o]) ((packBody l).length + k) l.length (by simp) (by rw [List.take_left]; omega)
  have h2 := whole_bytes (l ++ [o]) ((packBody l).length + k)
  have h3 := whole_le (l ++ [o]) ((packBody l).length + k)
  rw [List.length_append, List.length_cons, List.length_nil] at h3
  rcases Nat.lt_or_ge l.length (whole (l ++ [o]) ((packBody l).length + k)) with h4 | h4
  · rw [List.take_of_length_le (by rw [List.length_append, List.length_cons, List.length_nil]; omega), packBody_app, packBody_one, List.length_append] at h2
    omega
  · omega
section
variable {L : LLog} (h : L.Ok) (hs : L.stopped = false) {o : LOp} (hb : L.doc.applyB o = true)
include h hs hb
theorem put_go (hl : L.left ≠ 0) : L.put o = ⟨L.all ++ [o], L.m + (logOp o).length, L.safe, down L.left, false⟩ ∧ (L.put o).doc = L.doc.apply o ∧ (L.put o).bytes = L.bytes ++ logOp o ∧ L.putE o = 0 ∧ L.putB o = true := by
  have e1 : L.put o = ⟨L.all ++ [o], L.m + (logOp o).length, L.safe, down L.left, false⟩ := by unfold put; rw [if_neg (by rw [hs]; decide), if_neg (by rw [hb]; decide), if_neg hl]
  have hf := h.full hs
  have hpl : (packBody (L.all ++ [o])).length = L.m + (logOp o).length := by rw [packBody_app, packBody_one, List.length_append, hf]
  refine ⟨e1, ?_, ?_, ?_, ?_⟩
  · rw [e1]
    unfold doc
    rw [h.kept_all hs]
    unfold kept
    simp only
    rw [whole_all _ _ (by rw [hpl]; exact Nat.le_refl _), List.take_length, LDoc.all_app]
    rfl
  · rw [e1, h.bytes_all hs]
    unfold bytes
    simp only
    rw [List.take_of_length_le (by rw [hpl]; exact Nat.le_refl _), packBody_app, packBody_one]
  · unfold putE
    rw [if_neg (by rw [hs]; decide), if_neg (by rw [LDoc.applyB_E hb]; simp), if_neg (by rw [hb]; decide), if_neg hl]
  · unfold putB
    rw [hs, hb, decide_eq_false hl]; rfl
theorem put_stop (hl : L.left = 0) : L.put o = ⟨L.all ++ [o], L.m + (logOp o).length / 2, L.safe, -1, true⟩ ∧ (L.put o).doc = LDoc.new.all (redoL LDoc.new L.bytes) ∧ (L.put o).bytes = L.bytes ++ (logOp o).take ((logOp o).length / 2) ∧ L.putE o = 6 ∧ L.putB o = false := by
  have e1 : L.put o = ⟨L.all ++ [o], L.m + (logOp o).length / 2, L.safe, -1, true⟩ := by unfold put; rw [if_neg (by rw [hs]; decide), if_neg (by rw [hb]; decide), if_pos hl]
  have hf := h.full hs
  have hlen := logOp_len o
  refine ⟨e1, ?_, ?_, ?_, ?_⟩
  · have hr := h.redo (Nat.le_refl L.m)
    rw [List.take_of_length_le (by rw [h.bytes_len]; exact Nat.le_refl _)] at hr
    rw [hr, e1]
    unfold doc kept
    simp only
    have hw := whole_snoc (l := L.all) (o := o) (k := (logOp o).length / 2) (by omega)
    rw [hf, hw, List.take_left, whole_all _ _ (Nat.le_refl _), List.take_length]
  · rw [e1, h.bytes_all hs]
    unfold bytes
    simp only
    rw [packBody_app, packBody_one, hf, List.take_append, List.take_of_length_le (by omega), Nat.add_sub_cancel_left]
  · unfold putE
    rw [if_neg (by rw [hs]; decide), if_neg (by rw [LDoc.applyB_E hb]; simp), if_neg (by rw [hb]; decide), if_pos hl]
  · unfold putB
    rw [hs, hb, decide_eq_true hl]; rfl
end
/-- The cells of a log. -/
def cells (L : LLog) (bd : Nat) : Array Value := #[.pointer (some ⟨bd, 0, none⟩), .string (strOf L.bytes), .int .i64 (L.safe : Nat), .int .i64 L.left, .bool L.stopped]
end LLog
/-- The log in block b has the cells of L, its document reads as st; its blocks are S. -/
structure LogSt (w : World) (B : Nat) (S : List Nat) (b : Nat) (L : LLog) (bd : Nat) (SD : List Nat) (D : DLay) (st : LDoc) : Prop where
  blk : Blk w b 68 (L.cells bd)
  doc : DocIs w B SD bd st D
  sub : ∀ g ∈ SD, g ∈ S
  subb : b ∈ S
  apart : b ∉ SD
  own : ∀ g ∈ S, B ≤ g ∧ g < w.heap.size
namespace LogSt
variable {w w' : World} {B : Nat} {S T : List Nat} {b bd : Nat} {L L' : LLog} {SD : List Nat} {D : DLay} {st st' : LDoc}
theorem only (h : LogSt w B S b L bd SD D st) (ho : Only T w w') (hT : ∀ g ∈ T, g ∉ S) : LogSt w' B S b L bd SD D st :=
  ⟨ho.blk h.blk (fun hm => hT _ hm h.subb), h.doc.only ho (fun g hg hm => hT g hg (h.sub g hm)), h.sub, h.subb, h.apart, fun g hg => ⟨(h.own g hg).1, Nat.lt_of_lt_of_le (h.own g hg).2 ho.size⟩⟩
theorem below (h : LogSt w B S b L bd SD D st) (hb : Below w.heap.size w w') : LogSt w' B S b L bd SD D st := h.only (T := []) (Only.of_below hb) (by simp)
theorem drewN (h : LogSt w B S b L bd SD D st) (n : Nat) : LogSt (w.drewN n) B S b L bd SD D st := h.below (below_drewN (Below.refl _ _) n)
/-- The log's own cells have been written; its document is the same. -/
theorem set (h : LogSt w B S b L bd SD D st) (ho : Only [b] w w') (hb : Blk w' b 68 (L'.cells bd)) : LogSt w' B S b L' bd SD D st :=
  ⟨hb, h.doc.only ho (fun g hg hm => h.apart (by simp at hg; exact hg ▸ hm)), h.sub, h.subb, h.apart, fun g hg => ⟨(h.own g hg).1, Nat.lt_of_lt_of_le (h.own g hg).2 ho.size⟩⟩
/-- Its document has gone on. -/
theorem turn (h : LogSt w B S b L bd SD D st) (ht : DocTo w B SD bd st' w') : ∃ S' SD' D', LogSt w' B S' b L bd SD' D' st' ∧ Only S w w' ∧ (∀ g ∈ S', g ∈ S ∨ w.heap.size ≤ g) ∧ Only SD w w' := by
  obtain ⟨SD', D', h1, h2, h3⟩ := ht
  have hb := h.own b h.subb
  refine ⟨b :: SD', SD', D', ⟨h2.blk h.blk h.apart, h1, fun g hg => by simp [hg], by simp, fun hm => ?_, fun g hg => ?_⟩, h2.mono (fun g hg => .inl (h.sub g hg)), fun g hg => ?_, h2⟩
  · rcases h3 _ hm with h4 | h4
    · exact h.apart h4
    · omega
  · rcases List.mem_cons.1 hg with rfl | hg
    · exact ⟨hb.1, Nat.lt_of_lt_of_le hb.2 h2.size⟩
    · exact h1.own g hg
  · rcases List.mem_cons.1 hg with rfl | hg
    · exact .inl h.subb
    · rcases h3 g hg with h4 | h4
      · exact .inl (h.sub g h4)
      · exact .inr h4
/-- Another document is laid. -/
theorem lay (h : LogSt w B S b L bd SD D st) (hB : B ≤ w.heap.size) {w1 : World} (hb1 : Below w.heap.size w w1) {bd' : Nat} {SD' : List Nat} {D' : DLay} (hd : DocIs w1 w.heap.size SD' bd' st' D') (ho : Only [b] w1 w') (hb : Blk w' b 68 (L'.cells bd')) :
    LogSt w' B (b :: SD') b L' bd' SD' D' st' ∧ Only S w w' ∧ ∀ g ∈ b :: SD', g ∈ S ∨ w.heap.size ≤ g := by
  have hbo := h.own b h.subb
  have hna : b ∉ SD' := fun hm => by have := (hd.own b hm).1; omega
  refine ⟨⟨hb, ?_, fun g hg => by simp [hg], by simp, hna, fun g hg => ?_⟩, ?_, fun g hg => ?_⟩
  · have h1 := hd.only ho (fun g hg hm => by simp at hg; subst hg; exact hna hm)
    exact { h1 with book := h1.book.mono hB, marks := h1.marks.mono hB, known := h1.known.mono hB, ops := h1.ops.mono hB, seen := fun y hy => (h1.seen y hy).mono hB, own := fun g hg => ⟨Nat.le_trans hB (h1.own g hg).1, (h1.own g hg).2⟩ }
  · have hsz := hb1.size
    have hs2 := ho.size
    rcases List.mem_cons.1 hg with rfl | hg
    · exact ⟨hbo.1, by omega⟩
    · have := hd.own g hg
      exact ⟨by omega, by omega⟩
  · exact ((Only.of_below hb1).trans ((ho.mono (S' := [b]) (by intro i hi; exact .inl hi)).mono (fun i hi => by simp at hi; subst hi; exact .inl h.subb)))
  · rcases List.mem_cons.1 hg with rfl | hg
    · exact .inl h.subb
    · exact .inr (hd.own g hg).1
theorem base (h : LogSt w B S b L bd SD D st) : B ≤ b ∧ b < w.heap.size := h.own b h.subb
end LogSt
/-- The log in block b reads as L. -/
abbrev LogIs (w : World) (B : Nat) (S : List Nat) (b : Nat) (L : LLog) (bd : Nat) (SD : List Nat) (D : DLay) : Prop := LogSt w B S b L bd SD D L.doc
def LogTo (w : World) (B : Nat) (S : List Nat) (b : Nat) (L : LLog) (w' : World) : Prop := ∃ S' bd SD D, LogIs w' B S' b L bd SD D ∧ Only S w w' ∧ ∀ g ∈ S', g ∈ S ∨ w.heap.size ≤ g
end Go.Proofs.YtmpkgbkdndpnlaaGreat
