/- A net of documents, and what its events make of it: plain. Conditions: none. -/
import Derived.Test.YthfbjfocmnikaaaGreatDoorEditLaw
import Derived.Test.YthfbjfocmnikaaaGreatDoorSmall
import Derived.Test.YthfbjfocmnikaaaGreatDoorSyncOpen
namespace Go.Proofs.YthfbjfocmnikaaaGreatDoor
open Go.RowKit
set_option linter.unusedVariables false
structure LEv where
  what : Int
  a : Int
  b : Int
  c : Int
def LEv.cells (e : LEv) : Array Value := #[.int .i64 e.what, .int .i64 e.a, .int .i64 e.b, .int .i64 e.c]
def LEv.Wf (e : LEv) : Prop := (-9223372036854775808 ≤ e.what ∧ e.what ≤ 9223372036854775807) ∧ (-9223372036854775808 ≤ e.a ∧ e.a ≤ 9223372036854775807) ∧ (-9223372036854775808 ≤ e.b ∧ e.b ≤ 9223372036854775807) ∧ (-9223372036854775808 ≤ e.c ∧ e.c ≤ 9223372036854775807)
/-- The text of one letter. -/
def oneT (c : Int) : ByteArray := ⟨#[UInt8.ofNat c.toNat]⟩
structure LNet where
  docs : List LDoc
  under : List (Int × ByteArray)
namespace LDoc
/-- An edit at a node: what is wrong with its ops, and the ops. -/
def evE (d : LDoc) (e : LEv) : Int :=
  if e.what = 1 then (if letterB e.c = false then 1 else d.insE (e.a + 1) e.b (oneT e.c))
  else if e.what = 2 then (if atErr d.book e.b ≠ 0 then atErr d.book e.b else d.delE (e.a + 1) e.b (e.b + 1))
  else if e.what = 7 then d.splE (e.a + 1) e.b else d.fusE (e.a + 1) e.b
def evL (d : LDoc) (e : LEv) : List LOp :=
  if e.what = 1 then d.insR (e.a + 1) e.b (oneT e.c)
  else if e.what = 2 then d.delR (e.a + 1) e.b (e.b + 1)
  else if e.what = 7 then d.splR (e.a + 1) e.b else d.fusR (e.a + 1) e.b
def editE (d : LDoc) (e : LEv) : Int := if d.evE e ≠ 0 then d.evE e else d.doE (d.evL e)
def editR (d : LDoc) (e : LEv) : LDoc := if d.evE e ≠ 0 then d else d.doR (d.evL e)
/-- What another one lacks, packed. -/
def parc (d : LDoc) (v : List Int) : ByteArray := packRes (lacksR d.ops v)
end LDoc
namespace LNet
def new (n : Nat) : LNet := ⟨List.replicate n LDoc.new, []⟩
def doc (N : LNet) (i : Nat) : LDoc := N.docs.getD i LDoc.new
/-- Is there such a node? -/
def nodeB (N : LNet) (i : Int) : Bool := decide (0 ≤ i) && decide (i < (N.docs.length : Int))
def editE (N : LNet) (e : LEv) : Int := if N.nodeB e.a = false then 1 else (N.doc e.a.toNat).editE e
def edit (N : LNet) (e : LEv) : LNet := if N.nodeB e.a = false then N else { N with docs := N.docs.set e.a.toNat ((N.doc e.a.toNat).editR e) }
def sendE (N : LNet) (i j : Int) : Int :=
  if N.nodeB i = false ∨ N.nodeB j = false then 1 else if i = j then 3 else if 100 ≤ N.under.length then 4 else 0
def send (N : LNet) (i j : Int) : LNet := if N.sendE i j ≠ 0 then N else { N with under := N.under ++ [(j, (N.doc i.toNat).parc (N.doc j.toNat).known)] }
def noMail (N : LNet) (i : Int) : Prop := i < 0 ∨ (N.under.length : Int) ≤ i
instance (N : LNet) (i : Int) : Decidable (N.noMail i) := by unfold noMail; exact inferInstance
def mailAt (N : LNet) (i : Nat) : Int × ByteArray := N.under.getD i (0, ⟨#[]⟩)
def mailE (N : LNet) (e : LEv) : Int :=
  if N.noMail e.a then 1 else if e.what = 6 then (if 100 ≤ N.under.length then 4 else 0)
  else if e.what = 5 then 0 else (N.doc (N.mailAt e.a.toNat).1.toNat).openE (N.mailAt e.a.toNat).2
def mail (N : LNet) (e : LEv) : LNet :=
  if N.noMail e.a then N else if e.what = 6 then (if 100 ≤ N.under.length then N else { N with under := N.under ++ [N.mailAt e.a.toNat] })
  else if e.what = 5 then { N with under := N.under.eraseIdx e.a.toNat }
  else ⟨N.docs.set (N.mailAt e.a.toNat).1.toNat ((N.doc (N.mailAt e.a.toNat).1.toNat).openR (N.mailAt e.a.toNat).2), N.under.eraseIdx e.a.toNat⟩
def editB (e : LEv) : Prop := e.what = 1 ∨ e.what = 2 ∨ e.what = 7 ∨ e.what = 8
instance (e : LEv) : Decidable (editB e) := by unfold editB; exact inferInstance
def mailB (e : LEv) : Prop := e.what = 4 ∨ e.what = 5 ∨ e.what = 6
instance (e : LEv) : Decidable (mailB e) := by unfold mailB; exact inferInstance
def doE (N : LNet) (e : LEv) : Int := if editB e then N.editE e else if e.what = 3 then N.sendE e.a e.b else if mailB e then N.mailE e else 1
def do_ (N : LNet) (e : LEv) : LNet := if editB e then N.edit e else if e.what = 3 then N.send e.a e.b else if mailB e then N.mail e else N
def sameB (N : LNet) : Bool := N.docs.all fun d => decide (d.book = (N.doc 0).book ∧ d.marks = (N.doc 0).marks)
/-- The documents are right; what is under way goes to one of them. -/
structure Ok (N : LNet) : Prop where
  some : 1 ≤ N.docs.length ∧ N.docs.length ≤ 4
  docs : ∀ d ∈ N.docs, d.Ok
  under : N.under.length ≤ 100
  goes : ∀ p ∈ N.under, 0 ≤ p.1 ∧ p.1 < (N.docs.length : Int)
theorem nodeB_iff {N : LNet} {i : Int} : N.nodeB i = true ↔ 0 ≤ i ∧ i < (N.docs.length : Int) := by unfold nodeB; rw [Bool.and_eq_true, decide_eq_true_iff, decide_eq_true_iff]
theorem doc_get {N : LNet} {i : Nat} (h : i < N.docs.length) : N.doc i = N.docs[i] := by unfold doc; rw [List.getD, List.getElem?_eq_getElem h]; rfl
theorem Ok.doc {N : LNet} (h : N.Ok) (i : Nat) : (N.doc i).Ok := by
  by_cases hi : i < N.docs.length
  · rw [doc_get hi]; exact h.docs _ (List.getElem_mem hi)
  · unfold LNet.doc; rw [List.getD, List.getElem?_eq_none (by omega)]; exact LDoc.new_ok
theorem Ok.set {N : LNet} (h : N.Ok) (i : Nat) {d : LDoc} (hd : d.Ok) : (⟨N.docs.set i d, N.under⟩ : LNet).Ok :=
  ⟨by simp only [List.length_set]; exact h.some, fun x hx => by
    rcases List.mem_or_eq_of_mem_set hx with hx | rfl
    · exact h.docs x hx
    · exact hd, h.under, by simp only [List.length_set]; exact h.goes⟩
theorem new_ok {n : Nat} (h1 : 1 ≤ n) (h4 : n ≤ 4) : (new n).Ok :=
  ⟨by unfold new; simp only [List.length_replicate]; omega, fun d hd => by rw [(List.mem_replicate.1 hd).2]; exact LDoc.new_ok, by simp [new], by simp [new]⟩
theorem openR_ok {d : LDoc} (h : d.Ok) (s : ByteArray) : (d.openR s).Ok := by
  unfold LDoc.openR
  split
  · exact h
  · exact LDoc.doR_ok _ h
theorem editR_ok {d : LDoc} (h : d.Ok) (e : LEv) : (d.editR e).Ok := by
  unfold LDoc.editR
  split
  · exact h
  · exact LDoc.doR_ok _ h
theorem Ok.edit {N : LNet} (h : N.Ok) (e : LEv) : (N.edit e).Ok := by
  unfold LNet.edit
  split
  · exact h
  · exact h.set _ (editR_ok (h.doc _) e)
theorem Ok.send {N : LNet} (h : N.Ok) (i j : Int) : (N.send i j).Ok := by
  unfold LNet.send
  split
  · exact h
  rename_i he
  unfold sendE at he
  split at he
  · omega
  rename_i h1
  split at he
  · omega
  split at he
  · omega
  rename_i h3
  refine ⟨h.some, h.docs, by simp only [List.length_append, List.length_cons, List.length_nil]; omega, fun p hp => ?_⟩
  rcases List.mem_append.1 hp with hp | hp
  · exact h.goes p hp
  · simp only [List.mem_cons, List.not_mem_nil, or_false] at hp
    subst hp
    have : N.nodeB j = true := by cases hj : N.nodeB j <;> simp_all
    exact nodeB_iff.1 this
theorem mail_get {N : LNet} {i : Int} (h : ¬ N.noMail i) : ∃ hi : i.toNat < N.under.length, N.mailAt i.toNat = N.under[i.toNat] ∧ 0 ≤ i := by
  unfold noMail at h
  have hi : i.toNat < N.under.length := by omega
  exact ⟨hi, by unfold mailAt; rw [List.getD, List.getElem?_eq_getElem hi]; rfl, by omega⟩
theorem Ok.mail {N : LNet} (h : N.Ok) (e : LEv) : (N.mail e).Ok := by
  unfold LNet.mail
  split
  · exact h
  rename_i hm
  obtain ⟨hi, h1, h2⟩ := mail_get hm
  split
  · split
    · exact h
    · refine ⟨h.some, h.docs, by simp only [List.length_append, List.length_cons, List.length_nil]; omega, fun p hp => ?_⟩
      rcases List.mem_append.1 hp with hp | hp
      · exact h.goes p hp
      · simp only [List.mem_cons, List.not_mem_nil, or_false] at hp
        subst hp
        rw [h1]
        exact h.goes _ (List.getElem_mem hi)
  have hu : (N.under.eraseIdx e.a.toNat).length ≤ 100 := by have := List.length_eraseIdx_le N.under e.a.toNat; have := h.under; omega
  split
  · exact ⟨h.some, h.docs, hu, fun p hp => h.goes p (List.mem_of_mem_eraseIdx hp)⟩
  · have := h.set (N.mailAt e.a.toNat).1.toNat (openR_ok (h.doc (N.mailAt e.a.toNat).1.toNat) (N.mailAt e.a.toNat).2)
    exact ⟨this.some, this.docs, hu, fun p hp => this.goes p (List.mem_of_mem_eraseIdx hp)⟩
theorem Ok.do_ {N : LNet} (h : N.Ok) (e : LEv) : (N.do_ e).Ok := by
  unfold LNet.do_
  split
  · exact h.edit e
  split
  · exact h.send _ _
  split
  · exact h.mail e
  · exact h
end LNet
end Go.Proofs.YthfbjfocmnikaaaGreatDoor
