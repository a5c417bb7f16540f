/- 2 texts in one: each says ahead of itself what is proved, and its conditions. -/
import Derived.Test.YtkaccnegdmpofaaGreatDoorEditLaw
/- What two authors write at once: plain. Conditions: none. -/
namespace Go.Proofs.YtkaccnegdmpofaaGreatDoor
open Go.RowKit
set_option linter.unusedVariables false
/-- The letters of a text stand in a book, in their order. -/
structure Stand (L : List LLeaf) (x : List LOp) (t : List UInt8) : Prop where
  len : x.length = t.length
  at_ : ∀ i (hi : i < x.length) (ht : i < t.length), hasAt L x[i].place = true ∧ ∃ h : ahead L x[i].place < L.length, L[ahead L x[i].place].letter = (t[i].toNat : Int) ∧ L[ahead L x[i].place].struck = false
  rise : ∀ i j (hj : j < x.length) (hi : i < x.length), i < j → ahead L x[i].place < ahead L x[j].place
theorem ahead_lt {L : List LLeaf} (hr : Rising L) {p q : ByteArray} (hp : hasAt L p = true) (hq : hasAt L q = true) (h : lt p q = true) : ahead L p < ahead L q := by
  have hip := hasAt_lt hp
  have hiq := hasAt_lt hq
  have e1 : L[ahead L p].place = p := by
    have := (leafAt_mem hp).2
    unfold leafAt at this
    rw [List.getD, List.getElem?_eq_getElem hip] at this
    exact this
  have e2 : L[ahead L q].place = q := by
    have := (leafAt_mem hq).2
    unfold leafAt at this
    rw [List.getD, List.getElem?_eq_getElem hiq] at this
    exact this
  rcases Nat.lt_or_ge (ahead L p) (ahead L q) with h1 | h1
  · exact h1
  · rcases Nat.eq_or_lt_of_le h1 with h2 | h2
    · have : p = q := by
        rw [← e1, ← e2]
        congr 1
        exact List.getElem_of_eq rfl _ |>.trans (by simp [h2])
      rw [this, lt_irrefl] at h
      cases h
    · have h3 : lt L[ahead L q].place L[ahead L p].place = true := rising_lt hr _ _ hiq hip h2
      rw [e1, e2, lt_asymm h] at h3
      cases h3
theorem old_at {L : List LLeaf} {p : ByteArray} (h : hasAt L p = true) : ∃ hi : ahead L p < L.length, L[ahead L p] = old L p := by
  refine ⟨hasAt_lt h, ?_⟩
  unfold old
  rw [if_pos h]
  unfold leafAt
  rw [List.getD, List.getElem?_eq_getElem (hasAt_lt h)]
  rfl
theorem typedOps_each (who : Int) (right : ByteArray) : ∀ (t : List UInt8) (left : ByteArray) (n : Int), ∀ o ∈ typedOps who right t left n, o.dot.who = who ∧ o.what = 1 ∧ o.seen = []
  | [], _, _ => fun o ho => by simp [typedOps] at ho
  | c :: t, left, n => fun o ho => by
    rw [typedOps] at ho
    rcases List.mem_cons.1 ho with rfl | ho
    · exact ⟨rfl, rfl, rfl⟩
    · exact typedOps_each who right t _ _ o ho
theorem typedOps_letters (who : Int) (right : ByteArray) : ∀ (t : List UInt8) (left : ByteArray) (n : Int), (typedOps who right t left n).map LOp.letter = t.map fun c => (c.toNat : Int)
  | [], _, _ => rfl
  | c :: t, left, n => by rw [typedOps, List.map_cons, List.map_cons, typedOps_letters who right t]
namespace LDoc
theorem doR_says : ∀ (l : List LOp) {d : LDoc}, d.Ok → Says d.ops d → Says (d.doR l).ops (d.doR l)
  | [], _, _, h => h
  | o :: t, d, hk, h => by
    unfold doR
    split
    · exact h
    · exact doR_says t (apply_ok hk o) (apply_says hk h o)
theorem typed_new (who : Int) (right : ByteArray) : ∀ (t : List UInt8) (left : ByteArray) (n : Int) (d : LDoc), d.Ok → nOf d.known ⟨who, 0⟩ = n → d.doE (typedOps who right t left n) = 0 → (d.doR (typedOps who right t left n)).ops = d.ops ++ typedOps who right t left n
  | [], _, _, d => fun _ _ _ => by simp [typedOps, doR]
  | c :: t, left, n, d => fun hk hn hd => by
    rw [typedOps] at hd ⊢
    generalize hp : strOf (betweenRes left right who) = p at *
    unfold doE at hd
    unfold doR
    by_cases he : d.applyE ⟨⟨who, n + 1⟩, 1, p, c.toNat, []⟩ ≠ 0
    · rw [if_pos he] at hd; exact absurd hd he
    rw [if_neg he] at hd ⊢
    have hn' : nOf d.known ⟨who, n + 1⟩ = n := (nOf_who _ rfl).trans hn
    obtain ⟨q1, q2, q3, q4, q5⟩ := apply_new hk (o := ⟨⟨who, n + 1⟩, 1, p, c.toNat, []⟩) (by omega) (by rw [hn']; show n < n + 1; omega)
    obtain ⟨a1, a2, a3⟩ := add_ok q3
    have hk2 := apply_ok hk ⟨⟨who, n + 1⟩, 1, p, c.toNat, []⟩
    have hn2 : nOf (d.apply ⟨⟨who, n + 1⟩, 1, p, c.toNat, []⟩).known ⟨who, 0⟩ = n + 1 := by
      rw [q5]
      show nOf (addRes d.known ⟨who, n + 1⟩) ⟨who, 0⟩ = n + 1
      rw [nOf_who _ (show (⟨who, 0⟩ : LDot).who = (⟨who, n + 1⟩ : LDot).who from rfl), nOf_add a1 a2 a2, if_pos rfl]
    have ho : (d.apply ⟨⟨who, n + 1⟩, 1, p, c.toNat, []⟩).ops = d.ops ++ [⟨⟨who, n + 1⟩, 1, p, c.toNat, []⟩] := by rw [q5]
    rw [typed_new who right t p (n + 1) _ hk2 hn2 hd, ho]
    simp
/-- What an insert's ops do to a document that does not know them. -/
theorem ins_new {d e : LDoc} {who off : Int} {text : ByteArray} (h : d.insE who off text = 0) (ke : e.Ok) (hn : nOf e.known ⟨who, 0⟩ = nOf d.known ⟨who, 0⟩) (hd : e.doE (d.insR who off text) = 0) : (e.doR (d.insR who off text)).ops = e.ops ++ d.insR who off text := by
  obtain ⟨h1, h2, h3, h4⟩ := ins_ok h
  rw [h3] at hd ⊢
  exact typed_new _ _ _ _ _ _ ke hn hd
theorem ins_each {d : LDoc} {who off : Int} {text : ByteArray} (h : d.insE who off text = 0) : (∀ o ∈ d.insR who off text, o.dot.who = who ∧ o.what = 1 ∧ o.seen = []) ∧ (d.insR who off text).map LOp.letter = text.toList.map fun c => (c.toNat : Int) := by
  obtain ⟨h1, h2, h3, h4⟩ := ins_ok h
  rw [h3]
  exact ⟨typedOps_each _ _ _ _ _, typedOps_letters _ _ _ _ _⟩
theorem ins_none {d : LDoc} (hk : d.Ok) {who off : Int} {text : ByteArray} (h : d.insE who off text = 0) (hd : d.doE (d.insR who off text) = 0) :
    (∀ o ∈ d.insR who off text, hasAt d.book o.place = false) ∧ (d.insR who off text).Pairwise (fun x y => lt x.place y.place = true) := by
  obtain ⟨a, b, e1, e2, e3, e4, e5, e6, e7, e8, e9⟩ := ins_does hk h hd
  refine ⟨fun o ho => ?_, ?_⟩
  · have hr := hk.book.rising
    rw [e1] at hr ⊢
    exact gap_none hr (fun x hx => e8 x hx o ho) (fun x hx => e9 x hx o ho)
  · have hr := rising_pair.1 (doR_ok (d.insR who off text) hk).book.rising
    rw [e3, List.pairwise_append, List.pairwise_append] at hr
    exact List.pairwise_map.1 hr.1.2.1
theorem stand_of {d e : LDoc} (hk : d.Ok) (ke : e.Ok) (hs : Says d.ops d) (hse : Says e.ops e) {who off : Int} {text : ByteArray} (h : d.insE who off text = 0) (hd : d.doE (d.insR who off text) = 0)
    (hin : ∀ o ∈ d.insR who off text, o ∈ e.ops) (hno : ∀ o ∈ e.ops, o.what = 2 → o ∈ d.ops) : Stand e.book (d.insR who off text) text.toList := by
  obtain ⟨n1, n2⟩ := ins_none hk h hd
  obtain ⟨m1, m2⟩ := ins_each h
  have hlen : (d.insR who off text).length = text.toList.length := by
    have := congrArg List.length m2
    simpa using this
  have hat : ∀ o ∈ d.insR who off text, hasAt e.book o.place = true := fun o ho => (hse.here o.place).2 ⟨o, hin o ho, .inl (m1 o ho).2.1, rfl⟩
  refine ⟨hlen, fun i hi ht => ?_, fun i j hj hi hij => ?_⟩
  · have ho := List.getElem_mem hi
    obtain ⟨h1, h2⟩ := old_at (hat _ ho)
    refine ⟨hat _ ho, h1, ?_, ?_⟩
    · rw [h2, hse.letter _ (hin _ ho) (m1 _ ho).2.1]
      have e1 : ((d.insR who off text).map LOp.letter)[i]'(by simpa using hi) = (d.insR who off text)[i].letter := by simp
      rw [← e1]
      simp only [m2]
      simp
    · rw [h2]
      cases hst : (old e.book (d.insR who off text)[i].place).struck with
      | false => rfl
      | true =>
        obtain ⟨o, o1, o2, o3⟩ := (hse.struck _).1 hst
        have : hasAt d.book (d.insR who off text)[i].place = true := (hs.here _).2 ⟨o, hno o o1 o2, .inr o2, o3⟩
        rw [n1 _ ho] at this
        cases this
  · exact ahead_lt ke.book.rising (hat _ (List.getElem_mem hi)) (hat _ (List.getElem_mem hj)) ((List.pairwise_iff_getElem.1 n2) i j hi hj hij)
theorem apart_plain {d : LDoc} (hk : d.Ok) (hs : Says d.ops d) {who at_ other too : Int} {text word : ByteArray} (hne : who ≠ other) (hx : d.insE who at_ text = 0) (hy : d.insE other too word = 0)
    (e1 : d.doE (d.insR who at_ text) = 0) (e2 : d.doE (d.insR other too word) = 0) (e3 : (d.doR (d.insR who at_ text)).doE (d.insR other too word) = 0) (e4 : (d.doR (d.insR other too word)).doE (d.insR who at_ text) = 0) :
    ((d.doR (d.insR who at_ text)).doR (d.insR other too word)).book = ((d.doR (d.insR other too word)).doR (d.insR who at_ text)).book ∧
      Stand ((d.doR (d.insR who at_ text)).doR (d.insR other too word)).book (d.insR who at_ text) text.toList ∧ Stand ((d.doR (d.insR who at_ text)).doR (d.insR other too word)).book (d.insR other too word) word.toList := by
  have k1 := doR_ok (d.insR who at_ text) hk
  have k2 := doR_ok (d.insR other too word) hk
  have k3 := doR_ok (d.insR other too word) k1
  have k4 := doR_ok (d.insR who at_ text) k2
  have s1 := doR_says (d.insR who at_ text) hk hs
  have s2 := doR_says (d.insR other too word) hk hs
  have s3 := doR_says (d.insR other too word) k1 s1
  have s4 := doR_says (d.insR who at_ text) k2 s2
  have o1 := ins_new hx hk rfl e1
  have o2 := ins_new hy hk rfl e2
  obtain ⟨x1, x2⟩ := ins_each hx
  obtain ⟨y1, y2⟩ := ins_each hy
  have gw : dotErr ⟨who, 1⟩ = 0 := (who_dot (ins_ok hx).1).1
  have go : dotErr ⟨other, 1⟩ = 0 := (who_dot (ins_ok hy).1).1
  have hX : ofWho other (d.insR who at_ text) = [] := by
    unfold ofWho
    rw [List.filter_eq_nil_iff]
    intro o ho
    rw [(x1 o ho).1]
    simpa using hne
  have hY : ofWho who (d.insR other too word) = [] := by
    unfold ofWho
    rw [List.filter_eq_nil_iff]
    intro o ho
    rw [(y1 o ho).1]
    simpa using fun h => hne h.symm
  have n3 : nOf (d.doR (d.insR who at_ text)).known ⟨other, 0⟩ = nOf d.known ⟨other, 0⟩ := by
    rw [nOf_who _ (show (⟨other, 0⟩ : LDot).who = (⟨other, 1⟩ : LDot).who from rfl), nOf_who d.known (show (⟨other, 0⟩ : LDot).who = (⟨other, 1⟩ : LDot).who from rfl), s1.known _ go, hs.known _ go, o1, ofWho_add, hX]
    simp
  have n4 : nOf (d.doR (d.insR other too word)).known ⟨who, 0⟩ = nOf d.known ⟨who, 0⟩ := by
    rw [nOf_who _ (show (⟨who, 0⟩ : LDot).who = (⟨who, 1⟩ : LDot).who from rfl), nOf_who d.known (show (⟨who, 0⟩ : LDot).who = (⟨who, 1⟩ : LDot).who from rfl), s2.known _ gw, hs.known _ gw, o2, ofWho_add, hY]
    simp
  have o3 := ins_new hy k1 n3 e3
  have o4 := ins_new hx k2 n4 e4
  rw [o1] at o3
  rw [o2] at o4
  have hin : ∀ o, o ∈ ((d.doR (d.insR who at_ text)).doR (d.insR other too word)).ops ↔ o ∈ d.ops ∨ o ∈ d.insR who at_ text ∨ o ∈ d.insR other too word := fun o => by rw [o3]; simp [or_assoc]
  have hno : ∀ o ∈ ((d.doR (d.insR who at_ text)).doR (d.insR other too word)).ops, o.what = 2 → o ∈ d.ops := fun o ho hw => by
    rcases (hin o).1 ho with h | h | h
    · exact h
    · have := (x1 o h).2.1; omega
    · have := (y1 o h).2.1; omega
  refine ⟨?_, stand_of hk k3 hs s3 hx e1 (fun o ho => (hin o).2 (.inr (.inl ho))) hno, stand_of hk k3 hs s3 hy e2 (fun o ho => (hin o).2 (.inr (.inr ho))) hno⟩
  refine (Says.same s3 s4 k3 k4 fun i => ?_).1
  rw [o3, o4, ofWho_add, ofWho_add, ofWho_add, ofWho_add]
  by_cases h1 : i = who
  · subst h1; rw [hY]; simp
  · have hX' : ofWho i (d.insR who at_ text) = [] := by
      unfold ofWho
      rw [List.filter_eq_nil_iff]
      intro o ho
      rw [(x1 o ho).1]
      simpa using fun h => h1 h.symm
    rw [hX']; simp
end LDoc
end Go.Proofs.YtkaccnegdmpofaaGreatDoor
/- What one document lacks of another one, and what comes of giving it: plain. Conditions: none. -/
namespace Go.Proofs.YtkaccnegdmpofaaGreatDoor
open Go.RowKit
set_option linter.unusedVariables false
/-- Ops that a vector does not know. -/
def lacksB (v : List Int) (o : LOp) : Bool := decide (nOf v o.dot < o.dot.n)
def lacksR (l : List LOp) (v : List Int) : List LOp := l.filter (lacksB v)
theorem lacksR_take {l : List LOp} {v : List Int} {k : Nat} (h : k < l.length) : lacksR (l.take (k + 1)) v = if lacksB v l[k] = true then lacksR (l.take k) v ++ [l[k]] else lacksR (l.take k) v := by
  unfold lacksR
  rw [List.take_succ_eq_append_getElem h, List.filter_append]
  by_cases hb : lacksB v l[k] = true
  · rw [if_pos hb, List.filter_cons, if_pos hb]; rfl
  · rw [if_neg hb, List.filter_cons, if_neg hb]; simp
namespace LDoc
/-- How many of some ops are new. -/
def takeN (d : LDoc) : List LOp → Int
  | [] => 0
  | o :: t => if d.applyE o ≠ 0 then 0 else (if d.applyB o = true then 1 else 0) + (d.apply o).takeN t
theorem takeN_le : ∀ (l : List LOp) (d : LDoc), 0 ≤ d.takeN l ∧ d.takeN l ≤ l.length
  | [], d => by simp [takeN]
  | o :: t, d => by
    unfold takeN
    have := takeN_le t (d.apply o)
    split
    · simp; omega
    · split <;> simp <;> omega
end LDoc
theorem numbered_known {l : List LOp} {d : LDoc} (hk : d.Ok) (hs : Says d.ops d) (hn : Numbered l) (i : Int) (hi : dotErr ⟨i, 1⟩ = 0) : ofWho i (lacksR l d.known) = (ofWho i l).drop (ofWho i d.ops).length := by
  have hk2 : ∀ o ∈ ofWho i l, nOf d.known o.dot = ((ofWho i d.ops).length : Int) := fun o ho => by
    have hw := (mem_ofWho.1 ho).2
    rw [nOf_who d.known (show o.dot.who = (⟨i, 1⟩ : LDot).who from hw), hs.known _ hi]
  have e1 : ofWho i (lacksR l d.known) = (ofWho i l).filter (lacksB d.known) := by
    unfold ofWho lacksR
    rw [List.filter_filter, List.filter_filter]
    congr 1
    funext o
    exact Bool.and_comm _ _
  rw [e1]
  generalize hp : (ofWho i d.ops).length = p at *
  have hnum := hn i
  generalize ofWho i l = m at *
  have key : ∀ (m : List LOp) (s : Nat), (∀ (k : Nat) (o : LOp), m[k]? = some o → o.dot.n = (k : Int) + s + 1) → (∀ o ∈ m, nOf d.known o.dot = (p : Int)) → m.filter (lacksB d.known) = m.drop (p - s) := by
    intro m
    induction m with
    | nil => intro s _ _; simp
    | cons o m ih =>
      intro s h1 h2
      have h0 := h1 0 o rfl
      have hi2 := ih (s + 1) (fun k x hx => by have := h1 (k + 1) x (by simpa using hx); push_cast at this ⊢; omega) (fun x hx => h2 x (by simp [hx]))
      have hb : lacksB d.known o = decide (p ≤ s) := by
        unfold lacksB
        rw [h2 o (by simp), h0]
        congr 1
        apply propext
        push_cast
        omega
      rw [List.filter_cons, hb]
      by_cases hps : p ≤ s
      · rw [if_pos (decide_eq_true hps), hi2, show p - (s + 1) = 0 by omega, show p - s = 0 by omega]; rfl
      · rw [if_neg (by simpa using hps), hi2, show p - s = (p - (s + 1)) + 1 by omega]; rfl
  have := key m 0 (fun k o ho => by have := hnum k o ho; simpa using this) hk2
  simpa using this
namespace LDoc
/-- Ops that lack, done one behind the other, are all new. -/
theorem news_do : ∀ (l : List LOp) (d : LDoc), d.Ok → Says d.ops d → (∀ i, ∀ (k : Nat) (o : LOp), (ofWho i l)[k]? = some o → o.dot.n = (k : Int) + (ofWho i d.ops).length + 1) → d.doE l = 0 → (d.doR l).ops = d.ops ++ l ∧ d.takeN l = l.length
  | [], d => fun _ _ _ _ => by simp [doR, takeN]
  | o :: t, d => fun hk hs hn hd => by
    unfold doE at hd
    unfold doR takeN
    by_cases he : d.applyE o ≠ 0
    · rw [if_pos he] at hd; exact absurd hd he
    rw [if_neg he] at hd ⊢
    rw [if_neg he]
    have he0 : d.applyE o = 0 := by omega
    have hop : opErr o = 0 := by
      by_cases h : opErr o = 0
      · exact h
      · have : d.applyE o = opErr o := by unfold applyE; rw [if_pos h]
        omega
    obtain ⟨p1, _⟩ := op_ok hop
    have h0 := hn o.dot.who 0 o (by simp [ofWho])
    obtain ⟨q1, q2, q3, q4, q5⟩ := apply_new hk he0 (by rw [hs.known _ p1]; omega)
    have ho : (d.apply o).ops = d.ops ++ [o] := by rw [q5]
    have hn2 : ∀ i, ∀ (k : Nat) (x : LOp), (ofWho i t)[k]? = some x → x.dot.n = (k : Int) + (ofWho i (d.apply o).ops).length + 1 := fun i k x hx => by
      rw [ho, ofWho_add]
      by_cases hw : o.dot.who = i
      · have e1 : ofWho i [o] = [o] := by simp [ofWho, hw]
        have e2 : ofWho i (o :: t) = o :: ofWho i t := by simp [ofWho, hw]
        have := hn i (k + 1) x (by rw [e2]; simpa using hx)
        rw [e1, List.length_append]
        simp only [List.length_cons, List.length_nil]
        push_cast at this ⊢
        omega
      · have e1 : ofWho i [o] = [] := by simp [ofWho, hw]
        have e2 : ofWho i (o :: t) = ofWho i t := by simp [ofWho, hw]
        have := hn i k x (by rw [e2]; exact hx)
        rw [e1, List.append_nil]
        exact this
    obtain ⟨r1, r2⟩ := news_do t (d.apply o) (apply_ok hk o) (apply_says hk hs o) hn2 hd
    rw [r1, r2, ho, if_pos q1]
    refine ⟨by simp, ?_⟩
    simp only [List.length_cons]; push_cast; omega
def gave (a b : LDoc) : LDoc := b.doR (lacksR a.ops b.known)
def gaveE (a b : LDoc) : Int := b.doE (lacksR a.ops b.known)
def gaveN (a b : LDoc) : Int := b.takeN (lacksR a.ops b.known)
/-- One has given what the other one lacked. -/
theorem gave_ok {a b : LDoc} (ka : a.Ok) (kb : b.Ok) (sa : Says a.ops a) (sb : Says b.ops b) (na : Numbered a.ops) (h : gaveE a b = 0) :
    (gave a b).ops = b.ops ++ lacksR a.ops b.known ∧ gaveN a b = (lacksR a.ops b.known).length ∧ ∀ i, dotErr ⟨i, 1⟩ = 0 → ofWho i (gave a b).ops = ofWho i b.ops ++ (ofWho i a.ops).drop (ofWho i b.ops).length := by
  have hgood : ∀ o ∈ lacksR a.ops b.known, dotErr ⟨o.dot.who, 1⟩ = 0 := fun o ho => by
    have h1 := sa.good o (List.mem_filter.1 ho).1
    have h2 := (op_ok h1).1
    unfold dotErr at h2 ⊢
    split at h2
    · rw [if_pos]; simp only; omega
    · omega
  have hn : ∀ i, ∀ (k : Nat) (o : LOp), (ofWho i (lacksR a.ops b.known))[k]? = some o → o.dot.n = (k : Int) + (ofWho i b.ops).length + 1 := fun i k o ho => by
    have hm := List.mem_of_getElem? ho
    obtain ⟨m1, m2⟩ := mem_ofWho.1 hm
    have hi : dotErr ⟨i, 1⟩ = 0 := by rw [← m2]; exact hgood o m1
    rw [numbered_known kb sb na i hi, List.getElem?_drop] at ho
    have := na i _ o ho
    push_cast at this
    omega
  obtain ⟨r1, r2⟩ := news_do _ b kb sb hn h
  refine ⟨r1, r2, fun i hi => ?_⟩
  show ofWho i (b.doR (lacksR a.ops b.known)).ops = _
  rw [r1, ofWho_add, numbered_known kb sb na i hi]
theorem doR_numbered : ∀ (l : List LOp) {d : LDoc}, d.Ok → Says d.ops d → Numbered d.ops → Numbered (d.doR l).ops
  | [], _, _, _, h => h
  | o :: t, d, hk, hs, h => by
    unfold doR
    split
    · exact h
    · exact doR_numbered t (apply_ok hk o) (apply_says hk hs o) (apply_numbered hk hs h o)
/-- Where both have an op of one dot, it is the same. -/
def Agree (a b : List LOp) : Prop := ∀ x ∈ a, ∀ y ∈ b, x.dot = y.dot → x = y
theorem both_ofWho {a b : LDoc} (ka : a.Ok) (kb : b.Ok) (sa : Says a.ops a) (sb : Says b.ops b) (na : Numbered a.ops) (nb : Numbered b.ops) (hag : Agree a.ops b.ops) (h1 : gaveE a b = 0) (h2 : gaveE (gave a b) a = 0) :
    ∀ i, ofWho i (gave (gave a b) a).ops = ofWho i (gave a b).ops := by
  have kb' : (gave a b).Ok := doR_ok _ kb
  have sb' : Says (gave a b).ops (gave a b) := doR_says _ kb sb
  have nb' : Numbered (gave a b).ops := doR_numbered _ kb sb nb
  obtain ⟨o1, _, r1⟩ := gave_ok ka kb sa sb na h1
  obtain ⟨o2, _, r2⟩ := gave_ok kb' ka sb' sa nb' h2
  intro i
  by_cases hi : dotErr ⟨i, 1⟩ = 0
  · rw [r2 i hi, r1 i hi]
    -- one of the two begins the other
    have hpre : ∀ k (h3 : k < (ofWho i a.ops).length) (h4 : k < (ofWho i b.ops).length), (ofWho i a.ops)[k] = (ofWho i b.ops)[k] := fun k h3 h4 => by
      have e1 := na i k _ (List.getElem?_eq_getElem h3)
      have e2 := nb i k _ (List.getElem?_eq_getElem h4)
      have m1 := mem_ofWho.1 (List.getElem_mem h3)
      have m2 := mem_ofWho.1 (List.getElem_mem h4)
      refine hag _ m1.1 _ m2.1 ?_
      have w1 := m1.2
      have w2 := m2.2
      generalize (ofWho i a.ops)[k] = x at *
      generalize (ofWho i b.ops)[k] = y at *
      obtain ⟨⟨xw, xn⟩, _, _, _, _⟩ := x
      obtain ⟨⟨yw, yn⟩, _, _, _, _⟩ := y
      simp only at e1 e2 w1 w2
      rw [e1, e2, w1, w2]
    generalize ofWho i a.ops = u at *
    generalize ofWho i b.ops = v at *
    apply List.ext_getElem?
    intro k
    rcases Nat.lt_or_ge k u.length with hu | hu
    · rw [List.getElem?_append_left hu]
      rcases Nat.lt_or_ge k v.length with hv | hv
      · rw [List.getElem?_append_left hv, List.getElem?_eq_getElem hu, List.getElem?_eq_getElem hv, hpre k hu hv]
      · rw [List.getElem?_append_right hv, List.getElem?_drop]
        congr 1; omega
    · rw [List.getElem?_append_right hu, List.getElem?_drop]
      congr 1; omega
  · have hz : ∀ l : List LOp, (∀ o ∈ l, opErr o = 0) → ofWho i l = [] := fun l hl => by
      unfold ofWho
      rw [List.filter_eq_nil_iff]
      intro o ho
      simp only [decide_eq_true_eq]
      rintro rfl
      apply hi
      have h3 := (op_ok (hl o ho)).1
      unfold dotErr at h3 ⊢
      split at h3
      · rw [if_pos]; simp only; omega
      · omega
    have sa2 : Says (gave (gave a b) a).ops (gave (gave a b) a) := doR_says _ ka sa
    rw [hz _ sa2.good, hz _ sb'.good]
/-- Then none lacks anything. -/
theorem sync_plain {a b : LDoc} (ka : a.Ok) (kb : b.Ok) (sa : Says a.ops a) (sb : Says b.ops b) (na : Numbered a.ops) (nb : Numbered b.ops) (hag : Agree a.ops b.ops) (h1 : gaveE a b = 0) (h2 : gaveE (gave a b) a = 0) :
    (gave (gave a b) a).book = (gave a b).book ∧ (gave (gave a b) a).marks = (gave a b).marks ∧ (gave (gave a b) a).known = (gave a b).known :=
  Says.same (doR_says _ ka sa) (doR_says _ kb sb) (doR_ok _ ka) (doR_ok _ kb) (both_ofWho ka kb sa sb na nb hag h1 h2)
theorem lacks_none {l : List LOp} {d : LDoc} (h : ∀ o ∈ l, hasRes d.known o.dot = true) : lacksR l d.known = [] := by
  unfold lacksR
  rw [List.filter_eq_nil_iff]
  intro o ho
  obtain ⟨_, _, h3⟩ := hasRes_iff.1 (h o ho)
  unfold lacksB
  simp only [decide_eq_true_eq]
  omega
theorem same_lacks {a b : LDoc} (ka : a.Ok) (kb : b.Ok) (h : a.known = b.known) : lacksR a.ops b.known = [] ∧ lacksR b.ops a.known = [] :=
  ⟨lacks_none fun o ho => by rw [← h]; exact (ka.ops o ho).2, lacks_none fun o ho => by rw [h]; exact (kb.ops o ho).2⟩
end LDoc
end Go.Proofs.YtkaccnegdmpofaaGreatDoor
