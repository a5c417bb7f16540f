/- 5 texts in one: each says ahead of itself what is proved, and its conditions. -/
import Derived.Test.YtgmdnmdniidngaaBookAt
import Derived.Test.YtgmdnmdniidngaaDirStr
import Derived.Test.YtgmdnmdniidngaaEditInsert
import Derived.Test.YtgmdnmdniidngaaEditLaw
import Derived.Test.YtgmdnmdniidngaaHi
import Derived.Test.YtgmdnmdniidngaaNthSeen
/- book.At, walked. Conditions: places that an int may count. -/
namespace Go.Proofs.Ytgmdnmdniidngaa
open Go.RowKit
set_option linter.unusedVariables false
set_option maxRecDepth 100000 in
set_option maxHeartbeats 2000000 in
theorem at_any (w : World) (A : Option Addr) (c : Nat) (l : List LLeaf) (off : Int) (h : Reads w w.heap.size 3 A l.length (lcells l)) (hs : Sized l) (hn : l.length ≤ 9223372036854775807) (h1 : off ≤ 9223372036854775807) :
    Calls Try.prog 72 #[.slice A l.length c, .int .i64 off] w (AtPost w l off) := by
  have HC := Lib.hid (bookCheck_any w A c l h hs hn)
  have HR := Lib.hid h
  clear h hs hn
  by_cases he : bookErr l = 0
  · have ok := book_ok he
    have HE := Lib.hid he
    have HN := Lib.hid (fun w1 (hb : Below w.heap.size w w1) (h0 : 0 ≤ off) => nth_any w1 A c l off ((HR.out.below hb).more hb.size) (by have := ok.few; omega) h0 h1)
    clear he ok
    by_cases h0 : off < 0
    · have HF : Hid (atErr l off = 1) := by show _ = _; unfold atErr; rw [if_neg (fun h => h HE.out), if_pos (.inl h0)]
      go_enter Try.func72, Try.ntmps72
      go_wp2_with fail
      refine HC.out.mono ?_
      rintro e w1 ⟨rfl, hb1⟩
      rw [HE.out, show errV 0 = .nilIface from rfl]
      go_wp2_with fail
      go_ret2
      exact ⟨by rw [HF.out]; rfl, hb1⟩
    · go_enter Try.func72, Try.ntmps72
      go_wp2_with fail
      refine HC.out.mono ?_
      rintro e w1 ⟨rfl, hb1⟩
      rw [HE.out, show errV 0 = .nilIface from rfl]
      have HB1 := Lib.hid hb1
      clear hb1
      go_wp2_with fail
      refine (HN.out _ HB1.out (by omega)).mono ?_
      rintro e w2 ⟨rfl, hb2⟩
      have HB2 := Lib.hid (HB1.out.trans (hb2.mono HB1.out.size))
      clear hb2
      by_cases hneg : nthFrom 0 l off < 0
      · have HF : Hid (atErr l off = 1) := by show _ = _; unfold atErr; rw [if_neg (fun h => h HE.out), if_pos (.inr hneg)]
        go_wp2_with fail
        go_ret2
        exact ⟨by rw [HF.out]; rfl, HB2.out⟩
      · have HF : Hid (atErr l off = 0) := by show _ = _; unfold atErr; rw [if_neg (fun h => h HE.out), if_neg (by omega)]
        go_wp2_with fail
        go_ret2
        exact ⟨by rw [HF.out]; rfl, HB2.out⟩
  · have HV := Lib.hid (errV_ne he)
    have HF : Hid (atErr l off = bookErr l ∧ atErr l off ≠ 0) := by
      have : atErr l off = bookErr l := if_pos he
      exact ⟨this, by rw [this]; exact he⟩
    clear he
    go_enter Try.func72, Try.ntmps72
    go_wp2_with fail
    refine HC.out.mono ?_
    rintro e w1 ⟨rfl, hb1⟩
    rw [HV.out]
    go_wp2_with fail
    go_ret2
    exact ⟨by rw [if_neg HF.out.2, HF.out.1, HV.out]; rfl, hb1⟩
end Go.Proofs.Ytgmdnmdniidngaa
/- edit.at, Split, Fuse, Delete, walked. Conditions: the document is right; the numbers are of 64 bits. -/
namespace Go.Proofs.Ytgmdnmdniidngaa
open Go.RowKit
set_option linter.unusedVariables false
theorem nth_lt : ∀ (l : List LLeaf) (k : Nat) (off : Int), 0 ≤ nthFrom k l off → ∃ n, ∃ hn : n < l.length, nthFrom k l off = ((k + n : Nat) : Int)
  | [], k, off => fun h => by simp [nthFrom] at h
  | x :: l, k, off => fun h => by
    have step : ∀ o : Int, 0 ≤ nthFrom (k + 1) l o → ∃ n, ∃ hn : n < (x :: l).length, nthFrom (k + 1) l o = ((k + n : Nat) : Int) := fun o ho => by
      obtain ⟨n, hn, e⟩ := nth_lt l _ _ ho
      exact ⟨n + 1, by simp; omega, by rw [e]; omega⟩
    unfold nthFrom at h ⊢
    by_cases h1 : seenB x = true
    · rw [if_pos h1] at h ⊢
      by_cases h2 : off = 0
      · rw [if_pos h2]; exact ⟨0, by simp, by simp⟩
      · rw [if_neg h2] at h ⊢; exact step _ h
    · rw [if_neg h1] at h ⊢; exact step _ h
section
variable (w : World) (B : Nat) (S : List Nat) (b : Nat) (st : LDoc) (D : DLay) (h : DocIs w B S b st D) (ok : st.Ok)
include h ok
set_option maxRecDepth 100000 in
set_option maxHeartbeats 4000000 in
theorem at_doc (off : Int) (ho : off ≤ 9223372036854775807) :
    Calls Try.prog 45 #[.pointer (some ⟨b, 0, none⟩), .int .i64 off] w (fun e w' => e = .returned (.tuple #[.string (if atErr st.book off = 0 then st.spot off else ⟨#[]⟩), errV (atErr st.book off)]) ∧ Below w.heap.size w w') := by
  have HC := Lib.hid (book_doc w _ _ _ _ _ h ok)
  have OK := Lib.hid ok
  have hfew := ok.book.few
  have HE0 : errV 0 = .nilIface := rfl
  have HSP : Hid (st.spot off = (st.book.getD ((nthFrom 0 st.book off).toNat) default).place) := rfl
  have HAT : Hid (atErr st.book off = 0 → 0 ≤ nthFrom 0 st.book off) := fun h => by
    unfold atErr at h
    split at h
    · rename_i h1; exact absurd h h1
    · split at h
      · omega
      · omega
  clear h ok
  by_cases he : atErr st.book off = 0
  · rw [he, if_pos rfl, HE0]
    go_enter Try.func45, Try.ntmps45
    go_wp2_with fail
    refine HC.out.mono ?_
    rintro e w1 ⟨V, c, rfl, hO, hb⟩
    have HA := Lib.hid (at_any w1 V c st.book off hO.reads (sized_ok OK.out.book) (by omega) ho)
    have HR := Lib.hid hO.reads
    have HB1 := Lib.hid hb
    unfold AtPost at HA
    clear hO hb HC
    obtain ⟨n, hn, en⟩ := nth_lt _ _ _ (HAT.out he)
    rw [Nat.zero_add] at en
    obtain ⟨ad, rfl, _⟩ := HR.out.leaf hn
    have HCL : Hid (∀ W, Below w1.heap.size w1 W → W.cell? (ad.add (n * 3)) = some (.string st.book[n].place)) := fun W hb => by
      obtain ⟨ad', e, _, c0, _⟩ := (HR.out.below hb).leaf hn
      injection e with e
      subst e
      exact c0
    have HS : Hid (st.spot off = st.book[n].place) := by show _ = _; rw [HSP.out, en]; simp [List.getD, hn]
    rw [he, if_pos rfl, HE0, en] at HA
    have n0 : (0 : Int) ≤ (n : Int) := by omega
    have n1 : (n : Int) < (st.book.length : Int) := by omega
    clear he en HSP HAT HR
    generalize st.book[n].place = p at *
    go_wp2_with fail
    refine HA.out.mono ?_
    rintro e w2 ⟨rfl, hb⟩
    have c0 := HCL.out _ hb
    have HB2 := Lib.hid (HB1.out.trans (hb.mono HB1.out.size))
    clear hb
    go_wp2_with fail
    go_ret2
    exact ⟨by rw [HS.out]; rfl, HB2.out⟩
  · rw [if_neg he]
    have HE := Lib.hid he
    have HV := Lib.hid (errV_ne he)
    clear he HSP HAT
    go_enter Try.func45, Try.ntmps45
    go_wp2_with fail
    refine HC.out.mono ?_
    rintro e w1 ⟨V, c, rfl, hO, hb⟩
    have HA := Lib.hid (at_any w1 V c st.book off hO.reads (sized_ok OK.out.book) (by omega) ho)
    have HB1 := Lib.hid hb
    unfold AtPost at HA
    rw [if_neg HE.out] at HA
    clear hO hb HC HE
    go_wp2_with fail
    refine HA.out.mono ?_
    rintro e w2 ⟨rfl, hb⟩
    rw [HV.out]
    have HB2 := Lib.hid (HB1.out.trans (hb.mono HB1.out.size))
    clear hb
    go_wp2_with fail
    go_ret2
    exact ⟨by rw [HV.out]; rfl, HB2.out⟩
set_option maxRecDepth 100000 in
set_option maxHeartbeats 4000000 in
theorem split_any (who off : Int) (hw0 : -9223372036854775808 ≤ who) (hw1 : who ≤ 9223372036854775807) (ho : off ≤ 9223372036854775807) :
    Calls Try.prog 24 #[.pointer (some ⟨b, 0, none⟩), .int .i64 who, .int .i64 off] w (EditPost w (st.splE who off) (st.splR who off)) := by
  have HN := Lib.hid (newMk_any w B S b st D h ok who hw0 hw1)
  have HD := Lib.hid h
  have OK := Lib.hid ok
  have HE0 : errV 0 = .nilIface := rfl
  have HE1 := errV_ne (show (1 : Int) ≠ 0 by decide)
  clear h ok
  by_cases hw : LDoc.whoE who = 0
  · have HN : Hid (Calls Try.prog 42 #[.pointer (some ⟨b, 0, none⟩), .int .i64 who] w fun e w' => ∃ b, e = .returned (.tuple #[.pointer (some ⟨b, 0, none⟩), .nilIface]) ∧ MkIs w' w.heap.size b (st.maker who) none 0 [] ∧ Below w.heap.size w w') :=
      HN.out.mono fun e w' hh => by
        rcases hh with ⟨_, h1⟩ | ⟨h1, _⟩
        · exact h1
        · exact absurd hw h1
    have HSE : Hid (st.splE who off = atErr st.book off) := by show _ = _; unfold LDoc.splE; rw [if_neg (by omega)]
    have HSR : Hid (st.splR who off = if atErr st.book off = 0 then ((st.maker who).add ⟨⟨0, 0⟩, 3, st.spot off, 0, []⟩).ops else []) := by show _ = _; unfold LDoc.splR; rw [HSE.out]
    have hmn : 0 ≤ (st.maker who).n ∧ (st.maker who).n ≤ 9999 := by
      obtain ⟨k, hk, _, e, h1, h2⟩ := nOf_known OK.out.known hw
      exact ⟨by rw [e] at h1; exact h1, by rw [e] at h2; exact h2⟩
    rw [HSE.out, HSR.out]
    clear hw HSE HSR
    generalize st.maker who = m at *
    by_cases he : atErr st.book off = 0
    · rw [he, if_pos rfl]
      go_enter Try.func24, Try.ntmps24
      go_wp2_with fail
      refine HN.out.mono ?_
      rintro e w1 ⟨bm, rfl, hm, hb⟩
      have HM1 := Lib.hid hm
      have HB1 := Lib.hid hb
      have HA := Lib.hid (at_doc w1 B S b st D (HD.out.below hb) OK.out off ho)
      clear hm hb HN
      rw [he, if_pos rfl, HE0] at HA
      clear he
      generalize st.spot off = p at *
      go_wp2_with fail
      refine HA.out.mono ?_
      rintro e w2 ⟨rfl, hb⟩
      have HB2 := Lib.hid (HB1.out.trans (hb.mono HB1.out.size))
      have HM2 := Lib.hid (HM1.out.below hb)
      have hs2 : w.heap.size ≤ w2.heap.size := HB2.out.size
      have HAD : Hid (Calls _ _ _ _ _) := mkAdd_any w2 w.heap.size bm m none 0 [] HM2.out hs2 ⟨⟨0, 0⟩, 3, p, 0, []⟩ none 0 (Own.nil _ _ _ _) (by omega) (by omega) (by simp)
      unfold LOp.val at HAD
      simp only [List.length_nil] at HAD
      clear hb HM1 HA
      go_wp2_with fail
      refine HAD.out.mono ?_
      rintro e w3 ⟨rfl, ht⟩
      have HB3 := Lib.hid (HB2.out.trans (MkTo.below HM2.out ht (Nat.le_refl _) hs2))
      obtain ⟨V', c', ys', hm3, _, _⟩ := ht
      have HM3 := Lib.hid hm3
      have c2 : w3.cell? ⟨bm, 2, none⟩ = some (.slice V' ys'.length c') := by rw [hm3.blk.cell]; rfl
      clear hm3 HAD
      go_wp2_with fail
      go_ret2
      exact ⟨V', c', ys', rfl, HM3.out.same, HM3.out.ops, HB3.out⟩
    · rw [if_neg he]
      have HV := Lib.hid (errV_ne he)
      go_enter Try.func24, Try.ntmps24
      go_wp2_with fail
      refine HN.out.mono ?_
      rintro e w1 ⟨bm, rfl, hm, hb⟩
      have HM1 := Lib.hid hm
      have HB1 := Lib.hid hb
      have HA := Lib.hid (at_doc w1 B S b st D (HD.out.below hb) OK.out off ho)
      clear hm hb HN
      rw [if_neg he] at HA
      clear he
      go_wp2_with fail
      refine HA.out.mono ?_
      rintro e w2 ⟨rfl, hb⟩
      rw [HV.out]
      have HB2 := Lib.hid (HB1.out.trans (hb.mono HB1.out.size))
      clear hb
      go_wp2_with fail
      go_ret2
      have := edit_bad (k := atErr st.book off) HB2.out
      rw [HV.out] at this
      exact this
  · have HN : Hid (Calls Try.prog 42 #[.pointer (some ⟨b, 0, none⟩), .int .i64 who] w fun e w' => e = .returned (.tuple #[.pointer none, errV 1]) ∧ Below w.heap.size w w') :=
      HN.out.mono fun e w' hh => by
        rcases hh with ⟨h1, _⟩ | ⟨_, h1⟩
        · exact absurd h1 hw
        · exact h1
    have HSE : Hid (st.splE who off = 1) := if_pos hw
    have HSR : Hid (st.splR who off = []) := by show _ = _; unfold LDoc.splR; rw [HSE.out, if_neg (by decide)]
    rw [HSE.out, HSR.out]
    rw [HE1] at HN
    clear hw HSE HSR
    go_enter Try.func24, Try.ntmps24
    go_wp2_with fail
    refine HN.out.mono ?_
    rintro e w1 ⟨rfl, hb⟩
    have HB1 := Lib.hid hb
    clear hb
    go_wp2_with fail
    go_ret2
    have := edit_bad (k := 1) HB1.out
    rw [HE1] at this
    exact this
end
end Go.Proofs.Ytgmdnmdniidngaa
/- What two authors write at once: plain. Conditions: none. -/
namespace Go.Proofs.Ytgmdnmdniidngaa
open Go.RowKit
set_option linter.unusedVariables false
/-- The letters of a text stand in a book, in their order. -/
structure Stand (L : List LLeaf) (x : List LOp) (t : List UInt8) : Prop where
  len : x.length = t.length
  at_ : ∀ i (hi : i < x.length) (ht : i < t.length), hasAt L x[i].place = true ∧ ∃ h : ahead L x[i].place < L.length, L[ahead L x[i].place].letter = (t[i].toNat : Int) ∧ L[ahead L x[i].place].struck = false
  rise : ∀ i j (hj : j < x.length) (hi : i < x.length), i < j → ahead L x[i].place < ahead L x[j].place
theorem ahead_lt {L : List LLeaf} (hr : Rising L) {p q : ByteArray} (hp : hasAt L p = true) (hq : hasAt L q = true) (h : lt p q = true) : ahead L p < ahead L q := by
  have hip := hasAt_lt hp
  have hiq := hasAt_lt hq
  have e1 : L[ahead L p].place = p := by
    have := (leafAt_mem hp).2
    unfold leafAt at this
    rw [List.getD, List.getElem?_eq_getElem hip] at this
    exact this
  have e2 : L[ahead L q].place = q := by
    have := (leafAt_mem hq).2
    unfold leafAt at this
    rw [List.getD, List.getElem?_eq_getElem hiq] at this
    exact this
  rcases Nat.lt_or_ge (ahead L p) (ahead L q) with h1 | h1
  · exact h1
  · rcases Nat.eq_or_lt_of_le h1 with h2 | h2
    · have : p = q := by
        rw [← e1, ← e2]
        congr 1
        exact List.getElem_of_eq rfl _ |>.trans (by simp [h2])
      rw [this, lt_irrefl] at h
      cases h
    · have h3 : lt L[ahead L q].place L[ahead L p].place = true := rising_lt hr _ _ hiq hip h2
      rw [e1, e2, lt_asymm h] at h3
      cases h3
theorem old_at {L : List LLeaf} {p : ByteArray} (h : hasAt L p = true) : ∃ hi : ahead L p < L.length, L[ahead L p] = old L p := by
  refine ⟨hasAt_lt h, ?_⟩
  unfold old
  rw [if_pos h]
  unfold leafAt
  rw [List.getD, List.getElem?_eq_getElem (hasAt_lt h)]
  rfl
theorem typedOps_each (who : Int) (right : ByteArray) : ∀ (t : List UInt8) (left : ByteArray) (n : Int), ∀ o ∈ typedOps who right t left n, o.dot.who = who ∧ o.what = 1 ∧ o.seen = []
  | [], _, _ => fun o ho => by simp [typedOps] at ho
  | c :: t, left, n => fun o ho => by
    rw [typedOps] at ho
    rcases List.mem_cons.1 ho with rfl | ho
    · exact ⟨rfl, rfl, rfl⟩
    · exact typedOps_each who right t _ _ o ho
theorem typedOps_letters (who : Int) (right : ByteArray) : ∀ (t : List UInt8) (left : ByteArray) (n : Int), (typedOps who right t left n).map LOp.letter = t.map fun c => (c.toNat : Int)
  | [], _, _ => rfl
  | c :: t, left, n => by rw [typedOps, List.map_cons, List.map_cons, typedOps_letters who right t]
namespace LDoc
theorem doR_says : ∀ (l : List LOp) {d : LDoc}, d.Ok → Says d.ops d → Says (d.doR l).ops (d.doR l)
  | [], _, _, h => h
  | o :: t, d, hk, h => by
    unfold doR
    split
    · exact h
    · exact doR_says t (apply_ok hk o) (apply_says hk h o)
theorem typed_new (who : Int) (right : ByteArray) : ∀ (t : List UInt8) (left : ByteArray) (n : Int) (d : LDoc), d.Ok → nOf d.known ⟨who, 0⟩ = n → d.doE (typedOps who right t left n) = 0 → (d.doR (typedOps who right t left n)).ops = d.ops ++ typedOps who right t left n
  | [], _, _, d => fun _ _ _ => by simp [typedOps, doR]
  | c :: t, left, n, d => fun hk hn hd => by
    rw [typedOps] at hd ⊢
    generalize hp : strOf (betweenRes left right who) = p at *
    unfold doE at hd
    unfold doR
    by_cases he : d.applyE ⟨⟨who, n + 1⟩, 1, p, c.toNat, []⟩ ≠ 0
    · rw [if_pos he] at hd; exact absurd hd he
    rw [if_neg he] at hd ⊢
    have hn' : nOf d.known ⟨who, n + 1⟩ = n := (nOf_who _ rfl).trans hn
    obtain ⟨q1, q2, q3, q4, q5⟩ := apply_new hk (o := ⟨⟨who, n + 1⟩, 1, p, c.toNat, []⟩) (by omega) (by rw [hn']; show n < n + 1; omega)
    obtain ⟨a1, a2, a3⟩ := add_ok q3
    have hk2 := apply_ok hk ⟨⟨who, n + 1⟩, 1, p, c.toNat, []⟩
    have hn2 : nOf (d.apply ⟨⟨who, n + 1⟩, 1, p, c.toNat, []⟩).known ⟨who, 0⟩ = n + 1 := by
      rw [q5]
      show nOf (addRes d.known ⟨who, n + 1⟩) ⟨who, 0⟩ = n + 1
      rw [nOf_who _ (show (⟨who, 0⟩ : LDot).who = (⟨who, n + 1⟩ : LDot).who from rfl), nOf_add a1 a2 a2, if_pos rfl]
    have ho : (d.apply ⟨⟨who, n + 1⟩, 1, p, c.toNat, []⟩).ops = d.ops ++ [⟨⟨who, n + 1⟩, 1, p, c.toNat, []⟩] := by rw [q5]
    rw [typed_new who right t p (n + 1) _ hk2 hn2 hd, ho]
    simp
/-- What an insert's ops do to a document that does not know them. -/
theorem ins_new {d e : LDoc} {who off : Int} {text : ByteArray} (h : d.insE who off text = 0) (ke : e.Ok) (hn : nOf e.known ⟨who, 0⟩ = nOf d.known ⟨who, 0⟩) (hd : e.doE (d.insR who off text) = 0) : (e.doR (d.insR who off text)).ops = e.ops ++ d.insR who off text := by
  obtain ⟨h1, h2, h3, h4⟩ := ins_ok h
  rw [h3] at hd ⊢
  exact typed_new _ _ _ _ _ _ ke hn hd
theorem ins_each {d : LDoc} {who off : Int} {text : ByteArray} (h : d.insE who off text = 0) : (∀ o ∈ d.insR who off text, o.dot.who = who ∧ o.what = 1 ∧ o.seen = []) ∧ (d.insR who off text).map LOp.letter = text.toList.map fun c => (c.toNat : Int) := by
  obtain ⟨h1, h2, h3, h4⟩ := ins_ok h
  rw [h3]
  exact ⟨typedOps_each _ _ _ _ _, typedOps_letters _ _ _ _ _⟩
theorem ins_none {d : LDoc} (hk : d.Ok) {who off : Int} {text : ByteArray} (h : d.insE who off text = 0) (hd : d.doE (d.insR who off text) = 0) :
    (∀ o ∈ d.insR who off text, hasAt d.book o.place = false) ∧ (d.insR who off text).Pairwise (fun x y => lt x.place y.place = true) := by
  obtain ⟨a, b, e1, e2, e3, e4, e5, e6, e7, e8, e9⟩ := ins_does hk h hd
  refine ⟨fun o ho => ?_, ?_⟩
  · have hr := hk.book.rising
    rw [e1] at hr ⊢
    exact gap_none hr (fun x hx => e8 x hx o ho) (fun x hx => e9 x hx o ho)
  · have hr := rising_pair.1 (doR_ok (d.insR who off text) hk).book.rising
    rw [e3, List.pairwise_append, List.pairwise_append] at hr
    exact List.pairwise_map.1 hr.1.2.1
theorem stand_of {d e : LDoc} (hk : d.Ok) (ke : e.Ok) (hs : Says d.ops d) (hse : Says e.ops e) {who off : Int} {text : ByteArray} (h : d.insE who off text = 0) (hd : d.doE (d.insR who off text) = 0)
    (hin : ∀ o ∈ d.insR who off text, o ∈ e.ops) (hno : ∀ o ∈ e.ops, o.what = 2 → o ∈ d.ops) : Stand e.book (d.insR who off text) text.toList := by
  obtain ⟨n1, n2⟩ := ins_none hk h hd
  obtain ⟨m1, m2⟩ := ins_each h
  have hlen : (d.insR who off text).length = text.toList.length := by
    have := congrArg List.length m2
    simpa using this
  have hat : ∀ o ∈ d.insR who off text, hasAt e.book o.place = true := fun o ho => (hse.here o.place).2 ⟨o, hin o ho, .inl (m1 o ho).2.1, rfl⟩
  refine ⟨hlen, fun i hi ht => ?_, fun i j hj hi hij => ?_⟩
  · have ho := List.getElem_mem hi
    obtain ⟨h1, h2⟩ := old_at (hat _ ho)
    refine ⟨hat _ ho, h1, ?_, ?_⟩
    · rw [h2, hse.letter _ (hin _ ho) (m1 _ ho).2.1]
      have e1 : ((d.insR who off text).map LOp.letter)[i]'(by simpa using hi) = (d.insR who off text)[i].letter := by simp
      rw [← e1]
      simp only [m2]
      simp
    · rw [h2]
      cases hst : (old e.book (d.insR who off text)[i].place).struck with
      | false => rfl
      | true =>
        obtain ⟨o, o1, o2, o3⟩ := (hse.struck _).1 hst
        have : hasAt d.book (d.insR who off text)[i].place = true := (hs.here _).2 ⟨o, hno o o1 o2, .inr o2, o3⟩
        rw [n1 _ ho] at this
        cases this
  · exact ahead_lt ke.book.rising (hat _ (List.getElem_mem hi)) (hat _ (List.getElem_mem hj)) ((List.pairwise_iff_getElem.1 n2) i j hi hj hij)
theorem apart_plain {d : LDoc} (hk : d.Ok) (hs : Says d.ops d) {who at_ other too : Int} {text word : ByteArray} (hne : who ≠ other) (hx : d.insE who at_ text = 0) (hy : d.insE other too word = 0)
    (e1 : d.doE (d.insR who at_ text) = 0) (e2 : d.doE (d.insR other too word) = 0) (e3 : (d.doR (d.insR who at_ text)).doE (d.insR other too word) = 0) (e4 : (d.doR (d.insR other too word)).doE (d.insR who at_ text) = 0) :
    ((d.doR (d.insR who at_ text)).doR (d.insR other too word)).book = ((d.doR (d.insR other too word)).doR (d.insR who at_ text)).book ∧
      Stand ((d.doR (d.insR who at_ text)).doR (d.insR other too word)).book (d.insR who at_ text) text.toList ∧ Stand ((d.doR (d.insR who at_ text)).doR (d.insR other too word)).book (d.insR other too word) word.toList := by
  have k1 := doR_ok (d.insR who at_ text) hk
  have k2 := doR_ok (d.insR other too word) hk
  have k3 := doR_ok (d.insR other too word) k1
  have k4 := doR_ok (d.insR who at_ text) k2
  have s1 := doR_says (d.insR who at_ text) hk hs
  have s2 := doR_says (d.insR other too word) hk hs
  have s3 := doR_says (d.insR other too word) k1 s1
  have s4 := doR_says (d.insR who at_ text) k2 s2
  have o1 := ins_new hx hk rfl e1
  have o2 := ins_new hy hk rfl e2
  obtain ⟨x1, x2⟩ := ins_each hx
  obtain ⟨y1, y2⟩ := ins_each hy
  have gw : dotErr ⟨who, 1⟩ = 0 := (who_dot (ins_ok hx).1).1
  have go : dotErr ⟨other, 1⟩ = 0 := (who_dot (ins_ok hy).1).1
  have hX : ofWho other (d.insR who at_ text) = [] := by
    unfold ofWho
    rw [List.filter_eq_nil_iff]
    intro o ho
    rw [(x1 o ho).1]
    simpa using hne
  have hY : ofWho who (d.insR other too word) = [] := by
    unfold ofWho
    rw [List.filter_eq_nil_iff]
    intro o ho
    rw [(y1 o ho).1]
    simpa using fun h => hne h.symm
  have n3 : nOf (d.doR (d.insR who at_ text)).known ⟨other, 0⟩ = nOf d.known ⟨other, 0⟩ := by
    rw [nOf_who _ (show (⟨other, 0⟩ : LDot).who = (⟨other, 1⟩ : LDot).who from rfl), nOf_who d.known (show (⟨other, 0⟩ : LDot).who = (⟨other, 1⟩ : LDot).who from rfl), s1.known _ go, hs.known _ go, o1, ofWho_add, hX]
    simp
  have n4 : nOf (d.doR (d.insR other too word)).known ⟨who, 0⟩ = nOf d.known ⟨who, 0⟩ := by
    rw [nOf_who _ (show (⟨who, 0⟩ : LDot).who = (⟨who, 1⟩ : LDot).who from rfl), nOf_who d.known (show (⟨who, 0⟩ : LDot).who = (⟨who, 1⟩ : LDot).who from rfl), s2.known _ gw, hs.known _ gw, o2, ofWho_add, hY]
    simp
  have o3 := ins_new hy k1 n3 e3
  have o4 := ins_new hx k2 n4 e4
  rw [o1] at o3
  rw [o2] at o4
  have hin : ∀ o, o ∈ ((d.doR (d.insR who at_ text)).doR (d.insR other too word)).ops ↔ o ∈ d.ops ∨ o ∈ d.insR who at_ text ∨ o ∈ d.insR other too word := fun o => by rw [o3]; simp [or_assoc]
  have hno : ∀ o ∈ ((d.doR (d.insR who at_ text)).doR (d.insR other too word)).ops, o.what = 2 → o ∈ d.ops := fun o ho hw => by
    rcases (hin o).1 ho with h | h | h
    · exact h
    · have := (x1 o h).2.1; omega
    · have := (y1 o h).2.1; omega
  refine ⟨?_, stand_of hk k3 hs s3 hx e1 (fun o ho => (hin o).2 (.inr (.inl ho))) hno, stand_of hk k3 hs s3 hy e2 (fun o ho => (hin o).2 (.inr (.inr ho))) hno⟩
  refine (Says.same s3 s4 k3 k4 fun i => ?_).1
  rw [o3, o4, ofWho_add, ofWho_add, ofWho_add, ofWho_add]
  by_cases h1 : i = who
  · subst h1; rw [hY]; simp
  · have hX' : ofWho i (d.insR who at_ text) = [] := by
      unfold ofWho
      rw [List.filter_eq_nil_iff]
      intro o ho
      rw [(x1 o ho).1]
      simpa using fun h => h1 h.symm
    rw [hX']; simp
end LDoc
end Go.Proofs.Ytgmdnmdniidngaa
/- Stretches, in plain Lean: places rise, offsets rise. No program in sight. -/
namespace Go.Proofs.Ytgmdnmdniidngaa
set_option linter.unusedVariables false

def ltP (p q : ByteArray) : Prop := Op.bytesLess p.toList q.toList = true
theorem ltP_trans {p q r : ByteArray} (h : ltP p q) (h2 : ltP q r) : ltP p r := less_trans _ _ _ h h2
theorem ltP_irrefl (p : ByteArray) : ¬ ltP p p := by unfold ltP; rw [less_irrefl']; decide
def Rises (ps : List ByteArray) : Prop := ps.Pairwise ltP
theorem ord_place {a b : LMark} (h : ¬ 0 ≤ ordM a b) : ltP a.place b.place ∨ a.place = b.place := by
  unfold ordM orI at h
  by_cases h0 : Lib.compareBytes a.place.data.toList b.place.data.toList = 0
  · right
    have := cmp_zero a.place.data.toList b.place.data.toList
    rw [h0] at this
    have h1 : a.place.data.toList = b.place.data.toList := by
      have h2 : (a.place.data.toList == b.place.data.toList) = true := this.symm
      exact beq_iff_eq.mp h2
    exact ByteArray.ext (Array.ext' h1)
  · left
    unfold ltP
    rw [toList_data, toList_data, ← cmp_less_iff]
    rw [if_pos h0] at h
    omega
theorem rises_last {ps : List ByteArray} {q p : ByteArray} (h : Rises ps) (hl : ps.getLast? = some q) (hq : ltP q p) : ∀ a ∈ ps, ltP a p := by
  intro a ha
  have hne : ps ≠ [] := by rintro rfl; simp at ha
  have hg : ps.getLast hne = q := by rw [List.getLast?_eq_some_getLast hne] at hl; injection hl
  have hs : ps = ps.dropLast ++ [q] := by rw [← hg, List.dropLast_concat_getLast]
  unfold Rises at h
  rw [hs] at h ha
  rw [List.pairwise_append] at h
  rcases List.mem_append.mp ha with ha | ha
  · exact ltP_trans (h.2.2 a ha q (by simp)) hq
  · simp at ha; subst ha; exact hq
theorem rises_fold : ∀ (m : List LMark) (prev : Option LMark) (out : List ByteArray), out.getLast? = prev.map LMark.place → Rises out → marksFault prev m = 0 → Rises (m.foldl plStep out) := by
  intro m
  induction m with
  | nil => intro prev out _ h _; exact h
  | cons x m ih =>
    intro prev out hl hr hf
    rw [marksFault_cons] at hf
    by_cases h1 : markErr x ≠ 0
    · rw [if_pos h1] at hf; exact absurd hf h1
    rw [if_neg h1] at hf
    by_cases h2 : mClash prev x = true
    · rw [if_pos h2] at hf; omega
    rw [if_neg h2] at hf
    show Rises (m.foldl plStep (plStep out x))
    by_cases h3 : out.getLast? = some x.place
    · have : plStep out x = out := by unfold plStep; rw [if_pos h3]
      rw [this]
      exact ih (some x) out h3 hr hf
    · have : plStep out x = out ++ [x.place] := by unfold plStep; rw [if_neg h3]
      rw [this]
      refine ih (some x) _ (by simp) ?_ hf
      cases prev with
      | none =>
        have : out = [] := by simpa using hl
        subst this
        simp [Rises]
      | some p =>
        have hl' : out.getLast? = some p.place := hl
        have h4 : ¬ 0 ≤ ordM p x := by intro h; apply h2; simp [mClash, h]
        rcases ord_place h4 with h5 | h5
        · unfold Rises
          rw [List.pairwise_append]
          refine ⟨hr, by simp, fun a ha b hb => ?_⟩
          simp at hb; subst hb
          exact rises_last hr hl' h5 a ha
        · rw [h5] at hl'; exact absurd hl' h3
theorem rises_places {m : List LMark} (h : marksErr m = 0) : Rises (places m) := by
  unfold marksErr at h
  by_cases h1 : 40 < m.length
  · rw [if_pos h1] at h; omega
  · rw [if_neg h1] at h
    exact rises_fold m none [] rfl (by simp [Rises]) h

section
variable {l : List LLeaf} {ps : List ByteArray}
theorem ahead_mono {p q : ByteArray} (h : ltP p q) : ahead l p ≤ ahead l q := by
  unfold ahead
  induction l with
  | nil => simp
  | cons x l ih =>
    simp only [List.filter_cons]
    by_cases h1 : Op.bytesLess x.place.toList p.toList = true
    · rw [if_pos h1, if_pos (less_trans _ _ _ h1 h)]; simpa using ih
    · rw [if_neg h1]
      by_cases h2 : Op.bytesLess x.place.toList q.toList = true
      · rw [if_pos h2]; simp only [List.length_cons]; omega
      · rw [if_neg h2]; exact ih
theorem seen_mono {i j : Nat} (h : i ≤ j) : (textL (l.take i)).length ≤ (textL (l.take j)).length := by
  have h1 : l.take i = (l.take j).take i := by rw [List.take_take, Nat.min_eq_left h]
  rw [h1]
  have h2 : textL (l.take j) = textL ((l.take j).take i) ++ textL ((l.take j).drop i) := by
    unfold textL
    rw [← List.map_append, ← List.filter_append, List.take_append_drop]
  rw [h2, List.length_append]; omega
theorem fr_le (k : Nat) : fr l ps k ≤ (textL l).length := by
  have := seen_mono (l := l) (i := ahead l (plAt ps k)) (j := l.length) (by unfold ahead; exact List.length_filter_le _ _)
  rw [List.take_length] at this
  exact this
theorem plAt_lt (h : Rises ps) {i j : Nat} (hij : i < j) (hj : j ≤ ps.length) (hi : 0 < i) : ltP (plAt ps i) (plAt ps j) := by
  obtain ⟨a, rfl⟩ : ∃ a, i = a + 1 := ⟨i - 1, by omega⟩
  obtain ⟨b, rfl⟩ : ∃ b, j = b + 1 := ⟨j - 1, by omega⟩
  have e : ∀ x (hx : x < ps.length), plAt ps (x + 1) = ps[x] := fun x hx => by unfold plAt; simp [hx]
  rw [e a (by omega), e b (by omega)]
  exact List.pairwise_iff_getElem.mp h a b (by omega) (by omega) (by omega)
theorem fr_mono (h : Rises ps) {i j : Nat} (hij : i ≤ j) (hj : j ≤ ps.length) : fr l ps i ≤ fr l ps j := by
  rcases Nat.eq_zero_or_pos i with h0 | h0
  · subst h0; rw [fr_zero]; omega
  rcases Nat.lt_or_eq_of_le hij with h1 | h1
  · exact seen_mono (ahead_mono (plAt_lt h h1 hj h0))
  · subst h1; omega
/-- Where a stretch ends. -/
def endOf (l : List LLeaf) (ps : List ByteArray) (k : Nat) : Nat := if k < ps.length then fr l ps (k + 1) else (textL l).length
theorem strL_len : (strL l ps).length = ps.length + 1 := by simp [strL, preL_len]
theorem strL_at {k : Nat} (hk : k ≤ ps.length) : (strL l ps)[k]? = some ⟨plAt ps k, fr l ps k, (endOf l ps k : Int) - fr l ps k⟩ := by
  unfold strL endOf
  rcases Nat.lt_or_eq_of_le hk with h1 | h1
  · rw [List.getElem?_append_left (by rw [preL_len]; exact h1), if_pos h1]
    simp [preL, h1, stAt]
  · subst h1
    rw [List.getElem?_append_right (by rw [preL_len]; exact Nat.le_refl _), if_neg (by omega), preL_len]
    simp
theorem fr_end (h : Rises ps) {k : Nat} (hk : k ≤ ps.length) : fr l ps k ≤ endOf l ps k := by
  unfold endOf
  split
  · exact fr_mono h (by omega) (by omega)
  · exact fr_le k
theorem end_le (k : Nat) : endOf l ps k ≤ (textL l).length := by
  unfold endOf
  split
  · exact fr_le _
  · omega
end
end Go.Proofs.Ytgmdnmdniidngaa
/- A book cut ahead of some letters: how many stretches. Plain. Conditions: none. -/
namespace Go.Proofs.Ytgmdnmdniidngaa
open Go.RowKit
set_option linter.unusedVariables false
theorem mem_fold_pl (p : ByteArray) : ∀ (l : List LMark) (out : List ByteArray), p ∈ l.foldl plStep out ↔ p ∈ out ∨ ∃ x ∈ l, x.place = p
  | [], out => by simp
  | x :: l, out => by
    rw [List.foldl_cons, mem_fold_pl p l]
    have h : p ∈ plStep out x ↔ p ∈ out ∨ x.place = p := by
      unfold plStep
      split
      · rename_i h1
        refine ⟨.inl, fun h => h.elim id fun h2 => ?_⟩
        subst h2
        exact List.mem_of_getLast? h1
      · simp only [List.mem_append, List.mem_singleton]
        exact ⟨fun h => h.imp id Eq.symm, fun h => h.imp id Eq.symm⟩
    rw [h]
    constructor
    · rintro ((h | h) | ⟨y, hy, h⟩)
      · exact .inl h
      · exact .inr ⟨x, by simp, h⟩
      · exact .inr ⟨y, by simp [hy], h⟩
    · rintro (h | ⟨y, hy, h⟩)
      · exact .inl (.inl h)
      · rcases List.mem_cons.1 hy with rfl | hy
        · exact .inl (.inr ‹_›)
        · exact .inr ⟨y, hy, ‹_›⟩
theorem mem_places {p : ByteArray} {l : List LMark} : p ∈ places l ↔ ∃ x ∈ l, x.place = p := by
  unfold places
  rw [mem_fold_pl]
  simp
theorem rises_nodup {ps : List ByteArray} (h : Rises ps) : ps.Nodup := List.Pairwise.imp (fun {a b} hab he => by subst he; exact ltP_irrefl _ hab) h
/-- One mark more. -/
theorem places_cut {l : List LMark} {m : LMark} (hl : MarksOk l) (hc : MarksOk (cutRes l m)) : (m.place ∈ places l → (places (cutRes l m)).length = (places l).length) ∧ (m.place ∉ places l → (places (cutRes l m)).length = (places l).length + 1) := by
  have n1 := rises_nodup (rises_places (marks_zero hl))
  have n2 := rises_nodup (rises_places (marks_zero hc))
  have hm : ∀ p, p ∈ places (cutRes l m) ↔ p ∈ places l ∨ p = m.place := fun p => by
    rw [mem_places, mem_places]
    constructor
    · rintro ⟨x, hx, h⟩
      rcases (mem_cut hl.rising).1 hx with h1 | h1
      · exact .inl ⟨x, h1, h⟩
      · subst h1; exact .inr h.symm
    · rintro (⟨x, hx, h⟩ | h)
      · exact ⟨x, (mem_cut hl.rising).2 (.inl hx), h⟩
      · exact ⟨m, (mem_cut hl.rising).2 (.inr rfl), h.symm⟩
  refine ⟨fun h1 => ?_, fun h1 => ?_⟩
  · have : List.Perm (places (cutRes l m)) (places l) := (List.perm_ext_iff_of_nodup n2 n1).2 fun p => by
      rw [hm]
      exact ⟨fun h => h.elim id fun h => by subst h; exact h1, .inl⟩
    simpa using this.length_eq
  · have : List.Perm (places (cutRes l m)) (m.place :: places l) := (List.perm_ext_iff_of_nodup n2 (List.nodup_cons.2 ⟨h1, n1⟩)).2 fun p => by
      rw [hm, List.mem_cons]
      exact ⟨fun h => h.symm, fun h => h.symm⟩
    simpa using this.length_eq
def spotN (l : List LLeaf) (off : Int) : ByteArray := (l.getD ((nthFrom 0 l off).toNat) default).place
theorem spot_at {l : List LLeaf} {o : Nat} (h : o < (textL l).length) : ∃ n, ∃ hn : n < l.length, nthFrom 0 l (o : Int) = (n : Int) ∧ (textL (l.take n)).length = o ∧ spotN l (o : Int) = l[n].place := by
  obtain ⟨n, hn, h1, h2, h3⟩ := nth_seen l 0 o h
  rw [Nat.zero_add] at h1
  exact ⟨n, hn, h1, h3, by unfold spotN; rw [h1]; simp [List.getD, hn]⟩
theorem spot_inj {l : List LLeaf} (hr : Rising l) {a b : Nat} (ha : a < (textL l).length) (hb : b < (textL l).length) (he : spotN l a = spotN l b) : a = b := by
  obtain ⟨n, hn, _, h1, h2⟩ := spot_at ha
  obtain ⟨m, hm, _, h3, h4⟩ := spot_at hb
  rw [h2, h4] at he
  rcases Nat.lt_trichotomy n m with h | h | h
  · have := rising_lt hr n m hn hm h
    rw [he, less_irrefl'] at this; cases this
  · subst h; omega
  · have := rising_lt hr m n hm hn h
    rw [he, less_irrefl'] at this; cases this
/-- A book with k cuts, at the offsets of L. -/
structure Cuts (bk : List LLeaf) (n : Nat) (L : List Bool) (k : Nat) (st : LDoc) : Prop where
  ok : st.Ok
  book : st.book = bk
  joined : st.joined = []
  ops : st.ops.length ≤ n + k
  two : nOf st.known ⟨2, 0⟩ ≤ (k : Int)
  few : st.marks.length ≤ k
  at_ : ∀ p, p ∈ places st.marks ↔ ∃ o : Nat, o < (textL bk).length ∧ L.getD o false = true ∧ p = spotN bk o
theorem nOf_nonneg {l : List Int} (h : vecErr l = 0) (d : LDot) : 0 ≤ nOf l d := by
  obtain ⟨h1, h2⟩ := vec_ok h
  unfold nOf
  rw [List.getD_eq_getElem?_getD]
  by_cases hk : (d.who - 1).toNat < l.length
  · rw [List.getElem?_eq_getElem hk]; exact (h2 _ (List.getElem_mem hk)).1
  · rw [List.getElem?_eq_none (by omega)]; exact Int.le_refl _
theorem at_zero {l : List LLeaf} (hb : BookOk l) {o : Nat} (h : o < (textL l).length) : atErr l (o : Int) = 0 := by
  obtain ⟨n, hn, h1, _⟩ := spot_at h
  unfold atErr
  rw [if_neg (fun x => x (bookErr_zero hb)), if_neg (by rw [h1]; omega)]
theorem nth_far : ∀ (l : List LLeaf) (k : Nat) (off : Int), ((textL l).length : Int) ≤ off → nthFrom k l off < 0
  | [], k, off => fun _ => by simp [nthFrom]
  | x :: l, k, off => fun h => by
    rw [textL_cons] at h
    unfold nthFrom
    by_cases hs : seenB x = true
    · rw [if_pos hs] at h ⊢
      simp only [List.length_append, List.length_cons, List.length_nil] at h
      rw [if_neg (by omega)]
      exact nth_far l _ _ (by omega)
    · rw [if_neg hs] at h ⊢
      exact nth_far l _ _ (by simpa using h)
theorem at_far {l : List LLeaf} (hb : BookOk l) {off : Int} (h : off < 0 ∨ ((textL l).length : Int) ≤ off) : atErr l off = 1 := by
  unfold atErr
  rw [if_neg (fun x => x (bookErr_zero hb)), if_pos]
  rcases h with h | h
  · exact .inl h
  · exact .inr (nth_far l 0 off h)
def cutOp (st : LDoc) (off : Int) : LOp := ⟨⟨2, nOf st.known ⟨2, 0⟩ + 1⟩, 3, st.spot off, 0, []⟩
theorem Cuts.step {bk : List LLeaf} {n k : Nat} {L : List Bool} {st : LDoc} (h : Cuts bk n L k st) (hn : n ≤ 60) (hk : k < 20) {o : Nat} (ho : o < (textL bk).length) (hL : o < L.length) :
    st.splE 2 (o : Int) = 0 ∧ st.splR 2 (o : Int) = [cutOp st o] ∧ st.doE [cutOp st o] = 0 ∧ Cuts bk n (L.set o true) (k + 1) (st.doR [cutOp st o]) ∧
      (places (st.doR [cutOp st o]).marks).length = (places st.marks).length + (if L.getD o false = true then 0 else 1) ∧ placeErr (cutOp st o).place = 0 := by
  have hbk : BookOk bk := h.book ▸ h.ok.book
  have hw : LDoc.whoE 2 = 0 := by decide
  have hs : st.splE 2 (o : Int) = 0 := by
    unfold LDoc.splE
    rw [if_neg (by rw [hw]; decide), h.book, at_zero hbk ho]
  obtain ⟨i, hi, hn1, hn2, hsp⟩ := spot_at ho
  have hspot : st.spot (o : Int) = spotN bk o := by unfold LDoc.spot spotN; rw [h.book]
  have hpl : placeErr (st.spot (o : Int)) = 0 := by rw [hspot, hsp]; exact (hbk.leafs _ (List.getElem_mem hi)).place
  have hr : st.splR 2 (o : Int) = [cutOp st o] := by
    unfold LDoc.splR
    rw [if_pos hs]
    rfl
  have n0 := nOf_nonneg h.ok.known ⟨2, 0⟩
  have htwo := h.two
  have hdot : dotErr (cutOp st o).dot = 0 := by
    unfold dotErr cutOp
    simp only
    rw [if_pos (by omega)]
  have hop : opErr (cutOp st o) = 0 := by
    unfold opErr
    rw [if_neg (by rw [hdot]; decide), if_neg (by show ¬ ¬ (1 ≤ (3 : Int) ∧ (3 : Int) ≤ 4); decide), if_neg (by show ¬ placeErr (st.spot o) ≠ 0; rw [hpl]; decide), if_neg (by rintro ⟨h1, _⟩; exact absurd h1 (by show ¬ (3 : Int) = 1; decide)),
      if_neg (by rintro ⟨_, h1⟩; exact h1 rfl), if_neg (by rintro ⟨_, h1⟩; exact absurd h1 (by show ¬ 0 < 0; decide)), if_neg (by show ¬ 40 < 0; decide)]
    rfl
  have hnn : nOf st.known (cutOp st o).dot = nOf st.known ⟨2, 0⟩ := nOf_who _ rfl
  have hvd : vdErr st.known (cutOp st o).dot = 0 := by unfold vdErr; rw [if_neg (fun x => x h.ok.known), hdot]
  have hhas : hasRes st.known (cutOp st o).dot = false := by
    unfold hasRes
    rw [Bool.and_eq_false_iff]
    refine .inr (decide_eq_false ?_)
    rw [hnn]; show ¬ (nOf st.known ⟨2, 0⟩ + 1 ≤ _); omega
  have hadd : addErr st.known (cutOp st o).dot = 0 := by
    unfold addErr
    rw [if_neg (fun x => x hvd), hnn, if_neg (by show ¬ (nOf st.known ⟨2, 0⟩ + 1 ≤ _); omega), if_neg (by show ¬ (_ < nOf st.known ⟨2, 0⟩ + 1 - 1); omega)]
  have hgone : st.gone (cutOp st o) = false := by unfold LDoc.gone; rw [h.joined]; rfl
  have hmk : markErr (⟨(cutOp st o).place, (cutOp st o).dot⟩ : LMark) = 0 := by
    unfold markErr
    first
      | rw [if_neg (by show ¬ placeErr (st.spot o) ≠ 0; rw [hpl]; decide), hdot]
      | (show (if placeErr (st.spot o) ≠ 0 then _ else _) = _; rw [if_neg (by rw [hpl]; decide)]; exact hdot)
  have hce : cutErr st.marks ⟨(cutOp st o).place, (cutOp st o).dot⟩ = 0 := cut_zero h.ok.marks hmk (.inr (by have := h.few; omega))
  have hturn : st.turnE (cutOp st o) = 0 := by
    unfold LDoc.turnE
    rw [if_neg (by show ¬ (3 : Int) = 1; decide), if_neg (by show ¬ (3 : Int) = 2; decide), if_pos (by rfl)]
    unfold LDoc.cutE
    rw [hgone, if_neg (by decide), hce]
  have hops := h.ops
  have happ : st.applyE (cutOp st o) = 0 := by
    unfold LDoc.applyE
    rw [if_neg (fun x => x hop), if_neg (fun x => x hvd), if_neg (by rw [hhas]; decide), if_neg (fun x => x hadd), if_neg (by omega), hturn]
  obtain ⟨_, _, _, _, hgo⟩ := LDoc.apply_new h.ok happ (by rw [hnn]; show _ < nOf st.known ⟨2, 0⟩ + 1; omega)
  have hde : st.doE [cutOp st o] = 0 := by
    unfold LDoc.doE
    rw [if_neg (fun x => x happ)]
    rfl
  have hdr : st.doR [cutOp st o] = st.apply (cutOp st o) := by
    unfold LDoc.doR
    rw [if_neg (fun x => x happ)]
    rfl
  have hturnR : st.turn (cutOp st o) = { st with marks := cutRes st.marks ⟨spotN bk o, (cutOp st o).dot⟩ } := by
    unfold LDoc.turn
    rw [if_neg (by show ¬ (3 : Int) = 1; decide), if_neg (by show ¬ (3 : Int) = 2; decide), if_pos (by rfl)]
    unfold LDoc.cut
    rw [hgone, if_neg (by decide), if_pos hce, ← hspot]
    rfl
  have hok2 := LDoc.apply_ok h.ok (cutOp st o)
  rw [hdr, hgo, hturnR] at *
  have hmo := hok2.marks
  have hpc := places_cut h.ok.marks hmo
  refine ⟨hs, hr, hde, ⟨hok2, h.book, h.joined, by simp; omega, ?_, ?_, ?_⟩, ?_, hpl⟩
  · have := nOf_add (e := ⟨2, 1⟩) h.ok.known hdot (by decide)
    rw [if_pos (by rfl)] at this
    show nOf (addRes _ _) _ ≤ _
    rw [nOf_who _ (show (⟨2, 0⟩ : LDot).who = (⟨2, 1⟩ : LDot).who from rfl), this]
    show nOf st.known ⟨2, 0⟩ + 1 ≤ _
    omega
  · show (cutRes st.marks _).length ≤ _
    rw [cut_len]
    have := h.few
    split <;> omega
  · intro p
    show p ∈ places (cutRes st.marks _) ↔ _
    have hm : p ∈ places (cutRes st.marks ⟨spotN bk o, (cutOp st o).dot⟩) ↔ p ∈ places st.marks ∨ p = spotN bk o := by
      rw [mem_places, mem_places]
      constructor
      · rintro ⟨x, hx, h1⟩
        rcases (mem_cut h.ok.marks.rising).1 hx with h2 | h2
        · exact .inl ⟨x, h2, h1⟩
        · subst h2; exact .inr h1.symm
      · rintro (⟨x, hx, h1⟩ | h1)
        · exact ⟨x, (mem_cut h.ok.marks.rising).2 (.inl hx), h1⟩
        · exact ⟨_, (mem_cut h.ok.marks.rising).2 (.inr rfl), h1.symm⟩
    rw [hm, h.at_]
    constructor
    · rintro (⟨a, a1, a2, a3⟩ | h1)
      · refine ⟨a, a1, ?_, a3⟩
        rw [List.getD_eq_getElem?_getD, List.getElem?_set] at *
        split
        · rename_i h4; subst h4; simp [hL]
        · exact a2
      · refine ⟨o, ho, ?_, h1⟩
        rw [List.getD_eq_getElem?_getD, List.getElem?_set, if_pos rfl, if_pos hL]; rfl
    · rintro ⟨a, a1, a2, a3⟩
      by_cases h4 : o = a
      · subst h4; exact .inr a3
      · rw [List.getD_eq_getElem?_getD, List.getElem?_set, if_neg h4, ← List.getD_eq_getElem?_getD] at a2
        exact .inl ⟨a, a1, a2, a3⟩
  · show (places (cutRes st.marks _)).length = _
    have hiff : spotN bk o ∈ places st.marks ↔ L.getD o false = true := by
      rw [h.at_]
      constructor
      · rintro ⟨a, a1, a2, a3⟩
        rw [spot_inj hbk.rising ho a1 a3]
        exact a2
      · intro h1
        exact ⟨o, ho, h1, rfl⟩
    by_cases h5 : L.getD o false = true
    · rw [if_pos h5]; exact hpc.1 (hiff.2 h5)
    · rw [if_neg h5]; exact hpc.2 (fun h6 => h5 (hiff.1 h6))
theorem Cuts.far {bk : List LLeaf} {n k : Nat} {L : List Bool} {st : LDoc} (h : Cuts bk n L k st) {off : Int} (ho : off < 0 ∨ ((textL bk).length : Int) ≤ off) : st.splE 2 off = 1 := by
  unfold LDoc.splE
  rw [if_neg (by decide), h.book]
  exact at_far (h.book ▸ h.ok.book) ho
theorem Cuts.more {bk : List LLeaf} {n k j : Nat} {L : List Bool} {st : LDoc} (h : Cuts bk n L k st) (hj : k ≤ j) : Cuts bk n L j st :=
  ⟨h.ok, h.book, h.joined, by have := h.ops; omega, by have := h.two; omega, by have := h.few; omega, h.at_⟩
/-- A book newly written. -/
theorem Cuts.start {text : ByteArray} (h : LDoc.new.insE 1 0 text = 0) (hd : LDoc.new.doE (LDoc.new.insR 1 0 text) = 0) (h6 : text.size ≤ 60) :
    textOf (LDoc.new.doR (LDoc.new.insR 1 0 text)).book = text ∧ (textL (LDoc.new.doR (LDoc.new.insR 1 0 text)).book).length = text.size ∧
      Cuts (LDoc.new.doR (LDoc.new.insR 1 0 text)).book 60 (List.replicate 60 false) 0 (LDoc.new.doR (LDoc.new.insR 1 0 text)) := by
  have hok := LDoc.doR_ok (LDoc.new.insR 1 0 text) LDoc.new_ok
  obtain ⟨a, b, h1, h2, h3, h4, h5, h7, h8, _⟩ := LDoc.ins_does LDoc.new_ok h hd
  obtain ⟨rfl, rfl⟩ : a = [] ∧ b = [] := by simpa [LDoc.new] using h1.symm
  rw [List.nil_append, List.append_nil] at h3
  have ht : textL (LDoc.new.doR (LDoc.new.insR 1 0 text)).book = text.toList := by rw [h3]; exact h4
  have hts : textOf (LDoc.new.doR (LDoc.new.insR 1 0 text)).book = text := toList_inj (by
    have : (textOf (LDoc.new.doR (LDoc.new.insR 1 0 text)).book).toList = textL (LDoc.new.doR (LDoc.new.insR 1 0 text)).book := by
      unfold textOf; rw [toList_data]; rfl
    rw [this, ht])
  have hlen : text.toList.length = text.size := by rw [toList_data, Array.length_toList]; rfl
  have hol : (LDoc.new.doR (LDoc.new.insR 1 0 text)).ops.length ≤ 60 := by
    rw [h8, (LDoc.ins_ok h).2.2.1]
    simp [LDoc.new, typedOps_len, hlen]; omega
  refine ⟨hts, by rw [ht, hlen], hok, rfl, by rw [h7]; rfl, by omega, ?_, by rw [h5]; simp [LDoc.new], ?_⟩
  · have hsay := LDoc.doR_says (LDoc.new.insR 1 0 text) LDoc.new_ok Says.new
    have hk2 := hsay.known ⟨2, 1⟩ (by decide)
    rw [nOf_who _ (show (⟨2, 0⟩ : LDot).who = (⟨2, 1⟩ : LDot).who from rfl), hk2]
    have he : ofWho 2 (LDoc.new.doR (LDoc.new.insR 1 0 text)).ops = [] := by
      rw [h8]
      unfold ofWho
      rw [List.filter_eq_nil_iff]
      intro o ho
      have := ((LDoc.ins_each h).1 o (by simpa [LDoc.new] using ho)).1
      simp [this]
    show ((ofWho 2 _).length : Int) ≤ _
    rw [he]
    decide
  · intro p
    rw [h5]
    constructor
    · intro hp; simp [LDoc.new, places] at hp
    · rintro ⟨o, _, ho, _⟩
      rw [List.getD_eq_getElem?_getD, List.getElem?_replicate] at ho
      split at ho <;> simp at ho
end Go.Proofs.Ytgmdnmdniidngaa
