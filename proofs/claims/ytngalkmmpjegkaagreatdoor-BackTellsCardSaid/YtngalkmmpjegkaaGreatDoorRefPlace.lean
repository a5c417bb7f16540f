/- 5 texts in one: each says ahead of itself what is proved, and its conditions. -/
import Derived.Test.YtngalkmmpjegkaaGreatDoorBook
import Derived.Test.YtngalkmmpjegkaaGreatDoorBookAt
import Derived.Test.YtngalkmmpjegkaaGreatDoorCursorLaw
import Derived.Test.YtngalkmmpjegkaaGreatDoorEditDo
import Derived.Test.YtngalkmmpjegkaaGreatDoorEditInsert
import Derived.Test.YtngalkmmpjegkaaGreatDoorMarkSeen
/- A closed fact that many laws begin with: what is typed into a new document; and ops that a call has laid lie apart from a document. Conditions: none. -/
namespace Go.Proofs.YtngalkmmpjegkaaGreatDoor
open Go.RowKit
set_option linter.unusedVariables false
theorem sized_ok {l : List LLeaf} (h : BookOk l) : Sized l := fun x hx => by have := place_small (h.leafs x hx).place; omega
theorem ops_apart {w1 w2 : World} {B N b : Nat} {S : List Nat} {st : LDoc} {D : DLay} (h : DocIs w1 B S b st D) (hN : w1.heap.size ≤ N) {V : Option Addr} {c : Nat} {ys : List OpAt} (ho : OwnOps w2 N V c ys) (hp : ∀ o ∈ ys.map OpAt.op, o.place.size ≤ 12) :
    (0 < ys.length → ∀ g ∈ ob V, g ∉ S) ∧ ∀ y ∈ ys, OpFar w2 S y := by
  refine ⟨fun _ g hg hm => ?_, fun y hy => ⟨(ho.seen y hy).reads, ?_, fun _ g hg hm => ?_⟩⟩
  · have := (ho.row.lt g hg).1; have := (h.own g hm).2; omega
  · have := hp y.op (List.mem_map.2 ⟨y, hy, rfl⟩); omega
  · have := ((ho.seen y hy).lt g hg).1; have := (h.own g hm).2; omega
/-- edit.Do of ops that edit.Insert has made, on the same document. -/
theorem do_ins {w7 w8 : World} {B b : Nat} {S : List Nat} {st : LDoc} {D : DLay} (h : DocIs w7 B S b st D) (ok : st.Ok) {who off : Int} {text : ByteArray} {V : Option Addr} {c : Nat} {zs : List OpAt} (hz : zs.map OpAt.op = st.insR who off text) (ho : OwnOps w8 w7.heap.size V c zs) (hb : Below w7.heap.size w7 w8) :
    Calls Tryz.prog 45 #[.pointer (some ⟨b, 0, none⟩), .slice V zs.length c] w8 (fun e w' => e = .returned (errV (st.doE (st.insR who off text))) ∧ DocTo w8 B S b (st.doR (st.insR who off text)) w') := by
  obtain ⟨a1, a2⟩ := ops_apart h (Nat.le_refl _) ho (by rw [hz]; exact insR_small)
  have hl : zs.length ≤ 200 := by have := insR_len (d := st) (who := who) (off := off) (text := text); rw [← hz, List.length_map] at this; exact this
  have := do_any w8 B S b st D (h.below hb) ok V c zs ho.row.reads a1 a2 (by omega)
  rw [hz] at this
  exact this
def hiT : ByteArray := ⟨#[104, 105]⟩
def hiDoc : LDoc := LDoc.new.doR (LDoc.new.insR 1 0 hiT)
theorem hi_ins : LDoc.new.insE 1 0 hiT = 0 := by decide +kernel
theorem hi_do : LDoc.new.doE (LDoc.new.insR 1 0 hiT) = 0 := by decide +kernel
theorem hi_text : textOf hiDoc.book = hiT := by decide +kernel
theorem hi_ok : hiDoc.Ok := LDoc.doR_ok _ LDoc.new_ok
end Go.Proofs.YtngalkmmpjegkaaGreatDoor
/- book.At, walked. Conditions: places that an int may count. -/
namespace Go.Proofs.YtngalkmmpjegkaaGreatDoor
open Go.RowKit
set_option linter.unusedVariables false
end Go.Proofs.YtngalkmmpjegkaaGreatDoor
/- edit.at, Split, Fuse, Delete, walked. Conditions: the document is right; the numbers are of 64 bits. -/
namespace Go.Proofs.YtngalkmmpjegkaaGreatDoor
open Go.RowKit
set_option linter.unusedVariables false
theorem nth_lt : ∀ (l : List LLeaf) (k : Nat) (off : Int), 0 ≤ nthFrom k l off → ∃ n, ∃ hn : n < l.length, nthFrom k l off = ((k + n : Nat) : Int)
  | [], k, off => fun h => by simp [nthFrom] at h
  | x :: l, k, off => fun h => by
    have step : ∀ o : Int, 0 ≤ nthFrom (k + 1) l o → ∃ n, ∃ hn : n < (x :: l).length, nthFrom (k + 1) l o = ((k + n : Nat) : Int) := fun o ho => by
      obtain ⟨n, hn, e⟩ := nth_lt l _ _ ho
      exact ⟨n + 1, by simp; omega, by rw [e]; omega⟩
    unfold nthFrom at h ⊢
    by_cases h1 : seenB x = true
    · rw [if_pos h1] at h ⊢
      by_cases h2 : off = 0
      · rw [if_pos h2]; exact ⟨0, by simp, by simp⟩
      · rw [if_neg h2] at h ⊢; exact step _ h
    · rw [if_neg h1] at h ⊢; exact step _ h
section
variable (w : World) (B : Nat) (S : List Nat) (b : Nat) (st : LDoc) (D : DLay) (h : DocIs w B S b st D) (ok : st.Ok)
include h ok
end
end Go.Proofs.YtngalkmmpjegkaaGreatDoor
/- edit.Fuse, Delete, walked. Conditions: the document is right; the numbers are of 64 bits. -/
namespace Go.Proofs.YtngalkmmpjegkaaGreatDoor
open Go.RowKit
set_option linter.unusedVariables false
theorem newMk_good {w : World} {B b : Nat} {S : List Nat} {st : LDoc} {D : DLay} (h : DocIs w B S b st D) (ok : st.Ok) {who : Int} (hw : LDoc.whoE who = 0) (hw0 : -9223372036854775808 ≤ who) (hw1 : who ≤ 9223372036854775807) :
    (0 ≤ (st.maker who).n ∧ (st.maker who).n ≤ 9999) ∧ Calls Tryz.prog 73 #[.pointer (some ⟨b, 0, none⟩), .int .i64 who] w fun e w' => ∃ b, e = .returned (.tuple #[.pointer (some ⟨b, 0, none⟩), .nilIface]) ∧ MkIs w' w.heap.size b (st.maker who) none 0 [] ∧ Below w.heap.size w w' := by
  refine ⟨?_, (newMk_any w B S b st D h ok who hw0 hw1).mono fun e w' hh => ?_⟩
  · obtain ⟨k, hk, _, e, h1, h2⟩ := nOf_known ok.known hw
    exact ⟨by rw [e] at h1; exact h1, by rw [e] at h2; exact h2⟩
  · rcases hh with ⟨_, h1⟩ | ⟨h1, _⟩
    · exact h1
    · exact absurd hw h1
theorem newMk_bad {w : World} {B b : Nat} {S : List Nat} {st : LDoc} {D : DLay} (h : DocIs w B S b st D) (ok : st.Ok) {who : Int} (hw : ¬ LDoc.whoE who = 0) (hw0 : -9223372036854775808 ≤ who) (hw1 : who ≤ 9223372036854775807) :
    Calls Tryz.prog 73 #[.pointer (some ⟨b, 0, none⟩), .int .i64 who] w fun e w' => e = .returned (.tuple #[.pointer none, errV 1]) ∧ Below w.heap.size w w' :=
  (newMk_any w B S b st D h ok who hw0 hw1).mono fun e w' hh => by
    rcases hh with ⟨h1, _⟩ | ⟨_, h1⟩
    · exact absurd h1 hw
    · exact h1
theorem MkTo.edit {w0 w w' : World} {b : Nat} {m m' : LMk} {V : Option Addr} {c : Nat} {ys : List OpAt} (hb : Below w0.heap.size w0 w) (h : MkIs w w0.heap.size b m V c ys) (ht : MkTo w w0.heap.size b V m' w') :
    ∃ V' c' ys', w'.cell? ⟨b, 2, none⟩ = some (.slice V' ys'.length c') ∧ ys'.map OpAt.op = m'.ops ∧ OwnOps w' w0.heap.size V' c' ys' ∧ Below w0.heap.size w0 w' := by
  have hB := hb.trans (MkTo.below h ht (Nat.le_refl _) hb.size)
  obtain ⟨V', c', ys', hm, _, _⟩ := ht
  exact ⟨V', c', ys', by rw [hm.blk.cell]; rfl, hm.same, hm.ops, hB⟩
section
variable (w : World) (B : Nat) (S : List Nat) (b : Nat) (st : LDoc) (D : DLay) (h : DocIs w B S b st D) (ok : st.Ok)
include h ok
end
/-- Midway: k leafs are looked at. -/
structure DelMid (w : World) (B b : Nat) (V : Option Addr) (m : LMk) (x y : Int) (l : List LLeaf) (k : Nat) (wr : World) (a : Int) (mk : LMk) (V' : Option Addr) (c' : Nat) (ys' : List OpAt) : Prop where
  mkis : MkIs wr B b mk V' c' ys'
  only : Only (b :: ob V) w wr
  new : ∀ g ∈ ob V', g ∈ ob V ∨ w.heap.size ≤ g
  rest : LMk.strikes x y l 0 m = LMk.strikes x y (l.drop k) a mk
  at_ : 0 ≤ a ∧ a ≤ k
  n : m.n ≤ mk.n ∧ mk.n ≤ m.n + k
  len : ys'.length ≤ m.ops.length + k
def DelLoop (w : World) (B b : Nat) (V : Option Addr) (m : LMk) (x y : Int) (l : List LLeaf) (a i : Value) (wr : World) : Prop :=
  ∃ k : Nat, ∃ (n : Int), ∃ mk V' c' ys', k ≤ l.length ∧ a = .int .i64 n ∧ i = .int .i64 k ∧ Hid (DelMid w B b V m x y l k wr n mk V' c' ys')
namespace DelMid
variable {w wr w' : World} {B b : Nat} {V V' : Option Addr} {m mk : LMk} {x y a : Int} {l : List LLeaf} {k c' : Nat} {ys' : List OpAt}
theorem fin (h : DelMid w B b V m x y l k wr a mk V' c' ys') (hk : l.length ≤ k) : MkTo w B b V (LMk.strikes x y l 0 m) wr := by
  rw [h.rest, List.drop_eq_nil_of_le hk, LMk.strikes]
  exact ⟨V', c', ys', h.mkis, h.only, h.new⟩
theorem skip (h : DelMid w B b V m x y l k wr a mk V' c' ys') (hk : k < l.length) (hs : seenB l[k] = false) (hb : Below wr.heap.size wr w') : DelMid w B b V m x y l (k + 1) w' a mk V' c' ys' := by
  refine ⟨h.mkis.below hb, h.only.below_step hb, h.new, ?_, by have := h.at_; omega, by have := h.n; omega, by have := h.len; omega⟩
  rw [h.rest, List.drop_eq_getElem_cons hk, LMk.strikes, if_neg (by rw [hs]; decide)]
theorem pass (h : DelMid w B b V m x y l k wr a mk V' c' ys') (hk : k < l.length) (hs : seenB l[k] = true) (hn : ¬ (x ≤ a ∧ a < y)) (hb : Below wr.heap.size wr w') : DelMid w B b V m x y l (k + 1) w' (a + 1) mk V' c' ys' := by
  refine ⟨h.mkis.below hb, h.only.below_step hb, h.new, ?_, by have := h.at_; omega, by have := h.n; omega, by have := h.len; omega⟩
  rw [h.rest, List.drop_eq_getElem_cons hk, LMk.strikes, if_pos hs, if_neg hn]
theorem next (h : DelMid w B b V m x y l k wr a mk V' c' ys') (hk : k < l.length) (hs : seenB l[k] = true) (hn : x ≤ a ∧ a < y) {w1 : World} (hb : Below wr.heap.size wr w1) (ht : MkTo w1 B b V' (mk.st l[k].place) w') :
    ∃ V2 c2 ys2, DelMid w B b V m x y l (k + 1) w' (a + 1) (mk.st l[k].place) V2 c2 ys2 := by
  obtain ⟨V2, c2, ys2, i2, o2, n2⟩ := MkTo.trans (h.mkis.below hb) (h.only.below_step hb) h.new ht
  refine ⟨V2, c2, ys2, i2, o2, n2, ?_, by have := h.at_; omega, ?_, ?_⟩
  · rw [h.rest, List.drop_eq_getElem_cons hk, LMk.strikes, if_pos hs, if_pos hn]
  · have := h.n
    show m.n ≤ mk.n + 1 ∧ mk.n + 1 ≤ _
    omega
  · have e1 := i2.len
    have e2 := h.mkis.len
    have := h.len
    rw [e1]
    simp [LMk.st, LMk.add]
    omega
end DelMid
end Go.Proofs.YtngalkmmpjegkaaGreatDoor
/- The document's Place, Letter, Seen, walked. Conditions: a text that an int may count. -/
namespace Go.Proofs.YtngalkmmpjegkaaGreatDoor
open Go.RowKit
set_option linter.unusedVariables false
set_option maxRecDepth 100000 in
set_option maxHeartbeats 2000000 in
theorem rplace_any (w : World) (s : ByteArray) (hm : s.size ≤ 9223372036854775807) :
    Calls Tryz.prog 76 #[.string s] w fun e w' => e = .returned (.int .i64 (placeErr s)) ∧ w' = w := by
  by_cases hs : 12 < s.size
  · have HE : Hid (placeErr s = 4) := by show _ = _; unfold placeErr; rw [if_pos hs]
    go_enter Tryz.func76, Tryz.ntmps76
    go_wp2_with fail
    go_ret
    exact ⟨by rw [HE.out]; rfl, rfl⟩
  · have hs2 : s.size ≤ 12 := by omega
    go_enter Tryz.func76, Tryz.ntmps76
    go_wp2_with fail
    go_loop [4] (fun i => ∃ k : Nat, k ≤ s.size ∧ i = .int .i64 k ∧ Hid (∀ j, j < k → 97 ≤ byteAt s j ∧ byteAt s j ≤ 122)) (fun i => s.size - (intOf i).toNat)
    case atStart => exact ⟨0, Nat.zero_le _, rfl, fun j hj => absurd hj (by omega)⟩
    case round =>
      obtain ⟨k, hk, rfl, hall⟩ := hrel
      by_cases hlt : k < s.size
      · have hbk : byteAt s k = s[k].toNat := byteAt_in hlt
        have HBK := Lib.hid hbk
        have hk0 : (0 : Int) ≤ (k : Int) := by omega
        clear hbk
        by_cases h1 : 97 ≤ s[k].toNat
        · by_cases h2 : s[k].toNat ≤ 122
          · go_wp2
            go_round
            case rel => exact ⟨k + 1, by omega, by go_num, fun j hj => by
              rcases Nat.lt_or_ge j k with h | h
              · exact hall.out j h
              · obtain rfl : j = k := by omega
                rw [HBK.out]; exact ⟨h1, h2⟩⟩
            case measure => simp [intOf]; omega
          · go_wp2
            go_ret
            exact ⟨by rw [show placeErr s = 2 from by unfold placeErr; rw [if_neg (by omega), if_neg (fun h => h2 (by have := (h.1 k hlt).2; rw [HBK.out] at this; exact this))]]; rfl, rfl⟩
        · go_wp2
          go_ret
          exact ⟨by rw [show placeErr s = 2 from by unfold placeErr; rw [if_neg (by omega), if_neg (fun h => h1 (by have := (h.1 k hlt).1; rw [HBK.out] at this; exact this))]]; rfl, rfl⟩
      · obtain rfl : k = s.size := by omega
        have HL : Hid (Letters s) := fun i hi => hall.out i hi
        clear hall
        have bad : ¬ EndOk s → placeErr s = 2 := fun h => by unfold placeErr; rw [if_neg (by omega), if_neg (fun h' => h h'.2)]
        have good : EndOk s → placeErr s = 0 := fun h => by unfold placeErr; rw [if_neg (by omega), if_pos ⟨HL.out, h⟩]
        have BAD := Lib.hid bad
        have GOOD := Lib.hid good
        clear bad good
        by_cases a0 : s.size < 2
        · go_wp2
          go_ret
          exact ⟨by rw [BAD.out (fun h => by have := h.1; omega)]; rfl, rfl⟩
        · have e1 : byteAt s (s.size - 1) = (s[s.size - 1]'(by omega)).toNat := byteAt_in (by omega)
          have e2 : byteAt s (s.size - 2) = (s[s.size - 2]'(by omega)).toNat := byteAt_in (by omega)
          have E1 := Lib.hid e1
          have E2 := Lib.hid e2
          clear e1 e2
          by_cases a1 : (s[s.size - 1]'(by omega)).toNat < 98
          · go_wp2
            go_ret
            exact ⟨by rw [BAD.out (fun h => by have := h.2.1; rw [E1.out] at this; omega)]; rfl, rfl⟩
          · by_cases a2 : 105 < (s[s.size - 1]'(by omega)).toNat
            · go_wp2
              go_ret
              exact ⟨by rw [BAD.out (fun h => by have := h.2.2.1; rw [E1.out] at this; omega)]; rfl, rfl⟩
            · by_cases a3 : (s[s.size - 2]'(by omega)).toNat = 97
              · have a3' : (((s[s.size - 2]'(by omega)).toNat : Int) == 97) = true := by simp [a3]
                have A3 := Lib.hid a3
                clear a3
                go_wp2
                go_ret
                exact ⟨by rw [BAD.out (fun h => by have := h.2.2.2; rw [E2.out] at this; exact this A3.out)]; rfl, rfl⟩
              · have a3' : (((s[s.size - 2]'(by omega)).toNat : Int) == 97) = false := by simp; omega
                go_wp2
                go_ret
                exact ⟨by rw [GOOD.out ⟨by omega, by rw [E1.out]; omega, by rw [E1.out]; omega, by rw [E2.out]; exact a3⟩]; rfl, rfl⟩
theorem rletter_any (w : World) (n : Int) :
    Calls Tryz.prog 77 #[.int .i64 n] w fun e w' => e = .returned (.bool (letterB n)) ∧ w' = w := by
  by_cases h : 32 ≤ n
  · go_enter Tryz.func77, Tryz.ntmps77
    go_wp2
    go_ret
    exact ⟨by simp [h, letterB], rfl⟩
  · go_enter Tryz.func77, Tryz.ntmps77
    go_wp2
    go_ret
    have hd : letterB n = false := by simp [letterB]; omega
    exact ⟨by rw [hd]; rfl, rfl⟩
end Go.Proofs.YtngalkmmpjegkaaGreatDoor
