/- NOT THERE, NOT FOUND: find.Words, find.All walked; the law FindNone answers true. Conditions: none. -/
import Derived.Test.YtgninfpdomcobaaPlaceCheck
import Derived.Test.YtgninfpdomcobaaShelfFind
import Derived.Test.YtgninfpdomcobaaLift
import Derived.HandedShaped
import Derived.Shelf.Vars
import Derived.Lib.IndexMore
import Derived.Lib.IndexLaws
namespace Go.Proofs.Ytgninfpdomcobaa
open Go.RowKit Go.WideShapes Go.ChangeShapes Go.ChangeAt
set_option linter.unusedVariables false
namespace lawFindNone

theorem elemI : Elem Try.prog 23 3 1 8 := Elem.mk_ (z := .int .i64 0) Try.underlying23 (by kernel_rfl) rfl (by decide)
def ints (l : List Int) : List Value := l.map fun n => .int .i64 n
theorem oneCells_ints (l : List Int) : OneCells (ints l) := by
  intro u hu
  simp only [ints, List.mem_map] at hu
  obtain ⟨n, _, rfl⟩ := hu
  rfl
theorem ints_app (l : List Int) (x : Int) : ints l ++ ints [x] = ints (l ++ [x]) := by simp [ints]
theorem list_len (a : ByteArray) : a.data.toList.length = a.size := by rw [Array.length_toList]; rfl
theorem ext_list (a : ByteArray) (i j : Nat) : (a.extract i j).data.toList = (a.data.toList.take j).drop i := by
  rw [ByteArray.data_extract, Array.toList_extract, List.extract_eq_take_drop, List.drop_take]
theorem tail_list (a : ByteArray) (i : Nat) : (a.extract i a.size).data.toList = a.data.toList.drop i := by
  rw [ext_list, ← list_len, List.take_length]
def Num (w : World) : Prop := ∃ m, w.cell? ⟨0, 0, none⟩ = some (.int .i64 m)
theorem Num.lt {w : World} (h : Num w) : 0 < w.heap.size := by
  obtain ⟨m, h⟩ := h
  rcases Nat.lt_or_ge 0 w.heap.size with h1 | h1
  · exact h1
  · simp [World.cell?, Array.getElem?_eq_none h1] at h
theorem Num.below {w w' : World} (h : Num w) (hb : Below w.heap.size w w') : Num w' := by
  obtain ⟨m, hm⟩ := h
  exact ⟨m, (hb.cell (p := ⟨0, 0, none⟩) (Num.lt ⟨m, hm⟩)).trans hm⟩
theorem index_any (s sub : ByteArray) (w : World) (hs : s.size ≤ 300) (h : Num w) : Calls Try.prog 52 #[.string s, .string sub] w fun e w' => e = .returned (.int .i64 (Lib.index s.data.toList sub.data.toList)) ∧ w' = w := by
  obtain ⟨m, hm⟩ := h
  exact Try.strings_Index s sub m w (by omega) hm

theorem space_any (w : World) (n : Nat) (hn : n ≤ 1114111) : Calls Try.prog 51 #[.int .i32 (n : Int)] w fun e w' => e = .returned (.bool (n == 32)) ∧ ∃ q, w' = w.drewN q := by
  have HB : Hid (((n : Int) == 32) = (n == 32)) := by
    show _ = _
    by_cases h : n = 32
    · subst h; rfl
    · rw [beq_eq_false_iff_ne.2 h, beq_eq_false_iff_ne.2 (by omega)]
  go_enter Try.func51, Try.ntmps51
  go_wp2
  go_ret
  exact ⟨by rw [← HB.out]; rfl, 0, rfl⟩
theorem enters : ∀ args w, (callFunc 51 args).run Try.prog w = .ok (.enter 51 args) w := enters_of Try.func51 (by kernel_rfl) rfl
def isSp (n : Nat) : Bool := n == 32
def WordsPost (w : World) (s : ByteArray) (e : Ending) (w' : World) : Prop := (∃ A, e = .returned (.tuple #[.slice (some ⟨A, 0, none⟩) (Lib.goFieldsP isSp s).length (Lib.goFieldsP isSp s).length, .nilIface])) ∧ Below w.heap.size w w'
set_option maxRecDepth 100000 in
theorem words_any (w : World) (s : ByteArray) (hs : s.size ≤ 300) : Calls Try.prog 29 #[.string s] w (WordsPost w s) := by
  have HF := Lib.hid (Try.strings_FieldsFunc_runes 51 #[] enters isSp s w (by omega) (fun W x hx _ => space_any W x hx))
  go_enter Try.func29, Try.ntmps29
  go_wp2_with fail
  refine HF.out.mono ?_
  rintro e w' ⟨A, rfl, _, _, hb⟩
  go_wp2_with fail
  go_ret2
  exact ⟨⟨A, rfl⟩, hb⟩

def allErr (text part : ByteArray) : Int := if 300 < text.size ∨ 200 < part.size then 4 else if part.size = 0 then 3 else 0
def AllPost (w : World) (text part : ByteArray) (e : Ending) (w' : World) : Prop :=
  if allErr text part = 0 then ∃ V c l, e = .returned (.tuple #[.slice V l.length c, .nilIface]) ∧ Own w' w.heap.size 3 1 V l.length c (ints l) ∧ (text.size < part.size → l = []) ∧ (text = part → l = [0]) ∧ Below w.heap.size w w'
  else e = .returned (.tuple #[.slice none 0 0, errV (allErr text part)]) ∧ Below w.heap.size w w'
def AllLoop (w : World) (text part : ByteArray) (v x : Value) (wr : World) : Prop :=
  ∃ (k cv : Nat) (V : Option Addr) (l : List Int), k ≤ text.size ∧ x = .int .i64 k ∧ v = .slice V l.length cv ∧ l.length ≤ k ∧ Hid (Own wr w.heap.size 3 1 V l.length cv (ints l)) ∧ Hid (Below w.heap.size w wr) ∧
    Hid (text.size < part.size → l = []) ∧ Hid (text = part → k = 0 ∧ l = [] ∨ k = text.size ∧ l = [0])

set_option maxRecDepth 100000 in
set_option maxHeartbeats 2000000 in
theorem all_any (w : World) (text part : ByteArray) (ht : text.size ≤ 9223372036854775807) (hp : part.size ≤ 9223372036854775807) (hnum : Num w) :
    Calls Try.prog 30 #[.string text, .string part] w (AllPost w text part) := by
  by_cases h4 : 300 < text.size ∨ 200 < part.size
  · have HE : Hid (allErr text part = 4) := if_pos h4
    rcases (show 300 < text.size ∨ (text.size ≤ 300 ∧ 200 < part.size) by omega) with h | h
    all_goals
      clear h4
      go_enter Try.func30, Try.ntmps30
      go_wp2_with fail
      go_ret2
      unfold AllPost
      rw [HE.out, if_neg (by decide)]
      exact ⟨rfl, Below.refl _ _⟩
  · have t300 : text.size ≤ 300 := by omega
    have p200 : part.size ≤ 200 := by omega
    by_cases h0 : part.size = 0
    · have HE : Hid (allErr text part = 3) := by show _ = _; unfold allErr; rw [if_neg h4, if_pos h0]
      have hz := isEmpty_of h0
      clear h4 h0
      go_enter Try.func30, Try.ntmps30
      go_wp2_with fail
      go_ret2
      unfold AllPost
      rw [HE.out, if_neg (by decide)]
      exact ⟨rfl, Below.refl _ _⟩
    · have HE : Hid (allErr text part = 0) := by show _ = _; unfold allErr; rw [if_neg h4, if_neg h0]
      have hz := isEmpty_not h0
      have p1 : 1 ≤ part.size := by omega
      have HN := Lib.hid hnum
      clear h4 h0 hnum
      go_enter Try.func30, Try.ntmps30
      go_wp2_with fail
      go_loopw [6, 7] (fun v x wr => AllLoop w text part v x wr) (fun _ x _ => text.size - (intOf x).toNat)
      case atStart => exact ⟨0, 0, none, [], by omega, rfl, rfl, by simp, Own.nil _ _ _ _, Below.refl _ _, fun _ => rfl, fun _ => .inl ⟨rfl, rfl⟩⟩
      case round =>
        obtain ⟨k, cv, V, l, hk, rfl, rfl, hl, HO, HB, HS, HQ⟩ := hrel
        have k0 : (0 : Int) ≤ (k : Int) := by omega
        have k1 : (k : Int) ≤ (text.size : Int) := by omega
        have hex : (text.extract k text.size).size ≤ 300 := by rw [ByteArray.size_extract]; omega
        have HX := Lib.hid (index_any (text.extract k text.size) part wr hex (HN.out.below HB.out))
        have hge := Lib.index_ge (text.extract k text.size).data.toList part.data.toList
        have hroom := Lib.index_room (text.extract k text.size).data.toList part.data.toList
        rw [tail_list, List.length_drop, list_len, list_len] at hroom
        rw [tail_list] at hge HX
        have HSelf : Hid (text = part → Lib.index text.data.toList part.data.toList = 0) := fun h => by rw [h]; exact Lib.index_self _
        have HD0 : Hid (text.data.toList.drop 0 = text.data.toList) := Lib.hid rfl
        have HR := Lib.hid hroom
        clear hex hroom
        generalize hidx : Lib.index (text.data.toList.drop k) part.data.toList = r at *
        have HI := Lib.hid hidx
        clear hidx
        by_cases hr : r < 0
        · have HL : Hid (text = part → l = [0]) := fun h => by
            rcases HQ.out h with ⟨h1, h2⟩ | ⟨h1, h2⟩
            · subst h1
              have := HSelf.out h
              have h3 := HI.out
              rw [HD0.out, this] at h3
              omega
            · exact h2
          go_wp2_with fail
          refine HX.out.mono ?_
          rintro e w' ⟨rfl, rfl⟩
          go_wp2_with fail
          go_ret2
          unfold AllPost
          rw [HE.out, if_pos rfl]
          exact ⟨V, cv, l, rfl, HO.out, HS.out, HL.out, HB.out⟩
        · obtain ⟨i, rfl⟩ := Int.eq_ofNat_of_zero_le (show 0 ≤ r by omega)
          have hsum : k + i + part.size ≤ text.size := by have := HR.out (by omega); omega
          have HS2 : Hid (text.size < part.size → l ++ [((k : Int) + (i : Int))] = []) := fun h => by omega
          have HQ2 : Hid (text = part → k + (i + part.size) = 0 ∧ l ++ [((k : Int) + (i : Int))] = [] ∨ k + (i + part.size) = text.size ∧ l ++ [((k : Int) + (i : Int))] = [0]) := fun h => by
            have hsz : text.size = part.size := by rw [h]
            rcases HQ.out h with ⟨h1, h2⟩ | ⟨h1, h2⟩
            · have hi0 : i = 0 := by omega
              subst h1 hi0 h2
              exact .inr ⟨by omega, rfl⟩
            · omega
          have HA := HO.out.alloc (.cells #[.int .i64 ((k : Int) + (i : Int))] 3)
          have HRW : Reads (wr.alloc (.cells #[.int .i64 ((k : Int) + (i : Int))] 3)) (wr.alloc (.cells #[.int .i64 ((k : Int) + (i : Int))] 3)).heap.size 1 (some ⟨wr.heap.size, 0, none⟩) 1 (ints [((k : Int) + (i : Int))]) := by
            have h := Reads.row wr 3 #[.int .i64 ((k : Int) + (i : Int))]
            rw [show ints [((k : Int) + (i : Int))] = (#[.int .i64 ((k : Int) + (i : Int))] : Array Value).toList from rfl]
            simpa using h
          have hF : Fits (l.length + 1) 8 := Fits.of_small (by omega) (by decide)
          have hbase : w.heap.size ≤ (wr.alloc (.cells #[.int .i64 ((k : Int) + (i : Int))] 3)).heap.size := by have := HB.out.size; simp; omega
          have HBA := Lib.hid (HB.out.alloc HB.out.size (.cells #[.int .i64 ((k : Int) + (i : Int))] 3))
          clear hr hge HR HSelf HI HS HQ
          go_wp2_with fail
          refine HX.out.mono ?_
          rintro e w' ⟨rfl, rfl⟩
          go_wp2_with (at_builtin; go_loud (refine wpList_app _ (.tmp 31) (.tmp 35) rfl rfl elemI rfl rfl HA HRW (oneCells_ints _) hF hbase ?_; intro V1 cv1 w3 HO1 HL1 HX1; have HOn := Lib.hid HO1; have HBn : Hid (Below w.heap.size w w3) := HBA.out.trans (HL1.below HBA.out.size (fun g hg => (HA.lt g hg).1)); clear HO1 HL1 HX1 HA HRW))
          go_roundw
          case rel => exact ⟨k + (i + part.size), cv1, V1, l ++ [((k : Int) + (i : Int))], by omega, by go_num, by simp, by simp; omega, Lib.hid (by have h := HOn.out; rw [ints_app] at h; rw [List.length_append]; exact h), HBn, HS2, HQ2⟩
          case measure => simp [intOf]; omega

def fact : ByteArray := ⟨#[32, 97, 32, 32, 98, 32]⟩
theorem fact_two : (Lib.goFieldsP isSp fact).length = 2 := by decide +kernel

set_option maxRecDepth 100000 in
set_option maxHeartbeats 4000000 in
theorem walk (w : World) (text part : ByteArray) (hnum : Num w) (ht : text.size ≤ 140737488351232) (hp : part.size ≤ 140737488351232) :
    Calls Try.prog 8 #[.string text, .string part] w (CheckPost w (.bool true)) := by
  have HW := Lib.hid (words_any w fact (by decide))
  have HA1 := Lib.hid (fun w1 (hb : Below w.heap.size w w1) => all_any w1 text part (by omega) (by omega) (hnum.below hb))
  have HA2 := Lib.hid (fun w1 (hb : Below w.heap.size w w1) => all_any w1 text text (by omega) (by omega) (hnum.below hb))
  clear hnum
  go_enter Try.func8, Try.ntmps8
  go_wp2_with fail
  refine HW.out.mono ?_
  rintro e w1 ⟨⟨A1, rfl⟩, hb1⟩
  rw [fact_two]
  have HB1 := Lib.hid hb1
  clear hb1
  go_wp2_with fail
  refine (HA1.out _ HB1.out).mono ?_
  intro e w2 hp2
  have key : ∃ V n c E, e = .returned (.tuple #[.slice V n c, E]) ∧ (E = .nilIface ∧ (text.size < part.size → n = 0) ∨ E = .iface 97 (.int .i64 3) ∨ E = .iface 97 (.int .i64 4)) ∧ Below w1.heap.size w1 w2 := by
    unfold AllPost at hp2
    by_cases he : allErr text part = 0
    · rw [if_pos he] at hp2
      obtain ⟨V, c, l, rfl, _, h1, _, hb⟩ := hp2
      exact ⟨V, l.length, c, _, rfl, .inl ⟨rfl, fun h => by rw [h1 h]; rfl⟩, hb⟩
    · rw [if_neg he] at hp2
      obtain ⟨rfl, hb⟩ := hp2
      refine ⟨_, _, _, _, rfl, .inr ?_, hb⟩
      unfold allErr at he ⊢
      by_cases h4 : 300 < text.size ∨ 200 < part.size
      · rw [if_pos h4]; exact .inr rfl
      · rw [if_neg h4] at he ⊢
        by_cases h3 : part.size = 0
        · rw [if_pos h3]; exact .inl rfl
        · rw [if_neg h3] at he; exact absurd rfl he
  obtain ⟨V, n, c, E, rfl, hE, hb2⟩ := key
  have HB2 : Hid (Below w.heap.size w w2) := HB1.out.trans (hb2.mono HB1.out.size)
  clear hb2 hp2
  have fin : Hid (∀ e w3, AllPost w2 text text e w3 → ∃ V n c E, e = .returned (.tuple #[.slice V n c, E]) ∧ Below w.heap.size w w3 ∧
      (E = .nilIface ∧ n = 1 ∧ (∃ ad, V = some ad ∧ w3.cell? ad = some (.int .i64 0)) ∨ (∃ k, E = .iface 97 (.int .i64 k)) ∧ (text.size = 0 ∨ 200 < text.size))) := fun e w3 hp3 => by
    unfold AllPost at hp3
    by_cases he : allErr text text = 0
    · rw [if_pos he] at hp3
      obtain ⟨V, c, l, rfl, hO, _, h1, hb⟩ := hp3
      have hl := h1 rfl
      subst hl
      obtain ⟨g, rfl, _⟩ := hO.head (by simp)
      exact ⟨_, _, _, _, rfl, HB2.out.trans (hb.mono HB2.out.size), .inl ⟨rfl, rfl, _, rfl, by rw [hO.cellAt (by simp)]; rfl⟩⟩
    · rw [if_neg he] at hp3
      obtain ⟨rfl, hb⟩ := hp3
      refine ⟨_, _, _, _, rfl, HB2.out.trans (hb.mono HB2.out.size), .inr ⟨⟨_, errV_ne he⟩, ?_⟩⟩
      unfold allErr at he
      by_cases h4 : 300 < text.size ∨ 200 < text.size
      · omega
      · rw [if_neg h4] at he
        by_cases h3 : text.size = 0
        · exact .inl h3
        · rw [if_neg h3] at he; exact absurd rfl he
  have first : ∀ (hdone : True), Hid (E = .nilIface → text.size < part.size → n = 0) := fun _ hE2 => by
    rcases hE with ⟨_, h⟩ | h | h
    · exact h
    · rw [h] at hE2; cases hE2
    · rw [h] at hE2; cases hE2
  have HF := first trivial
  have HE2 : Hid (E = .nilIface ∨ E = .iface 97 (.int .i64 3) ∨ E = .iface 97 (.int .i64 4)) := by
    rcases hE with ⟨h, _⟩ | h | h
    · exact .inl h
    · exact .inr (.inl h)
    · exact .inr (.inr h)
  clear hE first
  have cont : Hid (E = .nilIface ∧ (text.size < part.size ∧ n = 0 ∨ part.size ≤ text.size) ∨ E = .iface 97 (.int .i64 3) ∨ E = .iface 97 (.int .i64 4)) := by
    rcases HE2.out with h | h | h
    · refine .inl ⟨h, ?_⟩
      by_cases hl : text.size < part.size
      · exact .inl ⟨hl, HF.out h hl⟩
      · exact .inr (by omega)
    · exact .inr (.inl h)
    · exact .inr (.inr h)
  rcases cont.out with ⟨rfl, ⟨hl, rfl⟩ | hl⟩ | rfl | rfl
  all_goals
    clear cont HE2 HF
    go_wp2_with fail
    refine (HA2.out _ HB2.out).mono ?_
    intro e w3 hp3
    obtain ⟨V2, n2, c2, E2, rfl, hb3, hE2⟩ := fin.out e w3 hp3
    have HB3 := Lib.hid hb3
    clear hp3 hb3 fin
    rcases hE2 with ⟨rfl, rfl, ad, rfl, hc⟩ | ⟨⟨k, rfl⟩, hs | hs⟩
    · go_wp2_with fail
      go_ret
      exact ⟨rfl, HB3.out⟩
    · have hz := isEmpty_of hs
      clear hs
      go_wp2_with fail
      go_ret
      exact ⟨rfl, HB3.out⟩
    · have hz := isEmpty_not (s := text) (by omega)
      have hdd : Hid (decide (200 < (text.size : Int)) = true) := Lib.hid (by simp; omega)
      go_wp2_with fail
      go_ret
      exact ⟨by rw [hdd.out]; rfl, HB3.out⟩
theorem num_of {w : World} (h : w.ShapedOpen Try.prog) : Num w :=
  Go.Proofs.cell_of_shapedOpen_int (zero := #[.int .i64 0]) (t := 3) h (of_decide_eq_true (by kernel_rfl)) (by kernel_rfl) rfl (by kernel_rfl) (by kernel_rfl) Try.underlying3
open Go.ChangeMaps (open_string)
set_option maxRecDepth 100000 in
theorem lifted (os : Os) (started : os.Started) (H : Type) (enc : TypeId × Value → H) :
    ReturnsInHanded {} Try.checked os 8 .any (Rows.findNoneSpec.pre6 enc Try.prog Try.f8 Rows.findNoneRow.domain false) (Rows.findNoneSpec.post enc Try.prog Try.f8 false true false false) := by
  refine returnsInHanded_of_change_shaped (C := Try.checked) Try.own started (by kernel_rfl) Try.func8
    (ChangeSpec.witness6 (enc := enc) (C := Try.checked) false ⟨#[], #[.string ⟨#[]⟩, .string ⟨#[]⟩], []⟩ 8 (by kernel_rfl) (by kernel_rfl) (by kernel_rfl) (by kernel_rfl)) ?_
  intro W base args ds gs before hval0 hW _ hsz0 hsh _
  have hval : ∀ (j : Nat) t v, Try.f8.params[j]? = some t → args[j]? = some v → Value.okWide Try.prog W .any base t v := hval0
  obtain ⟨p, q, hA0, _⟩ := id hW
  have hA : DataW.TrodAll enc Try.prog W 0 (fun _ => true) true Try.f8.params.toList args.toList ds p := hA0
  have hsz : (DataW.weightsEach Try.prog (Try.f8.params.toList ++ Rows.findNoneSpec.plain.varTypes Try.prog) (ds ++ gs)).all (· ≤ reachBytes) = true := hsz0
  rw [Try.params8] at hA hval hsz
  obtain ⟨v0, v1, d0, d1, p0, p1, rfl, rfl, rfl, h0, h1⟩ := trodAll_two hA
  obtain ⟨a0, rfl, rfl, rfl, wa0⟩ := open_string Try.underlying9 (hval 0 9 v0 rfl rfl) h0
  obtain ⟨a1, rfl, rfl, rfl, wa1⟩ := open_string Try.underlying9 (hval 1 9 v1 rfl rfl) h1
  refine (walk W a0 a1 (num_of hsh) (by have h := sized_string hsz (j := 0) (t := 9) rfl rfl; rw [Array.length_toList] at h; exact h) (by have h := sized_string hsz (j := 1) (t := 9) rfl rfl; rw [Array.length_toList] at h; exact h)).mono fun e W' ⟨he, hb⟩ => ⟨_, he, ?_⟩
  exact law_post Try.laidOut (tb := 4) (by kernel_rfl) Try.underlying4 (by rw [Try.params8]; simp only [List.mem_cons, List.not_mem_nil, or_false]; rintro t (rfl | rfl) <;> exact ⟨by kernel_rfl, of_decide_eq_true (by kernel_rfl)⟩) rfl rfl hW hb

theorem holds : Rows.FindNoneSaid :=
  OpenClaim.holds_of_wide 8 Try.f8 rfl rfl rfl rfl rfl rfl rfl ⟨rfl, rfl, rfl, rfl, rfl⟩ rfl rfl rfl rfl rfl (by kernel_rfl) Try.func8 (by kernel_rfl)
    (of_decide_eq_true (by kernel_rfl)) (by unfold Func.isWrapper; first | (rw [if_pos (by decide +kernel)]; kernel_rfl) | (rw [if_neg (by decide +kernel)]; exact ⟨rfl, rfl⟩))
    (fun os started H enc _ => lifted os started H enc)
#print axioms holds

end lawFindNone
end Go.Proofs.Ytgninfpdomcobaa
