/- 4 texts in one: each says ahead of itself what is proved, and its conditions. -/
import Derived.Deep.CutBlock
import Derived.Deep.RegionHeld3
import Derived.Test.YthfbjfocmnikaaaGreatDoorBookAt
import Derived.Test.YthfbjfocmnikaaaGreatDoorDocHelp
import Derived.Test.YthfbjfocmnikaaaGreatDoorDocKnown
import Derived.Test.YthfbjfocmnikaaaGreatDoorEditLaw
import Derived.Test.YthfbjfocmnikaaaGreatDoorLetter
import Derived.Test.YthfbjfocmnikaaaGreatDoorNthSeen
/- (*edit.Maker).Add and edit.NewMaker, walked. Conditions: the document is right; the maker's number is small. -/
namespace Go.Proofs.YthfbjfocmnikaaaGreatDoor
open Go.RowKit
set_option linter.unusedVariables false
/-- A maker in memory, with the ops that it has made. -/
structure MkIs (w : World) (B b : Nat) (m : LMk) (V : Option Addr) (c : Nat) (ys : List OpAt) : Prop where
  blk : Blk w b 164 #[.int .i64 m.who, .int .i64 m.n, .slice V ys.length c]
  ops : OwnOps w B V c ys
  same : ys.map OpAt.op = m.ops
  base : B ≤ b
/-- The maker goes on: of what was there only it and its row may have turned. -/
def MkTo (w : World) (B b : Nat) (V : Option Addr) (m' : LMk) (w' : World) : Prop :=
  ∃ V' c' ys', MkIs w' B b m' V' c' ys' ∧ Only (b :: ob V) w w' ∧ ∀ g ∈ ob V', g ∈ ob V ∨ w.heap.size ≤ g
namespace MkIs
variable {w w' : World} {B b : Nat} {m : LMk} {V : Option Addr} {c : Nat} {ys : List OpAt}
theorem only {T : List Nat} (h : MkIs w B b m V c ys) (ho : Only T w w') (hT : ∀ g ∈ T, g < B ∨ w.heap.size ≤ g) : MkIs w' B b m V c ys :=
  ⟨ho.blk h.blk (fun hm => by have := hT _ hm; have := h.base; have := h.blk.lt; omega), ops_far h.ops ho hT, h.same, h.base⟩
theorem below (h : MkIs w B b m V c ys) (hb : Below w.heap.size w w') : MkIs w' B b m V c ys := h.only (T := []) (Only.of_below hb) (by simp)
theorem len (h : MkIs w B b m V c ys) : ys.length = m.ops.length := by rw [← h.same, List.length_map]
theorem to_self (h : MkIs w B b m V c ys) : MkTo w B b V m w := ⟨V, c, ys, h, Only.refl _ _, fun g hg => .inl hg⟩
end MkIs
theorem MkTo.trans {w w1 w2 : World} {B b : Nat} {V V1 : Option Addr} {c1 : Nat} {ys1 : List OpAt} {m1 m2 : LMk} (h1 : MkIs w1 B b m1 V1 c1 ys1) (ho : Only (b :: ob V) w w1) (hn : ∀ g ∈ ob V1, g ∈ ob V ∨ w.heap.size ≤ g) (h2 : MkTo w1 B b V1 m2 w2) : MkTo w B b V m2 w2 := by
  obtain ⟨V2, c2, ys2, i2, o2, n2⟩ := h2
  refine ⟨V2, c2, ys2, i2, ho.trans_new o2 (fun i hi => ?_), fun g hg => ?_⟩
  · rcases List.mem_cons.1 hi with hi | hi
    · exact .inl (by simp [hi])
    · rcases hn i hi with h | h
      · exact .inl (by simp [h])
      · exact .inr h
  · have := ho.size
    rcases n2 g hg with h | h
    · exact hn g h
    · exact .inr (by omega)
theorem MkTo.below {w w' : World} {B b : Nat} {m m' : LMk} {V : Option Addr} {c : Nat} {ys : List OpAt} (h : MkIs w B b m V c ys) (ht : MkTo w B b V m' w') {N : Nat} (hN : N ≤ B) (hs : B ≤ w.heap.size) : Below N w w' := by
  obtain ⟨V', c', ys', _, o, _⟩ := ht
  refine o.below (by omega) (fun g hg => ?_)
  rcases List.mem_cons.1 hg with rfl | hg
  · have := h.base; omega
  · have := (h.ops.row.lt g hg).1; omega
/-- The last step of Add: the number, the dot, the row. -/
theorem add_close {w w8 : World} {B b : Nat} {m : LMk} {V : Option Addr} {c : Nat} {ys : List OpAt} (h : MkIs w B b m V c ys) (hB : B ≤ w.heap.size) {y : OpAt} {W : World} (hW : Only [b] w W) (hbk : Blk W b 164 #[.int .i64 m.who, .int .i64 (m.n + 1), .slice V ys.length c])
    (hy : Own w B 27 2 y.at_ y.op.seen.length y.cap (dcells y.op.seen)) {V2 : Option Addr} {c2 : Nat}
    (hO : Own w8 B 30 6 V2 (ys.length + 1) c2 (ocells ys ++ OpAt.cells ⟨m.put y.op, y.at_, y.cap⟩)) (hL : Only (ob V) W w8) (hg : ∀ g ∈ ob V2, g ∈ ob V ∨ g = W.heap.size) :
    MkTo w B b V (m.add y.op) (w8.setCell ⟨b, 2, none⟩ (.slice V2 (ys.length + 1) c2)) := by
  have hbV : b ∉ ob V := h.ops.row.blk_ne h.blk (by decide)
  have hb8 := hL.blk hbk hbV
  have hwW := hW.size
  have hW8 := hL.size
  have ho : Only (b :: ob V) w w8 := (hW.mono (fun i hi => by simp at hi; exact .inl (by simp [hi]))).trans (hL.mono (fun i hi => .inl (by simp [hi])))
  have ho2 : Only (b :: ob V) w (w8.setCell ⟨b, 2, none⟩ (.slice V2 (ys.length + 1) c2)) := ho.setCell (.inl (by simp)) _
  have hset : Only [b] w8 (w8.setCell ⟨b, 2, none⟩ (.slice V2 (ys.length + 1) c2)) := (Only.refl _ _).setCell (.inl (by simp)) _
  have keep : ∀ {A : Option Addr} {n cc : Nat} {xs : List Value}, Own w B 27 2 A n cc xs → Own (w8.setCell ⟨b, 2, none⟩ (.slice V2 (ys.length + 1) c2)) B 27 2 A n cc xs := fun hA => hA.only ho2 (fun g hg hm => by
    rcases List.mem_cons.1 hm with rfl | hm
    · exact hA.blk_ne h.blk (by decide) hg
    · rcases h.ops.row.2 with ⟨h2, _⟩ | ⟨g', cap, cur, he, _, hh, _⟩
      · injection h2 with h2
        rw [h2] at hm; simp [ob] at hm
      · injection he with he
        rw [he] at hm; simp [ob] at hm; subst hm
        exact hA.blk_ne (t := 30) (cs := cur) hh (by decide) hg)
  have hb2 : b ∉ ob V2 := hO.blk_ne hb8 (by decide)
  refine ⟨V2, c2, ys ++ [⟨m.put y.op, y.at_, y.cap⟩], ⟨?_, ⟨?_, ?_⟩, ?_, h.base⟩, ho2, fun g hg2 => ?_⟩
  · have := hb8.set_ 2 (.slice V2 (ys.length + 1) c2)
    rw [List.length_append]
    exact this
  · rw [List.length_append, ocells_app]
    have e : ocells [⟨m.put y.op, y.at_, y.cap⟩] = OpAt.cells ⟨m.put y.op, y.at_, y.cap⟩ := by simp [ocells]
    rw [e]
    exact hO.only hset (fun g hg hm => by simp at hm; subst hm; exact hb2 hg)
  · intro z hz
    rcases List.mem_append.1 hz with hz | hz
    · exact keep (h.ops.seen z hz)
    · simp at hz; subst hz; exact keep hy
  · rw [List.map_append, h.same]; rfl
  · rcases hg g hg2 with h3 | h3
    · exact .inl h3
    · exact .inr (by omega)
def MkAddPost (w : World) (B b : Nat) (V : Option Addr) (m' : LMk) (e : Ending) (w' : World) : Prop := e = .returned (.tuple #[]) ∧ MkTo w B b V m' w'
set_option maxRecDepth 100000 in
set_option maxHeartbeats 40000000 in
theorem mkAdd_any (w : World) (B b : Nat) (m : LMk) (V : Option Addr) (c : Nat) (ys : List OpAt) (h : MkIs w B b m V c ys) (hB : B ≤ w.heap.size) (o : LOp) (A : Option Addr) (ca : Nat)
    (hy : Own w B 27 2 A o.seen.length ca (dcells o.seen)) (hn0 : -1000000 ≤ m.n) (hn : m.n ≤ 1000000) (hl : ys.length ≤ 100000) :
    Calls Tryz.prog 150 #[.pointer (some ⟨b, 0, none⟩), o.val A ca] w (MkAddPost w B b V (m.add o)) := by
  have HH := Lib.hid h
  have HY := Lib.hid hy
  have hbl := h.blk.lt
  obtain ⟨⟨who, n⟩, what, p, letter, seen⟩ := o
  obtain ⟨mw, mn, mo⟩ := m
  unfold LOp.val
  simp only at hn0 hn HY
  have HBox := Lib.hid (Blk.new w 30 #[.int .i64 who, .int .i64 n, .int .i64 what, .string p, .int .i64 letter, .slice A seen.length ca])
  have HB0 : Hid (Blk (w.alloc (.cells #[.int .i64 who, .int .i64 n, .int .i64 what, .string p, .int .i64 letter, .slice A seen.length ca] 30)) b 164 #[.int .i64 mw, .int .i64 mn, .slice V ys.length c]) := h.blk.alloc _
  have c1 : (w.alloc (.cells #[.int .i64 who, .int .i64 n, .int .i64 what, .string p, .int .i64 letter, .slice A seen.length ca] 30)).cell? ⟨b, 1, none⟩ = some (.int .i64 mn) := by rw [HB0.out.cell]; rfl
  have f1 := HB0.out.frozen 1
  have q1 : IntKind.i64.wrap (mn + 1) = mn + 1 := IntWalk.i64_in _ (by omega)
  clear h hy
  go_enter Tryz.func150, Tryz.ntmps150
  go_upto_region 2 with fail
  have HBm : Hid (Blk (w.setCell ⟨b, 1, none⟩ (.int .i64 (mn + 1))) b 164 #[.int .i64 mw, .int .i64 (mn + 1), .slice V ys.length c]) := HH.out.blk.set_ 1 _
  have HW1 : Hid (Only [b] w (w.setCell ⟨b, 1, none⟩ (.int .i64 (mn + 1)))) := (Only.refl _ _).setCell (.inl (by simp)) _
  have hsz : (w.setCell ⟨b, 1, none⟩ (.int .i64 (mn + 1))).heap.size = w.heap.size := by simp [World.setCell]
  have HSZ := Lib.hid hsz
  obtain ⟨w1, hw1⟩ : ∃ w1, w1 = w.setCell ⟨b, 1, none⟩ (.int .i64 (mn + 1)) := ⟨_, rfl⟩
  rw [← hw1] at HBm HW1 HSZ ⊢
  clear hw1 hsz HBox HB0 c1 f1
  have k0 : (w1.alloc (.cells #[.int .i64 who, .int .i64 n, .int .i64 what, .string p, .int .i64 letter, .slice A seen.length ca] 30)).cell? ⟨b, 0, none⟩ = some (.int .i64 mw) := by rw [(HBm.out.alloc _).cell]; rfl
  have k1 : (w1.alloc (.cells #[.int .i64 who, .int .i64 n, .int .i64 what, .string p, .int .i64 letter, .slice A seen.length ca] 30)).cell? ⟨b, 1, none⟩ = some (.int .i64 (mn + 1)) := by rw [(HBm.out.alloc _).cell]; rfl
  rw [← HSZ.out]
  go_cut [] (fun wx => ∃ n, wx = (w1.alloc (.cells #[.int .i64 mw, .int .i64 (mn + 1), .int .i64 what, .string p, .int .i64 letter, .slice A seen.length ca] 30)).drewN n)
  case first =>
    go_region
    all_goals
      go_wp2_with fail
      go_meet
      case rel => exact ⟨1, rfl⟩
  case rest =>
    obtain ⟨n2, rfl⟩ := hcut
    obtain ⟨W2, hW2⟩ : ∃ W2, W2 = (w1.alloc (.cells #[.int .i64 mw, .int .i64 (mn + 1), .int .i64 what, .string p, .int .i64 letter, .slice A seen.length ca] 30)).drewN n2 := ⟨_, rfl⟩
    have HO2 : Hid (Only [b] w W2) := by show Only _ _ _; rw [hW2]; exact (HW1.out.alloc _).drewN _
    have HM2 : Hid (Blk W2 b 164 #[.int .i64 mw, .int .i64 (mn + 1), .slice V ys.length c]) := by show Blk _ _ _ _; rw [hW2]; exact (HBm.out.alloc _).drewN _
    have HX2 : Hid (Blk W2 w1.heap.size 30 #[.int .i64 mw, .int .i64 (mn + 1), .int .i64 what, .string p, .int .i64 letter, .slice A seen.length ca]) := by show Blk _ _ _ _; rw [hW2]; exact (Blk.new w1 _ _).drewN _
    rw [← hW2]
    clear hW2 k0 k1 HBm HW1
    have j0 : W2.cell? ⟨w1.heap.size, 0, none⟩ = some (.int .i64 mw) := by rw [HX2.out.cell]; rfl
    have j1 : W2.cell? ⟨w1.heap.size, 1, none⟩ = some (.int .i64 (mn + 1)) := by rw [HX2.out.cell]; rfl
    have j2 : W2.cell? ⟨w1.heap.size, 2, none⟩ = some (.int .i64 what) := by rw [HX2.out.cell]; rfl
    have j3 : W2.cell? ⟨w1.heap.size, 3, none⟩ = some (.string p) := by rw [HX2.out.cell]; rfl
    have j4 : W2.cell? ⟨w1.heap.size, 4, none⟩ = some (.int .i64 letter) := by rw [HX2.out.cell]; rfl
    have j5 : W2.cell? ⟨w1.heap.size, 5, none⟩ = some (.slice A seen.length ca) := by rw [HX2.out.cell]; rfl
    have m2 : W2.cell? ⟨b, 2, none⟩ = some (.slice V ys.length c) := by rw [HM2.out.cell]; rfl
    have m2a : (W2.alloc (.cells #[.int .i64 mw, .int .i64 (mn + 1), .int .i64 what, .string p, .int .i64 letter, .slice A seen.length ca] 30)).cell? ⟨b, 2, none⟩ = some (.slice V ys.length c) := by rw [(HM2.out.alloc _).cell]; rfl
    have hBW : B ≤ W2.heap.size := by have := HO2.out.size; omega
    have HRW : Hid (Own W2 B 30 6 V ys.length c (ocells ys)) := HH.out.ops.row.only HO2.out (fun g hg hm => by simp at hm; subst hm; exact HH.out.ops.row.blk_ne HH.out.blk (by decide) hg)
    have hbV : b ∉ ob V := HH.out.ops.row.blk_ne HH.out.blk (by decide)
    have HONE : Hid (OneCells [Value.int .i64 mw, .int .i64 (mn + 1), .int .i64 what, .string p, .int .i64 letter, .slice A seen.length ca]) := by
      show OneCells _
      intro u hu
      simp only [List.mem_cons, List.not_mem_nil, or_false] at hu
      rcases hu with rfl | rfl | rfl | rfl | rfl | rfl <;> rfl
    have HFIT : Hid (Fits (ys.length + 1) 72) := Fits.of_small (by omega) (by decide)
    go_wp2_with fail
    go_region_law ((
      refine step_app _ (.tmp 25) (.tmp 27) rfl rfl elemO_ rfl rfl ((HRW.out.drew).alloc _) (Reads.row W2.drew 30 #[.int .i64 mw, .int .i64 (mn + 1), .int .i64 what, .string p, .int .i64 letter, .slice A seen.length ca]) HONE.out HFIT.out (by simp; omega) ?_
      intro V8 cV w8 hO hL hg
      have hb8 := hL.blk ((HM2.out.drew).alloc _) hbV
      have n2 : w8.cell? ⟨b, 2, none⟩ = some (.slice V ys.length c) := by { rw [hb8.cell]; rfl }
      have f2 := hb8.frozen 2))
    all_goals
      go_wp2_with fail
      go_end0
      exact ⟨rfl, add_close (y := ⟨⟨⟨who, n⟩, what, p, letter, seen⟩, A, ca⟩) HH.out hB (HO2.out.drew.alloc _) (HM2.out.drew.alloc _) HY.out hO hL hg⟩
/-- A maker that is new, or none. -/
def NewMkPost (w : World) (d : LDoc) (who : Int) (e : Ending) (w' : World) : Prop :=
  (LDoc.whoE who = 0 ∧ ∃ b, e = .returned (.tuple #[.pointer (some ⟨b, 0, none⟩), .nilIface]) ∧ MkIs w' w.heap.size b (d.maker who) none 0 [] ∧ Below w.heap.size w w') ∨
  (LDoc.whoE who ≠ 0 ∧ e = .returned (.tuple #[.pointer none, errV 1]) ∧ Below w.heap.size w w')
theorem nOf_known {l : List Int} (h : vecErr l = 0) {who : Int} (hw : LDoc.whoE who = 0) : ∃ (k : Nat) (hk : k < l.length), who = (k : Int) + 1 ∧ l[k] = nOf l ⟨who, 0⟩ ∧ 0 ≤ l[k] ∧ l[k] ≤ 9999 := by
  obtain ⟨h1, h2⟩ := vec_ok h
  unfold LDoc.whoE at hw
  split at hw
  · omega
  obtain ⟨k, rfl⟩ : ∃ k : Nat, who = (k : Int) + 1 := ⟨(who - 1).toNat, by omega⟩
  have hk : k < l.length := by omega
  refine ⟨k, hk, rfl, ?_, h2 _ (List.getElem_mem hk)⟩
  unfold nOf
  rw [show ((k : Int) + 1 - 1).toNat = k by omega]
  simp [List.getD, hk]
set_option maxRecDepth 100000 in
set_option maxHeartbeats 4000000 in
theorem newMk_any (w : World) (B : Nat) (S : List Nat) (b : Nat) (st : LDoc) (D : DLay) (h : DocIs w B S b st D) (ok : st.Ok) (who : Int) (hw0 : -9223372036854775808 ≤ who) (hw1 : who ≤ 9223372036854775807) :
    Calls Tryz.prog 89 #[.pointer (some ⟨b, 0, none⟩), .int .i64 who] w (NewMkPost w st who) := by
  have HA := Lib.hid (fun W => author_any W who)
  have HK := Lib.hid (known_doc w B S b st D h ok)
  have hE := errV_ne (show (1 : Int) ≠ 0 by decide)
  by_cases hw : LDoc.whoE who = 0
  · obtain ⟨k, hk, hwk, hnk, hn0, hn1⟩ := nOf_known ok.known hw
    have HL := Lib.hid (vec_ok ok.known).1
    have HW := Lib.hid hw
    have a1 : (decide (1 ≤ who) && decide (who ≤ 8)) = true := by
      unfold LDoc.whoE at hw
      split at hw
      · omega
      · simp; omega
    have HNK := Lib.hid hnk
    have HKK := Lib.hid hk
    have hk8 : k < 8 := by have := HL.out; omega
    rw [a1] at HA
    subst hwk
    have q1 : IntKind.i64.wrap ((k : Int) + 1 - 1) = (k : Int) := by rw [IntWalk.i64_in _ (by omega)]; omega
    have HR : Hid (∀ W V c, Own W w.heap.size 3 1 V st.known.length c (ints st.known) → ∃ ad, V = some ad ∧ W.cell? (ad.add k) = some (.int .i64 st.known[k])) := fun W V c hO => by
      obtain ⟨ad, e, _, hc⟩ := hO.reads.int HKK.out
      exact ⟨ad, e, hc⟩
    have k0 : (0 : Int) ≤ (k : Int) := by omega
    clear h ok hw hnk hE a1 hw0 hw1
    go_enter Tryz.func89, Tryz.ntmps89
    go_wp2_with fail
    refine (HA.out _).mono ?_
    rintro e w1 ⟨rfl, rfl⟩
    go_wp2_with fail
    refine HK.out.mono ?_
    rintro e w2 ⟨V, c, rfl, hO, hb⟩
    obtain ⟨ad, rfl, hc⟩ := HR.out _ _ _ hO
    have HB2 := Lib.hid hb
    have hkl : (k : Int) < (st.known.length : Int) := by have := HL.out; omega
    clear hO hb
    generalize st.known[k] = nk at *
    go_wp2_with fail
    go_ret2
    refine .inl ⟨HW.out, _, rfl, ⟨?_, ⟨Own.nil _ _ _ _, by simp⟩, rfl, HB2.out.size⟩, HB2.out.alloc HB2.out.size _⟩
    have := Blk.new w2 164 #[.int .i64 ((k : Int) + 1), .int .i64 nk, .slice none 0 0]
    rw [HNK.out] at this ⊢
    exact this
  · have a1 : (decide (1 ≤ who) && decide (who ≤ 8)) = false := by
      unfold LDoc.whoE at hw
      split at hw
      · simp; omega
      · omega
    have HW := Lib.hid hw
    rw [a1] at HA
    clear h ok hw a1 HK
    go_enter Tryz.func89, Tryz.ntmps89
    go_wp2_with fail
    refine (HA.out _).mono ?_
    rintro e w1 ⟨rfl, rfl⟩
    go_wp2_with fail
    go_ret2
    exact .inr ⟨HW.out, by rw [hE]; rfl, Below.refl _ _⟩
set_option maxRecDepth 100000 in
theorem mkDone_any (w : World) (B b : Nat) (m : LMk) (V : Option Addr) (c : Nat) (ys : List OpAt) (h : MkIs w B b m V c ys) (k : Int) :
    Calls Tryz.prog 172 #[.pointer (some ⟨b, 0, none⟩), errV k] w fun e w' => e = .returned (.tuple #[if k = 0 then .slice V ys.length c else .slice none 0 0, errV k]) ∧ w' = w := by
  have c2 : w.cell? ⟨b, 2, none⟩ = some (.slice V ys.length c) := by rw [h.blk.cell]; rfl
  clear h
  by_cases hk : k = 0
  · subst hk
    have HE : errV 0 = .nilIface := rfl
    rw [HE, if_pos rfl]
    go_enter Tryz.func172, Tryz.ntmps172
    go_wp2_with fail
    go_ret2
    exact ⟨rfl, rfl⟩
  · rw [errV_ne hk, if_neg hk]
    go_enter Tryz.func172, Tryz.ntmps172
    go_wp2_with fail
    go_ret2
    exact ⟨rfl, rfl⟩
end Go.Proofs.YthfbjfocmnikaaaGreatDoor
/- Is a byte of a text no letter? slices.ContainsFunc over bytes, walked. Conditions: stated with each. -/
namespace Go.Proofs.YthfbjfocmnikaaaGreatDoor
open Go.RowKit
set_option linter.unusedVariables false
theorem bs_at {l : List UInt8} {k : Nat} (h : k < l.length) : (bs l)[k]? = some (.int .u8 l[k].toNat) := by simp [bs, h]
theorem Reads.byte {w : World} {B : Nat} {A : Option Addr} {l : List UInt8} (h : Reads w B 1 A l.length (bs l)) {k : Nat} (hk : k < l.length) : ∃ ad, A = some ad ∧ ad.block < B ∧ w.cell? (ad.add k) = some (.int .u8 l[k].toNat) := by
  obtain ⟨ad, e, hb, hc⟩ := h.2 (by omega)
  exact ⟨ad, e, hb, hc _ _ (bs_at hk)⟩
theorem badC_any (w : World) (c : UInt8) : Calls Tryz.prog 152 #[.int .u8 c.toNat] w fun e w' => e = .returned (.bool (badC c)) ∧ w' = w := by
  have HL := Lib.hid (letter_any w (c.toNat : Int))
  have HB : Hid (badC c = !letterB (c.toNat : Int)) := rfl
  have hc := UInt8.toNat_lt c
  generalize hn : c.toNat = n at *
  generalize letterB (n : Int) = q at *
  go_enter Tryz.func152, Tryz.ntmps152
  go_wp2_with fail
  refine HL.out.mono ?_
  rintro e w1 ⟨rfl, rfl⟩
  go_wp2_with fail
  go_ret
  exact ⟨by rw [HB.out]; rfl, rfl⟩
def FoundCPost (w : World) (l : List UInt8) (e : Ending) (w' : World) : Prop := ∃ k : Int, e = .returned (.int .i64 k) ∧ (decide (0 ≤ k) = l.any badC) ∧ -1 ≤ k ∧ k ≤ l.length ∧ w' = w
set_option maxRecDepth 100000 in
set_option maxHeartbeats 1000000 in
theorem indexC_any (w : World) (A : Option Addr) (c : Nat) (l : List UInt8) (h : Reads w w.heap.size 1 A l.length (bs l)) (hn : l.length ≤ 1048576) :
    Calls Tryz.prog 195 #[.slice A l.length c, .func (Fn.func 152) #[] #[]] w (FoundCPost w l) := by
  have HR := Lib.hid h
  have HO := Lib.hid (fun n => badC_any w n)
  clear h
  go_enter Tryz.func195, Tryz.ntmps195
  go_wp2_with fail
  go_loop [8] (fun i => ∃ k : Nat, k ≤ l.length ∧ i = .int .i64 k ∧ Hid (∀ j (hj : j < l.length), j < k → badC l[j] = false)) (fun i => l.length - (intOf i).toNat)
  case atStart => exact ⟨0, by omega, rfl, fun j _ h => by omega⟩
  case round =>
    obtain ⟨k, hk, rfl, HA⟩ := hrel
    by_cases hkn : k < l.length
    · obtain ⟨ad, rfl, hb, c0⟩ := HR.out.byte hkn
      have hlt : (k : Int) < (l.length : Int) := by omega
      have HO1 := Lib.hid (HO.out l[k])
      cases hbad : badC l[k] with
      | true =>
        have HBd := Lib.hid hbad
        rw [hbad] at HO1
        clear hbad
        go_wp2_with fail
        refine HO1.out.mono ?_
        rintro e w' ⟨rfl, rfl⟩
        go_wp2_with fail
        go_ret
        refine ⟨k, rfl, ?_, by omega, by omega, rfl⟩
        rw [List.any_eq_true.2 ⟨l[k], List.getElem_mem hkn, HBd.out⟩]
        simp
      | false =>
        have HBd := Lib.hid hbad
        rw [hbad] at HO1
        clear hbad
        go_wp2_with fail
        refine HO1.out.mono ?_
        rintro e w' ⟨rfl, rfl⟩
        go_wp2_with fail
        go_round
        case rel => exact ⟨k + 1, by omega, by go_num, fun j hj h => by
          rcases Nat.lt_or_ge j k with h1 | h1
          · exact HA.out j hj h1
          · have : j = k := by omega
            subst this
            exact HBd.out⟩
        case measure => simp [intOf]; omega
    · have hd : decide ((k : Int) < (l.length : Int)) = false := by simp; omega
      have hnone : l.any badC = false := by
        cases hh : l.any badC
        · rfl
        · obtain ⟨n, hn, hb⟩ := List.any_eq_true.1 hh
          obtain ⟨j, hj, rfl⟩ := List.getElem_of_mem hn
          rw [HA.out j hj (by omega)] at hb
          cases hb
      have HN := Lib.hid hnone
      clear hnone
      go_wp2_with fail
      go_ret
      exact ⟨-1, rfl, by rw [HN.out]; simp, by omega, by omega, rfl⟩
set_option maxRecDepth 100000 in
theorem someC_any (w : World) (A : Option Addr) (c : Nat) (l : List UInt8) (h : Reads w w.heap.size 1 A l.length (bs l)) (hn : l.length ≤ 1048576) :
    Calls Tryz.prog 151 #[.slice A l.length c, .func (Fn.func 152) #[] #[]] w fun e w' => e = .returned (.bool (l.any badC)) ∧ w' = w := by
  have HI := Lib.hid (indexC_any w A c l h hn)
  clear h
  go_enter Tryz.func151, Tryz.ntmps151
  go_wp2_with fail
  refine HI.out.mono ?_
  rintro e w' ⟨k, rfl, hk, h1, h2, rfl⟩
  have HK := Lib.hid hk
  clear hk
  go_wp2_with fail
  go_ret
  exact ⟨by rw [← HK.out]; rfl, rfl⟩
/-- A text turned into bytes reads as it is. -/
theorem conv_reads (w : World) (s : ByteArray) : ∃ C cs fr, (convert 9 122 (.string s)).run Tryz.prog w = .ok (.slice (some ⟨w.heap.size, 0, none⟩) s.size C) (w.drew.alloc (.cells cs 5 fr)) ∧
    Reads (w.drew.alloc (.cells cs 5 fr)) (w.drew.alloc (.cells cs 5 fr)).heap.size 1 (some ⟨w.heap.size, 0, none⟩) s.size (bs s.toList) := by
  obtain ⟨C, cs, fr, h1, h2⟩ := conv_bytes w s
  refine ⟨C, cs, fr, h1, by rw [bs_len, toList_len]; omega, fun hn => ⟨_, rfl, by simp, fun j u hu => ?_⟩⟩
  by_cases hj : j < s.size
  · have h3 := h2 j hj
    have e1 : (⟨w.heap.size, 0, none⟩ : Addr).add j = ⟨w.heap.size, j, none⟩ := by
      unfold Addr.add
      by_cases hj : j = 0 <;> simp [hj]
    have hu2 := bs_at (l := s.toList) (k := j) (by rw [toList_len]; exact hj)
    rw [hu2] at hu
    obtain rfl := Option.some.inj hu
    rw [e1]
    refine (show (w.drew.alloc (.cells cs 5 fr)).cell? ⟨w.heap.size, j, none⟩ = (w.alloc (.cells cs 5 fr)).cell? ⟨w.heap.size, j, none⟩ from World.cell?_of_block ((heap_alloc_new w.drew _).trans (heap_alloc_new w _).symm)).trans (h3.trans ?_)
    rw [byteAt_in hj]
    have e2 : s.toList[j]'(by rw [toList_len]; exact hj) = s[j] := by simp [ByteArray.toList_eq]; rfl
    rw [e2]
  · rw [List.getElem?_eq_none (by rw [bs_len, toList_len]; omega)] at hu
    cases hu
end Go.Proofs.YthfbjfocmnikaaaGreatDoor
/- (*edit.Maker).Insert, walked. Conditions: the book is right; the maker's number is small. -/
namespace Go.Proofs.YthfbjfocmnikaaaGreatDoor
open Go.RowKit
set_option linter.unusedVariables false
/-- Midway: k letters are typed. -/
structure InsMid (w : World) (B b : Nat) (V : Option Addr) (m : LMk) (right left : ByteArray) (t : List UInt8) (k : Nat) (wr : World) (lk : ByteArray) (mk : LMk) (V' : Option Addr) (c' : Nat) (ys' : List OpAt) : Prop where
  mkis : MkIs wr B b mk V' c' ys'
  only : Only (b :: ob V) w wr
  new : ∀ g ∈ ob V', g ∈ ob V ∨ w.heap.size ≤ g
  rest : LMk.typed right t left m = LMk.typed right (t.drop k) lk mk
  who : mk.who = m.who
  n : mk.n = m.n + k
  len : ys'.length = m.ops.length + k
  small : lk.size ≤ 9223372036854775807
def InsLoop (w : World) (B b : Nat) (V : Option Addr) (m : LMk) (right left : ByteArray) (t : List UInt8) (l i : Value) (wr : World) : Prop :=
  ∃ k : Nat, ∃ lk mk V' c' ys', k ≤ t.length ∧ l = .string lk ∧ i = .int .i64 k ∧ Hid (InsMid w B b V m right left t k wr lk mk V' c' ys')
namespace InsMid
variable {w wr w' : World} {B b : Nat} {V V' : Option Addr} {m mk : LMk} {right left lk : ByteArray} {t : List UInt8} {k c' : Nat} {ys' : List OpAt}
theorem stop (h : InsMid w B b V m right left t k wr lk mk V' c' ys') (hk : k < t.length) (he : betweenErr lk right mk.who ≠ 0) (hb : Below wr.heap.size wr w') :
    (LMk.typed right t left m).2 = betweenErr lk right mk.who ∧ MkTo w B b V (LMk.typed right t left m).1 w' := by
  rw [h.rest, List.drop_eq_getElem_cons hk, LMk.typed, if_pos he]
  exact ⟨rfl, V', c', ys', h.mkis.below hb, h.only.below_step hb, h.new⟩
theorem fin (h : InsMid w B b V m right left t k wr lk mk V' c' ys') (hk : t.length ≤ k) : (LMk.typed right t left m).2 = 0 ∧ MkTo w B b V (LMk.typed right t left m).1 wr := by
  rw [h.rest, List.drop_eq_nil_of_le hk, LMk.typed]
  exact ⟨rfl, V', c', ys', h.mkis, h.only, h.new⟩
theorem next (h : InsMid w B b V m right left t k wr lk mk V' c' ys') (hk : k < t.length) (he : ¬ betweenErr lk right mk.who ≠ 0) {w1 : World} (hb : Below wr.heap.size wr w1) (ht : MkTo w1 B b V' (mk.wr (strOf (betweenRes lk right mk.who)) t[k].toNat) w') :
    ∃ V2 c2 ys2, InsMid w B b V m right left t (k + 1) w' (strOf (betweenRes lk right mk.who)) (mk.wr (strOf (betweenRes lk right mk.who)) t[k].toNat) V2 c2 ys2 := by
  have hsz := h.only.size
  have hsz1 := hb.size
  obtain ⟨V2, c2, ys2, i2, o2, n2⟩ := MkTo.trans (h.mkis.below hb) (h.only.below_step hb) h.new ht
  refine ⟨V2, c2, ys2, i2, o2, n2, ?_, ?_, ?_, ?_, ?_⟩
  · rw [h.rest, List.drop_eq_getElem_cons hk, LMk.typed, if_neg he]; rfl
  · exact h.who
  · show mk.n + 1 = _
    rw [h.n]; omega
  · have e1 := i2.len
    have e2 := h.mkis.len
    rw [h.len] at e2
    rw [e1]
    simp [LMk.wr, LMk.add]
    omega
  · rw [strOf_size]
    unfold betweenRes
    split
    · have := quarter_le lk right
      simp; omega
    · simp
end InsMid
def MkPost (w : World) (B b : Nat) (V : Option Addr) (r : LMk × Int) (e : Ending) (w' : World) : Prop := e = .returned (errV r.2) ∧ MkTo w B b V r.1 w'
theorem nth_leaf {l : List LLeaf} {off : Int} (h0 : 0 < off) (h1 : off ≤ ((textOf l).size : Int)) : ∃ n, ∃ hn : n < l.length, nthFrom 0 l (off - 1) = (n : Int) ∧ idxOf l off = n + 1 ∧ leftOf l off = l[n].place := by
  have hsz : (textOf l).size = (textL l).length := strOf_size _
  obtain ⟨o, rfl⟩ : ∃ o : Nat, off = (o : Int) + 1 := ⟨(off - 1).toNat, by omega⟩
  obtain ⟨n, hn, e1, e2, e3⟩ := nth_seen l 0 o (by omega)
  have e0 : (o : Int) + 1 - 1 = (o : Int) := by omega
  have en : (nthFrom 0 l ((o : Int) + 1 - 1)).toNat = n := by rw [e0, e1]; omega
  refine ⟨n, hn, by rw [e0, e1]; omega, ?_, ?_⟩
  · unfold idxOf; rw [if_pos h0, en]
  · unfold leftOf; rw [if_pos h0, en]; simp [List.getD, hn]
set_option maxRecDepth 100000 in
set_option maxHeartbeats 8000000 in
theorem mkIns_any (w : World) (B b : Nat) (m : LMk) (V : Option Addr) (c : Nat) (ys : List OpAt) (h : MkIs w B b m V c ys) (hB : B ≤ w.heap.size) (A : Option Addr) (cl : Nat) (l : List LLeaf) (hr : Reads w w.heap.size 3 A l.length (lcells l)) (hb : BookOk l)
    (off : Int) (ho : off ≤ 9223372036854775807) (text : ByteArray) (ht : text.size ≤ 9223372036854775807) (hn0 : 0 ≤ m.n) (hn : m.n ≤ 900000) (hl : m.ops.length ≤ 90000) :
    Calls Tryz.prog 95 #[.pointer (some ⟨b, 0, none⟩), .slice A l.length cl, .int .i64 off, .string text] w (MkPost w B b V (m.ins l off text)) := by
  have HH := Lib.hid h
  have HR := Lib.hid hr
  have HBO := Lib.hid hb
  have hll := hb.few
  have HP := Lib.hid (h.to_self)
  have HE4 := errV_ne (show (4 : Int) ≠ 0 by decide)
  have HE1 := errV_ne (show (1 : Int) ≠ 0 by decide)
  by_cases h4 : 200 < text.size
  · have HF : Hid (m.ins l off text = (m, 4)) := by
      show _ = _
      have e : insErr l off text = 4 := if_pos h4
      unfold LMk.ins; rw [if_pos (by rw [e]; decide), e]
    have g4 : (200 : Int) < (text.size : Int) := by omega
    clear h hr hb h4
    go_enter Tryz.func95, Tryz.ntmps95
    go_wp2_with fail
    go_ret
    exact ⟨by rw [HF.out, HE4]; rfl, by rw [HF.out]; exact HP.out⟩
  have g4 : ¬ (200 : Int) < (text.size : Int) := by omega
  obtain ⟨C, cs, fr, hcv, hrd⟩ := conv_reads w text
  have HB1 : Hid (Below w.heap.size w (w.drew.alloc (.cells cs 5 fr))) := (Below.refl _ _).drew.alloc (Nat.le_refl _) _
  have HS : Hid (Calls _ _ _ _ _) := someC_any _ _ C text.toList (by rw [toList_len]; exact hrd) (by rw [toList_len]; omega)
  rw [toList_len] at HS
  cases hbad : text.toList.any badC with
  | true =>
    have HF : Hid (m.ins l off text = (m, 1)) := by
      show _ = _
      have e : insErr l off text = 1 := by unfold insErr; rw [if_neg h4, if_pos hbad]
      unfold LMk.ins; rw [if_pos (by rw [e]; decide), e]
    rw [hbad] at HS
    clear h hr hb h4 hbad hrd
    go_enter Tryz.func95, Tryz.ntmps95
    go_wp2_with fail
    refine HS.out.mono ?_
    rintro e w1 ⟨rfl, rfl⟩
    go_wp2_with fail
    go_ret
    exact ⟨by rw [HF.out, HE1]; rfl, by rw [HF.out]; exact ⟨_, _, _, HH.out.below HB1.out, Only.of_below HB1.out, fun g hg => .inl hg⟩⟩
  | false =>
    rw [hbad] at HS
    have HFIT := Lib.hid (fit_ok hb)
    generalize w.drew.alloc (.cells cs 5 fr) = W1 at *
    have HTX : Hid (Calls _ _ _ _ _) := textOf_any W1 A cl l ((hr.below HB1.out).more HB1.out.size) HFIT.out (by omega)
    by_cases hoff : off < 0 ∨ ((textOf l).size : Int) < off
    · have HF : Hid (m.ins l off text = (m, 1)) := by
        show _ = _
        have e : insErr l off text = 1 := by unfold insErr; rw [if_neg h4, if_neg (by rw [hbad]; decide), if_pos hoff]
        unfold LMk.ins; rw [if_pos (by rw [e]; decide), e]
      have HOK : Hid (∀ W, Below w.heap.size w W → MkTo w B b V m W) := fun W hW => ⟨_, _, _, HH.out.below hW, Only.of_below hW, fun g hg => .inl hg⟩
      clear h hr hb h4 hbad hrd
      by_cases ho0 : off < 0
      · clear hoff
        go_enter Tryz.func95, Tryz.ntmps95
        go_wp2_with fail
        refine HS.out.mono ?_
        rintro e w1 ⟨rfl, rfl⟩
        go_wp2_with fail
        go_ret
        exact ⟨by rw [HF.out, HE1]; rfl, by rw [HF.out]; exact HOK.out _ HB1.out⟩
      · have ho1 : ((textOf l).size : Int) < off := by omega
        clear hoff
        generalize textOf l = tx at *
        go_enter Tryz.func95, Tryz.ntmps95
        go_wp2_with fail
        refine HS.out.mono ?_
        rintro e w1 ⟨rfl, rfl⟩
        go_wp2_with fail
        refine HTX.out.mono ?_
        rintro e w2 ⟨rfl, hb2⟩
        have HB2 := Lib.hid (HB1.out.trans (hb2.mono HB1.out.size))
        clear hb2
        go_wp2_with fail
        go_ret
        exact ⟨by rw [HF.out, HE1]; rfl, by rw [HF.out]; exact HOK.out _ HB2.out⟩
    · have ho0 : ¬ off < 0 := by omega
      have ho1 : ¬ ((textOf l).size : Int) < off := by omega
      have HINS : Hid (m.ins l off text = LMk.typed (rightOf l (idxOf l off)) text.toList (leftOf l off) m) := by
        show _ = _
        have e : insErr l off text = 0 := by unfold insErr; rw [if_neg h4, if_neg (by rw [hbad]; decide), if_neg hoff]
        unfold LMk.ins; rw [if_neg (by rw [e]; decide)]
      have HLF := Lib.hid (fun h0 : 0 < off => nth_leaf (l := l) h0 (by omega))
      have HIX := Lib.hid (ins_gap HBO.out (by omega) (by omega : off ≤ ((textOf l).size : Int))).1
      have HNTH := Lib.hid (fun W (hW : Below w.heap.size w W) (h0 : 0 < off) => nth_any W A cl l (off - 1) ((HR.out.below hW).more hW.size) (by omega) (by omega) (by omega))
      have HCEL := Lib.hid (fun W (hW : Below w.heap.size w W) n (hn : n < l.length) => ((HR.out.below hW).leaf hn))
      clear h hr hb h4 hbad hrd hoff
      generalize textOf l = tx at *
      go_enter Tryz.func95, Tryz.ntmps95
      go_wp2_with fail
      refine HS.out.mono ?_
      rintro e w1 ⟨rfl, rfl⟩
      go_wp2_with fail
      refine HTX.out.mono ?_
      rintro e w2 ⟨rfl, hb2⟩
      have HB2 := Lib.hid (HB1.out.trans (hb2.mono HB1.out.size))
      clear hb2
      go_upto_if 38 with (fail)
      go_cut [9, 11] (fun a i wx => a = .string (leftOf l off) ∧ i = .int .i64 (idxOf l off : Int) ∧ Below w.heap.size w wx)
      case first =>
        by_cases hp : 0 < off
        · obtain ⟨n, hn, e1, e2, e3⟩ := HLF.out hp
          have HN := Lib.hid (HNTH.out w2 HB2.out hp)
          rw [e1] at HN
          have q1 : IntKind.i64.wrap (off - 1) = off - 1 := IntWalk.i64_in _ (by omega)
          have q2 : IntKind.i64.wrap ((n : Int) + 1) = (n : Int) + 1 := IntWalk.i64_in _ (by omega)
          have q3 : IntKind.i64.wrap ((n : Int) + 1 - 1) = (n : Int) := by rw [IntWalk.i64_in _ (by omega)]; omega
          have n0 : (0 : Int) ≤ (n : Int) := by omega
          have n1 : (n : Int) < (l.length : Int) := by omega
          have HE2 := Lib.hid e2
          have HE3 := Lib.hid e3
          clear e1 e2 e3
          go_wp2_with fail
          refine HN.out.mono ?_
          rintro e w3 ⟨rfl, hb3⟩
          have HB3 := Lib.hid (HB2.out.trans (hb3.mono HB2.out.size))
          obtain ⟨ad, rfl, _, c0, _, _⟩ := HCEL.out w3 HB3.out n hn
          clear hb3
          go_wp2_with fail
          go_meet
          case rel => exact ⟨by rw [HE3.out], by rw [HE2.out]; congr 1, HB3.out⟩
        · have HL0 : Hid (leftOf l off = ⟨#[]⟩) := if_neg hp
          have HI0 : Hid (idxOf l off = 0) := if_neg hp
          go_wp2_with fail
          go_meet
          case rel => exact ⟨by rw [HL0.out], by rw [HI0.out]; rfl, HB2.out⟩
      case rest =>
        obtain ⟨rfl, rfl, hbc⟩ := hcut
        obtain ⟨w3, hw3⟩ : ∃ x : World, x = wc := ⟨_, rfl⟩
        subst hw3
        have HB3 := Lib.hid hbc
        clear hbc HB2 HTX HS HNTH HLF
        have HLS : Hid ((leftOf l off).size ≤ 9223372036854775807) := by
          show _ ≤ _
          unfold leftOf
          split
          · rw [List.getD]
            rcases Nat.lt_or_ge ((nthFrom 0 l (off - 1)).toNat) l.length with h | h
            · rw [List.getElem?_eq_getElem h]
              have := place_small ((HBO.out.leafs _ (List.getElem_mem h)).place)
              simp; omega
            · rw [List.getElem?_eq_none h]; exact Nat.zero_le _
          · exact Nat.zero_le _
        have HRS : Hid ((rightOf l (idxOf l off)).size ≤ 9223372036854775807) := by
          show _ ≤ _
          unfold rightOf
          split
          · rename_i h
            rw [List.getD, List.getElem?_eq_getElem h]
            have := place_small ((HBO.out.leafs _ (List.getElem_mem h)).place)
            simp; omega
          · exact Nat.zero_le _
        have HRO : Hid (∀ (h : idxOf l off < l.length), rightOf l (idxOf l off) = l[idxOf l off].place) := fun h => by unfold rightOf; rw [if_pos h]; simp [List.getD, h]
        have HRN : Hid (¬ idxOf l off < l.length → rightOf l (idxOf l off) = ⟨#[]⟩) := fun h => by unfold rightOf; rw [if_neg h]
        generalize hright : rightOf l (idxOf l off) = right at *
        generalize leftOf l off = left at *
        generalize idxOf l off = i at *
        clear hright
        go_upto_if 53 with (fail)
        go_cut [10] (fun a wx => a = .string right ∧ wx = w3)
        case first =>
          by_cases hi : i < l.length
          · have i0 : (0 : Int) ≤ (i : Int) := by omega
            have i1 : (i : Int) < (l.length : Int) := by omega
            have HRO' := Lib.hid (HRO.out hi)
            obtain ⟨ad, rfl, _, c0, _, _⟩ := HCEL.out w3 HB3.out i hi
            go_wp2_with fail
            go_meet
            case rel => exact ⟨by rw [HRO'.out], rfl⟩
          · have i1 : ¬ (i : Int) < (l.length : Int) := by omega
            have HRN' := Lib.hid (HRN.out hi)
            go_wp2_with fail
            go_meet
            case rel => exact ⟨by rw [HRN'.out], rfl⟩
        case rest =>
          obtain ⟨rfl, hwc⟩ := hcut
          rw [hwc]
          clear hwc HRO HRN HCEL
          obtain ⟨C2, cs2, fr2, hcv2, hrd2⟩ := conv_reads w3 text
          have HB4 : Hid (Below w3.heap.size w3 (w3.drew.alloc (.cells cs2 5 fr2))) := (Below.refl _ _).drew.alloc (Nat.le_refl _) _
          generalize w3.drew.alloc (.cells cs2 5 fr2) = w4 at *
          have HRD := Lib.hid hrd2
          have hw34 : w.heap.size ≤ w3.heap.size := HB3.out.size
          have HM4 := Lib.hid ((HH.out.below HB3.out).below HB4.out)
          have hbl := HH.out.blk.lt
          have HG : Hid (∀ g ∈ b :: ob V, g < w.heap.size) := fun g hg => by
            rcases List.mem_cons.1 hg with rfl | hg
            · exact hbl
            · exact (HH.out.ops.row.lt g hg).2
          have HFIN : Hid (∀ m' w', MkTo w4 B b V m' w' → MkTo w B b V m' w') := fun m' w' hh => by
            obtain ⟨V', c', ys', i1, i2, i3⟩ := hh
            have hb4 := HB3.out.trans (HB4.out.mono HB3.out.size)
            exact ⟨V', c', ys', i1, (Only.of_below hb4).trans i2, fun g hg => by
              have := hb4.size
              rcases i3 g hg with h | h
              · exact .inl h
              · exact .inr (by omega)⟩
          have h44 : B ≤ w4.heap.size := by have := HB4.out.size; omega
          clear hrd2 HB4 HR
          go_wp2_with fail
          go_loopw [9, 62] (fun a i wr => InsLoop w4 B b V m right left text.toList a i wr) (fun _ i _ => text.size - (intOf i).toNat)
          case atStart => exact ⟨0, left, m, V, c, ys, Nat.zero_le _, rfl, rfl, HM4.out, Only.refl _ _, fun g hg => .inl hg, rfl, rfl, by simp, HM4.out.len, HLS.out⟩
          case round =>
            obtain ⟨k, lk, mk, V', c', ys', hk, rfl, rfl, HM⟩ := hrel
            rw [toList_len] at hk
            have k0 : (0 : Int) ≤ (k : Int) := by omega
            by_cases hlt : k < text.size
            · have k1 : (k : Int) < (text.size : Int) := by omega
              have hkl : k < text.toList.length := by rw [toList_len]; exact hlt
              have hrr : Reads wr wr.heap.size 1 (some ⟨w3.heap.size, 0, none⟩) text.toList.length (bs text.toList) := by
                rw [toList_len]
                exact Reads.only HRD.out HM.out.only (fun _ g hg hm => by simp [ob] at hg; subst hg; have := HG.out _ hm; omega)
              obtain ⟨ad, hA, _, c0⟩ := hrr.byte hkl
              have c1 : wr.cell? ⟨w3.heap.size, k, none⟩ = some (.int .u8 text.toList[k].toNat) := by
                obtain rfl := Option.some.inj hA
                have e1 : (⟨w3.heap.size, 0, none⟩ : Addr).add k = ⟨w3.heap.size, k, none⟩ := by
                  unfold Addr.add
                  by_cases hj : k = 0 <;> simp [hj]
                rw [e1] at c0; exact c0
              have a0 : wr.cell? ⟨b, 0, none⟩ = some (.int .i64 mk.who) := by rw [HM.out.mkis.blk.cell]; rfl
              have HBT : Hid (Calls Tryz.prog 153 #[.string lk, .string right, .int .i64 mk.who] wr fun e w' => e = .returned (.tuple #[.string (strOf (betweenRes lk right mk.who)), errV (betweenErr lk right mk.who)]) ∧ Below wr.heap.size wr w') := between_any wr lk right mk.who HM.out.small HRS.out
              have HNX := Lib.hid (fun he w1 hb1 w' ht => HM.out.next (w1 := w1) (w' := w') hkl he hb1 ht)
              have HST := Lib.hid (fun he w' hb1 => HM.out.stop (w' := w') hkl he hb1)
              have hch := UInt8.toNat_lt text.toList[k]
              have HAD := Lib.hid (fun W (hW : Below wr.heap.size wr W) o hs => mkAdd_any W B b mk V' c' ys' (HM.out.mkis.below hW) (by have := HM.out.only.size; have := hW.size; omega) o none 0 hs
                (by have := HM.out.n; omega) (by have := HM.out.n; omega) (by have := HM.out.len; omega))
              clear hrr hA c0
              generalize text.toList[k] = ch at *
              generalize hmw : mk.who = who at *
              by_cases he : betweenErr lk right who ≠ 0
              · have HST := Lib.hid (HST.out he)
                have HV := Lib.hid (errV_ne he)
                clear he HNX HAD
                generalize betweenErr lk right who = ke at *
                go_wp2_with fail
                refine HBT.out.mono ?_
                rintro e w5 ⟨rfl, hb5⟩
                rw [HV.out]
                obtain ⟨s1, s2⟩ := HST.out _ hb5
                have HS1 := Lib.hid s1
                have HS2 := Lib.hid s2
                clear s1 s2 hb5
                go_wp2_with fail
                go_ret
                exact ⟨by rw [HINS.out, HS1.out, HV.out]; rfl, by rw [HINS.out]; exact HFIN.out _ _ HS2.out⟩
              · have he0 : betweenErr lk right who = 0 := by omega
                have HNX := Lib.hid (HNX.out he)
                have HE0 : errV 0 = .nilIface := rfl
                rw [he0] at HBT
                clear he he0 HST
                generalize strOf (betweenRes lk right who) = p at *
                go_wp2_with fail
                refine HBT.out.mono ?_
                rintro e w5 ⟨rfl, hb5⟩
                rw [HE0]
                have HAW := Lib.hid (HAD.out w5 hb5 ⟨⟨0, 0⟩, 1, p, ch.toNat, []⟩ (Own.nil _ _ _ _))
                have HNY := Lib.hid (HNX.out w5 hb5)
                clear hb5 HNX HAD HBT
                unfold LOp.val at HAW
                go_wp2_with fail
                refine HAW.out.mono ?_
                rintro e w6 ⟨rfl, ht⟩
                have HF := Lib.hid (HNY.out _ ht)
                clear ht
                go_wp2_with fail
                go_roundw
                case rel =>
                  obtain ⟨V2, c2, ys2, hfin⟩ := HF.out
                  exact ⟨k + 1, p, _, V2, c2, ys2, by rw [toList_len]; omega, rfl, by go_num, hfin⟩
                case measure => simp [intOf]; omega
            · have k1 : ¬ (k : Int) < (text.size : Int) := by omega
              obtain ⟨s1, s2⟩ := HM.out.fin (by rw [toList_len]; omega)
              have HS1 := Lib.hid s1
              have HS2 := Lib.hid s2
              clear s1 s2
              go_wp2_with fail
              go_ret
              exact ⟨by rw [HINS.out, HS1.out]; rfl, by rw [HINS.out]; exact HFIN.out _ _ HS2.out⟩
end Go.Proofs.YthfbjfocmnikaaaGreatDoor
/- edit.Insert, walked. Conditions: the document is right; the numbers are of 64 bits. -/
namespace Go.Proofs.YthfbjfocmnikaaaGreatDoor
open Go.RowKit
set_option linter.unusedVariables false
/-- Ops, of the call's own, and an error. -/
def EditPost (w : World) (k : Int) (l : List LOp) (e : Ending) (w' : World) : Prop :=
  ∃ V c ys, e = .returned (.tuple #[.slice V ys.length c, errV k]) ∧ ys.map OpAt.op = l ∧ OwnOps w' w.heap.size V c ys ∧ Below w.heap.size w w'
theorem edit_bad {w w' : World} {k : Int} (hb : Below w.heap.size w w') : EditPost w k [] (.returned (.tuple #[.slice none 0 0, errV k])) w' := ⟨none, 0, [], rfl, rfl, ⟨Own.nil _ _ _ _, by simp⟩, hb⟩
set_option maxRecDepth 100000 in
set_option maxHeartbeats 4000000 in
theorem insert_any (w : World) (B : Nat) (S : List Nat) (b : Nat) (st : LDoc) (D : DLay) (h : DocIs w B S b st D) (ok : st.Ok) (who off : Int) (text : ByteArray) (hw0 : -9223372036854775808 ≤ who) (hw1 : who ≤ 9223372036854775807) (ho : off ≤ 9223372036854775807) (ht : text.size ≤ 9223372036854775807) :
    Calls Tryz.prog 115 #[.pointer (some ⟨b, 0, none⟩), .int .i64 who, .int .i64 off, .string text] w (EditPost w (st.insE who off text) (st.insR who off text)) := by
  have HN := Lib.hid (newMk_any w B S b st D h ok who hw0 hw1)
  have HD := Lib.hid h
  have HOK := Lib.hid ok
  have HE0 : errV 0 = .nilIface := rfl
  have HE1 := errV_ne (show (1 : Int) ≠ 0 by decide)
  clear h ok
  by_cases hw : LDoc.whoE who = 0
  · have HN : Hid (Calls Tryz.prog 89 #[.pointer (some ⟨b, 0, none⟩), .int .i64 who] w fun e w' => ∃ b, e = .returned (.tuple #[.pointer (some ⟨b, 0, none⟩), .nilIface]) ∧ MkIs w' w.heap.size b (st.maker who) none 0 [] ∧ Below w.heap.size w w') :=
      HN.out.mono fun e w' hh => by
        rcases hh with ⟨_, h1⟩ | ⟨h1, _⟩
        · exact h1
        · exact absurd hw h1
    have HIE : Hid (st.insE who off text = ((st.maker who).ins st.book off text).2) := by show _ = _; unfold LDoc.insE; rw [if_neg (by omega)]
    have HIR : Hid (st.insR who off text = if ((st.maker who).ins st.book off text).2 = 0 then ((st.maker who).ins st.book off text).1.ops else []) := by show _ = _; unfold LDoc.insR; rw [HIE.out]
    have hmn : 0 ≤ (st.maker who).n ∧ (st.maker who).n ≤ 9999 := by
      obtain ⟨k, hk, _, e, h1, h2⟩ := nOf_known HOK.out.known hw
      exact ⟨by rw [e] at h1; exact h1, by rw [e] at h2; exact h2⟩
    have hmo : (st.maker who).ops.length = 0 := rfl
    clear hw
    generalize hr : (st.maker who).ins st.book off text = r at *
    obtain ⟨m', k⟩ := r
    simp only at HIE HIR
    have HRR := Lib.hid hr
    clear hr
    have hmn0 := hmn.1
    have hmn1 := hmn.2
    clear hmn
    generalize st.maker who = m at *
    rw [HIE.out, HIR.out]
    clear HIE HIR
    generalize hres : (if k = 0 then m'.ops else []) = res
    have HRES := Lib.hid hres
    clear hres
    go_enter Tryz.func115, Tryz.ntmps115
    go_wp2_with fail
    refine HN.out.mono ?_
    rintro e w1 ⟨bm, rfl, hm, hb⟩
    have HM := Lib.hid hm
    have HB1 := Lib.hid hb
    have HBK := Lib.hid (book_doc w1 _ _ _ _ _ (HD.out.below hb) HOK.out)
    clear hm hb HN
    go_wp2_with fail
    refine HBK.out.mono ?_
    rintro e w2 ⟨V, c, rfl, hO, hb⟩
    have HB2 := Lib.hid (HB1.out.trans (hb.mono HB1.out.size))
    have HM2 := Lib.hid (HM.out.below hb)
    have hs2 := HB2.out.size
    have HI : Hid (Calls Tryz.prog 95 #[.pointer (some ⟨bm, 0, none⟩), .slice V st.book.length c, .int .i64 off, .string text] w2 fun e w' => e = .returned (errV k) ∧ MkTo w2 w.heap.size bm none m' w') := by
      have := mkIns_any w2 w.heap.size bm m none 0 [] HM2.out hs2 V c st.book hO.reads HOK.out.book off ho text ht hmn0 (by omega) (by omega)
      rw [HRR.out] at this
      exact this
    obtain ⟨ev, hev⟩ : ∃ ev, ev = errV k := ⟨_, rfl⟩
    rw [← hev] at HI
    have HEV := Lib.hid hev
    clear hO hb HBK HM hev
    go_wp2_with fail
    refine HI.out.mono ?_
    rintro e w3 ⟨rfl, ht3⟩
    have HB3 := Lib.hid (HB2.out.trans (MkTo.below HM2.out ht3 (Nat.le_refl _) hs2))
    obtain ⟨V', c', ys', hm3, _, _⟩ := ht3
    have HM3 := Lib.hid hm3
    have HDN := Lib.hid (mkDone_any w3 _ _ _ _ _ _ hm3 k)
    rw [← HEV.out] at HDN
    clear hm3 HI
    go_wp2_with fail
    refine HDN.out.mono ?_
    rintro e w4 ⟨rfl, rfl⟩
    have HF : Hid (∃ V2 c2 ys2, (if k = 0 then Value.slice V' ys'.length c' else .slice none 0 0) = .slice V2 ys2.length c2 ∧ ys2.map OpAt.op = (if k = 0 then m'.ops else []) ∧ OwnOps w4 w.heap.size V2 c2 ys2) := by
      by_cases hk : k = 0
      · rw [if_pos hk, if_pos hk]; exact ⟨_, _, _, rfl, HM3.out.same, HM3.out.ops⟩
      · rw [if_neg hk, if_neg hk]; exact ⟨none, 0, [], rfl, rfl, ⟨Own.nil _ _ _ _, by simp⟩⟩
    obtain ⟨V2, c2, ys2, f1, f2, f3⟩ := HF.out
    rw [f1]
    have F2 := Lib.hid f2
    have F3 := Lib.hid f3
    clear HF f1 f2 f3 HDN
    go_wp2_with fail
    go_ret2
    exact ⟨V2, c2, ys2, by rw [← HEV.out]; rfl, by rw [← HRES.out]; exact F2.out, F3.out, HB3.out⟩
  · have HN : Hid (Calls Tryz.prog 89 #[.pointer (some ⟨b, 0, none⟩), .int .i64 who] w fun e w' => e = .returned (.tuple #[.pointer none, errV 1]) ∧ Below w.heap.size w w') :=
      HN.out.mono fun e w' hh => by
        rcases hh with ⟨h1, _⟩ | ⟨_, h1⟩
        · exact absurd h1 hw
        · exact h1
    have HIE : Hid (st.insE who off text = 1) := if_pos hw
    have HIR : Hid (st.insR who off text = []) := by show _ = _; unfold LDoc.insR; rw [HIE.out, if_neg (by decide)]
    rw [HIE.out, HIR.out]
    rw [HE1] at HN
    clear hw HIE HIR
    go_enter Tryz.func115, Tryz.ntmps115
    go_wp2_with fail
    refine HN.out.mono ?_
    rintro e w1 ⟨rfl, hb⟩
    have HB1 := Lib.hid hb
    clear hb
    go_wp2_with fail
    go_ret2
    have := edit_bad (k := 1) HB1.out
    rw [HE1] at this
    exact this
end Go.Proofs.YthfbjfocmnikaaaGreatDoor
