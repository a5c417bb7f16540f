/- 11 texts in one: each says ahead of itself what is proved, and its conditions. -/
import Derived.BigQuiet
import Derived.BigRegion
import Derived.Deep.CutBlock
import Derived.Test.YtngalkmmpjegkaaGreatDoorBackLaw
import Derived.Test.YtngalkmmpjegkaaGreatDoorBackOne
import Derived.Test.YtngalkmmpjegkaaGreatDoorDocKnown
import Derived.Test.YtngalkmmpjegkaaGreatDoorDot
import Derived.Test.YtngalkmmpjegkaaGreatDoorEditIns
import Derived.Test.YtngalkmmpjegkaaGreatDoorNthSeen
import Derived.Test.YtngalkmmpjegkaaGreatDoorPlace4
import Derived.Test.YtngalkmmpjegkaaGreatDoorRDoc
import Derived.Test.YtngalkmmpjegkaaGreatDoorRefNth
import Derived.Test.YtngalkmmpjegkaaGreatDoorRefPlace
import Derived.Test.YtngalkmmpjegkaaGreatDoorRefText
import Derived.Test.YtngalkmmpjegkaaGreatDoorRefWrite
import Derived.Test.YtngalkmmpjegkaaGreatDoorSame0
/- (*leafref2.Maker).add, walked (as edit's, EditAdd). Conditions: the maker's number is small. -/
namespace Go.Proofs.YtngalkmmpjegkaaGreatDoor
open Go.RowKit
set_option linter.unusedVariables false
/-- A maker in memory, with the ops that it has made. -/
structure RMkIs (w : World) (B b : Nat) (m : LMk) (V : Option Addr) (c : Nat) (ys : List OpAt) : Prop where
  blk : Blk w b 134 #[.int .i64 m.who, .int .i64 m.n, .slice V ys.length c]
  ops : OwnOps w B V c ys
  same : ys.map OpAt.op = m.ops
  base : B ≤ b
/-- The maker goes on: of what was there only it and its row may have turned. -/
def RMkTo (w : World) (B b : Nat) (V : Option Addr) (m' : LMk) (w' : World) : Prop :=
  ∃ V' c' ys', RMkIs w' B b m' V' c' ys' ∧ Only (b :: ob V) w w' ∧ ∀ g ∈ ob V', g ∈ ob V ∨ w.heap.size ≤ g
namespace RMkIs
variable {w w' : World} {B b : Nat} {m : LMk} {V : Option Addr} {c : Nat} {ys : List OpAt}
theorem only {T : List Nat} (h : RMkIs w B b m V c ys) (ho : Only T w w') (hT : ∀ g ∈ T, g < B ∨ w.heap.size ≤ g) : RMkIs w' B b m V c ys :=
  ⟨ho.blk h.blk (fun hm => by have := hT _ hm; have := h.base; have := h.blk.lt; omega), ops_far h.ops ho hT, h.same, h.base⟩
theorem below (h : RMkIs w B b m V c ys) (hb : Below w.heap.size w w') : RMkIs w' B b m V c ys := h.only (T := []) (Only.of_below hb) (by simp)
theorem len (h : RMkIs w B b m V c ys) : ys.length = m.ops.length := by rw [← h.same, List.length_map]
theorem to_self (h : RMkIs w B b m V c ys) : RMkTo w B b V m w := ⟨V, c, ys, h, Only.refl _ _, fun g hg => .inl hg⟩
end RMkIs
theorem RMkTo.trans {w w1 w2 : World} {B b : Nat} {V V1 : Option Addr} {c1 : Nat} {ys1 : List OpAt} {m1 m2 : LMk} (h1 : RMkIs w1 B b m1 V1 c1 ys1) (ho : Only (b :: ob V) w w1) (hn : ∀ g ∈ ob V1, g ∈ ob V ∨ w.heap.size ≤ g) (h2 : RMkTo w1 B b V1 m2 w2) : RMkTo w B b V m2 w2 := by
  obtain ⟨V2, c2, ys2, i2, o2, n2⟩ := h2
  refine ⟨V2, c2, ys2, i2, ho.trans_new o2 (fun i hi => ?_), fun g hg => ?_⟩
  · rcases List.mem_cons.1 hi with hi | hi
    · exact .inl (by simp [hi])
    · rcases hn i hi with h | h
      · exact .inl (by simp [h])
      · exact .inr h
  · have := ho.size
    rcases n2 g hg with h | h
    · exact hn g h
    · exact .inr (by omega)
theorem RMkTo.below {w w' : World} {B b : Nat} {m m' : LMk} {V : Option Addr} {c : Nat} {ys : List OpAt} (h : RMkIs w B b m V c ys) (ht : RMkTo w B b V m' w') {N : Nat} (hN : N ≤ B) (hs : B ≤ w.heap.size) : Below N w w' := by
  obtain ⟨V', c', ys', _, o, _⟩ := ht
  refine o.below (by omega) (fun g hg => ?_)
  rcases List.mem_cons.1 hg with rfl | hg
  · have := h.base; omega
  · have := (h.ops.row.lt g hg).1; omega
/-- The last step of Add: the number, the dot, the row. -/
theorem radd_close {w w8 : World} {B b : Nat} {m : LMk} {V : Option Addr} {c : Nat} {ys : List OpAt} (h : RMkIs w B b m V c ys) (hB : B ≤ w.heap.size) {y : OpAt} {W : World} (hW : Only [b] w W) (hbk : Blk W b 134 #[.int .i64 m.who, .int .i64 (m.n + 1), .slice V ys.length c])
    (hy : Own w B 27 2 y.at_ y.op.seen.length y.cap (dcells y.op.seen)) {V2 : Option Addr} {c2 : Nat}
    (hO : Own w8 B 30 6 V2 (ys.length + 1) c2 (ocells ys ++ OpAt.cells ⟨m.put y.op, y.at_, y.cap⟩)) (hL : Only (ob V) W w8) (hg : ∀ g ∈ ob V2, g ∈ ob V ∨ g = W.heap.size) :
    RMkTo w B b V (m.add y.op) (w8.setCell ⟨b, 2, none⟩ (.slice V2 (ys.length + 1) c2)) := by
  have hbV : b ∉ ob V := h.ops.row.blk_ne h.blk (by decide)
  have hb8 := hL.blk hbk hbV
  have hwW := hW.size
  have hW8 := hL.size
  have ho : Only (b :: ob V) w w8 := (hW.mono (fun i hi => by simp at hi; exact .inl (by simp [hi]))).trans (hL.mono (fun i hi => .inl (by simp [hi])))
  have ho2 : Only (b :: ob V) w (w8.setCell ⟨b, 2, none⟩ (.slice V2 (ys.length + 1) c2)) := ho.setCell (.inl (by simp)) _
  have hset : Only [b] w8 (w8.setCell ⟨b, 2, none⟩ (.slice V2 (ys.length + 1) c2)) := (Only.refl _ _).setCell (.inl (by simp)) _
  have keep : ∀ {A : Option Addr} {n cc : Nat} {xs : List Value}, Own w B 27 2 A n cc xs → Own (w8.setCell ⟨b, 2, none⟩ (.slice V2 (ys.length + 1) c2)) B 27 2 A n cc xs := fun hA => hA.only ho2 (fun g hg hm => by
    rcases List.mem_cons.1 hm with rfl | hm
    · exact hA.blk_ne h.blk (by decide) hg
    · rcases h.ops.row.2 with ⟨h2, _⟩ | ⟨g', cap, cur, he, _, hh, _⟩
      · injection h2 with h2
        rw [h2] at hm; simp [ob] at hm
      · injection he with he
        rw [he] at hm; simp [ob] at hm; subst hm
        exact hA.blk_ne (t := 30) (cs := cur) hh (by decide) hg)
  have hb2 : b ∉ ob V2 := hO.blk_ne hb8 (by decide)
  refine ⟨V2, c2, ys ++ [⟨m.put y.op, y.at_, y.cap⟩], ⟨?_, ⟨?_, ?_⟩, ?_, h.base⟩, ho2, fun g hg2 => ?_⟩
  · have := hb8.set_ 2 (.slice V2 (ys.length + 1) c2)
    rw [List.length_append]
    exact this
  · rw [List.length_append, ocells_app]
    have e : ocells [⟨m.put y.op, y.at_, y.cap⟩] = OpAt.cells ⟨m.put y.op, y.at_, y.cap⟩ := by simp [ocells]
    rw [e]
    exact hO.only hset (fun g hg hm => by simp at hm; subst hm; exact hb2 hg)
  · intro z hz
    rcases List.mem_append.1 hz with hz | hz
    · exact keep (h.ops.seen z hz)
    · simp at hz; subst hz; exact keep hy
  · rw [List.map_append, h.same]; rfl
  · rcases hg g hg2 with h3 | h3
    · exact .inl h3
    · exact .inr (by omega)
def RMkAddPost (w : World) (B b : Nat) (V : Option Addr) (m' : LMk) (e : Ending) (w' : World) : Prop := e = .returned (.tuple #[]) ∧ RMkTo w B b V m' w'
set_option maxRecDepth 100000 in
set_option maxHeartbeats 40000000 in
theorem rmkAdd_any (w : World) (B b : Nat) (m : LMk) (V : Option Addr) (c : Nat) (ys : List OpAt) (h : RMkIs w B b m V c ys) (hB : B ≤ w.heap.size) (o : LOp) (A : Option Addr) (ca : Nat)
    (hy : Own w B 27 2 A o.seen.length ca (dcells o.seen)) (hn0 : -1000000 ≤ m.n) (hn : m.n ≤ 1000000) (hl : ys.length ≤ 100000) :
    Calls Tryz.prog 70 #[.pointer (some ⟨b, 0, none⟩), o.val A ca] w (RMkAddPost w B b V (m.add o)) := by
  have HH := Lib.hid h
  have HY := Lib.hid hy
  have hbl := h.blk.lt
  obtain ⟨⟨who, n⟩, what, p, letter, seen⟩ := o
  obtain ⟨mw, mn, mo⟩ := m
  unfold LOp.val
  simp only at hn0 hn HY
  have HBox := Lib.hid (Blk.new w 30 #[.int .i64 who, .int .i64 n, .int .i64 what, .string p, .int .i64 letter, .slice A seen.length ca])
  have HB0 : Hid (Blk (w.alloc (.cells #[.int .i64 who, .int .i64 n, .int .i64 what, .string p, .int .i64 letter, .slice A seen.length ca] 30)) b 134 #[.int .i64 mw, .int .i64 mn, .slice V ys.length c]) := h.blk.alloc _
  have c1 : (w.alloc (.cells #[.int .i64 who, .int .i64 n, .int .i64 what, .string p, .int .i64 letter, .slice A seen.length ca] 30)).cell? ⟨b, 1, none⟩ = some (.int .i64 mn) := by rw [HB0.out.cell]; rfl
  have f1 := HB0.out.frozen 1
  have q1 : IntKind.i64.wrap (mn + 1) = mn + 1 := IntWalk.i64_in _ (by omega)
  clear h hy
  go_enter Tryz.func70, Tryz.ntmps70
  go_upto_region 2 with fail
  have HBm : Hid (Blk (w.setCell ⟨b, 1, none⟩ (.int .i64 (mn + 1))) b 134 #[.int .i64 mw, .int .i64 (mn + 1), .slice V ys.length c]) := HH.out.blk.set_ 1 _
  have HW1 : Hid (Only [b] w (w.setCell ⟨b, 1, none⟩ (.int .i64 (mn + 1)))) := (Only.refl _ _).setCell (.inl (by simp)) _
  have hsz : (w.setCell ⟨b, 1, none⟩ (.int .i64 (mn + 1))).heap.size = w.heap.size := by simp [World.setCell]
  have HSZ := Lib.hid hsz
  obtain ⟨w1, hw1⟩ : ∃ w1, w1 = w.setCell ⟨b, 1, none⟩ (.int .i64 (mn + 1)) := ⟨_, rfl⟩
  rw [← hw1] at HBm HW1 HSZ ⊢
  clear hw1 hsz HBox HB0 c1 f1
  have k0 : (w1.alloc (.cells #[.int .i64 who, .int .i64 n, .int .i64 what, .string p, .int .i64 letter, .slice A seen.length ca] 30)).cell? ⟨b, 0, none⟩ = some (.int .i64 mw) := by rw [(HBm.out.alloc _).cell]; rfl
  have k1 : (w1.alloc (.cells #[.int .i64 who, .int .i64 n, .int .i64 what, .string p, .int .i64 letter, .slice A seen.length ca] 30)).cell? ⟨b, 1, none⟩ = some (.int .i64 (mn + 1)) := by rw [(HBm.out.alloc _).cell]; rfl
  rw [← HSZ.out]
  go_cut [] (fun wx => ∃ n, wx = (w1.alloc (.cells #[.int .i64 mw, .int .i64 (mn + 1), .int .i64 what, .string p, .int .i64 letter, .slice A seen.length ca] 30)).drewN n)
  case first =>
    go_region
    all_goals
      go_wp2_with fail
      go_meet
      case rel => exact ⟨1, rfl⟩
  case rest =>
    obtain ⟨n2, rfl⟩ := hcut
    obtain ⟨W2, hW2⟩ : ∃ W2, W2 = (w1.alloc (.cells #[.int .i64 mw, .int .i64 (mn + 1), .int .i64 what, .string p, .int .i64 letter, .slice A seen.length ca] 30)).drewN n2 := ⟨_, rfl⟩
    have HO2 : Hid (Only [b] w W2) := by show Only _ _ _; rw [hW2]; exact (HW1.out.alloc _).drewN _
    have HM2 : Hid (Blk W2 b 134 #[.int .i64 mw, .int .i64 (mn + 1), .slice V ys.length c]) := by show Blk _ _ _ _; rw [hW2]; exact (HBm.out.alloc _).drewN _
    have HX2 : Hid (Blk W2 w1.heap.size 30 #[.int .i64 mw, .int .i64 (mn + 1), .int .i64 what, .string p, .int .i64 letter, .slice A seen.length ca]) := by show Blk _ _ _ _; rw [hW2]; exact (Blk.new w1 _ _).drewN _
    rw [← hW2]
    clear hW2 k0 k1 HBm HW1
    have j0 : W2.cell? ⟨w1.heap.size, 0, none⟩ = some (.int .i64 mw) := by rw [HX2.out.cell]; rfl
    have j1 : W2.cell? ⟨w1.heap.size, 1, none⟩ = some (.int .i64 (mn + 1)) := by rw [HX2.out.cell]; rfl
    have j2 : W2.cell? ⟨w1.heap.size, 2, none⟩ = some (.int .i64 what) := by rw [HX2.out.cell]; rfl
    have j3 : W2.cell? ⟨w1.heap.size, 3, none⟩ = some (.string p) := by rw [HX2.out.cell]; rfl
    have j4 : W2.cell? ⟨w1.heap.size, 4, none⟩ = some (.int .i64 letter) := by rw [HX2.out.cell]; rfl
    have j5 : W2.cell? ⟨w1.heap.size, 5, none⟩ = some (.slice A seen.length ca) := by rw [HX2.out.cell]; rfl
    have m2 : W2.cell? ⟨b, 2, none⟩ = some (.slice V ys.length c) := by rw [HM2.out.cell]; rfl
    have m2a : (W2.alloc (.cells #[.int .i64 mw, .int .i64 (mn + 1), .int .i64 what, .string p, .int .i64 letter, .slice A seen.length ca] 30)).cell? ⟨b, 2, none⟩ = some (.slice V ys.length c) := by rw [(HM2.out.alloc _).cell]; rfl
    have hBW : B ≤ W2.heap.size := by have := HO2.out.size; omega
    have HRW : Hid (Own W2 B 30 6 V ys.length c (ocells ys)) := HH.out.ops.row.only HO2.out (fun g hg hm => by simp at hm; subst hm; exact HH.out.ops.row.blk_ne HH.out.blk (by decide) hg)
    have hbV : b ∉ ob V := HH.out.ops.row.blk_ne HH.out.blk (by decide)
    have HONE : Hid (OneCells [Value.int .i64 mw, .int .i64 (mn + 1), .int .i64 what, .string p, .int .i64 letter, .slice A seen.length ca]) := by
      show OneCells _
      intro u hu
      simp only [List.mem_cons, List.not_mem_nil, or_false] at hu
      rcases hu with rfl | rfl | rfl | rfl | rfl | rfl <;> rfl
    have HFIT : Hid (Fits (ys.length + 1) 72) := Fits.of_small (by omega) (by decide)
    go_wp2_with fail
    go_region_law ((
      refine step_app _ (.tmp 25) (.tmp 27) rfl rfl elemO_ rfl rfl ((HRW.out.drew).alloc _) (Reads.row W2.drew 30 #[.int .i64 mw, .int .i64 (mn + 1), .int .i64 what, .string p, .int .i64 letter, .slice A seen.length ca]) HONE.out HFIT.out (by simp; omega) ?_
      intro V8 cV w8 hO hL hg
      have hb8 := hL.blk ((HM2.out.drew).alloc _) hbV
      have n2 : w8.cell? ⟨b, 2, none⟩ = some (.slice V ys.length c) := by { rw [hb8.cell]; rfl }
      have f2 := hb8.frozen 2))
    all_goals
      go_wp2_with fail
      go_end0
      exact ⟨rfl, radd_close (y := ⟨⟨⟨who, n⟩, what, p, letter, seen⟩, A, ca⟩) HH.out hB (HO2.out.drew.alloc _) (HM2.out.drew.alloc _) HY.out hO hL hg⟩
end Go.Proofs.YtngalkmmpjegkaaGreatDoor
/- place.Room, walked. Conditions: texts no longer than an int may count. -/
namespace Go.Proofs.YtngalkmmpjegkaaGreatDoor
open Go.RowKit
set_option linter.unusedVariables false

def RoomPost (w : World) (a b : ByteArray) (e : Ending) (w' : World) : Prop :=
  e = .returned (.tuple #[.int .i64 (if roomErr a b = 0 then ((quarter a b).length : Int) + 1 else 0), errV (roomErr a b)]) ∧ Below w.heap.size w w'

end Go.Proofs.YtngalkmmpjegkaaGreatDoor
/- leafref1.Two, Quarter, Between, walked. Conditions: the texts' sizes. -/
namespace Go.Proofs.YtngalkmmpjegkaaGreatDoor
open Go.RowKit
set_option linter.unusedVariables false
set_option maxRecDepth 100000 in
set_option maxHeartbeats 4000000 in
theorem rtwo_any (w : World) (a b : ByteArray) (ha : a.size ≤ 9223372036854775807) (hb : b.size ≤ 9223372036854775807) :
    Calls Tryz.prog 107 #[.string a, .string b] w (fun e w' => e = .returned (.int .i64 (readyErr a b)) ∧ w' = w) := by
  have HA := Lib.hid (rplace_any w a ha)
  have HB := Lib.hid (rplace_any w b hb)
  clear ha hb
  obtain ⟨R, hR⟩ : ∃ x, readyErr a b = x := ⟨_, rfl⟩
  have HR := Lib.hid hR
  rw [hR]
  clear hR
  by_cases c1 : a.size ≠ 0 ∧ placeErr a ≠ 0
  · have hE := isEmpty_not c1.1
    have hR2 : Hid (R = placeErr a) := by show _ = _; rw [← HR.out]; unfold readyErr; rw [if_pos c1]
    have p1 : (placeErr a != 0) = true := by simpa using c1.2
    have p2 : (placeErr a == 0) = false := by simpa using c1.2
    have p3 : ¬ placeErr a = 0 := c1.2
    clear c1 HR HB
    generalize placeErr a = pa at *
    go_enter Tryz.func107, Tryz.ntmps107
    go_wp2_with fail
    refine HA.out.mono ?_
    rintro e w1 ⟨rfl, hw⟩
    obtain rfl := hw.symm
    clear hw
    go_wp2_with fail
    refine HA.out.mono ?_
    rintro e w1 ⟨rfl, hw⟩
    obtain rfl := hw.symm
    clear hw
    go_wp2_with fail
    go_ret
    exact ⟨by rw [hR2.out]; rfl, rfl⟩
  · have dA : (a.toList.isEmpty = true) ∨ (a.toList.isEmpty = false ∧ placeErr a = 0) := by
      by_cases h : a.size = 0
      · exact .inl (isEmpty_of h)
      · exact .inr ⟨isEmpty_not h, by have := fun h2 => c1 ⟨h, h2⟩; omega⟩
    by_cases c2 : b.size ≠ 0 ∧ placeErr b ≠ 0
    · have hE := isEmpty_not c2.1
      have hR2 : Hid (R = placeErr b) := by show _ = _; rw [← HR.out]; unfold readyErr; rw [if_neg c1, if_pos c2]
      have p1 : (placeErr b != 0) = true := by simpa using c2.2
      have p2 : (placeErr b == 0) = false := by simpa using c2.2
      have p3 : ¬ placeErr b = 0 := c2.2
      clear c1 c2 HR
      generalize placeErr b = pb at *
      rcases dA with hA | ⟨hA, hpa⟩
      · clear HA
        go_enter Tryz.func107, Tryz.ntmps107
        go_wp2_with fail
        refine HB.out.mono ?_
        rintro e w1 ⟨rfl, hw⟩
        obtain rfl := hw.symm
        clear hw
        go_wp2_with fail
        refine HB.out.mono ?_
        rintro e w1 ⟨rfl, hw⟩
        obtain rfl := hw.symm
        clear hw
        go_wp2_with fail
        go_ret
        exact ⟨by rw [hR2.out]; rfl, rfl⟩
      · rw [hpa] at HA
        clear hpa
        go_enter Tryz.func107, Tryz.ntmps107
        go_wp2_with fail
        refine HA.out.mono ?_
        rintro e w1 ⟨rfl, hw⟩
        obtain rfl := hw.symm
        clear hw
        go_wp2_with fail
        refine HB.out.mono ?_
        rintro e w1 ⟨rfl, hw⟩
        obtain rfl := hw.symm
        clear hw
        go_wp2_with fail
        refine HB.out.mono ?_
        rintro e w1 ⟨rfl, hw⟩
        obtain rfl := hw.symm
        clear hw
        go_wp2_with fail
        go_ret
        exact ⟨by rw [hR2.out]; rfl, rfl⟩
    · have dB : (b.toList.isEmpty = true) ∨ (b.toList.isEmpty = false ∧ placeErr b = 0) := by
        by_cases h : b.size = 0
        · exact .inl (isEmpty_of h)
        · exact .inr ⟨isEmpty_not h, by have := fun h2 => c2 ⟨h, h2⟩; omega⟩
      have hR2 : Hid (R = if a.toList.isEmpty = false ∧ b.toList.isEmpty = false ∧ Op.bytesLess a.toList b.toList = false then 3 else 0) := by
        show _ = _
        rw [← HR.out]; unfold readyErr; rw [if_neg c1, if_neg c2]
        have ea : a.size ≠ 0 ↔ a.toList.isEmpty = false := ⟨isEmpty_not, fun h h2 => by rw [isEmpty_of h2] at h; cases h⟩
        have eb : b.size ≠ 0 ↔ b.toList.isEmpty = false := ⟨isEmpty_not, fun h h2 => by rw [isEmpty_of h2] at h; cases h⟩
        simp only [ea, eb]
      clear c1 c2 HR
      rcases dA with hA | ⟨hA, hpa⟩ <;> rcases dB with hB | ⟨hB, hpb⟩ <;> rw [hA, hB] at hR2
      · clear HA
        clear HB
        rcases three a.toList b.toList with ⟨f1, f2, f3⟩ | ⟨f1, f2, f3⟩ | ⟨f1, f2, f3⟩ <;> rw [f1] at hR2
        all_goals
          go_enter Tryz.func107, Tryz.ntmps107
          go_wp2_with fail
          go_ret
          exact ⟨by rw [hR2.out]; rfl, rfl⟩
      · clear HA
        rw [hpb] at HB
        clear hpb
        rcases three a.toList b.toList with ⟨f1, f2, f3⟩ | ⟨f1, f2, f3⟩ | ⟨f1, f2, f3⟩ <;> rw [f1] at hR2
        all_goals
          go_enter Tryz.func107, Tryz.ntmps107
          go_wp2_with fail
          refine HB.out.mono ?_
          rintro e w1 ⟨rfl, hw⟩
          obtain rfl := hw.symm
          clear hw
          go_wp2_with fail
          go_ret
          exact ⟨by rw [hR2.out]; rfl, rfl⟩
      · rw [hpa] at HA
        clear hpa
        clear HB
        rcases three a.toList b.toList with ⟨f1, f2, f3⟩ | ⟨f1, f2, f3⟩ | ⟨f1, f2, f3⟩ <;> rw [f1] at hR2
        all_goals
          go_enter Tryz.func107, Tryz.ntmps107
          go_wp2_with fail
          refine HA.out.mono ?_
          rintro e w1 ⟨rfl, hw⟩
          obtain rfl := hw.symm
          clear hw
          go_wp2_with fail
          go_ret
          exact ⟨by rw [hR2.out]; rfl, rfl⟩
      · rw [hpa] at HA
        clear hpa
        rw [hpb] at HB
        clear hpb
        rcases three a.toList b.toList with ⟨f1, f2, f3⟩ | ⟨f1, f2, f3⟩ | ⟨f1, f2, f3⟩ <;> rw [f1] at hR2
        all_goals
          go_enter Tryz.func107, Tryz.ntmps107
          go_wp2_with fail
          refine HA.out.mono ?_
          rintro e w1 ⟨rfl, hw⟩
          obtain rfl := hw.symm
          clear hw
          go_wp2_with fail
          refine HB.out.mono ?_
          rintro e w1 ⟨rfl, hw⟩
          obtain rfl := hw.symm
          clear hw
          go_wp2_with fail
          go_ret
          exact ⟨by rw [hR2.out]; rfl, rfl⟩
theorem rcount_empty {a b : ByteArray} {n : Nat} (lb : Letters b) : ((rcount a b n n 0 : Nat) : Int) = many a b n := by
  rw [many_cnt (low_of lb)]
  unfold rcount
  rw [Nat.zero_mul, Nat.zero_add, Nat.one_mul]
  simp [cntN]
theorem val_lt {a b : ByteArray} {n : Nat} (lb : Letters b) (h : 1 ≤ many a b n) : val a b n < 26 ^ n := by
  obtain ⟨_, p2, _⟩ := val_props h
  have hp : 0 < 26 ^ n := Nat.pow_pos (by decide)
  unfold high at p2
  split at p2
  · omega
  · have := numb_lt lb n
    omega
def QuartLoop (w : World) (a b : ByteArray) (v5 : Value) (wr : World) : Prop :=
  ∃ k : Nat, k ≤ 11 ∧ v5 = .int .i64 ((k + 1 : Nat) : Int) ∧ Hid (quarter a b = quarterFrom a b (k + 1) (11 - k)) ∧ Hid (Below w.heap.size w wr)
set_option maxRecDepth 100000 in
set_option maxHeartbeats 4000000 in
theorem rquarter_any (w : World) (a b : ByteArray) (la : Letters a) (lb : Letters b) (sa : a.size ≤ 12) (sb : b.size ≤ 12) :
    Calls Tryz.prog 108 #[.string a, .string b] w (CheckPost w (.string (strOf (quarter a b)))) := by
  have HM := Lib.hid (fun n h1 h11 W => rmany_any a b la lb sa sb n h1 h11 n ⟨#[]⟩ W (by intro c hc; simp [ByteArray.toList_eq] at hc) (by show 0 + n = n; omega))
  have HN := Lib.hid (fun n h1 h11 X k0 hX hXn hk W => rnthS_any W a b la lb sa sb n h1 h11 X k0 hX hXn hk)
  rw [empty_num] at HM
  have HRC := Lib.hid (fun n => rcount_empty (a := a) (n := n) lb)
  have HVL := Lib.hid (fun n => val_lt (a := a) (n := n) lb)
  clear la lb sa sb
  go_enter Tryz.func108, Tryz.ntmps108
  go_wp2_with fail
  go_loopw [5] (fun v5 wr => QuartLoop w a b v5 wr) (fun v5 _ => 12 - (intOf v5).toNat)
  case atStart => exact ⟨0, by omega, rfl, rfl, Below.refl _ _⟩
  case round =>
    obtain ⟨k, hk, rfl, HQ, HB⟩ := hrel
    by_cases hk11 : k < 11
    · have k1 : ((k + 1 : Nat) : Int) ≤ 11 := by omega
      have q1 : IntKind.i64.wrap (((k + 1 : Nat) : Int) + 1) = ((k + 1 + 1 : Nat) : Int) := by rw [IntWalk.i64_in _ (by omega)]; omega
      have HC := Lib.hid (HM.out (k + 1) (by omega) (by omega) wr)
      have hm := HRC.out (k + 1)
      have HQ2 : Hid (quarterFrom a b (k + 1) (11 - k) = if many a b (k + 1) < 1 then quarterFrom a b (k + 2) (11 - (k + 1)) else lets (val a b (k + 1)) (k + 1)) := by
        show _ = _
        obtain ⟨q, hq⟩ : ∃ q, 11 - k = q + 1 := ⟨10 - k, by omega⟩
        have hq2 : 11 - (k + 1) = q := by omega
        rw [hq, hq2, quarterFrom]
      have hmle : rcount a b (k + 1) (k + 1) 0 ≤ 3670344486987776 := by
        have h1 := cnt_le (numb a (k + 1)) (hiOf b.toList (k + 1)) ((0 + 1) * 26 ^ (k + 1))
        have h2 := pow_le (k + 1) (by omega)
        unfold rcount
        omega
      have HV := Lib.hid (fun h => val_cnt (a := a) (b := b) (n := k + 1) h)
      rw [← hm] at HQ2 HV
      have HVL2 := HVL.out (k + 1)
      rw [← hm] at HVL2
      have HVLT := Lib.hid HVL2
      clear hm HVL2
      generalize hM : rcount a b (k + 1) (k + 1) 0 = M at *
      clear hM
      go_wp2_with fail
      refine (show Calls Tryz.prog 136 _ wr _ from HC.out).mono ?_
      rintro e w1 ⟨rfl, hb1⟩
      have HB1 : Hid (Below w.heap.size w w1) := HB.out.trans (hb1.mono HB.out.size)
      clear hb1 HC
      by_cases hM1 : 1 ≤ M
      · have k2 : (0 : Int) < (M : Int) := by omega
        obtain ⟨o1, o2⟩ := HV.out (by omega)
        have o3 : cntN (numb a (k + 1)) (hiOf b.toList (k + 1)) (val a b (k + 1)) = (M - 1) / 4 := by omega
        have HCN := Lib.hid (HN.out (k + 1) (by omega) (by omega) (val a b (k + 1)) ((M - 1) / 4) o1 (HVLT.out (by omega)) o3 w1)
        have HRES : Hid (quarter a b = lets (val a b (k + 1)) (k + 1)) := by
          show _ = _
          rw [HQ.out, HQ2.out, if_neg (by omega)]
        have q2 : IntKind.i64.wrap ((M : Int) - 1) = ((M - 1 : Nat) : Int) := by rw [IntWalk.i64_in _ (by omega)]; omega
        clear o1 o2 o3 HV HVLT HQ2
        go_wp2_with fail
        have hq : ((M - 1 : Nat) : Int) / 4 = (((M - 1) / 4 : Nat) : Int) := by omega
        rw [hq]
        refine (show Calls Tryz.prog 137 _ w1 _ from HCN.out).mono ?_
        rintro e w2 ⟨rfl, hb2⟩
        have HB2 : Hid (Below w.heap.size w w2) := HB1.out.trans (hb2.mono HB1.out.size)
        clear hb2 hq
        go_wp2_with fail
        go_ret
        exact ⟨by rw [HRES.out]; rfl, HB2.out⟩
      · have k2 : ¬ (0 : Int) < (M : Int) := by omega
        have HRES : Hid (quarter a b = quarterFrom a b (k + 1 + 1) (11 - (k + 1))) := by
          show _ = _
          rw [HQ.out, HQ2.out, if_pos (by omega)]
        go_wp2_with fail
        go_roundw
        case rel => exact ⟨k + 1, by omega, by go_num, HRES, HB1⟩
        case measure => simp [intOf]; omega
    · have k1 : ¬ ((k + 1 : Nat) : Int) ≤ 11 := by omega
      have hk' : k = 11 := by omega
      subst hk'
      go_wp2_with fail
      go_ret
      exact ⟨by rw [HQ.out]; rfl, HB.out⟩
end Go.Proofs.YtngalkmmpjegkaaGreatDoor
/- place.Who, walked. Conditions: stated with each. -/
namespace Go.Proofs.YtngalkmmpjegkaaGreatDoor
open Go.RowKit
set_option linter.unusedVariables false

def WhoPost (w : World) (s : ByteArray) (e : Ending) (w' : World) : Prop :=
  e = .returned (.tuple #[.int .i64 (if placeErr s = 0 then (byteAt s (s.size - 1) - 97 : Nat) else 0), errV (placeErr s)]) ∧ Below w.heap.size w w'
end Go.Proofs.YtngalkmmpjegkaaGreatDoor
/- leafref1.Who, Between, walked. Conditions: the texts' sizes; a writer. -/
namespace Go.Proofs.YtngalkmmpjegkaaGreatDoor
open Go.RowKit
set_option linter.unusedVariables false
set_option maxRecDepth 100000 in
set_option maxHeartbeats 4000000 in
theorem rbetween_any (w : World) (a b : ByteArray) (who : Int) (ha : a.size ≤ 9223372036854775807) (hb : b.size ≤ 9223372036854775807) (h1 : 1 ≤ who) (h8 : who ≤ 8) :
    Calls Tryz.prog 72 #[.string a, .string b, .int .i64 who] w (CheckPost w (.tuple #[.string (strOf (betweenRes a b who)), .int .i64 (betweenErr a b who)])) := by
  have HT := Lib.hid (rtwo_any w a b ha hb)
  clear ha hb
  have hbe : betweenErr a b who = roomErr a b := by unfold betweenErr; rw [if_neg (by omega)]
  by_cases hr : readyErr a b = 0
  · have hro := ready_ok hr
    have HQ := Lib.hid (rquarter_any w a b hro.1.2 hro.2.2 hro.1.1 hro.2.1)
    rw [hr] at HT
    clear hro
    have hql := quarter_le a b
    by_cases hq : quarter a b = []
    · have HE : Hid (betweenErr a b who = 8) := by show _ = _; rw [hbe]; unfold roomErr; rw [if_neg (fun h => h hr), if_pos hq]
      have HRS : Hid (betweenRes a b who = []) := by show _ = _; unfold betweenRes; rw [if_neg (by rw [HE.out]; decide)]
      rw [hq] at HQ
      clear hq hql hbe hr
      have hz : (strOf ([] : List UInt8)) = ⟨#[]⟩ := rfl
      rw [hz] at HQ
      clear hz
      go_enter Tryz.func72, Tryz.ntmps72
      go_wp2_with fail
      refine HT.out.mono ?_
      rintro e w1 ⟨rfl, hw⟩
      obtain rfl := hw.symm
      clear hw
      go_wp2_with fail
      refine HQ.out.mono ?_
      rintro e w2 ⟨rfl, hb2⟩
      go_wp2_with fail
      go_ret2
      exact ⟨by rw [HE.out, HRS.out]; rfl, hb2⟩
    · have HE : Hid (betweenErr a b who = 0) := by show _ = _; rw [hbe]; unfold roomErr; rw [if_neg (fun h => h hr), if_neg hq]
      have HRS : Hid (betweenRes a b who = quarter a b ++ [UInt8.ofNat (97 + who.toNat)]) := by show _ = _; unfold betweenRes; rw [if_pos HE.out]
      have hm : (strOf (quarter a b)).toList.isEmpty = false := by
        rw [strOf_tl]
        cases hqq : quarter a b with
        | nil => exact absurd hqq hq
        | cons => rfl
      have hsz : (strOf (quarter a b)).size ≤ 11 := by rw [strOf_size]; exact hql
      have HRT : Hid (strOf (betweenRes a b who) = strOf ((strOf (quarter a b)).toList ++ [u8 (97 + who)])) := by
        show _ = _
        rw [HRS.out, strOf_tl]
        unfold u8
        rw [show (97 + who).toNat = 97 + who.toNat by omega]
      clear HRS hq hql hbe hr
      generalize strOf (quarter a b) = m at *
      have q0 : IntKind.i64.wrap (97 + who) = 97 + who := by rw [IntWalk.i64_in _ (by omega)]
      have q1 : IntKind.u8.wrap (97 + who) = 97 + who := IntWalk.u8_in _ (by omega)
      go_enter Tryz.func72, Tryz.ntmps72
      go_wp2_with fail
      refine HT.out.mono ?_
      rintro e w1 ⟨rfl, hw⟩
      obtain rfl := hw.symm
      clear hw
      go_wp2_with fail
      refine HQ.out.mono ?_
      rintro e w2 ⟨rfl, hb2⟩
      obtain ⟨C, w3, hcv, hR3, hB3⟩ := conv_row w2 m (by omega)
      have HR3 := Lib.hid hR3
      have HB3 := Lib.hid hB3
      have HB2 := Lib.hid hb2
      clear hR3 hB3 hb2
      go_wp2_with (at_builtin; go_loud (refine wpList_bytes (.tmp 24) (.tmp 28) rfl rfl rfl rfl (HR3.out.below ((Below.refl _ _).alloc (Nat.le_refl _) _)) (by have := HB3.out.size; simp; omega) (reads_byte w3 (97 + who) (by omega) (by omega) _ rfl) (by decide) (by omega) ?_; intro g' c' w4 HR4 HO4 HG4; have htx := HR4.text; have HR4' := Lib.hid HR4; have HO4' := Lib.hid HO4; clear HR4 HO4 HG4))
      go_ret2
      have HBa := (HB2.out.trans (HB3.out.mono HB2.out.size)).alloc (Nat.le_trans HB2.out.size HB3.out.size) (.cells #[.int .u8 (97 + who)] 5)
      exact ⟨by rw [HE.out, HRT.out]; rfl, HBa.trans (HO4'.out.below HBa.size (fun g hg => by rw [List.mem_singleton.1 hg]; exact HB2.out.size))⟩
  · have HE : Hid (betweenErr a b who = readyErr a b) := by show _ = _; rw [hbe]; unfold roomErr; rw [if_pos hr]
    have HRS : Hid (betweenRes a b who = []) := by show _ = _; unfold betweenRes; rw [if_neg (by rw [HE.out]; exact hr)]
    have p1 : (readyErr a b != 0) = true := by simpa using hr
    have p2 : (readyErr a b == 0) = false := by simpa using hr
    clear hbe
    generalize readyErr a b = R at *
    go_enter Tryz.func72, Tryz.ntmps72
    go_wp2_with fail
    refine HT.out.mono ?_
    rintro e w1 ⟨rfl, hw⟩
    obtain rfl := hw.symm
    clear hw
    go_wp2_with fail
    go_ret2
    exact ⟨by rw [HE.out, HRS.out]; rfl, Below.refl _ _⟩
end Go.Proofs.YtngalkmmpjegkaaGreatDoor
/- (*leafref2.Maker).insert, walked. Conditions: the book is right; the maker's number is small; there is such an author. -/
namespace Go.Proofs.YtngalkmmpjegkaaGreatDoor
open Go.RowKit
set_option linter.unusedVariables false
/-- Midway: k letters are typed. -/
structure RInsMid (w : World) (B b : Nat) (V : Option Addr) (m : LMk) (right left : ByteArray) (t : List UInt8) (k : Nat) (wr : World) (lk : ByteArray) (mk : LMk) (V' : Option Addr) (c' : Nat) (ys' : List OpAt) : Prop where
  mkis : RMkIs wr B b mk V' c' ys'
  only : Only (b :: ob V) w wr
  new : ∀ g ∈ ob V', g ∈ ob V ∨ w.heap.size ≤ g
  rest : LMk.typed right t left m = LMk.typed right (t.drop k) lk mk
  who : mk.who = m.who
  n : mk.n = m.n + k
  len : ys'.length = m.ops.length + k
  small : lk.size ≤ 9223372036854775807
def RInsLoop (w : World) (B b : Nat) (V : Option Addr) (m : LMk) (right left : ByteArray) (t : List UInt8) (l i : Value) (wr : World) : Prop :=
  ∃ k : Nat, ∃ lk mk V' c' ys', k ≤ t.length ∧ l = .string lk ∧ i = .int .i64 k ∧ Hid (RInsMid w B b V m right left t k wr lk mk V' c' ys')
namespace RInsMid
variable {w wr w' : World} {B b : Nat} {V V' : Option Addr} {m mk : LMk} {right left lk : ByteArray} {t : List UInt8} {k c' : Nat} {ys' : List OpAt}
theorem stop (h : RInsMid w B b V m right left t k wr lk mk V' c' ys') (hk : k < t.length) (he : betweenErr lk right mk.who ≠ 0) (hb : Below wr.heap.size wr w') :
    (LMk.typed right t left m).2 = betweenErr lk right mk.who ∧ RMkTo w B b V (LMk.typed right t left m).1 w' := by
  rw [h.rest, List.drop_eq_getElem_cons hk, LMk.typed, if_pos he]
  exact ⟨rfl, V', c', ys', h.mkis.below hb, h.only.below_step hb, h.new⟩
theorem fin (h : RInsMid w B b V m right left t k wr lk mk V' c' ys') (hk : t.length ≤ k) : (LMk.typed right t left m).2 = 0 ∧ RMkTo w B b V (LMk.typed right t left m).1 wr := by
  rw [h.rest, List.drop_eq_nil_of_le hk, LMk.typed]
  exact ⟨rfl, V', c', ys', h.mkis, h.only, h.new⟩
theorem next (h : RInsMid w B b V m right left t k wr lk mk V' c' ys') (hk : k < t.length) (he : ¬ betweenErr lk right mk.who ≠ 0) {w1 : World} (hb : Below wr.heap.size wr w1) (ht : RMkTo w1 B b V' (mk.wr (strOf (betweenRes lk right mk.who)) t[k].toNat) w') :
    ∃ V2 c2 ys2, RInsMid w B b V m right left t (k + 1) w' (strOf (betweenRes lk right mk.who)) (mk.wr (strOf (betweenRes lk right mk.who)) t[k].toNat) V2 c2 ys2 := by
  have hsz := h.only.size
  have hsz1 := hb.size
  obtain ⟨V2, c2, ys2, i2, o2, n2⟩ := RMkTo.trans (h.mkis.below hb) (h.only.below_step hb) h.new ht
  refine ⟨V2, c2, ys2, i2, o2, n2, ?_, ?_, ?_, ?_, ?_⟩
  · rw [h.rest, List.drop_eq_getElem_cons hk, LMk.typed, if_neg he]; rfl
  · exact h.who
  · show mk.n + 1 = _
    rw [h.n]; omega
  · have e1 := i2.len
    have e2 := h.mkis.len
    rw [h.len] at e2
    rw [e1]
    simp [LMk.wr, LMk.add]
    omega
  · rw [strOf_size]
    unfold betweenRes
    split
    · have := quarter_le lk right
      simp; omega
    · simp
end RInsMid
def RMkPost (w : World) (B b : Nat) (V : Option Addr) (r : LMk × Int) (e : Ending) (w' : World) : Prop := e = .returned (.int .i64 r.2) ∧ RMkTo w B b V r.1 w'
theorem byte_list {s : ByteArray} {k : Nat} (h : k < s.size) : s.toList[k]'(by rw [toList_len]; exact h) = s[k] := by simp [ByteArray.toList_eq]; rfl
theorem good_byte {s : ByteArray} (h : s.toList.any badC = false) {k : Nat} (hk : k < s.size) : letterB (s[k].toNat : Int) = true := by
  have h1 := List.any_eq_false.1 h (s.toList[k]'(by rw [toList_len]; exact hk)) (List.getElem_mem _)
  rw [byte_list hk] at h1
  simpa [badC] using h1
theorem bad_none {s : ByteArray} (h : ∀ j (hj : j < s.size), letterB (s[j].toNat : Int) = true) : s.toList.any badC = false := by
  rw [List.any_eq_false]
  intro x hx
  obtain ⟨j, hj, rfl⟩ := List.getElem_of_mem hx
  rw [toList_len] at hj
  rw [byte_list hj]
  simp [badC, h j hj]
theorem byte_wrap (c : UInt8) : wrap64 ((c.toNat : Nat) : Int) = ((c.toNat : Nat) : Int) := by
  have hby : (c.toNat : Int) ≤ 255 := by have := UInt8.toNat_lt c; omega
  unfold wrap64; omega
def LetLoop (w : World) (s : ByteArray) (i : Value) (wr : World) : Prop := ∃ k : Nat, k ≤ s.size ∧ i = .int .i64 (k : Int) ∧ Hid (∀ j (hj : j < s.size), j < k → letterB (s[j].toNat : Int) = true) ∧ Hid (wr = w)
end Go.Proofs.YtngalkmmpjegkaaGreatDoor
/- (*leafref2.Maker).delete, walked. Conditions: the book is right; the maker's number is small. -/
namespace Go.Proofs.YtngalkmmpjegkaaGreatDoor
open Go.RowKit
set_option linter.unusedVariables false
theorem strikes_none : ∀ (l : List LLeaf) (x y a : Int) (m : LMk), y ≤ a → LMk.strikes x y l a m = m
  | [], _, _, _, _, _ => rfl
  | z :: l, x, y, a, m, h => by
    unfold LMk.strikes
    split
    · rw [if_neg (by omega)]; exact strikes_none l x y (a + 1) m (by omega)
    · exact strikes_none l x y a m h
theorem strikes_step : ∀ (l : List LLeaf) (i : Nat) (a k x : Int) (m : LMk), x ≤ k → a ≤ k → ∀ n (hn : n < l.length), nthFrom i l (k - a) = ((i + n : Nat) : Int) → LMk.strikes x (k + 1) l a m = (LMk.strikes x k l a m).st l[n].place
  | [], _, _, _, _, _, _, _, n, hn, _ => by simp at hn
  | z :: l, i, a, k, x, m, hx, ha, n, hn, h => by
    have up : ∀ o : Int, nthFrom (i + 1) l o = ((i + n : Nat) : Int) → ∃ n', ∃ hn' : n' < l.length, n = n' + 1 ∧ nthFrom (i + 1) l o = ((i + 1 + n' : Nat) : Int) := fun o ho => by
      obtain ⟨n', hn', e⟩ := nth_lt l (i + 1) o (by omega)
      exact ⟨n', hn', by omega, e⟩
    unfold nthFrom at h
    unfold LMk.strikes
    by_cases hs : seenB z = true
    · rw [if_pos hs] at h ⊢
      rw [if_pos hs]
      by_cases hk : k - a = 0
      · rw [if_pos hk] at h
        obtain rfl : n = 0 := by omega
        obtain rfl : a = k := by omega
        rw [if_pos (by omega), if_neg (by omega), strikes_none _ _ _ _ _ (by omega), strikes_none _ _ _ _ _ (by omega)]
        rfl
      · rw [if_neg hk] at h
        obtain ⟨n', hn', rfl, e⟩ := up _ h
        rw [show (if x ≤ a ∧ a < k + 1 then m.st z.place else m) = if x ≤ a ∧ a < k then m.st z.place else m by
          by_cases hxa : x ≤ a
          · rw [if_pos ⟨hxa, by omega⟩, if_pos ⟨hxa, by omega⟩]
          · rw [if_neg (fun h => hxa h.1), if_neg (fun h => hxa h.1)]]
        rw [show k - a - 1 = k - (a + 1) by omega] at e
        exact strikes_step l (i + 1) (a + 1) k x _ hx (by omega) n' hn' e
    · rw [if_neg hs] at h ⊢
      rw [if_neg hs]
      obtain ⟨n', hn', rfl, e⟩ := up _ h
      exact strikes_step l (i + 1) a k x m hx ha n' hn' e
/-- No letter lies between. -/
theorem strikes_empty : ∀ (l : List LLeaf) (x a : Int) (m : LMk), LMk.strikes x x l a m = m
  | [], _, _, _ => rfl
  | z :: l, x, a, m => by
    unfold LMk.strikes
    split
    · rw [if_neg (by omega)]; exact strikes_empty l x (a + 1) m
    · exact strikes_empty l x a m
/-- Midway: the letters ahead of k are struck. -/
structure RDelMid (w : World) (B b : Nat) (V : Option Addr) (m : LMk) (x : Int) (l : List LLeaf) (k : Int) (wr : World) (mk : LMk) (V' : Option Addr) (c' : Nat) (ys' : List OpAt) : Prop where
  mkis : RMkIs wr B b mk V' c' ys'
  only : Only (b :: ob V) w wr
  new : ∀ g ∈ ob V', g ∈ ob V ∨ w.heap.size ≤ g
  is : LMk.strikes x k l 0 m = mk
  n : mk.n = m.n + (k - x)
  len : (ys'.length : Int) = m.ops.length + (k - x)
def RDelLoop (w : World) (B b : Nat) (V : Option Addr) (m : LMk) (x y : Int) (l : List LLeaf) (i : Value) (wr : World) : Prop :=
  ∃ k : Int, ∃ mk V' c' ys', x ≤ k ∧ k ≤ y ∧ i = .int .i64 k ∧ Hid (RDelMid w B b V m x l k wr mk V' c' ys')
namespace RDelMid
variable {w wr w' : World} {B b : Nat} {V V' : Option Addr} {m mk : LMk} {x k : Int} {l : List LLeaf} {c' : Nat} {ys' : List OpAt}
theorem next (h : RDelMid w B b V m x l k wr mk V' c' ys') (hx : x ≤ k) (h0 : 0 ≤ k) {n : Nat} (hn : n < l.length) (e : nthFrom 0 l k = (n : Int)) {w1 : World} (hb : Below wr.heap.size wr w1) (ht : RMkTo w1 B b V' (mk.st l[n].place) w') :
    ∃ V2 c2 ys2, RDelMid w B b V m x l (k + 1) w' (mk.st l[n].place) V2 c2 ys2 := by
  obtain ⟨V2, c2, ys2, i2, o2, n2⟩ := RMkTo.trans (h.mkis.below hb) (h.only.below_step hb) h.new ht
  refine ⟨V2, c2, ys2, i2, o2, n2, ?_, ?_, ?_⟩
  · rw [strikes_step l 0 0 k x m hx h0 n hn (by rw [show k - 0 = k by omega, e]; simp), h.is]
  · have := h.n
    show mk.n + 1 = _
    omega
  · have e1 := i2.len
    have e2 := h.mkis.len
    have := h.len
    rw [e1]
    simp [LMk.st, LMk.add]
    omega
end RDelMid
end Go.Proofs.YtngalkmmpjegkaaGreatDoor
/- (*leafref2.Doc).maker, told, Insert, Delete, walked. Conditions: the document is right; the numbers are of 64 bits. -/
namespace Go.Proofs.YtngalkmmpjegkaaGreatDoor
open Go.RowKit
set_option linter.unusedVariables false
theorem RMkTo.edit {w0 w w' : World} {b : Nat} {m m' : LMk} {V : Option Addr} {c : Nat} {ys : List OpAt} (hb : Below w0.heap.size w0 w) (h : RMkIs w w0.heap.size b m V c ys) (ht : RMkTo w w0.heap.size b V m' w') :
    ∃ V' c' ys', w'.cell? ⟨b, 2, none⟩ = some (.slice V' ys'.length c') ∧ ys'.map OpAt.op = m'.ops ∧ OwnOps w' w0.heap.size V' c' ys' ∧ Below w0.heap.size w0 w' := by
  have hB := hb.trans (RMkTo.below h ht (Nat.le_refl _) hb.size)
  obtain ⟨V', c', ys', hm, _, _⟩ := ht
  exact ⟨V', c', ys', by rw [hm.blk.cell]; rfl, hm.same, hm.ops, hB⟩
/-- Ops, of the call's own, and the fault. -/
def REditPost (w : World) (k : Int) (l : List LOp) (e : Ending) (w' : World) : Prop :=
  ∃ V c ys, e = .returned (.tuple #[.slice V ys.length c, .int .i64 k]) ∧ ys.map OpAt.op = l ∧ OwnOps w' w.heap.size V c ys ∧ Below w.heap.size w w'
theorem redit_bad {w w' : World} {k : Int} (hb : Below w.heap.size w w') : REditPost w k [] (.returned (.tuple #[.slice none 0 0, .int .i64 k])) w' := ⟨none, 0, [], rfl, rfl, ⟨Own.nil _ _ _ _, by simp⟩, hb⟩
set_option maxRecDepth 100000 in
theorem rmaker_bad (w : World) (b : Nat) (who : Int) (hw : ¬ LDoc.whoE who = 0) :
    Calls Tryz.prog 68 #[.pointer (some ⟨b, 0, none⟩), .int .i64 who] w (fun e w' => e = .returned (.tuple #[.pointer none, .bool false]) ∧ Below w.heap.size w w') := by
  have hh : who < 1 ∨ 8 < who := by
    unfold LDoc.whoE at hw
    split at hw
    · assumption
    · exact absurd rfl hw
  clear hw
  by_cases h1 : who < 1
  · go_enter Tryz.func68, Tryz.ntmps68
    go_wp2_with fail
    go_ret2
    exact ⟨rfl, Below.refl _ _⟩
  · have h2 : 8 < who := by omega
    clear hh
    go_enter Tryz.func68, Tryz.ntmps68
    go_wp2_with fail
    go_ret2
    exact ⟨rfl, Below.refl _ _⟩
section
variable (w : World) (B : Nat) (S : List Nat) (b : Nat) (st : LDoc) (D : RLay) (h : RDocIs w B S b st D) (ok : st.Ok)
include h ok
set_option maxRecDepth 100000 in
set_option maxHeartbeats 4000000 in
theorem rmaker_good (who : Int) (hw : LDoc.whoE who = 0) :
    Calls Tryz.prog 68 #[.pointer (some ⟨b, 0, none⟩), .int .i64 who] w (fun e w' => ∃ bm, e = .returned (.tuple #[.pointer (some ⟨bm, 0, none⟩), .bool true]) ∧ RMkIs w' w.heap.size bm (st.maker who) none 0 [] ∧ Below w.heap.size w w') := by
  obtain ⟨k, hk, hwk, hnk, hn0, hn1⟩ := nOf_known ok.known hw
  have hk8 : k < 8 := by have := (vec_ok ok.known).1; omega
  have c2 : w.cell? ⟨b, 2, none⟩ = some (.slice D.a3 st.known.length D.c3) := by rw [h.blk.cell]; rfl
  obtain ⟨ad, ha, _, hc⟩ := h.known.reads.int hk
  rw [ha] at c2
  have HNK := Lib.hid hnk
  have hkl : (k : Int) < (st.known.length : Int) := by omega
  subst hwk
  have q1 : IntKind.i64.wrap ((k : Int) + 1 - 1) = (k : Int) := by rw [IntWalk.i64_in _ (by omega)]; omega
  have k0 : (0 : Int) ≤ (k : Int) := by omega
  have g1 : ¬ ((k : Int) + 1 < 1) := by omega
  have g2 : ¬ (8 < (k : Int) + 1) := by omega
  clear h ok hw hnk
  generalize st.known[k] = nk at *
  go_enter Tryz.func68, Tryz.ntmps68
  go_wp2_with fail
  go_ret2
  refine ⟨_, rfl, ⟨?_, ⟨Own.nil _ _ _ _, by simp⟩, rfl, Nat.le_refl _⟩, (Below.refl _ _).alloc (Nat.le_refl _) _⟩
  have := Blk.new w 134 #[.int .i64 ((k : Int) + 1), .int .i64 nk, .slice none 0 0]
  rw [HNK.out] at this ⊢
  exact this
end
section
variable (w : World) (B : Nat) (S : List Nat) (b : Nat) (st : LDoc) (D : RLay) (h : RDocIs w B S b st D) (ok : st.Ok)
include h ok
end
end Go.Proofs.YtngalkmmpjegkaaGreatDoor
/- leafref2.strikes, walked. Conditions: the row can be read. -/
namespace Go.Proofs.YtngalkmmpjegkaaGreatDoor
open Go.RowKit
set_option linter.unusedVariables false
theorem strk_take {l : List LOp} {p : ByteArray} {k : Nat} (hk : k < l.length) : strk (l.take (k + 1)) p = strk (l.take k) p + if l[k].what = 2 ∧ l[k].place = p then 1 else 0 := by
  rw [List.take_succ_eq_append_getElem hk, strk_app]
  congr 1
  unfold strk
  by_cases h1 : l[k].what = 2 <;> by_cases h2 : l[k].place = p <;> simp [h1, h2]
set_option maxRecDepth 100000 in
set_option maxHeartbeats 4000000 in
theorem rstrikes_any (w : World) (A : Option Addr) (c : Nat) (ys : List OpAt) (p : ByteArray) (h : Reads w w.heap.size 6 A ys.length (ocells ys)) (hn : ys.length ≤ 100000) :
    Calls Tryz.prog 71 #[.slice A ys.length c, .string p] w fun e w' => e = .returned (.int .i64 (strk (ys.map OpAt.op) p : Int)) ∧ w' = w := by
  have HR := Lib.hid h
  clear h
  go_enter Tryz.func71, Tryz.ntmps71
  go_wp2_with fail
  go_loop [5, 6] (fun n i => ∃ k : Nat, k ≤ ys.length ∧ i = .int .i64 k ∧ n = .int .i64 (strk ((ys.map OpAt.op).take k) p : Int)) (fun _ i => ys.length - (intOf i).toNat)
  case atStart => exact ⟨0, by omega, rfl, by simp [strk]⟩
  case round =>
    obtain ⟨k, hk, rfl, rfl⟩ := hrel
    have k0 : (0 : Int) ≤ (k : Int) := by omega
    by_cases hlt : k < ys.length
    · have k1 : (k : Int) < (ys.length : Int) := by omega
      have hkm : k < (ys.map OpAt.op).length := by simpa using hlt
      have HT := Lib.hid (strk_take (p := p) hkm)
      have hle := strk_le ((ys.map OpAt.op).take k) p
      have hle2 : ((ys.map OpAt.op).take k).length ≤ k := by simp; omega
      have hel : (ys.map OpAt.op)[k] = ys[k].op := by simp
      rw [hel] at HT
      obtain ⟨ad, rfl, _, d0, d1, d2, d3, d4, d5⟩ := HR.out.op hlt
      obtain ⟨s1, hs1e⟩ : ∃ s1, s1 = strk ((ys.map OpAt.op).take (k + 1)) p := ⟨_, rfl⟩
      have HE1 := Lib.hid hs1e
      rw [← hs1e] at HT
      clear hs1e
      generalize strk ((ys.map OpAt.op).take k) p = s0 at *
      have q1 : IntKind.i64.wrap ((k : Int) + 1) = ((k + 1 : Nat) : Int) := by rw [IntWalk.i64_in _ (by omega)]; omega
      have q2 : IntKind.i64.wrap ((s0 : Int) + 1) = (s0 : Int) + 1 := IntWalk.i64_in _ (by omega)
      clear hel hkm
      by_cases h1 : ys[k].op.what = 2
      · have g1 : (ys[k].op.what == 2) = true := by simp [h1]
        by_cases h2 : ys[k].op.place = p
        · have g2 : (ys[k].op.place.toList == p.toList) = true := by simp [h2]
          have hs1 : s1 = s0 + 1 := by rw [HT.out, if_pos ⟨h1, h2⟩]
          have HS1 := Lib.hid hs1
          clear hs1 h1 h2 HT hle hle2
          generalize ys[k].op.place = q at *
          generalize ys[k].op.what = wh at *
          go_wp2
          go_round
          case rel => exact ⟨k + 1, by omega, rfl, by rw [← HE1.out, HS1.out]; rfl⟩
          case measure => simp [intOf]; omega
        · have g2 : (ys[k].op.place.toList == p.toList) = false := by
            rw [beq_eq_false_iff_ne]
            exact fun h => h2 (tl_inj h)
          have hs1 : s1 = s0 := by rw [HT.out, if_neg (fun h => h2 h.2)]; rfl
          have HS1 := Lib.hid hs1
          clear hs1 h1 h2 HT hle hle2
          generalize ys[k].op.place = q at *
          generalize ys[k].op.what = wh at *
          go_wp2
          go_round
          case rel => exact ⟨k + 1, by omega, rfl, by rw [← HE1.out, HS1.out]⟩
          case measure => simp [intOf]; omega
      · have g1 : (ys[k].op.what == 2) = false := by simp [h1]
        have hs1 : s1 = s0 := by rw [HT.out, if_neg (fun h => h1 h.1)]; rfl
        have HS1 := Lib.hid hs1
        clear hs1 h1 HT hle hle2
        generalize ys[k].op.what = wh at *
        go_wp2
        go_round
        case rel => exact ⟨k + 1, by omega, rfl, by rw [← HE1.out, HS1.out]⟩
        case measure => simp [intOf]; omega
    · obtain rfl : k = ys.length := by omega
      have k1 : ¬ (ys.length : Int) < (ys.length : Int) := by omega
      have HF : Hid (strk ((ys.map OpAt.op).take ys.length) p = strk (ys.map OpAt.op) p) := by
        show _ = _
        rw [List.take_of_length_le (by simp)]
      generalize strk ((ys.map OpAt.op).take ys.length) p = s0 at *
      go_wp2
      go_ret
      exact ⟨by rw [HF.out]; rfl, rfl⟩
end Go.Proofs.YtngalkmmpjegkaaGreatDoor
/- (*leafref2.Doc).Undo, walked: what its rounds keep; plain. Conditions: none. -/
namespace Go.Proofs.YtngalkmmpjegkaaGreatDoor
open Go.RowKit
set_option linter.unusedVariables false
/-- Midway: the undoer's book and maker, of the reference. -/
structure RUndMid (w wr : World) (bm : Nat) (U : LU) (V : Option Addr) (c : Nat) (ys : List OpAt) (A : Option Addr) (cl : Nat) : Prop where
  mkis : RMkIs wr w.heap.size bm U.mak V c ys
  below : Below w.heap.size w wr
  book : Reads wr wr.heap.size 3 A U.book.length (lcells U.book)
  apart : 0 < U.book.length → ∀ g ∈ ob A, g ≠ bm ∧ g ∉ ob V
  cap : U.book.length ≤ cl ∧ cl ≤ 9223372036854775807
  ok : BookOk U.book
namespace RUndMid
variable {w wr w' : World} {bm : Nat} {U : LU} {V : Option Addr} {c : Nat} {ys : List OpAt} {A : Option Addr} {cl : Nat}
theorem step (h : RUndMid w wr bm U V c ys A cl) (hb : Below wr.heap.size wr w') : RUndMid w w' bm U V c ys A cl :=
  ⟨h.mkis.below hb, h.below.trans (hb.mono h.below.size), Reads.only (S := []) h.book (Only.of_below hb) (by simp), h.apart, h.cap, h.ok⟩
theorem lt (h : RUndMid w wr bm U V c ys A cl) (hn : 0 < U.book.length) : ∀ g ∈ ob A, g < wr.heap.size := fun g hg => by
  obtain ⟨ad, e, hb, _⟩ := h.book.2 hn
  rw [e] at hg; simp [ob] at hg; omega
theorem add {m' : LMk} (h : RUndMid w wr bm U V c ys A cl) (ht : RMkTo wr w.heap.size bm V m' w') : ∃ V2 c2 ys2, RUndMid w w' bm ⟨U.book, m'⟩ V2 c2 ys2 A cl := by
  have hb := RMkTo.below h.mkis ht (Nat.le_refl _) h.below.size
  obtain ⟨V2, c2, ys2, i2, o2, n2⟩ := ht
  refine ⟨V2, c2, ys2, i2, h.below.trans hb, Reads.only h.book o2 (fun hn g hg hm => ?_), fun hn g hg => ?_, h.cap, h.ok⟩
  · obtain ⟨q1, q2⟩ := h.apart hn g hg
    rcases List.mem_cons.1 hm with e | hm
    · exact q1 e
    · exact q2 hm
  · obtain ⟨q1, q2⟩ := h.apart hn g hg
    refine ⟨q1, fun hm => ?_⟩
    rcases n2 g hm with h1 | h1
    · exact q2 h1
    · have := h.lt hn g hg
      omega
theorem put {l : List LLeaf} {A' : Option Addr} {c' : Nat} (h : RUndMid w wr bm U V c ys A cl) (hO : Own w' wr.heap.size 112 3 A' l.length c' (lcells l)) (hb : Below wr.heap.size wr w') (ok : BookOk l) : RUndMid w w' bm ⟨l, U.mak⟩ V c ys A' c' := by
  have hs := h.step hb
  refine ⟨hs.mkis, hs.below, hO.reads, fun hn g hg => ⟨fun e => ?_, fun hm => ?_⟩, ⟨hO.cap_le, by have := hO.cap_max; unfold maxLen at this; omega⟩, ok⟩
  · have h1 := (hO.lt g hg).1
    have h2 := h.mkis.blk.lt
    omega
  · have h1 := (hO.lt g hg).1
    have h2 := (h.mkis.ops.row.lt g hm).2
    omega
end RUndMid
/-- Between two rounds. -/
structure RUndAt (w : World) (st : LDoc) (bm : Nat) (who n : Int) (k : Nat) (n' : Int) (U : LU) (wr : World) (A : Option Addr) (cl : Nat) : Prop where
  mid : ∃ V c ys, RUndMid w wr bm U V c ys A cl
  rest : st.unGo (st.ops.take k).reverse n' U = st.unGo st.ops.reverse n ⟨st.book, st.maker who⟩
  n0 : 0 ≤ n'
  n1 : n' ≤ 200
  wh : U.mak.who = who
  m0 : (st.maker who).n ≤ U.mak.n
  m1 : U.mak.n ≤ (st.maker who).n + (st.ops.length - k : Nat)
  len : U.mak.ops.length ≤ st.ops.length - k
def RUndLoop (w : World) (st : LDoc) (bm : Nat) (who n : Int) (nv bk i : Value) (wr : World) : Prop :=
  ∃ k : Nat, ∃ n' U A cl, k ≤ st.ops.length ∧ i = .int .i64 ((k : Int) - 1) ∧ nv = .int .i64 n' ∧ bk = .slice A U.book.length cl ∧ Hid (RUndAt w st bm who n k n' U wr A cl)
theorem rev_take {l : List LOp} {k : Nat} (hk : k < l.length) : (l.take (k + 1)).reverse = l[k] :: (l.take k).reverse := by
  rw [List.take_succ_eq_append_getElem hk]
  simp
namespace RUndAt
variable {w wr w' : World} {st : LDoc} {bm : Nat} {who n n' : Int} {k : Nat} {U : LU} {A : Option Addr} {cl : Nat}
theorem step (h : RUndAt w st bm who n k n' U wr A cl) (hb : Below wr.heap.size wr w') : RUndAt w st bm who n k n' U w' A cl := by
  obtain ⟨V, c, ys, h1⟩ := h.mid
  exact ⟨⟨V, c, ys, h1.step hb⟩, h.rest, h.n0, h.n1, h.wh, h.m0, h.m1, h.len⟩
/-- What the rest is, where this op is one's own. -/
theorem goes (h : RUndAt w st bm who n (k + 1) n' U wr A cl) (hk : k < st.ops.length) (hn : n' ≠ 0) (hw : st.ops[k].dot.who = who) (he : (st.unOne U st.ops[k]).2.2 = 0) :
    st.unGo (st.ops.take k).reverse (if (st.unOne U st.ops[k]).2.1 = true then n' - 1 else n') (st.unOne U st.ops[k]).1 = st.unGo st.ops.reverse n ⟨st.book, st.maker who⟩ := by
  have e : st.unGo (st.ops[k] :: (st.ops.take k).reverse) n' U = st.unGo (st.ops.take k).reverse (if (st.unOne U st.ops[k]).2.1 = true then n' - 1 else n') (st.unOne U st.ops[k]).1 := by
    rw [LDoc.unGo, if_neg hn, if_neg (by rw [h.wh, hw]; simp), if_neg (by simp [he])]
  rw [← h.rest, rev_take hk, e]
theorem skip (h : RUndAt w st bm who n (k + 1) n' U wr A cl) (hk : k < st.ops.length) (hn : n' ≠ 0) (hx : st.ops[k].dot.who ≠ who ∨ st.unOne U st.ops[k] = (U, false, 0)) : RUndAt w st bm who n k n' U wr A cl := by
  refine ⟨h.mid, ?_, h.n0, h.n1, h.wh, h.m0, ?_, ?_⟩
  · by_cases hw : st.ops[k].dot.who = who
    · rcases hx with hx | hx
      · exact absurd hw hx
      · have := h.goes hk hn hw (by rw [hx])
        rw [hx] at this
        exact this
    · have e : st.unGo (st.ops[k] :: (st.ops.take k).reverse) n' U = st.unGo (st.ops.take k).reverse n' U := by
        rw [LDoc.unGo, if_neg hn, if_pos (by rw [h.wh]; exact hw)]
      rw [← h.rest, rev_take hk, e]
  · have := h.m1; omega
  · have := h.len; omega
theorem turn {bk : List LLeaf} {m : LMk} {A' : Option Addr} {cl' : Nat} (h : RUndAt w st bm who n (k + 1) n' U wr A cl) (hk : k < st.ops.length) (hn : n' ≠ 0) (hw : st.ops[k].dot.who = who) (he : st.unOne U st.ops[k] = (⟨bk, m⟩, true, 0))
    (hm : ∃ V c ys, RUndMid w w' bm ⟨bk, m⟩ V c ys A' cl') (hs : UStep U ⟨bk, m⟩) : RUndAt w st bm who n k (n' - 1) ⟨bk, m⟩ w' A' cl' := by
  have hg := h.goes hk hn hw (by rw [he])
  rw [he] at hg
  have h0 := h.n0
  have h1 := h.n1
  have h2 := h.m0
  have h3 := h.m1
  have h4 := h.len
  have s1 : U.mak.n ≤ m.n := hs.n0
  have s2 : m.n ≤ U.mak.n + 1 := hs.n1
  have s3 : m.ops.length ≤ U.mak.ops.length + 1 := hs.len
  refine ⟨hm, hg, by omega, by omega, hs.who.trans h.wh, ?_, ?_, ?_⟩
  · show _ ≤ m.n; omega
  · show m.n ≤ _; omega
  · show m.ops.length ≤ _; omega
/-- The rounds are over. -/
theorem fin (h : RUndAt w st bm who n k n' U wr A cl) (hk : k = 0 ∨ n' = 0) : st.unGo st.ops.reverse n ⟨st.book, st.maker who⟩ = (U, 0) := by
  rw [← h.rest]
  rcases hk with rfl | rfl
  · simp [LDoc.unGo]
  · cases (st.ops.take k).reverse with
    | nil => rfl
    | cons o t => rw [LDoc.unGo, if_pos rfl]
theorem fails (h : RUndAt w st bm who n (k + 1) n' U wr A cl) (hk : k < st.ops.length) (hn : n' ≠ 0) (hw : st.ops[k].dot.who = who) (he : (st.unOne U st.ops[k]).2.2 ≠ 0) : (st.unGo st.ops.reverse n ⟨st.book, st.maker who⟩).2 = (st.unOne U st.ops[k]).2.2 := by
  rw [← h.rest, rev_take hk, LDoc.unGo, if_neg hn, if_neg (by rw [h.wh, hw]; simp), if_pos he]
end RUndAt
/-- One op, case by case. -/
theorem one_not {st : LDoc} {U : LU} {o : LOp} (h : hasAt U.book o.place = false ∨ (old U.book o.place).letter = 0) : st.unOne U o = (U, false, 0) := by
  unfold LDoc.unOne
  rw [if_pos h]
theorem one_strike {st : LDoc} {U : LU} {o : LOp} (h1 : hasAt U.book o.place = true) (h2 : (old U.book o.place).letter ≠ 0) (h3 : o.what = 1) (h4 : (old U.book o.place).struck = false) : st.unOne U o = (⟨strikeRes U.book o.place, U.mak.st o.place⟩, true, 0) := by
  unfold LDoc.unOne
  rw [if_neg (by rw [h1]; simp [h2]), if_pos ⟨h3, by unfold seenB; simp [h2, h4]⟩]
theorem one_new {st : LDoc} {U : LU} {o : LOp} (h1 : hasAt U.book o.place = true) (h2 : (old U.book o.place).letter ≠ 0) (h3 : o.what = 2) (h4 : (old U.book o.place).struck = true) (h5 : strk st.ops o.place + strk U.mak.ops o.place = 1) : st.unOne U o = ((LDoc.unNew U o.place).1, true, (LDoc.unNew U o.place).2) := by
  unfold LDoc.unOne
  rw [if_neg (by rw [h1]; simp [h2]), if_neg (by omega), if_pos ⟨h3, h4, h5⟩]
theorem one_other {st : LDoc} {U : LU} {o : LOp} (h1 : hasAt U.book o.place = true) (h2 : (old U.book o.place).letter ≠ 0) (h3 : ¬ (o.what = 1 ∧ (old U.book o.place).struck = false)) (h4 : ¬ (o.what = 2 ∧ (old U.book o.place).struck = true ∧ strk st.ops o.place + strk U.mak.ops o.place = 1)) : st.unOne U o = (U, false, 0) := by
  unfold LDoc.unOne
  rw [if_neg (by rw [h1]; simp [h2]), if_neg (fun h => h3 ⟨h.1, by have := h.2; unfold seenB at this; simp at this; exact this.2⟩), if_neg h4]
end Go.Proofs.YtngalkmmpjegkaaGreatDoor
/- (*leafref2.Doc).Undo, walked. Conditions: the document is right; the numbers are of 64 bits. -/
namespace Go.Proofs.YtngalkmmpjegkaaGreatDoor
open Go.RowKit
set_option linter.unusedVariables false
set_option maxRecDepth 100000 in
set_option maxHeartbeats 8000000 in
theorem rundo_bad (w : World) (b : Nat) (st : LDoc) (who n : Int) (hw : ¬ LDoc.whoE who = 0) :
    Calls Tryz.prog 30 #[.pointer (some ⟨b, 0, none⟩), .int .i64 who, .int .i64 n] w (REditPost w (st.undE who n) (st.undR who n)) := by
  have HN := Lib.hid (rmaker_bad w b who hw)
  have HIE : Hid (st.undE who n = 1) := if_pos hw
  have HIR : Hid (st.undR who n = []) := by show _ = _; unfold LDoc.undR; rw [HIE.out, if_neg (by decide)]
  rw [HIE.out, HIR.out]
  clear hw HIE HIR
  go_enter Tryz.func30, Tryz.ntmps30
  go_wp2_with fail
  refine HN.out.mono ?_
  rintro e w1 ⟨rfl, hb⟩
  have HB1 := Lib.hid hb
  clear hb
  go_wp2_with fail
  go_ret2
  exact redit_bad HB1.out
section
variable (w : World) (B : Nat) (S : List Nat) (b : Nat) (st : LDoc) (D : RLay) (h : RDocIs w B S b st D) (ok : st.Ok)
include h ok
set_option maxRecDepth 100000 in
set_option maxHeartbeats 8000000 in
theorem rundo_far (who n : Int) (hw : LDoc.whoE who = 0) (hn : n < 0 ∨ 200 < n) :
    Calls Tryz.prog 30 #[.pointer (some ⟨b, 0, none⟩), .int .i64 who, .int .i64 n] w (REditPost w (st.undE who n) (st.undR who n)) := by
  have HN := Lib.hid (rmaker_good w B S b st D h ok who hw)
  have HIE : Hid (st.undE who n = 1) := by show _ = _; unfold LDoc.undE; rw [if_neg (by omega), if_pos hn]
  have HIR : Hid (st.undR who n = []) := by show _ = _; unfold LDoc.undR; rw [HIE.out, if_neg (by decide)]
  rw [HIE.out, HIR.out]
  clear hw HIE HIR h ok
  by_cases h1 : n < 0
  · go_enter Tryz.func30, Tryz.ntmps30
    go_wp2_with fail
    refine HN.out.mono ?_
    rintro e w1 ⟨bm, rfl, _, hb⟩
    have HB1 := Lib.hid hb
    clear hb
    go_wp2_with fail
    go_ret2
    exact redit_bad HB1.out
  · have h2 : 200 < n := by omega
    clear hn
    go_enter Tryz.func30, Tryz.ntmps30
    go_wp2_with fail
    refine HN.out.mono ?_
    rintro e w1 ⟨bm, rfl, _, hb⟩
    have HB1 := Lib.hid hb
    clear hb
    go_wp2_with fail
    go_ret2
    exact redit_bad HB1.out
set_option maxRecDepth 100000 in
set_option maxHeartbeats 8000000 in
theorem rundo_good (who n : Int) (hw : LDoc.whoE who = 0) (hn0 : 0 ≤ n) (hn2 : n ≤ 200) :
    Calls Tryz.prog 30 #[.pointer (some ⟨b, 0, none⟩), .int .i64 who, .int .i64 n] w (REditPost w (st.undE who n) (st.undR who n)) := by
  have HE : Hid (st.undE who n = (st.unGo st.ops.reverse n ⟨st.book, st.maker who⟩).2) := by show _ = _; unfold LDoc.undE; rw [if_neg (by simp [hw]), if_neg (by omega)]
  have HR : Hid (st.undR who n = if st.undE who n = 0 then (st.unGo st.ops.reverse n ⟨st.book, st.maker who⟩).1.mak.ops else []) := rfl
  have HN := Lib.hid (rmaker_good w B S b st D h ok who hw)
  have HD := Lib.hid h
  have HOK := Lib.hid ok
  have hfew := ok.few
  have HW : Hid (1 ≤ who ∧ who ≤ 8) := (who_dot hw).2
  have HMN : Hid (0 ≤ (st.maker who).n ∧ (st.maker who).n ≤ 9999) := by
    obtain ⟨k3, hk3, _, e2, e3, e4⟩ := nOf_known ok.known hw
    show 0 ≤ nOf st.known ⟨who, 0⟩ ∧ nOf st.known ⟨who, 0⟩ ≤ 9999
    rw [← e2]
    exact ⟨e3, e4⟩
  have hlen := h.ys_len
  have n0 : ¬ n < 0 := by omega
  have n1 : ¬ 200 < n := by omega
  clear h ok hw
  go_enter Tryz.func30, Tryz.ntmps30
  go_wp2_with fail
  refine HN.out.mono ?_
  rintro e w1 ⟨bm, rfl, hm, hb⟩
  have HM := Lib.hid hm
  have HB1 := Lib.hid hb
  have d0 : w1.cell? ⟨b, 0, none⟩ = some (.slice D.a1 st.book.length D.c1) := by rw [(HD.out.below hb).blk.cell]; rfl
  have d3 : w1.cell? ⟨b, 3, none⟩ = some (.slice D.a4 st.ops.length D.c4) := by rw [(HD.out.below hb).blk.cell]; rfl
  have HST : Hid (RUndAt w st bm who n st.ops.length n ⟨st.book, st.maker who⟩ w1 D.a1 D.c1) := by
    refine ⟨⟨none, 0, [], hm, hb, (HD.out.below hb).book.row, fun hn g hg => ⟨fun e => ?_, by simp [ob]⟩, HD.out.bookc, HOK.out.book⟩, ?_, hn0, hn2, rfl, Int.le_refl _, by simp, Nat.zero_le _⟩
    · have h1 := HD.out.book.lt hn g hg
      have h2 := hm.base
      omega
    · rw [List.take_length]
  have q0 : IntKind.i64.wrap ((st.ops.length : Int) - 1) = (st.ops.length : Int) - 1 := IntWalk.i64_in _ (by omega)
  clear hm hb HN hn0 hn2
  go_wp2_with fail
  clear d0 d3 q0
  go_loopw [2, 10, 11] (fun nv bk i wr => RUndLoop w st bm who n nv bk i wr) (fun _ _ i _ => (intOf i + 1).toNat)
  case atStart => exact ⟨st.ops.length, n, ⟨st.book, st.maker who⟩, D.a1, D.c1, Nat.le_refl _, rfl, rfl, rfl, HST.out⟩
  case round =>
    obtain ⟨k0, n', U, A, cl, hk, rfl, rfl, rfl, HU⟩ := hrel
    cases k0 with
    | zero =>
      have e0 : ((0 : Nat) : Int) - 1 = -1 := by omega
      rw [e0]
      obtain ⟨V, c, ys, hmid⟩ := HU.out.mid
      have cm : wr.cell? ⟨bm, 2, none⟩ = some (.slice V ys.length c) := by rw [hmid.mkis.blk.cell]; rfl
      have HMID := Lib.hid hmid
      have HFIN := Lib.hid (HU.out.fin (.inl rfl))
      clear hmid
      go_wp2_with fail
      go_ret2
      rw [HR.out, HE.out, HFIN.out, if_pos rfl]
      exact ⟨V, c, ys, rfl, HMID.out.mkis.same, HMID.out.mkis.ops, HMID.out.below⟩
    | succ k =>
      have e0 : ((k + 1 : Nat) : Int) - 1 = (k : Int) := by omega
      rw [e0]
      have k0 : (0 : Int) ≤ (k : Int) := by omega
      by_cases hz : n' = 0
      · subst hz
        obtain ⟨V, c, ys, hmid⟩ := HU.out.mid
        have cm : wr.cell? ⟨bm, 2, none⟩ = some (.slice V ys.length c) := by rw [hmid.mkis.blk.cell]; rfl
        have HMID := Lib.hid hmid
        have HFIN := Lib.hid (HU.out.fin (.inr rfl))
        clear hmid
        go_wp2_with fail
        go_ret2
        rw [HR.out, HE.out, HFIN.out, if_pos rfl]
        exact ⟨V, c, ys, rfl, HMID.out.mkis.same, HMID.out.mkis.ops, HMID.out.below⟩
      · have hn'0 := HU.out.n0
        have hn'1 := HU.out.n1
        have n'p : 0 < n' := by omega
        obtain ⟨V, c, ys, hmid⟩ := HU.out.mid
        have HMID := Lib.hid hmid
        have hbr := hmid.below
        have HDR := Lib.hid (HD.out.below hbr)
        have d3 : wr.cell? ⟨b, 3, none⟩ = some (.slice D.a4 st.ops.length D.c4) := by rw [HDR.out.blk.cell]; rfl
        have hkl : k < st.ops.length := by omega
        have HRO : Hid (Reads wr wr.heap.size 6 D.a4 D.ys.length (ocells D.ys)) := by
          have := HDR.out.ops.reads
          rw [← hlen] at this
          exact this
        obtain ⟨ad, hV, _, c0, c1, c2, c3, c4, c5⟩ := HRO.out.op (show k < D.ys.length by omega)
        have HOP : Hid (st.ops[k] = (D.ys[k]'(by omega)).op) := by
          show _ = _
          have := HDR.out.same
          simp only [← this, List.getElem_map]
        rw [hV] at d3
        have kl : (k : Int) < (st.ops.length : Int) := by omega
        obtain ⟨y, hy⟩ : ∃ y, y = (D.ys[k]'(by omega)) := ⟨_, rfl⟩
        rw [← hy] at c0 c1 c2 c3 c4 c5 HOP
        clear hy
        obtain ⟨⟨⟨xw, xn⟩, what, p, letter, seen⟩, ya, yc⟩ := y
        dsimp only at c0 c1 c2 c3 c4 c5 HOP
        obtain ⟨WD, hWD⟩ : ∃ WD, WD = (wr.alloc (.cells #[.int .i64 xw, .int .i64 xn, .int .i64 what, .string p, .int .i64 letter, .slice ya seen.length yc] 30)) := ⟨_, rfl⟩
        have HBX : Hid (Blk WD wr.heap.size 30 #[.int .i64 xw, .int .i64 xn, .int .i64 what, .string p, .int .i64 letter, .slice ya seen.length yc]) := by rw [hWD]; exact Blk.new _ _ _
        have HBD : Hid (Below wr.heap.size wr WD) := by rw [hWD]; exact (Below.refl _ wr).alloc (Nat.le_refl _) _
        have HUD := Lib.hid (HU.out.step HBD.out)
        have HMD := Lib.hid (HMID.out.step HBD.out)
        have HAH := Lib.hid (rahead_any WD A cl U.book p HMD.out.book (by have := HMD.out.ok.few; omega) HMD.out.ok.rising)
        have x0 : WD.cell? ⟨wr.heap.size, 0, none⟩ = some (.int .i64 xw) := by rw [HBX.out.cell]; rfl
        have x3 : WD.cell? ⟨wr.heap.size, 3, none⟩ = some (.string p) := by rw [HBX.out.cell]; rfl
        have HFEW : Hid (U.book.length ≤ 300) := HMD.out.ok.few
        have q1 : IntKind.i64.wrap ((k : Int) - 1) = (k : Int) - 1 := IntWalk.i64_in _ (by omega)
        clear hmid hV HRO HDR
        go_wp2_with fail
        rw [← hWD]
        clear hWD c0 c1 c2 c3 c4 c5 d3
        refine HAH.out.mono ?_
        rintro e w5 ⟨rfl, hw5⟩
        obtain rfl := hw5.symm
        clear HAH
        by_cases hwho : xw = who
        · subst hwho
          have gw : (xw != xw) = false := by simp
          by_cases hat : ahead U.book p < U.book.length
          · have ga : decide ((ahead U.book p : Int) ≥ (U.book.length : Int)) = false := decide_eq_false (by omega)
            have ga1 : (0 : Int) ≤ (ahead U.book p : Int) := by omega
            have ga2 : (ahead U.book p : Int) < (U.book.length : Int) := by omega
            obtain ⟨ad2, hA, _, l0, l1, l2⟩ := HMD.out.book.leaf hat
            subst hA
            obtain ⟨z, hzq⟩ : ∃ z, z = U.book[ahead U.book p] := ⟨_, rfl⟩
            rw [← hzq] at l0 l1 l2
            have HCZ : Hid (∀ W, Below WD.heap.size WD W → W.cell? (ad2.add (ahead U.book p * 3)) = some (.string z.place) ∧ W.cell? ⟨(ad2.add (ahead U.book p * 3)).block, (ad2.add (ahead U.book p * 3)).off + 1, none⟩ = some (.int .i64 z.letter) ∧ W.cell? ⟨(ad2.add (ahead U.book p * 3)).block, (ad2.add (ahead U.book p * 3)).off + 2, none⟩ = some (.bool z.struck)) := fun W hW => by
              obtain ⟨ad3, hA3, _, q0, q1, q2⟩ := (HMD.out.step hW).book.leaf hat
              obtain rfl : ad3 = ad2 := by injection hA3 with e; exact e.symm
              rw [hzq]
              exact ⟨q0, q1, q2⟩
            by_cases hp : z.place = p
            · have hhas : hasAt U.book p = true := by
                unfold hasAt
                rw [List.getElem?_eq_getElem hat, ← hzq]
                simp [hp]
              have hold : old U.book p = z := by
                obtain ⟨_, e1, _⟩ := at_old hhas
                rw [← e1, hzq]
              have gp : (p.toList == p.toList) = true := by simp
              have gp2 : (p.toList != p.toList) = false := by simp
              have HHAS := Lib.hid hhas
              have HOLD := Lib.hid hold
              have HZP := Lib.hid hp
              have HMP : Hid (p.size ≤ 12) := by
                have := place_small (HMD.out.ok.leafs _ (List.getElem_mem hat)).place
                rw [← hzq, hp] at this
                exact this
              rw [hp] at l0
              clear hhas hold hp hzq
              obtain ⟨zp, zl, zs⟩ := z
              dsimp only at l0 l1 l2 HZP HCZ
              generalize hahe : ahead U.book p = ah at *
              by_cases hl : zl = 0
              · have gl : (zl == 0) = true := by simp [hl]
                have HSK : Hid (RUndAt w st bm xw n k n' U WD (some ad2) cl) := HUD.out.skip hkl hz (.inr (by rw [HOP.out]; exact one_not (.inr (by rw [HOLD.out]; exact hl))))
                clear hl
                go_wp2_with fail
                go_quiet (fail)
                go_wp2_with fail
                go_roundw
                case rel => exact ⟨k, n', U, some ad2, cl, by omega, rfl, rfl, rfl, HSK.out.step (below_drewN (Below.refl _ _) _)⟩
                case measure => simp [intOf]
              · have gl : (zl == 0) = false := by simp [hl]
                have HL := Lib.hid hl
                clear hl
                go_wp2_with fail
                go_quiet (fail)
                have HB2 : Hid (Below WD.heap.size WD (WD.drewN nq)) := below_drewN (Below.refl _ _) _
                generalize WD.drewN nq = W2 at *
                have HZP2 : Hid (zp = p) := HZP.out
                obtain ⟨l0, l1, l2⟩ := HCZ.out W2 HB2.out
                rw [HZP2.out] at l0
                obtain ⟨WE, hWE⟩ : ∃ WE, WE = (W2.alloc (.cells #[.string p, .int .i64 zl, .bool zs] 112)) := ⟨_, rfl⟩
                have HBZ : Hid (Blk WE W2.heap.size 112 #[.string p, .int .i64 zl, .bool zs]) := by rw [hWE]; exact Blk.new _ _ _
                have HBE : Hid (Below W2.heap.size W2 WE) := by rw [hWE]; exact (Below.refl _ W2).alloc (Nat.le_refl _) _
                have HBDE : Hid (Below WD.heap.size WD WE) := HB2.out.trans (HBE.out.mono HB2.out.size)
                have HUE := Lib.hid (HUD.out.step HBDE.out)
                have HME := Lib.hid (HMD.out.step HBDE.out)
                have HBX3 : Hid (Blk WE wr.heap.size 30 #[.int .i64 xw, .int .i64 xn, .int .i64 what, .string p, .int .i64 letter, .slice ya seen.length yc]) := HBX.out.below HBDE.out HBX.out.lt
                have HNB : Hid (wr.heap.size ∉ bm :: ob V ∧ W2.heap.size ∉ bm :: ob V) := by
                  have a1 := HMID.out.mkis.blk.lt
                  have a2 := fun g hg => (HMID.out.mkis.ops.row.lt g hg).2
                  have a3 := HBD.out.size
                  have a4 := HB2.out.size
                  refine ⟨fun hm => ?_, fun hm => ?_⟩
                  · rcases List.mem_cons.1 hm with e | hm
                    · omega
                    · have := a2 _ hm; omega
                  · rcases List.mem_cons.1 hm with e | hm
                    · omega
                    · have := a2 _ hm; omega
                have y2 : WE.cell? ⟨wr.heap.size, 2, none⟩ = some (.int .i64 what) := by rw [HBX3.out.cell]; rfl
                have y3 : WE.cell? ⟨wr.heap.size, 3, none⟩ = some (.string p) := by rw [HBX3.out.cell]; rfl
                have z2 : WE.cell? ⟨W2.heap.size, 2, none⟩ = some (.bool zs) := by rw [HBZ.out.cell]; rfl
                have y2a := y2
                have y3a := y3
                have z2a := z2
                rw [hWE] at y2a y3a z2a
                have HBWE : Hid (Below w.heap.size w WE) := HME.out.below
                have qn : IntKind.i64.wrap (n' - 1) = n' - 1 := IntWalk.i64_in _ (by omega)
                have HLEN : Hid (ys.length ≤ 100000 ∧ -1000000 ≤ U.mak.n ∧ U.mak.n ≤ 1000000) := by
                  have b1 := HUE.out.len
                  have b2 := HUE.out.m0
                  have b3 := HUE.out.m1
                  have b4 := HMN.out
                  have b5 := HME.out.mkis.len
                  refine ⟨by omega, by omega, by omega⟩
                clear x0 x3
                have HEB : Hid (hasAt U.book p = true ∧ (old U.book p).letter ≠ 0) := ⟨HHAS.out, by rw [HOLD.out]; exact HL.out⟩
                by_cases hwhat : what = 1
                · cases zs with
                  | false =>
                    have HONE : Hid (st.unOne U st.ops[k] = (⟨strikeRes U.book p, U.mak.st p⟩, true, 0)) := by
                      show _ = _
                      rw [HOP.out]
                      exact one_strike HEB.out.1 HEB.out.2 hwhat (by rw [HOLD.out])
                    have HAD : Hid (Calls Tryz.prog 70 #[.pointer (some ⟨bm, 0, none⟩), .agg #[.int .i64 0, .int .i64 0, .int .i64 2, .string p, .int .i64 0, .slice none 0 0]] WE (RMkAddPost WE w.heap.size bm V (U.mak.st p))) :=
                      rmkAdd_any WE w.heap.size bm U.mak V c ys HME.out.mkis HBWE.out.size ⟨⟨0, 0⟩, 2, p, 0, []⟩ none 0 (Own.nil _ _ _ _) HLEN.out.2.1 HLEN.out.2.2 HLEN.out.1
                    have HSO : Hid (strikeErr U.book p = 0) := strike_zero HME.out.ok (at_place HME.out.ok HEB.out.1) (.inl HEB.out.1)
                    have HRS : Hid (rsErr U.book p = 0) := by show rsErr _ _ = 0; unfold rsErr; rw [if_neg (by rw [HEB.out.1]; decide)]
                    subst hwhat
                    go_wp2_with fail
                    rw [← hWE]
                    clear hWE l0 l1 l2 y2a y3a z2a
                    refine HAD.out.mono ?_
                    rintro e w6 ⟨rfl, ht⟩
                    obtain ⟨V2, c2, ys2, hm6⟩ := HME.out.add ht
                    have HM6 := Lib.hid hm6
                    have HX6 : Hid (Blk w6 wr.heap.size 30 #[.int .i64 xw, .int .i64 xn, .int .i64 1, .string p, .int .i64 letter, .slice ya seen.length yc]) := by
                      obtain ⟨_, _, _, _, o2, _⟩ := ht
                      exact o2.blk HBX3.out HNB.out.1
                    have x3 : w6.cell? ⟨wr.heap.size, 3, none⟩ = some (.string p) := by rw [HX6.out.cell]; rfl
                    have HRK : Hid (Calls Tryz.prog 51 #[.slice (some ad2) U.book.length cl, .string p] w6 (RLeafsPost w6 (strikeRes U.book p) 0)) := by
                      have := rstrike_any w6 (some ad2) cl U.book p HM6.out.book HM6.out.ok HM6.out.cap.1 HM6.out.cap.2
                      rw [HRS.out] at this
                      exact this
                    clear ht hm6 HAD
                    go_wp2_with fail
                    refine HRK.out.mono ?_
                    rintro e w7 ⟨V3, c3, rfl, hO, hb7⟩
                    have HM7 := Lib.hid (HM6.out.put hO hb7 (strike_book HSO.out))
                    clear hO hb7 HRK
                    go_wp2_with fail
                    go_roundw
                    case rel =>
                      have hs := unOne_step (U := U) st HME.out.ok st.ops[k]
                      rw [HONE.out] at hs
                      exact ⟨k, n' - 1, ⟨strikeRes U.book p, U.mak.st p⟩, V3, c3, by omega, rfl, rfl, rfl, HUE.out.turn hkl hz (by rw [HOP.out]) HONE.out ⟨_, _, _, HM7.out⟩ hs⟩
                    case measure => simp [intOf]
                  | true =>
                    have HSK : Hid (RUndAt w st bm xw n k n' U WE (some ad2) cl) := HUE.out.skip hkl hz (.inr (by rw [HOP.out]; exact one_other HEB.out.1 HEB.out.2 (fun h => by have := h.2; rw [HOLD.out] at this; cases this) (fun h => by have h1 : what = 2 := h.1; omega)))
                    subst hwhat
                    go_wp2_with fail
                    rw [← hWE]
                    clear hWE l0 l1 l2 y2a y3a z2a
                    go_quiet (fail)
                    go_wp2_with fail
                    go_roundw
                    case rel => exact ⟨k, n', U, some ad2, cl, by omega, rfl, rfl, rfl, HSK.out.step (below_drewN (Below.refl _ _) _)⟩
                    case measure => simp [intOf]
                · by_cases hwhat2 : what = 2
                  · cases zs with
                    | false =>
                      have HSK : Hid (RUndAt w st bm xw n k n' U WE (some ad2) cl) := HUE.out.skip hkl hz (.inr (by rw [HOP.out]; exact one_other HEB.out.1 HEB.out.2 (fun h => hwhat h.1) (fun h => by have := h.2.1; rw [HOLD.out] at this; cases this)))
                      subst hwhat2
                      clear hwhat
                      go_wp2_with fail
                      rw [← hWE]
                      clear hWE l0 l1 l2 y2a y3a z2a
                      go_quiet (fail)
                      go_wp2_with fail
                      go_roundw
                      case rel => exact ⟨k, n', U, some ad2, cl, by omega, rfl, rfl, rfl, HSK.out.step (below_drewN (Below.refl _ _) _)⟩
                      case measure => simp [intOf]
                    | true =>
                      have HDE := Lib.hid (HD.out.below HBWE.out)
                      have d3 : WE.cell? ⟨b, 3, none⟩ = some (.slice D.a4 st.ops.length D.c4) := by rw [HDE.out.blk.cell]; rfl
                      have m2 : WE.cell? ⟨bm, 2, none⟩ = some (.slice V ys.length c) := by rw [HME.out.mkis.blk.cell]; rfl
                      have HS1 : Hid (∀ W, Below WE.heap.size WE W → Calls Tryz.prog 71 #[.slice D.a4 st.ops.length D.c4, .string p] W fun e w' => e = .returned (.int .i64 (strk st.ops p : Int)) ∧ w' = W) := fun W hW => by
                        have hr := (HDE.out.below hW).ops.reads
                        have h2 := HDE.out.same
                        rw [← hlen] at hr ⊢
                        have := rstrikes_any W D.a4 D.c4 D.ys p hr (by omega)
                        rw [h2] at this
                        exact this
                      have HS2 : Hid (∀ W, Below WE.heap.size WE W → Calls Tryz.prog 71 #[.slice V ys.length c, .string p] W fun e w' => e = .returned (.int .i64 (strk U.mak.ops p : Int)) ∧ w' = W) := fun W hW => by
                        have := rstrikes_any W V c ys p (HME.out.step hW).mkis.ops.row.reads HLEN.out.1
                        rw [HME.out.mkis.same] at this
                        exact this
                      have hs1 := strk_le st.ops p
                      have hs2 := strk_le U.mak.ops p
                      have hs3 : U.mak.ops.length ≤ 400 := by have := HUE.out.len; omega
                      have hsum : strk st.ops p + strk U.mak.ops p = 1 ∨ strk st.ops p + strk U.mak.ops p ≠ 1 := by omega
                      have HSUM := Lib.hid hsum
                      clear hsum
                      obtain ⟨s1, hS1⟩ : ∃ s1, s1 = strk st.ops p := ⟨_, rfl⟩
                      obtain ⟨s2, hS2⟩ : ∃ s2, s2 = strk U.mak.ops p := ⟨_, rfl⟩
                      rw [← hS1] at HS1 HSUM hs1
                      rw [← hS2] at HS2 HSUM hs2
                      have E1 := Lib.hid hS1
                      have E2 := Lib.hid hS2
                      clear hS1 hS2
                      have qs : IntKind.i64.wrap ((s1 : Int) + (s2 : Int)) = ((s1 + s2 : Nat) : Int) := by rw [IntWalk.i64_in _ (by omega)]; omega
                      by_cases hone : s1 + s2 = 1
                      · have gs : ((s1 : Int) + (s2 : Int) == 1) = true := by simp; omega
                        have gs2 : (((s1 + s2 : Nat) : Int) == 1) = true := by simp; omega
                        have HONE : Hid (st.unOne U st.ops[k] = ((LDoc.unNew U p).1, true, (LDoc.unNew U p).2)) := by
                          show _ = _
                          rw [HOP.out]
                          exact one_new HEB.out.1 HEB.out.2 hwhat2 (by rw [HOLD.out]) (by rw [← E1.out, ← E2.out]; exact hone)
                        subst hwhat2
                        clear hone hwhat HSUM
                        go_wp2_with fail
                        rw [← hWE]
                        clear hWE l0 l1 l2 y2a y3a z2a
                        go_quiet ((go_at_call 71; (first | (with_reducible refine Calls.quiet_of_same (HS1.out _ ?_)) | (with_reducible refine Calls.quiet_of_same (HS2.out _ ?_))); first | exact Below.refl _ _ | exact below_drewN (Below.refl _ _) _))
                        have HB4 : Hid (Below WE.heap.size WE (WE.drewN nq)) := below_drewN (Below.refl _ _) _
                        generalize WE.drewN nq = W4 at *
                        have HU4 := Lib.hid (HUE.out.step HB4.out)
                        have HM4 := Lib.hid (HME.out.step HB4.out)
                        have HBZ4 : Hid (Blk W4 W2.heap.size 112 #[.string p, .int .i64 zl, .bool true]) := HBZ.out.below HB4.out HBZ.out.lt
                        have x0 : W4.cell? ⟨W2.heap.size, 0, none⟩ = some (.string p) := by rw [HBZ4.out.cell]; rfl
                        have x1 : W4.cell? ⟨W2.heap.size, 1, none⟩ = some (.int .i64 zl) := by rw [HBZ4.out.cell]; rfl
                        have qa : IntKind.i64.wrap ((ah : Int) + 1) = ((ah + 1 : Nat) : Int) := by have := HFEW.out; rw [IntWalk.i64_in _ (by omega)]; omega
                        have qa0 : (0 : Int) ≤ ((ah + 1 : Nat) : Int) := by omega
                        clear y2 y3 z2 d3 m2 gs gs2
                        have HREST : Hid (∀ R : ByteArray, R = rightOf U.book (ah + 1) → R.size ≤ 9223372036854775807) := fun R hR => by rw [hR]; exact right_small HM4.out.ok _
                        by_cases har : ah + 1 < U.book.length
                        · have ha1 : ((ah + 1 : Nat) : Int) < (U.book.length : Int) := by omega
                          obtain ⟨ad5, hA5, _, r0, _, _⟩ := HM4.out.book.leaf har
                          obtain rfl : ad2 = ad5 := by injection hA5
                          have HRT : Hid (rightOf U.book (ah + 1) = U.book[ah + 1].place) := by show _ = _; unfold rightOf; rw [if_pos har]; simp [List.getD, har]
                          have hR : U.book[ah + 1].place = rightOf U.book (ah + 1) := HRT.out.symm
                          obtain ⟨R, hRR⟩ : ∃ R, R = rightOf U.book (ah + 1) := ⟨_, rfl⟩
                          rw [hR, ← hRR] at r0
                          have HRR := Lib.hid hRR
                          have HRS := Lib.hid (HREST.out R hRR)
                          clear hR hRR hA5
                          have HBT := Lib.hid (rbetween_any W4 p R xw (by have := HMP.out; omega) HRS.out HW.out.1 HW.out.2)
                          have HNW : Hid (LDoc.unNew U p = if betweenErr p R xw ≠ 0 then (U, betweenErr p R xw) else (⟨if writeErr U.book (strOf (betweenRes p R xw)) zl = 0 then writeRes U.book (strOf (betweenRes p R xw)) zl else U.book, U.mak.wr (strOf (betweenRes p R xw)) zl⟩, writeErr U.book (strOf (betweenRes p R xw)) zl)) := by
                            show _ = _
                            unfold LDoc.unNew LMk.next
                            rw [hahe, HOLD.out, HUE.out.wh, ← HRR.out]
                          by_cases hbe : betweenErr p R xw = 0
                          · have HGD := Lib.hid (good_of hbe)
                            have HNW2 := HNW.out
                            rw [if_neg (by simp [hbe])] at HNW2
                            have HNW2 := Lib.hid HNW2
                            have HRY : Hid (bookReady U.book (strOf (betweenRes p R xw)) = 0) := by
                              show bookReady _ _ = 0
                              unfold bookReady
                              rw [if_neg (fun x => x (bookErr_zero HM4.out.ok)), HGD.out.check]
                            rw [hbe] at HBT
                            clear hbe HNW
                            have HNS : Hid ((strOf (betweenRes p R xw)).size ≤ 12) := place_small HGD.out.check
                            generalize strOf (betweenRes p R xw) = nx at *
                            go_wp2_with fail
                            refine HBT.out.mono ?_
                            rintro e w8 ⟨rfl, hb8⟩
                            have HM8 := Lib.hid (HM4.out.step hb8)
                            have HU8 := Lib.hid (HU4.out.step hb8)
                            have HBZ8 : Hid (Blk w8 W2.heap.size 112 #[.string p, .int .i64 zl, .bool true]) := HBZ4.out.below hb8 HBZ4.out.lt
                            have x1 : w8.cell? ⟨W2.heap.size, 1, none⟩ = some (.int .i64 zl) := by rw [HBZ8.out.cell]; rfl
                            have HAD : Hid (Calls Tryz.prog 70 #[.pointer (some ⟨bm, 0, none⟩), .agg #[.int .i64 0, .int .i64 0, .int .i64 1, .string nx, .int .i64 zl, .slice none 0 0]] w8 (RMkAddPost w8 w.heap.size bm V (U.mak.wr nx zl))) :=
                              rmkAdd_any w8 w.heap.size bm U.mak V c ys HM8.out.mkis HM8.out.below.size ⟨⟨0, 0⟩, 1, nx, zl, []⟩ none 0 (Own.nil _ _ _ _) HLEN.out.2.1 HLEN.out.2.2 HLEN.out.1
                            clear hb8 HBT
                            go_wp2_with fail
                            refine HAD.out.mono ?_
                            rintro e w9 ⟨rfl, ht⟩
                            obtain ⟨V2, c2, ys2, hm9⟩ := HM8.out.add ht
                            have HM9 := Lib.hid hm9
                            have HX9 : Hid (Blk w9 W2.heap.size 112 #[.string p, .int .i64 zl, .bool true]) := by
                              obtain ⟨_, _, _, _, o2, _⟩ := ht
                              exact o2.blk HBZ8.out HNB.out.2
                            have x9 : w9.cell? ⟨W2.heap.size, 1, none⟩ = some (.int .i64 zl) := by rw [HX9.out.cell]; rfl
                            have HWR := Lib.hid (rwrite_any w9 (some ad2) cl U.book nx zl HM9.out.book HM9.out.ok HM9.out.cap.1 HM9.out.cap.2)
                            have HWE := Lib.hid (writeErr_ready HRY.out zl)
                            clear ht hm9 HAD x1
                            rw [← HWE.out] at HWR
                            by_cases hwe : writeErr U.book nx zl = 0
                            · have HONE2 : Hid (st.unOne U st.ops[k] = (⟨writeRes U.book nx zl, U.mak.wr nx zl⟩, true, 0)) := by
                                show _ = _
                                rw [HONE.out, HNW2.out, if_pos hwe, hwe]
                              have HWB := Lib.hid (write_book hwe)
                              rw [hwe] at HWR
                              clear hwe
                              go_wp2_with fail
                              refine HWR.out.mono ?_
                              rintro e w10 ⟨V3, c3, rfl, hO, hb10⟩
                              have HM10 := Lib.hid (HM9.out.put hO hb10 HWB.out)
                              have HGV : Hid ((giveL 0 (writeRes U.book nx zl)) = writeRes U.book nx zl) := rfl
                              rw [HGV.out]
                              clear hO hb10 HWR
                              go_wp2_with fail
                              go_roundw
                              case rel =>
                                have hs := unOne_step (U := U) st HM8.out.ok st.ops[k]
                                rw [HONE2.out] at hs
                                exact ⟨k, n' - 1, ⟨writeRes U.book nx zl, U.mak.wr nx zl⟩, V3, c3, by omega, rfl, rfl, rfl, HU8.out.turn hkl hz (by rw [HOP.out]) HONE2.out ⟨_, _, _, HM10.out⟩ hs⟩
                              case measure => simp [intOf]
                            · have gwe : (writeErr U.book nx zl == 0) = false := by simp [hwe]
                              have gwe2 : (writeErr U.book nx zl != 0) = true := by simp [hwe]
                              have HF := Lib.hid (HU8.out.fails hkl hz (by rw [HOP.out]) (by rw [HONE.out, HNW2.out]; exact hwe))
                              have HF2 : Hid (st.undE xw n = writeErr U.book nx zl) := by show _ = _; rw [HE.out, HF.out, HONE.out, HNW2.out]
                              have HF3 : Hid (st.undR xw n = []) := by show _ = _; rw [HR.out, if_neg (by rw [HF2.out]; exact hwe)]
                              have HB9 := Lib.hid HM9.out.below
                              generalize writeErr U.book nx zl = we at *
                              go_wp2_with fail
                              refine HWR.out.mono ?_
                              rintro e w10 ⟨V3, c3, rfl, _, hb10⟩
                              have HB10 := Lib.hid (HB9.out.trans (hb10.mono HB9.out.size))
                              clear hb10 HWR
                              go_wp2_with fail
                              go_ret2
                              rw [HF2.out, HF3.out]
                              exact ⟨none, 0, [], rfl, rfl, ⟨Own.nil _ _ _ _, by simp⟩, HB10.out⟩
                          · have gbe : (betweenErr p R xw == 0) = false := by simp [hbe]
                            have gbe2 : (betweenErr p R xw != 0) = true := by simp [hbe]
                            have HNW2 := HNW.out
                            rw [if_pos hbe] at HNW2
                            have HNW2 := Lib.hid HNW2
                            have HF := Lib.hid (HU4.out.fails hkl hz (by rw [HOP.out]) (by rw [HONE.out, HNW2.out]; exact hbe))
                            have HF2 : Hid (st.undE xw n = betweenErr p R xw) := by show _ = _; rw [HE.out, HF.out, HONE.out, HNW2.out]
                            have HF3 : Hid (st.undR xw n = []) := by show _ = _; rw [HR.out, if_neg (by rw [HF2.out]; exact hbe)]
                            have HB4w := Lib.hid HM4.out.below
                            clear HNW
                            generalize betweenErr p R xw = be at *
                            generalize strOf (betweenRes p R xw) = nx at *
                            go_wp2_with fail
                            refine HBT.out.mono ?_
                            rintro e w8 ⟨rfl, hb8⟩
                            have HB8 := Lib.hid (HB4w.out.trans (hb8.mono HB4w.out.size))
                            clear hb8 HBT
                            go_wp2_with fail
                            go_ret2
                            rw [HF2.out, HF3.out]
                            exact ⟨none, 0, [], rfl, rfl, ⟨Own.nil _ _ _ _, by simp⟩, HB8.out⟩
                        · have ha1 : ¬ ((ah + 1 : Nat) : Int) < (U.book.length : Int) := by omega
                          obtain ⟨R, hRR⟩ : ∃ R, R = rightOf U.book (ah + 1) := ⟨_, rfl⟩
                          have HRR := Lib.hid hRR
                          have HRS := Lib.hid (HREST.out R hRR)
                          have hR0 : R = ⟨#[]⟩ := by rw [hRR]; unfold rightOf; rw [if_neg har]
                          clear hRR
                          subst hR0
                          have HBT := Lib.hid (rbetween_any W4 p ⟨#[]⟩ xw (by have := HMP.out; omega) HRS.out HW.out.1 HW.out.2)
                          have HNW : Hid (LDoc.unNew U p = if betweenErr p ⟨#[]⟩ xw ≠ 0 then (U, betweenErr p ⟨#[]⟩ xw) else (⟨if writeErr U.book (strOf (betweenRes p ⟨#[]⟩ xw)) zl = 0 then writeRes U.book (strOf (betweenRes p ⟨#[]⟩ xw)) zl else U.book, U.mak.wr (strOf (betweenRes p ⟨#[]⟩ xw)) zl⟩, writeErr U.book (strOf (betweenRes p ⟨#[]⟩ xw)) zl)) := by
                            show _ = _
                            unfold LDoc.unNew LMk.next
                            rw [hahe, HOLD.out, HUE.out.wh, ← HRR.out]
                          by_cases hbe : betweenErr p ⟨#[]⟩ xw = 0
                          · have HGD := Lib.hid (good_of hbe)
                            have HNW2 := HNW.out
                            rw [if_neg (by simp [hbe])] at HNW2
                            have HNW2 := Lib.hid HNW2
                            have HRY : Hid (bookReady U.book (strOf (betweenRes p ⟨#[]⟩ xw)) = 0) := by
                              show bookReady _ _ = 0
                              unfold bookReady
                              rw [if_neg (fun x => x (bookErr_zero HM4.out.ok)), HGD.out.check]
                            rw [hbe] at HBT
                            clear hbe HNW
                            have HNS : Hid ((strOf (betweenRes p ⟨#[]⟩ xw)).size ≤ 12) := place_small HGD.out.check
                            generalize strOf (betweenRes p ⟨#[]⟩ xw) = nx at *
                            go_wp2_with fail
                            refine HBT.out.mono ?_
                            rintro e w8 ⟨rfl, hb8⟩
                            have HM8 := Lib.hid (HM4.out.step hb8)
                            have HU8 := Lib.hid (HU4.out.step hb8)
                            have HBZ8 : Hid (Blk w8 W2.heap.size 112 #[.string p, .int .i64 zl, .bool true]) := HBZ4.out.below hb8 HBZ4.out.lt
                            have x1 : w8.cell? ⟨W2.heap.size, 1, none⟩ = some (.int .i64 zl) := by rw [HBZ8.out.cell]; rfl
                            have HAD : Hid (Calls Tryz.prog 70 #[.pointer (some ⟨bm, 0, none⟩), .agg #[.int .i64 0, .int .i64 0, .int .i64 1, .string nx, .int .i64 zl, .slice none 0 0]] w8 (RMkAddPost w8 w.heap.size bm V (U.mak.wr nx zl))) :=
                              rmkAdd_any w8 w.heap.size bm U.mak V c ys HM8.out.mkis HM8.out.below.size ⟨⟨0, 0⟩, 1, nx, zl, []⟩ none 0 (Own.nil _ _ _ _) HLEN.out.2.1 HLEN.out.2.2 HLEN.out.1
                            clear hb8 HBT
                            go_wp2_with fail
                            refine HAD.out.mono ?_
                            rintro e w9 ⟨rfl, ht⟩
                            obtain ⟨V2, c2, ys2, hm9⟩ := HM8.out.add ht
                            have HM9 := Lib.hid hm9
                            have HX9 : Hid (Blk w9 W2.heap.size 112 #[.string p, .int .i64 zl, .bool true]) := by
                              obtain ⟨_, _, _, _, o2, _⟩ := ht
                              exact o2.blk HBZ8.out HNB.out.2
                            have x9 : w9.cell? ⟨W2.heap.size, 1, none⟩ = some (.int .i64 zl) := by rw [HX9.out.cell]; rfl
                            have HWR := Lib.hid (rwrite_any w9 (some ad2) cl U.book nx zl HM9.out.book HM9.out.ok HM9.out.cap.1 HM9.out.cap.2)
                            have HWE := Lib.hid (writeErr_ready HRY.out zl)
                            clear ht hm9 HAD x1
                            rw [← HWE.out] at HWR
                            by_cases hwe : writeErr U.book nx zl = 0
                            · have HONE2 : Hid (st.unOne U st.ops[k] = (⟨writeRes U.book nx zl, U.mak.wr nx zl⟩, true, 0)) := by
                                show _ = _
                                rw [HONE.out, HNW2.out, if_pos hwe, hwe]
                              have HWB := Lib.hid (write_book hwe)
                              rw [hwe] at HWR
                              clear hwe
                              go_wp2_with fail
                              refine HWR.out.mono ?_
                              rintro e w10 ⟨V3, c3, rfl, hO, hb10⟩
                              have HM10 := Lib.hid (HM9.out.put hO hb10 HWB.out)
                              have HGV : Hid ((giveL 0 (writeRes U.book nx zl)) = writeRes U.book nx zl) := rfl
                              rw [HGV.out]
                              clear hO hb10 HWR
                              go_wp2_with fail
                              go_roundw
                              case rel =>
                                have hs := unOne_step (U := U) st HM8.out.ok st.ops[k]
                                rw [HONE2.out] at hs
                                exact ⟨k, n' - 1, ⟨writeRes U.book nx zl, U.mak.wr nx zl⟩, V3, c3, by omega, rfl, rfl, rfl, HU8.out.turn hkl hz (by rw [HOP.out]) HONE2.out ⟨_, _, _, HM10.out⟩ hs⟩
                              case measure => simp [intOf]
                            · have gwe : (writeErr U.book nx zl == 0) = false := by simp [hwe]
                              have gwe2 : (writeErr U.book nx zl != 0) = true := by simp [hwe]
                              have HF := Lib.hid (HU8.out.fails hkl hz (by rw [HOP.out]) (by rw [HONE.out, HNW2.out]; exact hwe))
                              have HF2 : Hid (st.undE xw n = writeErr U.book nx zl) := by show _ = _; rw [HE.out, HF.out, HONE.out, HNW2.out]
                              have HF3 : Hid (st.undR xw n = []) := by show _ = _; rw [HR.out, if_neg (by rw [HF2.out]; exact hwe)]
                              have HB9 := Lib.hid HM9.out.below
                              generalize writeErr U.book nx zl = we at *
                              go_wp2_with fail
                              refine HWR.out.mono ?_
                              rintro e w10 ⟨V3, c3, rfl, _, hb10⟩
                              have HB10 := Lib.hid (HB9.out.trans (hb10.mono HB9.out.size))
                              clear hb10 HWR
                              go_wp2_with fail
                              go_ret2
                              rw [HF2.out, HF3.out]
                              exact ⟨none, 0, [], rfl, rfl, ⟨Own.nil _ _ _ _, by simp⟩, HB10.out⟩
                          · have gbe : (betweenErr p ⟨#[]⟩ xw == 0) = false := by simp [hbe]
                            have gbe2 : (betweenErr p ⟨#[]⟩ xw != 0) = true := by simp [hbe]
                            have HNW2 := HNW.out
                            rw [if_pos hbe] at HNW2
                            have HNW2 := Lib.hid HNW2
                            have HF := Lib.hid (HU4.out.fails hkl hz (by rw [HOP.out]) (by rw [HONE.out, HNW2.out]; exact hbe))
                            have HF2 : Hid (st.undE xw n = betweenErr p ⟨#[]⟩ xw) := by show _ = _; rw [HE.out, HF.out, HONE.out, HNW2.out]
                            have HF3 : Hid (st.undR xw n = []) := by show _ = _; rw [HR.out, if_neg (by rw [HF2.out]; exact hbe)]
                            have HB4w := Lib.hid HM4.out.below
                            clear HNW
                            generalize betweenErr p ⟨#[]⟩ xw = be at *
                            generalize strOf (betweenRes p ⟨#[]⟩ xw) = nx at *
                            go_wp2_with fail
                            refine HBT.out.mono ?_
                            rintro e w8 ⟨rfl, hb8⟩
                            have HB8 := Lib.hid (HB4w.out.trans (hb8.mono HB4w.out.size))
                            clear hb8 HBT
                            go_wp2_with fail
                            go_ret2
                            rw [HF2.out, HF3.out]
                            exact ⟨none, 0, [], rfl, rfl, ⟨Own.nil _ _ _ _, by simp⟩, HB8.out⟩
                      · have gs : ((s1 : Int) + (s2 : Int) == 1) = false := by simp; omega
                        have gs2 : (((s1 + s2 : Nat) : Int) == 1) = false := by simp; omega
                        have HSK : Hid (RUndAt w st bm xw n k n' U WE (some ad2) cl) := HUE.out.skip hkl hz (.inr (by rw [HOP.out]; exact one_other HEB.out.1 HEB.out.2 (fun h => hwhat h.1) (fun h => hone (by rw [E1.out, E2.out]; exact h.2.2))))
                        subst hwhat2
                        clear hone hwhat HSUM
                        go_wp2_with fail
                        rw [← hWE]
                        clear hWE l0 l1 l2 y2a y3a z2a
                        go_quiet ((go_at_call 71; (first | (with_reducible refine Calls.quiet_of_same (HS1.out _ ?_)) | (with_reducible refine Calls.quiet_of_same (HS2.out _ ?_))); first | exact Below.refl _ _ | exact below_drewN (Below.refl _ _) _))
                        go_wp2_with fail
                        go_roundw
                        case rel => exact ⟨k, n', U, some ad2, cl, by omega, rfl, rfl, rfl, HSK.out.step (below_drewN (Below.refl _ _) _)⟩
                        case measure => simp [intOf]
                  · have gw1 : (what == 1) = false := by simp [hwhat]
                    have gw2 : (what == 2) = false := by simp [hwhat2]
                    have HSK : Hid (RUndAt w st bm xw n k n' U WE (some ad2) cl) := HUE.out.skip hkl hz (.inr (by rw [HOP.out]; exact one_other HEB.out.1 HEB.out.2 (fun h => hwhat h.1) (fun h => hwhat2 h.1)))
                    clear hwhat hwhat2
                    go_wp2_with fail
                    rw [← hWE]
                    clear hWE l0 l1 l2 y2a y3a z2a
                    go_quiet (fail)
                    go_wp2_with fail
                    go_roundw
                    case rel => exact ⟨k, n', U, some ad2, cl, by omega, rfl, rfl, rfl, HSK.out.step (below_drewN (Below.refl _ _) _)⟩
                    case measure => simp [intOf]
            · have hhas : hasAt U.book p = false := by
                unfold hasAt
                rw [List.getElem?_eq_getElem hat, ← hzq]
                rw [beq_eq_false_iff_ne]
                exact fun h => hp (tl_inj h)
              have gp : (z.place.toList == p.toList) = false := by
                rw [beq_eq_false_iff_ne]
                exact fun h => hp (tl_inj h)
              have gp2 : (z.place.toList != p.toList) = true := by
                rw [bne, gp]; rfl
              have HSK : Hid (RUndAt w st bm xw n k n' U WD (some ad2) cl) := HUD.out.skip hkl hz (.inr (by rw [HOP.out]; exact one_not (.inl hhas)))
              clear hhas hp hzq
              obtain ⟨zp, zl, zs⟩ := z
              dsimp only at l0 l1 l2 gp gp2
              generalize hahe : ahead U.book p = ah at *
              go_wp2_with fail
              go_quiet (fail)
              go_wp2_with fail
              go_roundw
              case rel => exact ⟨k, n', U, some ad2, cl, by omega, rfl, rfl, rfl, HSK.out.step (below_drewN (Below.refl _ _) _)⟩
              case measure => simp [intOf]
          · have ga : decide ((ahead U.book p : Int) ≥ (U.book.length : Int)) = true := decide_eq_true (by omega)
            have ga2 : decide ((U.book.length : Int) ≤ (ahead U.book p : Int)) = true := decide_eq_true (by omega)
            have ga3 : (U.book.length : Int) ≤ (ahead U.book p : Int) := by omega
            have hhas : hasAt U.book p = false := by
              unfold hasAt
              rw [List.getElem?_eq_none (by omega)]
            have HSK : Hid (RUndAt w st bm xw n k n' U WD A cl) := HUD.out.skip hkl hz (.inr (by rw [HOP.out]; exact one_not (.inl hhas)))
            clear hhas
            generalize hahe : ahead U.book p = ah at *
            go_wp2_with fail
            go_quiet (fail)
            go_wp2_with fail
            go_roundw
            case rel => exact ⟨k, n', U, A, cl, by omega, rfl, rfl, rfl, HSK.out.step (below_drewN (Below.refl _ _) _)⟩
            case measure => simp [intOf]
        · have gw : (xw != who) = true := by simp [hwho]
          have gw2 : (xw == who) = false := by simp [hwho]
          have HSK : Hid (RUndAt w st bm who n k n' U WD A cl) := HUD.out.skip hkl hz (.inl (by rw [HOP.out]; exact hwho))
          generalize hahe : ahead U.book p = ah at *
          clear hwho
          go_wp2_with fail
          go_quiet (fail)
          go_wp2_with fail
          go_roundw
          case rel => exact ⟨k, n', U, A, cl, by omega, rfl, rfl, rfl, HSK.out.step (below_drewN (Below.refl _ _) _)⟩
          case measure => simp [intOf]
end
theorem rundo_any (w : World) (B : Nat) (S : List Nat) (b : Nat) (st : LDoc) (D : RLay) (h : RDocIs w B S b st D) (ok : st.Ok) (who n : Int) :
    Calls Tryz.prog 30 #[.pointer (some ⟨b, 0, none⟩), .int .i64 who, .int .i64 n] w (REditPost w (st.undE who n) (st.undR who n)) := by
  by_cases hw : LDoc.whoE who = 0
  · by_cases hn : n < 0 ∨ 200 < n
    · exact rundo_far w B S b st D h ok who n hw hn
    · exact rundo_good w B S b st D h ok who n hw (by omega) (by omega)
  · exact rundo_bad w b st who n hw
end Go.Proofs.YtngalkmmpjegkaaGreatDoor
