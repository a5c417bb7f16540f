/- op.Unpack, walked: the ops of a parcel, or ErrSyntax. -/
import Derived.Test.YthfbjfocmnikaaaGreatDoorDecode
import Derived.Test.YthfbjfocmnikaaaGreatDoorSmall
namespace Go.Proofs.YthfbjfocmnikaaaGreatDoor
open Go.RowKit
set_option linter.unusedVariables false
def unpackN : Nat → List UInt8 → Option (List LOp)
  | 0, s => if s = [] then some [] else none
  | n + 1, c :: d :: t => if t.length < c.toNat * 256 + d.toNat then none else
      match decOf (strOf (t.take (c.toNat * 256 + d.toNat))) with
      | none => none
      | some o => (unpackN n (t.drop (c.toNat * 256 + d.toNat))).map (o :: ·)
  | _ + 1, _ => none
def unpackOf : List UInt8 → Option (List LOp)
  | c :: d :: t => if 400 < c.toNat * 256 + d.toNat then none else unpackN (c.toNat * 256 + d.toNat) t
  | _ => none
def UnpPost (w : World) (r : Option (List LOp)) (e : Ending) (w' : World) : Prop :=
  match r with
  | none => e = .returned (.tuple #[.slice none 0 0, errV 2]) ∧ Below w.heap.size w w'
  | some l => ∃ A c ys, e = .returned (.tuple #[.slice A l.length c, .nilIface]) ∧ ys.map OpAt.op = l ∧ Own w' w.heap.size 30 6 A l.length c (ocells ys) ∧
      (∀ y ∈ ys, Own w' w.heap.size 27 2 y.at_ y.op.seen.length y.cap (dcells y.op.seen) ∧ y.op.place.size ≤ 255) ∧ Below w.heap.size w w'
set_option maxRecDepth 100000 in
theorem uclose_nil (w : World) (g1 g0 : Nat) (t : TypeId) (u : FrameMode) (h : Blk w g1 t #[.nilIface]) :
    CallsD Tryz.prog 245 #[.pointer (some ⟨g1, 0, none⟩), .pointer (some ⟨g0, 0, none⟩)] u w fun e u' w' => u' = u ∧ (e = .returned (.tuple #[]) ∧ w' = w) := by
  have c : w.cell? ⟨g1, 0, none⟩ = some .nilIface := by rw [h.cell]; rfl
  clear h
  go_enter_d Tryz.func245, Tryz.ntmps245
  go_wp2
  go_end0
  exact ⟨rfl, rfl⟩
set_option maxRecDepth 100000 in
theorem uclose_err (w : World) (g1 g0 : Nat) (t t2 : TypeId) (u : FrameMode) (n : Int) (hn : n ≠ 0) (h : Blk w g1 t #[errV n]) (v0 : Value) (h0 : Blk w g0 t2 #[v0]) :
    CallsD Tryz.prog 245 #[.pointer (some ⟨g1, 0, none⟩), .pointer (some ⟨g0, 0, none⟩)] u w fun e u' w' => u' = u ∧ (e = .returned (.tuple #[]) ∧ w' = w.setCell ⟨g0, 0, none⟩ (.slice none 0 0)) := by
  have c : w.cell? ⟨g1, 0, none⟩ = some (.iface 119 (.int .i64 n)) := by rw [h.cell, errV, if_neg hn]; rfl
  have x0 : w.cell? ⟨g0, 0, none⟩ = some v0 := by rw [h0.cell]; rfl
  have y0 := h0.frozen 0
  clear h h0
  go_enter_d Tryz.func245, Tryz.ntmps245
  go_wp2
  go_end0
  exact ⟨rfl, rfl⟩
theorem load_cell (w : World) (g : Nat) (t : TypeId) (v : Value) (h : Blk w g t #[v]) : (loadVar 22 ⟨g, 0, none⟩).run Tryz.prog w = .ok v w := by
  have c : w.cell? ⟨g, 0, none⟩ = some v := by rw [h.cell]; rfl
  simp [go_sem, loadVar, c]
theorem uret_err (w W : World) (g0 g1 : Nat) (tmps : Array Value) (u : FrameMode) (hu : u = .returning) (ht2 : tmps.getD 2 undef = .pointer (some ⟨g0, 0, none⟩)) (ht3 : tmps.getD 3 undef = .pointer (some ⟨g1, 0, none⟩)) {t t2 : TypeId} {v0 : Value}
    (h1 : Blk W g1 t #[errV 2]) (h0 : Blk W g0 t2 #[v0]) (hne : g1 ≠ g0) (hg : w.heap.size ≤ g0) (hb : Below w.heap.size w W) :
    Leaves Tryz.prog Tryz.f208 tmps (UnpPost w none) [{ target := .fn (.func 245) #[.pointer (some ⟨g1, 0, none⟩), .pointer (some ⟨g0, 0, none⟩)], args := #[] }] u W := by
  subst hu
  refine leaves_cons (f := 245) (args := #[.pointer (some ⟨g1, 0, none⟩), .pointer (some ⟨g0, 0, none⟩)]) (by simp) (by simp [go_sem]) ?_
  refine (uclose_err W g1 g0 t t2 .returning 2 (by decide) h1 v0 h0).mono ?_
  rintro e u' w3 ⟨rfl, rfl, rfl⟩
  exact ⟨_, results_cells2 rfl _ _ ⟨g0, 0, none⟩ ⟨g1, 0, none⟩ _ _ ht2 ht3 (load_cell _ _ _ _ (h0.set_ 0 (.slice none 0 0))) (load_err _ _ _ _ (h1.far hne _)), rfl, hb.setCell hg _⟩
/-- The door, entered as one that returns an error. -/
theorem udoor_err (w W : World) (g0 g1 : Nat) (tmps : Array Value) (ht2 : tmps.getD 2 undef = .pointer (some ⟨g0, 0, none⟩)) (ht3 : tmps.getD 3 undef = .pointer (some ⟨g1, 0, none⟩)) {t t2 : TypeId} {v0 : Value}
    (h1 : Blk W g1 t #[errV 2]) (h0 : Blk W g0 t2 #[v0]) (hne : g1 ≠ g0) (hg : w.heap.size ≤ g0) (hb : Below w.heap.size w W) :
    Leaves Tryz.prog Tryz.f208 tmps (UnpPost w none) [{ target := .fn (.func 177) #[], args := #[.pointer (some ⟨g1, 0, none⟩)] }, { target := .fn (.func 245) #[.pointer (some ⟨g1, 0, none⟩), .pointer (some ⟨g0, 0, none⟩)], args := #[] }] .returning W := by
  refine leaves_cons (f := 177) (args := #[.pointer (some ⟨g1, 0, none⟩)]) (by simp) (by simp [go_sem]) ?_
  refine (guard_idle ⟨g1, 0, none⟩ _).mono ?_
  rintro e u' w4 ⟨rfl, rfl, rfl⟩
  exact uret_err w _ g0 g1 tmps _ rfl ht2 ht3 h1 h0 hne hg hb
/-- The door, entered by a panic. -/
theorem udoor_panic (w W : World) (g0 g1 : Nat) (tmps : Array Value) (ht2 : tmps.getD 2 undef = .pointer (some ⟨g0, 0, none⟩)) (ht3 : tmps.getD 3 undef = .pointer (some ⟨g1, 0, none⟩)) {t t2 : TypeId} {v v0 : Value}
    (h1 : Blk W g1 t #[v]) (h0 : Blk W g0 t2 #[v0]) (hne : g1 ≠ g0) (hg : w.heap.size ≤ g0) (hg1 : w.heap.size ≤ g1) (hb : Below w.heap.size w W) :
    Leaves Tryz.prog Tryz.f208 tmps (UnpPost w none) [{ target := .fn (.func 177) #[], args := #[.pointer (some ⟨g1, 0, none⟩)] }, { target := .fn (.func 245) #[.pointer (some ⟨g1, 0, none⟩), .pointer (some ⟨g0, 0, none⟩)], args := #[] }] (.panicking wrongP) W := by
  refine leaves_cons (f := 177) (args := #[.pointer (some ⟨g1, 0, none⟩)]) (by simp) (by simp [go_sem]) ?_
  refine (guard_caught g1 t v W h1).mono ?_
  rintro e u' w2 ⟨rfl, rfl, rfl⟩
  exact uret_err w _ g0 g1 tmps _ rfl ht2 ht3 ((h1.alloc _).set_ 0 (errV 2)) ((h0.alloc _).far (Ne.symm hne) _) hne hg ((hb.alloc hb.size _).setCell hg1 _)
theorem udoor_ok (w W : World) (A : Option Addr) (c : Nat) (ys : List OpAt) (g0 g1 : Nat) (tmps : Array Value) (ht2 : tmps.getD 2 undef = .pointer (some ⟨g0, 0, none⟩)) (ht3 : tmps.getD 3 undef = .pointer (some ⟨g1, 0, none⟩)) {t t2 : TypeId}
    (h1 : Blk W g1 t #[.nilIface]) (h0 : Blk W g0 t2 #[.slice A ys.length c]) (hown : Own W w.heap.size 30 6 A ys.length c (ocells ys))
    (hs : ∀ y ∈ ys, Own W w.heap.size 27 2 y.at_ y.op.seen.length y.cap (dcells y.op.seen) ∧ y.op.place.size ≤ 255) (hb : Below w.heap.size w W) :
    Leaves Tryz.prog Tryz.f208 tmps (UnpPost w (some (ys.map OpAt.op))) [{ target := .fn (.func 177) #[], args := #[.pointer (some ⟨g1, 0, none⟩)] }, { target := .fn (.func 245) #[.pointer (some ⟨g1, 0, none⟩), .pointer (some ⟨g0, 0, none⟩)], args := #[] }] .returning W := by
  refine leaves_cons (f := 177) (args := #[.pointer (some ⟨g1, 0, none⟩)]) (by simp) (by simp [go_sem]) ?_
  refine (guard_idle ⟨g1, 0, none⟩ _).mono ?_
  rintro e u' w4 ⟨rfl, rfl, rfl⟩
  refine leaves_cons (u := .returning) (f := 245) (args := #[.pointer (some ⟨g1, 0, none⟩), .pointer (some ⟨g0, 0, none⟩)]) (by simp) (by simp [go_sem]) ?_
  refine (uclose_nil _ g1 g0 t .returning h1).mono ?_
  rintro e u' w3 ⟨rfl, rfl, rfl⟩
  exact ⟨_, results_cells2 rfl _ _ ⟨g0, 0, none⟩ ⟨g1, 0, none⟩ _ _ ht2 ht3 (load_cell _ _ _ _ h0) (load_err _ _ _ _ h1), A, c, ys, by rw [List.length_map], rfl, by rw [List.length_map]; exact hown, hs, hb⟩
theorem elemOu : Elem Tryz.prog 22 30 6 72 := Elem.mk_ (z := .agg #[.int .i64 0, .int .i64 0, .int .i64 0, .string ⟨#[]⟩, .int .i64 0, .slice none 0 0]) Tryz.underlying22 (by kernel_rfl) rfl (by decide)
theorem Own.ne2 {w : World} {B B' size size' n n' c c' : Nat} {e e' : TypeId} {A A' : Option Addr} {xs xs' : List Value} (h : Own w B e size A n c xs) (h' : Own w B' e' size' A' n' c' xs') (hne : e ≠ e') : ∀ g ∈ ob A, g ∉ ob A' := by
  intro g hg
  rcases h.2 with ⟨he, _⟩ | ⟨g', cap, cur, he, _, hh, _⟩
  · injection he with he; subst he; simp [ob] at hg
  · injection he with he
    subst he
    have : g = g' := by simpa [ob] using hg
    subst this
    exact Own.blk_ne (t := e) h' hh (fun x => hne x.symm)
/-- Midway: so many ops are read. -/
structure UMid (w : World) (g0 m : Nat) (t : List UInt8) (k : Nat) (V : Option Addr) (cv : Nat) (ys : List OpAt) (rest : List UInt8) (wr : World) : Prop where
  rd : RdAt wr (g0 + 1 + 1) rest
  bel : Below g0 w wr
  res : Blk wr g0 22 #[.slice V k cv]
  err : Blk wr (g0 + 1) 32 #[.nilIface]
  own : Own wr g0 30 6 V k cv (ocells ys)
  seen : ∀ y ∈ ys, Own wr g0 27 2 y.at_ y.op.seen.length y.cap (dcells y.op.seen) ∧ y.op.place.size ≤ 255
  is : unpackN m t = (unpackN (m - k) rest).map fun r => ys.map OpAt.op ++ r
def ULoop (w : World) (g0 m : Nat) (t : List UInt8) (i : Value) (wr : World) : Prop :=
  ∃ k V cv ys rest, k ≤ m ∧ i = .int .i64 (k : Nat) ∧ Hid (UMid w g0 m t k V cv ys rest wr)
set_option maxRecDepth 100000 in
set_option maxHeartbeats 4000000 in
theorem unpack_any (w : World) (b : List UInt8) : Calls Tryz.prog 208 #[.string (strOf b)] w (UnpPost w (unpackOf b)) := by
  have hmf : ∀ (fn : Fn) (first cap : Array Value) (w : World), (Instr.makeFunc fn first cap).run Tryz.prog w = .ok (.func fn first cap) w := fun _ _ _ _ => rfl
  obtain ⟨W0, hW0⟩ : ∃ W0, W0 = (((w.alloc (.cells #[.slice none 0 0] 22)).alloc (.cells #[.nilIface] 32)).alloc (.cells #[.string (strOf b)] 255)) := ⟨_, rfl⟩
  obtain ⟨g0, hg0⟩ : ∃ g0, g0 = w.heap.size := ⟨_, rfl⟩
  have HX0 : Hid (Blk W0 g0 22 #[.slice none 0 0]) := by rw [hW0, hg0]; exact ((Blk.new w _ _).alloc _).alloc _
  have HE0 : Hid (Blk W0 (g0 + 1) 32 #[.nilIface]) := by
    rw [hW0, hg0]
    have := Blk.new (w.alloc (.cells #[.slice none 0 0] 22)) 32 #[.nilIface]
    simp only [World.size_alloc] at this
    exact this.alloc _
  have HR0 : Hid (RdAt W0 (g0 + 1 + 1) b) := by
    rw [hW0, hg0]
    have := Blk.new ((w.alloc (.cells #[.slice none 0 0] 22)).alloc (.cells #[.nilIface] 32)) 255 #[.string (strOf b)]
    simp only [World.size_alloc] at this
    exact this
  have HB0 : Hid (Below g0 w W0) := by rw [hW0, hg0]; exact (((Below.refl _ _).alloc (Nat.le_refl _) _).alloc (by simp) _).alloc (by simp; omega) _
  have HTW := Lib.hid (fun W c d t h => two_ok W (g0 + 1 + 1) c d t h)
  have HTB := Lib.hid (fun W l h hl => two_bad W (g0 + 1 + 1) l h hl)
  have HKO := Lib.hid (fun W l h n hn => take_ok W (g0 + 1 + 1) l h n hn)
  have HKB := Lib.hid (fun W l h n hn => take_bad W (g0 + 1 + 1) l h n hn)
  have HDC := Lib.hid (fun W b => decode_any W b)
  have HG0 := Lib.hid hg0
  have hgw : w.heap.size ≤ g0 := by omega
  obtain ⟨R, hR⟩ : ∃ R, R = unpackOf b := ⟨_, rfl⟩
  have HRR := Lib.hid hR
  rw [← hR]
  clear hR
  obtain ⟨s, hs⟩ : ∃ s, s = strOf b := ⟨_, rfl⟩
  rw [← hs] at hW0 ⊢
  clear hs
  go_enter_defers Tryz.func208, Tryz.ntmps208
  go_wp2_with fail
  rw [← hW0, ← hg0]
  clear hW0 hg0
  by_cases hb2 : b.length < 2
  · have HRN : Hid (R = none) := by
      show _ = _
      rw [HRR.out]
      match b, hb2 with
      | [], _ => rfl
      | [a], _ => rfl
    refine (HTB.out W0 b HR0.out hb2).mono ?_
    rintro e w1 ⟨rfl, ho⟩
    go_wp2_with fail
    rw [HRN.out]
    refine udoor_panic w w1 g0 (g0 + 1) _ rfl rfl (ho.blk HE0.out (by simp)) (ho.blk HX0.out (by simp; omega)) (by omega) hgw (by omega) ?_
    rw [← HG0.out]
    exact HB0.out.trans (ho.below (Nat.le_of_lt HX0.out.lt) (by simp; omega))
  · obtain ⟨c, d, t, rfl⟩ : ∃ c d t, b = c :: d :: t := by
      match b, hb2 with
      | c :: d :: t, _ => exact ⟨c, d, t, rfl⟩
      | [], h => simp at h
      | [a], h => simp at h
    clear hb2
    obtain ⟨m, hm⟩ : ∃ m : Nat, m = c.toNat * 256 + d.toNat := ⟨_, rfl⟩
    have hm6 : m ≤ 65535 := by have := UInt8.toNat_lt c; have := UInt8.toNat_lt d; omega
    have HRS : Hid (R = if 400 < m then none else unpackN m t) := by show _ = _; rw [HRR.out, hm]; rfl
    have HC := HTW.out W0 c d t HR0.out
    rw [← hm] at HC
    clear hm
    refine HC.mono ?_
    rintro e w1 ⟨rfl, hr, ho⟩
    have HX1 := Lib.hid (ho.blk HX0.out (by simp; omega))
    have HE1 := Lib.hid (ho.blk HE0.out (by simp))
    have HB1 : Hid (Below g0 w w1) := HB0.out.trans (ho.below (Nat.le_of_lt HX0.out.lt) (by simp; omega))
    have HR1 := Lib.hid hr
    clear hr ho HC
    have x0 := HX1.out.cell 0
    have x1 := HX1.out.frozen 0
    have e0 := HE1.out.cell 0
    have e1 := HE1.out.frozen 0
    simp only [List.getElem?_toArray, List.getElem?_cons_zero] at x0 e0
    by_cases h4 : 400 < m
    · have HRN : Hid (R = none) := by show _ = _; rw [HRS.out, if_pos h4]
      have k4 : (400 : Int) < (m : Int) := by omega
      clear h4
      go_wp2_with fail
      rw [HRN.out]
      refine udoor_err w _ g0 (g0 + 1) _ rfl rfl (t := 32) ((HE1.out.far (by simp) _).set_ 0 _) ((HX1.out.set_ 0 _).far (by simp) _) (by omega) hgw ?_
      rw [← HG0.out]
      exact (HB1.out.setCell (Nat.le_refl _) _).setCell (by simp) _
    · have k4 : ¬ (400 : Int) < (m : Int) := by omega
      have HRN : Hid (R = unpackN m t) := by show _ = _; rw [HRS.out, if_neg h4]
      have hm4 : m ≤ 400 := by omega
      clear h4 hm6
      have HM0 : Hid (UMid w g0 m t 0 none 0 [] t w1) := ⟨HR1.out, HB1.out, HX1.out, HE1.out, Own.nil _ _ _ _, by simp, by cases unpackN m t <;> simp⟩
      clear x0 x1 e0 e1
      go_wp2_with fail
      go_loopw [18] (fun i wr => ULoop w g0 m t i wr) (fun i _ => m - (intOf i).toNat)
      case atStart => exact ⟨0, none, 0, [], t, Nat.zero_le _, rfl, HM0⟩
      case round =>
        obtain ⟨k, V, cv, ys, rest, hk, rfl, HM⟩ := hrel
        clear HM0
        have k0 : (0 : Int) ≤ (k : Int) := by omega
        by_cases hlt : k < m
        · have k1 : (k : Int) < (m : Int) := by omega
          have hsub : m - k = (m - (k + 1)) + 1 := by omega
          by_cases hr2 : rest.length < 2
          · have HRF : Hid (R = none) := by
              show _ = _
              rw [HRN.out, HM.out.is, hsub]
              match rest, hr2 with
              | [], _ => rfl
              | [d], _ => rfl
            clear hsub
            go_wp2_with fail
            refine (HTB.out wr rest HM.out.rd hr2).mono ?_
            rintro e w2 ⟨rfl, ho⟩
            go_wp2_with fail
            rw [HRF.out]
            refine udoor_panic w w2 g0 (g0 + 1) _ rfl rfl (ho.blk HM.out.err (by simp)) (ho.blk HM.out.res (by simp; omega)) (by omega) hgw (by omega) ?_
            rw [← HG0.out]
            exact HM.out.bel.trans (ho.below (Nat.le_of_lt HM.out.res.lt) (by simp; omega))
          · obtain ⟨p1, p2, rest, rfl⟩ : ∃ d1 d2 r, rest = d1 :: d2 :: r := by
              match rest, hr2 with
              | d1 :: d2 :: r, _ => exact ⟨d1, d2, r, rfl⟩
              | [], h => simp at h
              | [d], h => simp at h
            clear hr2
            obtain ⟨q, hq⟩ : ∃ q : Nat, q = p1.toNat * 256 + p2.toNat := ⟨_, rfl⟩
            have HC := HTW.out wr p1 p2 rest HM.out.rd
            rw [← hq] at HC
            have HIS : Hid (R = (if rest.length < q then none else match decOf (strOf (rest.take q)) with | none => none | some o => (unpackN (m - (k + 1)) (rest.drop q)).map (o :: ·)).map fun r => ys.map OpAt.op ++ r) := by
              show _ = _
              rw [HRN.out, HM.out.is, hsub, unpackN, hq]
            clear hq hsub
            go_wp2_with fail
            refine HC.mono ?_
            rintro e w2 ⟨rfl, hr, ho⟩
            have HR2 := Lib.hid hr
            have HX2 := Lib.hid (ho.blk HM.out.res (by simp; omega))
            have HE2 := Lib.hid (ho.blk HM.out.err (by simp))
            have HB2 : Hid (Below g0 w w2) := HM.out.bel.trans (ho.below (Nat.le_of_lt HM.out.res.lt) (by simp; omega))
            have HV2 := Lib.hid (HM.out.own.only ho (fun g hg hm => by simp at hm; subst hm; exact HM.out.own.blk_ne HM.out.rd (by decide) hg))
            have HS2 := Lib.hid (fun y hy => (HM.out.seen y hy).1.only ho (fun g hg hm => by simp at hm; subst hm; exact (HM.out.seen y hy).1.blk_ne HM.out.rd (by decide) hg))
            clear hr ho HC
            go_wp2_with fail
            by_cases hlq : rest.length < q
            · have HRF : Hid (R = none) := by show _ = _; rw [HIS.out, if_pos hlq]; rfl
              refine (HKB.out w2 rest HR2.out q hlq).mono ?_
              rintro e w3 ⟨rfl, ho⟩
              clear hlq
              go_wp2_with fail
              rw [HRF.out]
              refine udoor_panic w w3 g0 (g0 + 1) _ rfl rfl (ho.blk HE2.out (by simp)) (ho.blk HX2.out (by simp; omega)) (by omega) hgw (by omega) ?_
              rw [← HG0.out]
              exact HB2.out.trans (ho.below (Nat.le_of_lt HX2.out.lt) (by simp; omega))
            · refine (HKO.out w2 rest HR2.out q (by omega)).mono ?_
              rintro e w3 ⟨rfl, hr, ho⟩
              have HR3 := Lib.hid hr
              have HX3 := Lib.hid (ho.blk HX2.out (by simp; omega))
              have HE3 := Lib.hid (ho.blk HE2.out (by simp))
              have HB3 : Hid (Below g0 w w3) := HB2.out.trans (ho.below (Nat.le_of_lt HX2.out.lt) (by simp; omega))
              have HV3 := Lib.hid (HV2.out.only ho (fun g hg hm => by simp at hm; subst hm; exact HV2.out.blk_ne HR2.out (by decide) hg))
              have HS3 := Lib.hid (fun y hy => (HS2.out y hy).only ho (fun g hg hm => by simp at hm; subst hm; exact (HS2.out y hy).blk_ne HR2.out (by decide) hg))
              have HIS := HIS.out
              rw [if_neg hlq] at HIS
              have HIS := Lib.hid HIS
              clear hr ho hlq HR2 HX2 HE2 HB2 HV2 HS2
              go_wp2_with fail
              have HC := HDC.out w3 (rest.take q)
              cases hdc : decOf (strOf (rest.take q)) with
              | none =>
                have HRF : Hid (R = none) := by show _ = _; rw [HIS.out, hdc]; rfl
                rw [hdc] at HC
                refine HC.mono ?_
                rintro e w4 ⟨rfl, hb4⟩
                have HX4 := Lib.hid (HX3.out.below hb4 HX3.out.lt)
                have HE4 := Lib.hid (HE3.out.below hb4 HE3.out.lt)
                have HB4 : Hid (Below g0 w w4) := HB3.out.trans (hb4.mono (Nat.le_of_lt HX3.out.lt))
                clear hb4 HC hdc HX3 HE3 HB3
                obtain ⟨W5, hW5⟩ : ∃ W5, W5 = w4.alloc (.cells #[.int .i64 0, .int .i64 0, .int .i64 0, .string ⟨#[]⟩, .int .i64 0, .slice none 0 0] 30) := ⟨_, rfl⟩
                have HX5 : Hid (Blk W5 g0 22 #[.slice V k cv]) := by rw [hW5]; exact HX4.out.alloc _
                have HE5 : Hid (Blk W5 (g0 + 1) 32 #[.nilIface]) := by rw [hW5]; exact HE4.out.alloc _
                have HB5 : Hid (Below g0 w W5) := by rw [hW5]; exact HB4.out.alloc (Nat.le_of_lt HX4.out.lt) _
                have x0 := HX5.out.cell 0
                have x1 := HX5.out.frozen 0
                have e0 := HE5.out.cell 0
                have e1 := HE5.out.frozen 0
                simp only [List.getElem?_toArray, List.getElem?_cons_zero] at x0 e0
                rw [show errV 2 = .iface 119 (.int .i64 2) from rfl]
                unfold zeroOp
                clear HX4 HE4 HB4
                go_upto_region 10 with fail
                rw [← hW5]
                clear hW5
                go_wp2_with fail
                rw [HRF.out]
                refine udoor_err w _ g0 (g0 + 1) _ rfl rfl (t := 32) ((HE5.out.far (by simp) _).set_ 0 _) ((HX5.out.set_ 0 _).far (by simp) _) (by omega) hgw ?_
                rw [← HG0.out]
                exact (HB5.out.setCell (Nat.le_refl _) _).setCell (by simp) _
              | some o =>
                rw [hdc] at HC
                have HIS := HIS.out
                rw [hdc] at HIS
                have HIS : Hid (R = (unpackN (m - (k + 1)) (rest.drop q)).map fun r => (ys.map OpAt.op ++ [o]) ++ r) := by
                  show _ = _
                  rw [HIS]
                  simp only
                  rw [Option.map_map]
                  congr 1
                  funext r
                  simp
                refine HC.mono ?_
                rintro e w4 ⟨yA, yc, rfl, hown, hb4⟩
                have hpl : o.place.size ≤ 255 := by
                  unfold decOf at hdc
                  split at hdc
                  · cases hdc
                  · rename_i r hr
                    split at hdc
                    · injection hdc with hdc; subst hdc; exact rdOp_place hr
                    · cases hdc
                have HPL := Lib.hid hpl
                have HX4 := Lib.hid (HX3.out.below hb4 HX3.out.lt)
                have HE4 := Lib.hid (HE3.out.below hb4 HE3.out.lt)
                have HB4 : Hid (Below g0 w w4) := HB3.out.trans (hb4.mono (Nat.le_of_lt HX3.out.lt))
                have HR4 : Hid (RdAt w4 (g0 + 1 + 1) (rest.drop q)) := Blk.below (t := 255) HR3.out hb4 (Blk.lt (t := 255) HR3.out)
                have HV4 := Lib.hid (HV3.out.below hb4)
                have HS4 := Lib.hid (fun y hy => (HS3.out y hy).below hb4)
                have HN4 := Lib.hid (hown.mono (B' := g0) (Nat.le_of_lt HX3.out.lt))
                clear hb4 HC hdc HX3 HE3 HB3 HV3 HS3 HR3 hown hpl
                obtain ⟨W5, hW5⟩ : ∃ W5, W5 = w4.alloc (.cells (o.cells yA yc) 30) := ⟨_, rfl⟩
                obtain ⟨g5, hg5⟩ : ∃ g5, g5 = w4.heap.size := ⟨_, rfl⟩
                have HX5 : Hid (Blk W5 g0 22 #[.slice V k cv]) := by rw [hW5]; exact HX4.out.alloc _
                have HE5 : Hid (Blk W5 (g0 + 1) 32 #[.nilIface]) := by rw [hW5]; exact HE4.out.alloc _
                have HB5 : Hid (Below g0 w W5) := by rw [hW5]; exact HB4.out.alloc (Nat.le_of_lt HX4.out.lt) _
                have HR5 : Hid (RdAt W5 (g0 + 1 + 1) (rest.drop q)) := by rw [hW5]; exact Blk.alloc (t := 255) HR4.out _
                have HV5 : Hid (Own W5 g0 30 6 V k cv (ocells ys)) := by rw [hW5]; exact HV4.out.alloc _
                have HS5 : Hid (∀ y ∈ ys, Own W5 g0 27 2 y.at_ y.op.seen.length y.cap (dcells y.op.seen)) := by rw [hW5]; exact fun y hy => (HS4.out y hy).alloc _
                have HN5 : Hid (Own W5 g0 27 2 yA o.seen.length yc (dcells o.seen)) := by rw [hW5]; exact HN4.out.alloc _
                have HO5 : Hid (Blk W5 g5 30 (o.cells yA yc)) := by rw [hW5, hg5]; exact Blk.new w4 _ _
                have hg05 : g0 + 1 < g5 := by have := HE4.out.lt; omega
                have x0 := HX5.out.cell 0
                have x1 := HX5.out.frozen 0
                have b0 := HO5.out.cell 0
                have b1 := HO5.out.cell 1
                have b2 := HO5.out.cell 2
                have b3 := HO5.out.cell 3
                have b4 := HO5.out.cell 4
                have b5 := HO5.out.cell 5
                clear HX4 HE4 HB4 HV4 HS4 HN4 HR4
                obtain ⟨⟨d1, d2⟩, o2, o3, o4, o5⟩ := o
                unfold LOp.cells at b0 b1 b2 b3 b4 b5 hW5
                unfold LOp.val
                simp only [List.getElem?_toArray, List.getElem?_cons_zero, List.getElem?_cons_succ] at x0 b0 b1 b2 b3 b4 b5 hW5
                go_upto_region 12 with fail
                rw [← hW5, ← hg5]
                clear hW5 hg5
                have HONE : Hid (OneCells [Value.int .i64 d1, .int .i64 d2, .int .i64 o2, .string o3, .int .i64 o4, .slice yA o5.length yc]) := by
                  show OneCells _
                  intro u hu
                  simp only [List.mem_cons, List.not_mem_nil, or_false] at hu
                  rcases hu with rfl | rfl | rfl | rfl | rfl | rfl <;> rfl
                have HFIT : Hid (Fits (k + 1) 72) := Fits.of_small (by omega) (by decide)
                have hgs : g0 ≤ W5.heap.size := Nat.le_of_lt HX5.out.lt
                have x0a : (W5.alloc (.cells #[.int .i64 d1, .int .i64 d2, .int .i64 o2, .string o3, .int .i64 o4, .slice yA o5.length yc] 30)).cell? ⟨g0, 0, none⟩ = some (.slice V k cv) := by rw [(HX5.out.alloc _).cell]; rfl
                go_wp2_with (at_builtin; go_loud (
                  refine wpList_app _ (.tmp 31) (.tmp 33) rfl rfl elemOu rfl rfl ((HV5.out).alloc _) (Reads.row W5 30 #[.int .i64 d1, .int .i64 d2, .int .i64 o2, .string o3, .int .i64 o4, .slice yA o5.length yc]) HONE.out HFIT.out (by simp; omega) ?_
                  intro V8 cV w8 hO hL hg
                  have HX8 := Lib.hid (hL.blk ((HX5.out).alloc _) (HV5.out.blk_ne HX5.out (by decide)))
                  have HE8 := Lib.hid (hL.blk ((HE5.out).alloc _) (HV5.out.blk_ne HE5.out (by decide)))
                  have HR8 : Hid (RdAt w8 (g0 + 1 + 1) (rest.drop q)) := hL.blk (t := 255) (Blk.alloc (t := 255) (HR5.out) _) (HV5.out.blk_ne (t := 255) HR5.out (by decide))
                  have HB8 : Hid (Below g0 w w8) := ((HB5.out).alloc hgs _).trans (hL.below (by simp; omega) (fun i hi => (HV5.out.lt i hi).1))
                  have HS8 : Hid (∀ y ∈ ys, Own w8 g0 27 2 y.at_ y.op.seen.length y.cap (dcells y.op.seen)) := fun y hy => ((HS5.out y hy).alloc _).only hL ((HS5.out y hy).ne2 HV5.out (by decide))
                  have HN8 : Hid (Own w8 g0 27 2 yA o5.length yc (dcells o5)) := ((HN5.out).alloc _).only hL (HN5.out.ne2 HV5.out (by decide))
                  have HO8 := Lib.hid hO
                  have dC : w8.cell? ⟨g0, 0, none⟩ = some (.slice V k cv) := by { rw [HX8.out.cell]; rfl }
                  have fC := HX8.out.frozen 0
                  clear hO hL hg))
                go_roundw
                case rel =>
                  refine ⟨k + 1, V8, cV, ys ++ [⟨⟨⟨d1, d2⟩, o2, o3, o4, o5⟩, yA, yc⟩], rest.drop q, by omega, by go_num, Lib.hid ⟨Blk.far HR8.out (by simp; omega) _, HB8.out.setCell (Nat.le_refl _) _, HX8.out.set_ 0 _, HE8.out.far (by simp) _, ?_, ?_, ?_⟩⟩
                  · rw [show ocells (ys ++ [⟨⟨⟨d1, d2⟩, o2, o3, o4, o5⟩, yA, yc⟩]) = ocells ys ++ [.int .i64 d1, .int .i64 d2, .int .i64 o2, .string o3, .int .i64 o4, .slice yA o5.length yc] by simp [ocells, OpAt.cells, LOp.cells]]
                    exact HO8.out.only ((Only.refl [g0] _).setCell (.inl (by simp)) _) (fun g hg hm => by simp at hm; subst hm; exact HO8.out.blk_ne HX8.out (by decide) hg)
                  · intro y hy
                    rw [List.mem_append, List.mem_singleton] at hy
                    rcases hy with hy | rfl
                    · exact ⟨(HS8.out y hy).only ((Only.refl [g0] _).setCell (.inl (by simp)) _) (fun g hg hm => by simp at hm; subst hm; exact (HS8.out y hy).blk_ne HX8.out (by decide) hg), (HM.out.seen y hy).2⟩
                    · exact ⟨HN8.out.only ((Only.refl [g0] _).setCell (.inl (by simp)) _) (fun g hg hm => by simp at hm; subst hm; exact HN8.out.blk_ne HX8.out (by decide) hg), HPL.out⟩
                  · rw [← HRN.out, HIS.out, List.map_append]
                    rfl
                case measure => simp [intOf]; omega
        · have k1 : ¬ (k : Int) < (m : Int) := by omega
          have hk : k = m := by omega
          have HIS : Hid (R = if rest = [] then some (ys.map OpAt.op) else none) := by
            show _ = _
            rw [HRN.out, HM.out.is, hk, Nat.sub_self, unpackN]
            by_cases hr : rest = []
            · rw [if_pos hr, if_pos hr]; simp
            · rw [if_neg hr, if_neg hr]; rfl
          have hlen : k = ys.length := by
            have := HM.out.own.len
            rw [ocells_len] at this
            omega
          have x0 := HM.out.res.cell 0
          have x1 := HM.out.res.frozen 0
          have e0 := HM.out.err.cell 0
          have e1 := HM.out.err.frozen 0
          have r0 : wr.cell? ⟨g0 + 1 + 1, 0, none⟩ = some (.string (strOf rest)) := by rw [Blk.cell (t := 255) HM.out.rd]; rfl
          simp only [List.getElem?_toArray, List.getElem?_cons_zero] at x0 e0
          have HLEN := Lib.hid hlen
          by_cases hr : rest = []
          · have HRF : Hid (R = some (ys.map OpAt.op)) := by show _ = _; rw [HIS.out, if_pos hr]
            have hq : (strOf rest).toList.isEmpty = true := by rw [strOf_toList, hr]; rfl
            clear hk hlen hr
            go_wp2_with fail
            rw [HRF.out]
            refine udoor_ok w _ V cv ys g0 (g0 + 1) _ rfl rfl (t := 32) ((HM.out.err.far (by simp) _).set_ 0 _) (by rw [← HLEN.out]; exact (HM.out.res.set_ 0 _).far (by simp) _) ?_ ?_ ?_
            · rw [← HG0.out, ← HLEN.out]
              exact HM.out.own.only (((Only.refl [g0, g0 + 1] _).setCell (.inl (by simp)) _).setCell (.inl (by simp)) _) (fun g hg hm => by
                simp at hm
                rcases hm with rfl | rfl
                · exact HM.out.own.blk_ne HM.out.res (by decide) hg
                · exact HM.out.own.blk_ne HM.out.err (by decide) hg)
            · intro y hy
              rw [← HG0.out]
              exact ⟨(HM.out.seen y hy).1.only (((Only.refl [g0, g0 + 1] _).setCell (.inl (by simp)) _).setCell (.inl (by simp)) _) (fun g hg hm => by
                simp at hm
                rcases hm with rfl | rfl
                · exact (HM.out.seen y hy).1.blk_ne HM.out.res (by decide) hg
                · exact (HM.out.seen y hy).1.blk_ne HM.out.err (by decide) hg), (HM.out.seen y hy).2⟩
            · rw [← HG0.out]
              exact (HM.out.bel.setCell (Nat.le_refl _) _).setCell (by simp) _
          · have HRF : Hid (R = none) := by show _ = _; rw [HIS.out, if_neg hr]
            have hq : (strOf rest).toList.isEmpty = false := by rw [strOf_toList]; simpa using hr
            clear hk hlen hr
            go_wp2_with fail
            rw [HRF.out]
            refine udoor_err w _ g0 (g0 + 1) _ rfl rfl (t := 32) ((HM.out.err.far (by simp) _).set_ 0 _) ((HM.out.res.set_ 0 _).far (by simp) _) (by omega) hgw ?_
            rw [← HG0.out]
            exact (HM.out.bel.setCell (Nat.le_refl _) _).setCell (by simp) _
end Go.Proofs.YthfbjfocmnikaaaGreatDoor
