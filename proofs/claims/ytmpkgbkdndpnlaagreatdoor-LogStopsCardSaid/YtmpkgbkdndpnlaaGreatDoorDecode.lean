/- 2 texts in one: each says ahead of itself what is proved, and its conditions. -/
import Derived.Defers
import Derived.Laws.Pointers
import Derived.Recover
import Derived.Test.YtmpkgbkdndpnlaaGreatDoorOpEnc
import Derived.Test.YtmpkgbkdndpnlaaGreatDoorReadOp
/- guard's two contracts (a frame that panics with wrong{}; one that returns), and the closures' ones. -/
namespace Go.Proofs.YtmpkgbkdndpnlaaGreatDoor
open Go.RowKit
set_option linter.unusedVariables false
def caughtP : List PanicEntry := [{ v := .iface 209 (.agg #[]), recovered := true }]
set_option maxRecDepth 100000 in
theorem guard_caught (g : Nat) (t : TypeId) (v : Value) (w : World) (h : Blk w g t #[v]) :
    CallsD Tryz.prog 110 #[.pointer (some ⟨g, 0, none⟩)] (.panicking wrongP) w fun e u' w' =>
      e = .returned (.tuple #[]) ∧ u' = .panicking caughtP ∧ w' = (w.alloc (.cells #[] 209)).setCell ⟨g, 0, none⟩ (errV 2) := by
  have hta : ∀ (w : World) (t : TypeId), (Instr.typeAssert (.iface 209 (.agg #[])) t 209 true).run Tryz.prog w = .ok (.tuple #[.agg #[], .bool true]) w := fun _ _ => by kernel_rfl
  have c1 : (w.alloc (.cells #[] 209)).cell? ⟨g, 0, none⟩ = some v := by rw [(h.alloc _).cell]; rfl
  have f1 : (w.alloc (.cells #[] 209)).frozen? ⟨g, 0, none⟩ = false := (h.alloc _).frozen 0
  clear h
  refine callsD_of_wpS Tryz.func110 rfl fun c₀ cs hu => ?_
  apply wpS_seq
  apply wpS_region
  simp [wpOpsS, go_sem, recoverD, hu, wrongP, Tryz.ntmps110, Exit.thenS]
  refine wpS_of_wp ?_
  go_wp2
  cases c₀
  simp_all [bodyPostS, results, Tryz.results110, errV, caughtP]
set_option maxRecDepth 100000 in
theorem guard_idle (p : Addr) (w : World) :
    CallsD Tryz.prog 110 #[.pointer (some p)] .returning w fun e u' w' => e = .returned (.tuple #[]) ∧ u' = .returning ∧ w' = w := by
  refine callsD_of_wpS Tryz.func110 rfl fun c₀ cs hu => ?_
  apply wpS_seq
  apply wpS_region
  simp [wpOpsS, go_sem, recoverD, hu, Tryz.ntmps110, Exit.thenS]
  refine wpS_of_wp ?_
  go_wp2
  cases c₀
  simp_all [bodyPostS, results, Tryz.results110]
theorem results_cells2 {fn : Func} {p q : Tmp} {ty tz : TypeId} (h : fn.results = #[.cell p ty, .cell q tz]) (tmps : Array Value) (w : World) (A B : Addr) (va vb : Value)
    (hp : tmps.getD p undef = .pointer (some A)) (hq : tmps.getD q undef = .pointer (some B)) (ha : (loadVar ty A).run Tryz.prog w = .ok va w) (hb : (loadVar tz B).run Tryz.prog w = .ok vb w) :
    (results fn tmps).run Tryz.prog w = .ok (.tuple #[va, vb]) w := by
  have hp' : tmps[p]?.getD undef = .pointer (some A) := by simpa using hp
  have hq' : tmps[q]?.getD undef = .pointer (some B) := by simpa using hq
  simp [results, h, hp', hq', asAddr, ha, hb]
theorem load_err (w : World) (g : Nat) (t : TypeId) (v : Value) (h : Blk w g t #[v]) : (loadVar 25 ⟨g, 0, none⟩).run Tryz.prog w = .ok v w := by
  have c : w.cell? ⟨g, 0, none⟩ = some v := by rw [h.cell]; rfl
  simp [go_sem, loadVar, c]
theorem load_op (w : World) (g : Nat) (v0 v1 v2 v3 v4 v5 : Value) (h : Blk w g 34 #[v0, v1, v2, v3, v4, v5]) : (loadVar 34 ⟨g, 0, none⟩).run Tryz.prog w = .ok (.agg #[v0, v1, v2, v3, v4, v5]) w :=
  run_loadVar_row w g 34 34 _ (0, 0) _ h Tryz.underlying34 rfl (by kernel_rfl)
set_option maxRecDepth 100000 in
theorem dclose_nil (w : World) (g1 g0 : Nat) (t : TypeId) (u : FrameMode) (h : Blk w g1 t #[.nilIface]) :
    CallsD Tryz.prog 109 #[.pointer (some ⟨g1, 0, none⟩), .pointer (some ⟨g0, 0, none⟩)] u w fun e u' w' => u' = u ∧ (e = .returned (.tuple #[]) ∧ w' = w) := by
  have c : w.cell? ⟨g1, 0, none⟩ = some .nilIface := by rw [h.cell]; rfl
  clear h
  go_enter_d Tryz.func109, Tryz.ntmps109
  go_wp2
  go_end0
  exact ⟨rfl, rfl⟩
set_option maxRecDepth 100000 in
theorem dclose_err (w : World) (g1 g0 : Nat) (t : TypeId) (u : FrameMode) (n : Int) (hn : n ≠ 0) (h : Blk w g1 t #[errV n]) (v0 v1 v2 v3 v4 v5 : Value) (h0 : Blk w g0 34 #[v0, v1, v2, v3, v4, v5]) :
    CallsD Tryz.prog 109 #[.pointer (some ⟨g1, 0, none⟩), .pointer (some ⟨g0, 0, none⟩)] u w fun e u' w' => u' = u ∧ (e = .returned (.tuple #[]) ∧
      Blk w' g0 34 #[.int .i64 0, .int .i64 0, .int .i64 0, .string ⟨#[]⟩, .int .i64 0, .slice none 0 0] ∧ Only [g0] w w') := by
  have c : w.cell? ⟨g1, 0, none⟩ = some (.iface 79 (.int .i64 n)) := by rw [h.cell, errV, if_neg hn]; rfl
  have hq := h0.set6 (.int .i64 0) (.int .i64 0) (.int .i64 0) (.string ⟨#[]⟩) (.int .i64 0) (.slice none 0 0)
  have ho := set6_only w g0 (.int .i64 0) (.int .i64 0) (.int .i64 0) (.string ⟨#[]⟩) (.int .i64 0) (.slice none 0 0)
  have x0 : w.cell? ⟨g0, 0, none⟩ = some v0 := h0.cell 0
  have x1 : w.cell? ⟨g0, 1, none⟩ = some v1 := h0.cell 1
  have x2 : w.cell? ⟨g0, 2, none⟩ = some v2 := h0.cell 2
  have x3 : w.cell? ⟨g0, 3, none⟩ = some v3 := h0.cell 3
  have x4 : w.cell? ⟨g0, 4, none⟩ = some v4 := h0.cell 4
  have x5 : w.cell? ⟨g0, 5, none⟩ = some v5 := h0.cell 5
  have y0 := h0.frozen 0
  have y1 := h0.frozen 1
  have y2 := h0.frozen 2
  have y3 := h0.frozen 3
  have y4 := h0.frozen 4
  have y5 := h0.frozen 5
  have HQ := Lib.hid hq
  have HO := Lib.hid ho
  clear h h0 hq ho
  go_enter_d Tryz.func109, Tryz.ntmps109
  go_wp2
  go_end0
  exact ⟨rfl, HQ.out, HO.out⟩
end Go.Proofs.YtmpkgbkdndpnlaaGreatDoor
/- op.Decode, walked: the op that the bytes are, or ErrSyntax. -/
namespace Go.Proofs.YtmpkgbkdndpnlaaGreatDoor
open Go.RowKit
set_option linter.unusedVariables false
theorem rdop_any (w : World) (b : Nat) (l : List UInt8) (h : RdAt w b l) : Calls Tryz.prog 111 #[.pointer (some ⟨b, 0, none⟩)] w (RdOpPost w b (rdOp l)) := by
  match l, h with
  | a :: a2 :: a3 :: a4 :: l, h => exact rdop_long w b a a2 a3 a4 l h
  | [], h => exact rdop_short w b _ h (by simp)
  | [a], h => exact rdop_short w b _ h (by simp)
  | [a, a2], h => exact rdop_short w b _ h (by simp)
  | [a, a2, a3], h => exact rdop_short w b _ h (by simp)
theorem rdOp_place {l : List UInt8} {r : LOp × List UInt8} (h : rdOp l = some r) : r.1.place.size ≤ 255 := by
  unfold rdOp at h
  split at h
  · rename_i a b c d e t
    split at h
    · cases h
    · have he := UInt8.toNat_lt e
      have hp : (strOf (t.take e.toNat)).size ≤ 255 := by rw [strOf_size, List.length_take]; omega
      unfold rdTail at h
      split at h
      · split at h
        · cases h
        · injection h with h; subst h; exact hp
      · split at h
        · split at h
          · cases h
          · rename_i x t2 _
            cases hd : rdDots x.toNat t2 with
            | none => rw [hd] at h; cases h
            | some v => rw [hd] at h; injection h with h; subst h; exact hp
        · injection h with h; subst h; exact hp
  · cases h
def zeroOp : Value := .agg #[.int .i64 0, .int .i64 0, .int .i64 0, .string ⟨#[]⟩, .int .i64 0, .slice none 0 0]
def DecPost (w : World) (r : Option LOp) (e : Ending) (w' : World) : Prop :=
  match r with
  | none => e = .returned (.tuple #[zeroOp, errV 2]) ∧ Below w.heap.size w w'
  | some o => ∃ A c, e = .returned (.tuple #[o.val A c, .nilIface]) ∧ Own w' w.heap.size 31 2 A o.seen.length c (dcells o.seen) ∧ Below w.heap.size w w'
theorem leave_err (w W : World) (g0 g1 : Nat) (tmps : Array Value) (u : FrameMode) (hu : u = .returning) (ht2 : tmps.getD 2 undef = .pointer (some ⟨g0, 0, none⟩)) (ht3 : tmps.getD 3 undef = .pointer (some ⟨g1, 0, none⟩)) {t : TypeId} {v0 v1 v2 v3 v4 v5 : Value}
    (h1 : Blk W g1 t #[errV 2]) (h0 : Blk W g0 34 #[v0, v1, v2, v3, v4, v5]) (hne : g1 ≠ g0) (hg : w.heap.size ≤ g0) (hb : Below w.heap.size w W) :
    Leaves Tryz.prog Tryz.f74 tmps (DecPost w none) [{ target := .fn (.func 109) #[.pointer (some ⟨g1, 0, none⟩), .pointer (some ⟨g0, 0, none⟩)], args := #[] }] u W := by
  subst hu
  refine leaves_cons (f := 109) (args := #[.pointer (some ⟨g1, 0, none⟩), .pointer (some ⟨g0, 0, none⟩)]) (by simp) (by simp [go_sem]) ?_
  refine (dclose_err W g1 g0 t .returning 2 (by decide) h1 v0 v1 v2 v3 v4 v5 h0).mono ?_
  rintro e u' w3 ⟨rfl, rfl, hq, ho⟩
  exact ⟨_, results_cells2 rfl _ _ ⟨g0, 0, none⟩ ⟨g1, 0, none⟩ _ _ ht2 ht3 (load_op _ _ _ _ _ _ _ _ hq) (load_err _ _ _ _ (ho.blk h1 (by simp; exact hne))), rfl, hb.trans (ho.below hb.size (by simpa using hg))⟩
theorem leave_ok (w W : World) (o : LOp) (A : Option Addr) (c : Nat) (g0 g1 : Nat) (tmps : Array Value) (u : FrameMode) (hu : u = .returning) (ht2 : tmps.getD 2 undef = .pointer (some ⟨g0, 0, none⟩)) (ht3 : tmps.getD 3 undef = .pointer (some ⟨g1, 0, none⟩)) {t : TypeId}
    (h1 : Blk W g1 t #[.nilIface]) (h0 : Blk W g0 34 (o.cells A c)) (hown : Own W w.heap.size 31 2 A o.seen.length c (dcells o.seen)) (hb : Below w.heap.size w W) :
    Leaves Tryz.prog Tryz.f74 tmps (DecPost w (some o)) [{ target := .fn (.func 109) #[.pointer (some ⟨g1, 0, none⟩), .pointer (some ⟨g0, 0, none⟩)], args := #[] }] u W := by
  subst hu
  refine leaves_cons (f := 109) (args := #[.pointer (some ⟨g1, 0, none⟩), .pointer (some ⟨g0, 0, none⟩)]) (by simp) (by simp [go_sem]) ?_
  refine (dclose_nil W g1 g0 t .returning h1).mono ?_
  rintro e u' w3 ⟨rfl, rfl, rfl⟩
  exact ⟨_, results_cells2 rfl _ _ ⟨g0, 0, none⟩ ⟨g1, 0, none⟩ _ _ ht2 ht3 (load_op _ _ _ _ _ _ _ _ h0) (load_err _ _ _ _ h1), A, c, rfl, hown, hb⟩
theorem six_then {w W W' : World} {g0 : Nat} {te : TypeId} {ve u0 u1 u2 u3 u4 u5 : Value} (v0 v1 v2 v3 v4 v5 v : Value) (hX : Blk W g0 34 #[u0, u1, u2, u3, u4, u5]) (hE : Blk W (g0 + 1) te #[ve]) (hb : Below g0 w W)
    (hW : W' = (((((((W.setCell ⟨g0, 0, none⟩ v0).setCell ⟨g0, 1, none⟩ v1).setCell ⟨g0, 2, none⟩ v2).setCell ⟨g0, 3, none⟩ v3).setCell ⟨g0, 4, none⟩ v4).setCell ⟨g0, 5, none⟩ v5).setCell ⟨g0 + 1, 0, none⟩ v)) :
    Blk W' (g0 + 1) te #[v] ∧ Blk W' g0 34 #[v0, v1, v2, v3, v4, v5] ∧ Below g0 w W' ∧ Only [g0, g0 + 1] W W' := by
  subst hW
  have ho := set6_only W g0 v0 v1 v2 v3 v4 v5
  have ho2 : Only [g0, g0 + 1] W _ := (ho.mono (S' := [g0, g0 + 1]) (fun i hi => .inl (by simp at hi; simp [hi]))).setCell (p := ⟨g0 + 1, 0, none⟩) (.inl (by simp)) v
  exact ⟨(ho.blk hE (by simp)).set_ 0 v, (hX.set6 v0 v1 v2 v3 v4 v5).far (by simp) v, hb.trans (ho2.below (Nat.le_of_lt hX.lt) (by simp)), ho2⟩
set_option maxRecDepth 100000 in
set_option maxHeartbeats 4000000 in
theorem decode_any (w : World) (b : List UInt8) : Calls Tryz.prog 74 #[.string (strOf b)] w (DecPost w (decOf (strOf b))) := by
  have hmf : ∀ (fn : Fn) (first cap : Array Value) (w : World), (Instr.makeFunc fn first cap).run Tryz.prog w = .ok (.func fn first cap) w := fun _ _ _ _ => rfl
  obtain ⟨W0, hW0⟩ : ∃ W0, W0 = (((w.alloc (.cells #[.int .i64 0, .int .i64 0, .int .i64 0, .string ⟨#[]⟩, .int .i64 0, .slice none 0 0] 34)).alloc (.cells #[.nilIface] 25)).alloc (.cells #[.string (strOf b)] 173)) := ⟨_, rfl⟩
  obtain ⟨g0, hg0⟩ : ∃ g0, g0 = w.heap.size := ⟨_, rfl⟩
  have HX0 : Hid (Blk W0 g0 34 #[.int .i64 0, .int .i64 0, .int .i64 0, .string ⟨#[]⟩, .int .i64 0, .slice none 0 0]) := by rw [hW0, hg0]; exact ((Blk.new w _ _).alloc _).alloc _
  have HE0 : Hid (Blk W0 (g0 + 1) 25 #[.nilIface]) := by
    rw [hW0, hg0]
    have := Blk.new (w.alloc (.cells #[.int .i64 0, .int .i64 0, .int .i64 0, .string ⟨#[]⟩, .int .i64 0, .slice none 0 0] 34)) 25 #[.nilIface]
    simp only [World.size_alloc] at this
    exact this.alloc _
  have HR0 : Hid (RdAt W0 (g0 + 1 + 1) b) := by
    rw [hW0, hg0]
    have := Blk.new ((w.alloc (.cells #[.int .i64 0, .int .i64 0, .int .i64 0, .string ⟨#[]⟩, .int .i64 0, .slice none 0 0] 34)).alloc (.cells #[.nilIface] 25)) 173 #[.string (strOf b)]
    simp only [World.size_alloc] at this
    exact this
  have HB0 : Hid (Below g0 w W0) := by rw [hW0, hg0]; exact (((Below.refl _ _).alloc (Nat.le_refl _) _).alloc (by simp) _).alloc (by simp; omega) _
  have HOP := Lib.hid (fun W l h => rdop_any W (g0 + 1 + 1) l h)
  have HEN := Lib.hid (fun W A c o h hp => encode_any W A c o h hp)
  have HG0 := Lib.hid hg0
  obtain ⟨R, hR⟩ : ∃ R, R = decOf (strOf b) := ⟨_, rfl⟩
  have HRR := Lib.hid hR
  rw [← hR]
  clear hR
  obtain ⟨s, hs⟩ : ∃ s, s = strOf b := ⟨_, rfl⟩
  rw [← hs] at hW0 ⊢
  have HS := Lib.hid hs
  clear hs
  go_enter_defers Tryz.func74, Tryz.ntmps74
  go_wp2_with fail
  rw [← hW0, ← hg0]
  clear hW0 hg0
  cases hrd : rdOp b with
  | none =>
    have HRN : Hid (R = none) := by show _ = _; rw [HRR.out]; unfold decOf; rw [show (strOf b).data.toList = b from rfl, hrd]
    have HC := HOP.out W0 b HR0.out
    rw [hrd] at HC
    refine HC.mono ?_
    rintro e w1 ⟨rfl, ho⟩
    have HE1 := Lib.hid (ho.blk HE0.out (by simp))
    have HX1 := Lib.hid (ho.blk HX0.out (by simp; omega))
    have HB1 : Hid (Below g0 w w1) := HB0.out.trans (ho.below (Nat.le_of_lt HX0.out.lt) (by simp; omega))
    clear ho HC
    go_wp2_with fail
    refine leaves_cons (f := 110) (args := #[.pointer (some ⟨g0 + 1, 0, none⟩)]) (by simp) (by simp [go_sem]) ?_
    refine (guard_caught (g0 + 1) 25 .nilIface w1 HE1.out).mono ?_
    rintro e u' w2 ⟨rfl, rfl, rfl⟩
    rw [HRN.out]
    refine leave_err w _ g0 (g0 + 1) _ _ rfl rfl rfl (t := 25) ((HE1.out.alloc _).set_ 0 (errV 2)) ((HX1.out.alloc _).far (by simp) _) (by omega) (by rw [HG0.out]; exact Nat.le_refl _) ?_
    rw [← HG0.out]
    exact (HB1.out.alloc (Nat.le_of_lt HX1.out.lt) _).setCell (by simp) _
  | some r =>
    obtain ⟨o, t⟩ := r
    have hp := rdOp_place hrd
    have HC := HOP.out W0 b HR0.out
    rw [hrd] at HC
    refine HC.mono ?_
    rintro e w1 ⟨A, c, rfl, hown, hrt⟩
    have HOW := Lib.hid hown
    have HRT := Lib.hid hrt
    have HP := Lib.hid hp
    have HX1 := Lib.hid (hrt.2.blk HX0.out (by simp; omega))
    have HE1 := Lib.hid (hrt.2.blk HE0.out (by simp))
    have x0 := HX1.out.cell 0
    have x1 := HX1.out.cell 1
    have x2 := HX1.out.cell 2
    have x3 := HX1.out.cell 3
    have x4 := HX1.out.cell 4
    have x5 := HX1.out.cell 5
    have y0 := HX1.out.frozen 0
    have y1 := HX1.out.frozen 1
    have y2 := HX1.out.frozen 2
    have y3 := HX1.out.frozen 3
    have y4 := HX1.out.frozen 4
    have y5 := HX1.out.frozen 5
    unfold LOp.val
    have HXS := Lib.hid (HX1.out.set6 (.int .i64 o.dot.who) (.int .i64 o.dot.n) (.int .i64 o.what) (.string o.place) (.int .i64 o.letter) (.slice A o.seen.length c))
    have HOS := Lib.hid (set6_only w1 g0 (.int .i64 o.dot.who) (.int .i64 o.dot.n) (.int .i64 o.what) (.string o.place) (.int .i64 o.letter) (.slice A o.seen.length c))
    have HES := Lib.hid (HOS.out.blk HE1.out (by simp))
    have HVS : Hid (Own _ g0 31 2 A o.seen.length c (dcells o.seen)) := (hown.mono (B' := g0) (Nat.le_of_lt HX0.out.lt)).only HOS.out (fun g hg hm => by simp at hm; subst hm; exact hown.blk_ne HX1.out (by decide) hg)
    have HBS : Hid (Below g0 w _) := (HB0.out.trans (hrt.2.below (Nat.le_of_lt HX0.out.lt) (by simp; omega))).trans (HOS.out.below (Nat.le_of_lt HX1.out.lt) (by simp))
    clear hrt hown hp HC
    go_wp2_with fail
    obtain ⟨W2, hW2⟩ : ∃ W2, W2 = ((((((w1.setCell ⟨g0, 0, none⟩ (.int .i64 o.dot.who)).setCell ⟨g0, 1, none⟩ (.int .i64 o.dot.n)).setCell ⟨g0, 2, none⟩ (.int .i64 o.what)).setCell ⟨g0, 3, none⟩ (.string o.place)).setCell ⟨g0, 4, none⟩ (.int .i64 o.letter)).setCell ⟨g0, 5, none⟩ (.slice A o.seen.length c)) := ⟨_, rfl⟩
    rw [← hW2] at HXS HOS HES HVS HBS ⊢
    clear hW2
    clear x0 x1 x2 x3 x4 x5 y0 y1 y2 y3 y4 y5
    refine (HEN.out W2 A c o HVS.out.reads (by have := HP.out; omega)).mono ?_
    rintro e w3 ⟨rfl, hb3⟩
    have HX3 := Lib.hid (HXS.out.below hb3 HXS.out.lt)
    have HE3 := Lib.hid (HES.out.below hb3 HES.out.lt)
    have HV3 := Lib.hid (HVS.out.below hb3)
    have HB3 : Hid (Below g0 w w3) := HBS.out.trans (hb3.mono (Nat.le_of_lt HXS.out.lt))
    clear hb3
    have x0 := HX3.out.cell 0
    have x1 := HX3.out.cell 1
    have x2 := HX3.out.cell 2
    have x3 := HX3.out.cell 3
    have x4 := HX3.out.cell 4
    have x5 := HX3.out.cell 5
    have y0 := HX3.out.frozen 0
    have y1 := HX3.out.frozen 1
    have y2 := HX3.out.frozen 2
    have y3 := HX3.out.frozen 3
    have y4 := HX3.out.frozen 4
    have y5 := HX3.out.frozen 5
    have e0 := HE3.out.cell 0
    have f0 := HE3.out.frozen 0
    simp only [List.getElem?_toArray, List.getElem?_cons_zero, List.getElem?_cons_succ, Array.setIfInBounds] at x0 x1 x2 x3 x4 x5 e0
    have HST := Lib.hid (fun v W' h => six_then (w := w) (W' := W') (.int .i64 o.dot.who) (.int .i64 o.dot.n) (.int .i64 o.what) (.string o.place) (.int .i64 o.letter) (.slice A o.seen.length c) v HX3.out HE3.out HB3.out h)
    have HDE : Hid (decOf (strOf b) = if opErr o = 0 ∧ opBytes o = b then some o else none) := by
      show _ = _
      unfold decOf
      rw [show (strOf b).data.toList = b from rfl, hrd]
    by_cases he : opErr o = 0
    · have her : encRes o = strOf (opBytes o) := by rw [encRes, if_pos he]
      by_cases hq : opBytes o = b
      · have HRO : Hid (R = some o) := by show _ = _; rw [HRR.out, HDE.out, if_pos ⟨he, hq⟩]
        have hne : ((encRes o).toList == s.toList) = true := by rw [HS.out, her, hq]; exact BEq.rfl
        rw [show errV (opErr o) = .nilIface by rw [he]; rfl]
        clear he hq her
        go_wp2_with fail
        rw [HRO.out]
        refine leaves_cons (f := 110) (args := #[.pointer (some ⟨g0 + 1, 0, none⟩)]) (by simp) (by simp [go_sem]) ?_
        refine (guard_idle ⟨g0 + 1, 0, none⟩ _).mono ?_
        rintro e u' w4 ⟨rfl, rfl, rfl⟩
        obtain ⟨k1, k2, k3, k4⟩ := HST.out .nilIface _ rfl
        refine leave_ok w _ o A c g0 (g0 + 1) _ _ rfl rfl rfl (t := 25) k1 k2 ?_ ?_
        · rw [← HG0.out]
          exact HV3.out.only k4 (fun g hg hm => by
            simp at hm
            rcases hm with rfl | rfl
            · exact HV3.out.blk_ne HX3.out (by decide) hg
            · exact HV3.out.blk_ne HE3.out (by decide) hg)
        · rw [← HG0.out]; exact k3
      · have HRO : Hid (R = none) := by show _ = _; rw [HRR.out, HDE.out, if_neg (fun h => hq h.2)]
        have hne : ((encRes o).toList == s.toList) = false := by rw [HS.out, her, strOf_toList, strOf_toList]; simpa using hq
        rw [show errV (opErr o) = .nilIface by rw [he]; rfl]
        clear he hq her
        go_wp2_with fail
        rw [HRO.out]
        refine leaves_cons (f := 110) (args := #[.pointer (some ⟨g0 + 1, 0, none⟩)]) (by simp) (by simp [go_sem]) ?_
        refine (guard_idle ⟨g0 + 1, 0, none⟩ _).mono ?_
        rintro e u' w4 ⟨rfl, rfl, rfl⟩
        obtain ⟨k1, k2, k3, k4⟩ := HST.out (errV 2) _ rfl
        refine leave_err w _ g0 (g0 + 1) _ _ rfl rfl rfl (t := 25) k1 k2 (by omega) (by rw [HG0.out]; exact Nat.le_refl _) ?_
        rw [← HG0.out]; exact k3
    · have HRO : Hid (R = none) := by show _ = _; rw [HRR.out, HDE.out, if_neg (fun h => he h.1)]
      rw [show errV (opErr o) = .iface 79 (.int .i64 (opErr o)) by rw [errV, if_neg he]]
      clear he
      go_wp2_with fail
      rw [HRO.out]
      refine leaves_cons (f := 110) (args := #[.pointer (some ⟨g0 + 1, 0, none⟩)]) (by simp) (by simp [go_sem]) ?_
      refine (guard_idle ⟨g0 + 1, 0, none⟩ _).mono ?_
      rintro e u' w4 ⟨rfl, rfl, rfl⟩
      obtain ⟨k1, k2, k3, k4⟩ := HST.out (errV 2) _ rfl
      refine leave_err w _ g0 (g0 + 1) _ _ rfl rfl rfl (t := 25) k1 k2 (by omega) (by rw [HG0.out]; exact Nat.le_refl _) ?_
      rw [← HG0.out]; exact k3
end Go.Proofs.YtmpkgbkdndpnlaaGreatDoor
