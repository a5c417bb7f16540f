/- 6 texts in one: each says ahead of itself what is proved, and its conditions. -/
import Derived.Deep.DeepCutAuto
import Derived.Deep.LoopGhost
import Derived.Deep.RegionHeld3
import Derived.Test.YtgkfmpkankjkdaaCacheSpec
import Derived.Test.YtgkfmpkankjkdaaPlaceCheck
import Derived.Test.YtgkfmpkankjkdaaPlaceSpec
import Derived.Test.YtgkfmpkankjkdaaStrs
/- (*cache.Cache).off, on, walked. Conditions: the numbers are small. -/
namespace Go.Proofs.Ytgkfmpkankjkdaa
open Go.RowKit
set_option linter.unusedVariables false
theorem keyStr : KeyOk Try.prog 9 Value.string := strKey Try.underlying9
theorem zero_text (w : World) : (zeroValue 9).run Try.prog w = .ok (.string ⟨#[]⟩) w := by kernel_rfl
theorem CacheIs.look {w : World} {B : Nat} {S : List Nat} {b : Nat} {bud : Int} {m : List Kept} {r : Nat} {A : Option Addr} {cap : Nat} {kvs : List Kept} (h : CacheIs w B S b bud m r A cap kvs) (p : ByteArray) :
    (Instr.lookup 69 (.map (some r)) (.string p) false).run Try.prog w = .ok (.string (valK p m)) w := by
  have := lookup_run keyStr Try.underlying69 zero_text h.map p
  rw [h.same] at this
  unfold valK
  cases hg : get p m with
  | none => rw [hg] at this; exact this
  | some v => rw [hg] at this; exact this
theorem CacheIs.look2 {w : World} {B : Nat} {S : List Nat} {b : Nat} {bud : Int} {m : List Kept} {r : Nat} {A : Option Addr} {cap : Nat} {kvs : List Kept} (h : CacheIs w B S b bud m r A cap kvs) (p : ByteArray) :
    (Instr.lookup 69 (.map (some r)) (.string p) true).run Try.prog w = .ok (.tuple #[.string (valK p m), .bool (get p m).isSome]) w := by
  have := lookup_ok_run keyStr Try.underlying69 zero_text h.map p
  rw [h.same] at this
  unfold valK
  cases hg : get p m with
  | none => rw [hg] at this; exact this
  | some v => rw [hg] at this; exact this
theorem CacheIs.drew {w : World} {B : Nat} {S : List Nat} {b : Nat} {bud : Int} {m : List Kept} {r : Nat} {A : Option Addr} {cap : Nat} {kvs : List Kept} (h : CacheIs w B S b bud m r A cap kvs) : CacheIs w.drew B S b bud m r A cap kvs := h.only (T := []) ((Only.refl [] w).drew) (by simp)
def COffPost (w : World) (B : Nat) (S : List Nat) (b : Nat) (bud : Int) (m : List Kept) (e : Ending) (w' : World) : Prop := e = .returned (.tuple #[]) ∧ CacheTo w B S b bud m w'
set_option maxRecDepth 100000 in
set_option maxHeartbeats 8000000 in
theorem off_any (w : World) (B : Nat) (S : List Nat) (b : Nat) (bud : Int) (m : List Kept) (r : Nat) (A : Option Addr) (cap : Nat) (kvs : List Kept) (h : CacheIs w B S b bud m r A cap kvs) (hs : sumK m ≤ 1000000) (hl : m.length ≤ 100000) (p : ByteArray) :
    Calls Try.prog 32 #[.pointer (some ⟨b, 0, none⟩), .string p] w (COffPost w B S b bud (offK p m)) := by
  obtain ⟨WX, hWX⟩ : ∃ WX, WX = w.alloc (.cells #[.string p] 9) := ⟨_, rfl⟩
  have hbX : Below w.heap.size w WX := by rw [hWX]; exact (Below.refl _ _).alloc (Nat.le_refl _) _
  have hbk : Blk WX w.heap.size 9 #[.string p] := by rw [hWX]; exact Blk.new w _ _
  have HX := Lib.hid (h.below hbX)
  have hb1 := (h.own b h.subb).2
  have hr1 := (h.own r h.subr).2
  have hbs : w.heap.size ∉ S := fun hm => by have := (h.own _ hm).2; omega
  -- the number is lowered
  obtain ⟨W2, hW2⟩ : ∃ W2, W2 = (WX.setCell ⟨b, 1, none⟩ (.int .i64 (sumK m - (valK p m).size))).drew := ⟨_, rfl⟩
  have hob : Only [b] WX W2 := by rw [hW2]; exact ((Only.refl [b] WX).setCell (p := ⟨b, 1, none⟩) (.inl (by simp)) _).drew
  have hrb : r ≠ b := HX.out.map.not_blk HX.out.blk
  have hmap2 : MapAt W2 r Value.string Value.string kvs := HX.out.map.only hob (by simpa using hrb)
  have hblk2 : Blk W2 b 72 #[.int .i64 bud, .int .i64 (sumK m - (valK p m).size), .map (some r), .slice A m.length cap] := by
    rw [hW2]
    exact HX.out.blk.set_ 1 _
  have hord2 : Own W2 B 9 1 A m.length cap (strs (m.map Prod.fst)) := HX.out.ord.only hob (fun g hg hm => HX.out.ord.blk_ne HX.out.blk (by decide) (by simp at hm; exact hm ▸ hg))
  have hbox2 : Blk W2 w.heap.size 9 #[.string p] := hob.blk hbk (by simp; omega)
  -- the text is deleted
  obtain ⟨W3, hdel, hmap3, hod⟩ := delete_run (t2 := 9) keyStr Try.underlying69 (show MapAt W2.drew r Value.string Value.string kvs from hmap2.only ((Only.refl [] W2).drew) (by simp)) p
  have hd0 := hdel 0
  have ho23 : Only [r] W2 W3 := ((Only.refl [r] W2).drew).trans hod
  have hblk3 := ho23.blk hblk2 (by simpa using fun e => hrb e.symm)
  have hra : r ∉ ob A := hmap2.not_own hord2
  have hord3 : Own W3 B 9 1 A m.length cap (strs (m.map Prod.fst)) := hord2.only ho23 (fun g hg hm => hra (by simp at hm; exact hm ▸ hg))
  have hbox3 := ho23.blk hbox2 (by simp; omega)
  -- the place too
  have hl1 : (m.map Prod.fst).length = m.length := by simp
  have HD := Lib.hid (StrDel.del_any W3 B p w.heap.size ⟨hbox3.lt, hbox3.cell 0⟩ A cap (m.map Prod.fst) (by rw [hl1]; exact hord3) (fun g hg e => hbs (e ▸ h.suba g hg)) (by rw [hl1]; exact hl))
  rw [hl1] at HD
  unfold StrDel.DelPost at HD
  rw [← offK_keys] at HD
  have hl2 : ((offK p m).map Prod.fst).length = (offK p m).length := by simp
  rw [hl2] at HD
  have HFIN : Hid (∀ (w4 : World) (A' : Option Addr) (c : Nat), Own w4 B 9 1 A' (offK p m).length c (strs ((offK p m).map Prod.fst)) → Only (ob A) W3 w4 → (∀ g ∈ ob A', g ∈ ob A) → CacheTo w B S b bud (offK p m) (w4.setCell ⟨b, 3, none⟩ (.slice A' (offK p m).length c))) := fun w4 A' c hO ho hsub => by
    have hba : b ∉ ob A := fun hm => hord3.blk_ne hblk3 (by decide) hm
    have hblk4 := (ho.blk hblk3 hba).set_ 3 (.slice A' (offK p m).length c)
    have ho45 : Only [b] w4 (w4.setCell ⟨b, 3, none⟩ (.slice A' (offK p m).length c)) := (Only.refl [b] w4).setCell (p := ⟨b, 3, none⟩) (.inl (by simp)) _
    have hall : Only S w (w4.setCell ⟨b, 3, none⟩ (.slice A' (offK p m).length c)) :=
      (((((Only.of_below hbX).trans (hob.mono (fun i hi => by simp at hi; subst hi; exact .inl h.subb))).trans (ho23.mono (fun i hi => by simp at hi; subst hi; exact .inl h.subr))).trans (ho.mono (fun i hi => .inl (h.suba i hi)))).trans (ho45.mono (fun i hi => by simp at hi; subst hi; exact .inl h.subb)))
    refine ⟨S, r, A', c, delK p kvs, ⟨?_, ?_, ?_, h.keys.del, fun q => ?_, h.nodup.off, fun g hg => h.suba g (hsub g hg), h.subb, h.subr, fun g hg => ⟨(h.own g hg).1, Nat.lt_of_lt_of_le (h.own g hg).2 hall.size⟩⟩, hall, fun g hg => .inl hg⟩
    · rw [sumK_off h.nodup]
      exact hblk4
    · exact hO.only ho45 (fun g hg hm => by simp at hm; exact hba (hm ▸ hsub g hg))
    · exact (hmap3.only ho hra).only ho45 (by simpa using hrb)
    · rw [get_del h.keys, get_off, h.same]
  -- cells
  have c1 : WX.cell? ⟨b, 1, none⟩ = some (.int .i64 (sumK m)) := HX.out.blk.cell 1
  have c2 : WX.cell? ⟨b, 2, none⟩ = some (.map (some r)) := HX.out.blk.cell 2
  have cb : WX.cell? ⟨w.heap.size, 0, none⟩ = some (.string p) := hbk.cell 0
  have f1 := HX.out.blk.frozen 1
  have hlk := HX.out.drew.look p
  have e2 : W2.cell? ⟨b, 2, none⟩ = some (.map (some r)) := hblk2.cell 2
  have eb : W2.cell? ⟨w.heap.size, 0, none⟩ = some (.string p) := hbox2.cell 0
  have g3 : W3.cell? ⟨b, 3, none⟩ = some (.slice A m.length cap) := hblk3.cell 3
  have HG := Lib.hid hblk3
  have HOA : Hid (∀ w4, Only (ob A) W3 w4 → Blk w4 b 72 #[.int .i64 bud, .int .i64 (sumK m - (valK p m).size), .map (some r), .slice A m.length cap]) := fun w4 ho => ho.blk hblk3 (fun hm => hord3.blk_ne hblk3 (by decide) hm)
  have hvl := val_le (p := p) (m := m)
  have hnn := sumK_nonneg m
  have q1 : IntKind.i64.wrap (sumK m - (valK p m).size) = sumK m - (valK p m).size := IntWalk.i64_in _ (by omega)
  have hmf : ∀ (fn : Fn) (first cap : Array Value) (w : World), (Instr.makeFunc fn first cap).run Try.prog w = .ok (.func fn first cap) w := fun _ _ _ _ => rfl
  clear hdel hmap3 hod ho23 hblk3 hra hord3 hbox3 hmap2 hblk2 hord2 hbox2 hob hbs hbk hbX h HX
  generalize valK p m = v at *
  generalize sumK m = sm at *
  generalize offK p m = m' at *
  go_enter Try.func32, Try.ntmps32
  go_wp2_with fail
  rw [← hWX]
  clear hWX
  go_region
  go_wp2_with fail
  rw [← hW2]
  clear hW2 c1 c2 cb f1 hlk
  go_region
  clear hd0 e2 eb
  go_wp2_with fail
  refine HD.out.mono ?_
  rintro e w4 ⟨A', c', rfl, hO, ho, hsub⟩
  have HB4 := Lib.hid (HOA.out w4 ho)
  have HF := Lib.hid (HFIN.out w4 A' c' hO ho hsub)
  have k3 : w4.cell? ⟨b, 3, none⟩ = some (.slice A m.length cap) := HB4.out.cell 3
  have f3 := HB4.out.frozen 3
  clear hO ho hsub g3
  go_wp2_with fail
  first | go_end0 | (refine bodyPost_ret (results_none rfl _ _ _) rfl ?_)
  exact ⟨rfl, HF.out⟩
theorem elemS_ : Elem Try.prog 70 9 1 16 := Elem.mk_ (z := .string ⟨#[]⟩) Try.underlying70 (by kernel_rfl) rfl (by decide)
set_option maxRecDepth 100000 in
set_option maxHeartbeats 8000000 in
theorem on_any (w : World) (B : Nat) (S : List Nat) (b : Nat) (bud : Int) (m : List Kept) (r : Nat) (A : Option Addr) (cap : Nat) (kvs : List Kept) (h : CacheIs w B S b bud m r A cap kvs) (hs : sumK m ≤ 1000000) (hl : m.length ≤ 90000) (p t : ByteArray) (ht : t.size ≤ 1000000) :
    Calls Try.prog 30 #[.pointer (some ⟨b, 0, none⟩), .string p, .string t] w (COffPost w B S b bud (onK p t m)) := by
  have HO := Lib.hid (off_any w B S b bud m r A cap kvs h hs (by omega) p)
  have hso := sumK_off (p := p) h.nodup
  have hvl := val_le (p := p) (m := m)
  have hnn := sumK_nonneg (offK p m)
  have hle : (offK p m).length ≤ 90000 := by have := off_len p m; omega
  have HND := Lib.hid h.nodup
  have hson := sumK_on (p := p) (t := t) h.nodup
  have HSON : Hid (sumK (onK p t m) = sumK (offK p m) + t.size) := by show _ = _; rw [hson, hso]
  have hsm : sumK (offK p m) ≤ 1000000 := by omega
  have HON : Hid (onK p t m = offK p m ++ [(p, t)]) := rfl
  have HGO := Lib.hid (fun q => get_on (p := p) (t := t) (q := q) (m := m))
  have HGF := Lib.hid (fun q => get_off (p := p) (q := q) (m := m))
  clear hso hson h hvl
  go_enter Try.func30, Try.ntmps30
  go_wp2_with fail
  refine HO.out.mono ?_
  rintro e w1 ⟨rfl, S1, r1, A1, cap1, kvs1, hc, ho1, hs1⟩
  obtain ⟨w2, hu, hmap2, hou⟩ := update_run keyStr Try.underlying69 hc.map p t
  have hrb : r1 ≠ b := hc.map.not_blk hc.blk
  have hra : r1 ∉ ob A1 := hc.map.not_own hc.ord
  have hba : b ∉ ob A1 := fun hm => hc.ord.blk_ne hc.blk (by decide) hm
  have hblk2 := hou.blk hc.blk (by simpa using fun e => hrb e.symm)
  have hord2 : Own w2 B 9 1 A1 (offK p m).length cap1 (strs ((offK p m).map Prod.fst)) := hc.ord.only hou (fun g hg hm => hra (by simp at hm; exact hm ▸ hg))
  obtain ⟨W3, hW3⟩ : ∃ W3, W3 = w2.setCell ⟨b, 1, none⟩ (.int .i64 (sumK (offK p m) + t.size)) := ⟨_, rfl⟩
  have ho3 : Only [b] w2 W3 := by rw [hW3]; exact (Only.refl [b] w2).setCell (p := ⟨b, 1, none⟩) (.inl (by simp)) _
  have hblk3 : Blk W3 b 72 #[.int .i64 bud, .int .i64 (sumK (offK p m) + t.size), .map (some r1), .slice A1 (offK p m).length cap1] := by rw [hW3]; exact hblk2.set_ 1 _
  have hord3 := hord2.only ho3 (fun g hg hm => by simp at hm; exact hba (hm ▸ hg))
  have hmap3 := hmap2.only ho3 (by simpa using hrb)
  have hB2 : B ≤ w2.heap.size := by
    have h1 := (hc.own b hc.subb); have h2 := hou.size; omega
  have hB3 : B ≤ W3.heap.size := by
    have h1 := (hc.own b hc.subb); have h2 := hou.size; have h3 := ho3.size; omega
  have HROW := Lib.hid hord3
  have HSRC : Hid (∀ (W : World) (N : Nat), W.heap.size = N → Reads (W.alloc (.cells #[.string p] 9)) (N + 1) 1 (some ⟨N, 0, none⟩) 1 (strs [p])) := fun W N hN => by subst hN; exact Reads.row W 9 #[.string p]
  have HON1 := Lib.hid (oneCells_strs [p])
  have hF : Fits ((offK p m).length + 1) 16 := Fits.of_small (by omega) (by decide)
  have HFIN : Hid (∀ (w4 : World) (o : Obj) (A' : Option Addr) (c : Nat), Own w4 B 9 1 A' ((offK p m).length + 1) c (strs ((offK p m).map Prod.fst) ++ strs [p]) → Only (ob A1) (W3.alloc o) w4 → (∀ g ∈ ob A', g ∈ ob A1 ∨ g = (W3.alloc o).heap.size) → CacheTo w B S b bud (onK p t m) (w4.setCell ⟨b, 3, none⟩ (.slice A' ((offK p m).length + 1) c))) := fun w4 o A' c hO ho hsub => by
    have ho3a : Only [b] w2 (W3.alloc o) := ho3.alloc o
    have hoa : Only [] W3 (W3.alloc o) := (Only.refl [] W3).alloc o
    have hblk4 := (ho.blk (hoa.blk hblk3 (by simp)) hba).set_ 3 (.slice A' ((offK p m).length + 1) c)
    have ho45 : Only [b] w4 (w4.setCell ⟨b, 3, none⟩ (.slice A' ((offK p m).length + 1) c)) := (Only.refl [b] w4).setCell (p := ⟨b, 3, none⟩) (.inl (by simp)) _
    have hall : Only S1 w1 (w4.setCell ⟨b, 3, none⟩ (.slice A' ((offK p m).length + 1) c)) :=
      (((hou.mono (fun i hi => by simp at hi; subst hi; exact .inl hc.subr)).trans (ho3a.mono (fun i hi => by simp at hi; subst hi; exact .inl hc.subb))).trans (ho.mono (fun i hi => .inl (hc.suba i hi)))).trans (ho45.mono (fun i hi => by simp at hi; subst hi; exact .inl hc.subb))
    have hz1 := hou.size
    have hz2 := ho3.size
    have hz3 := ho.size
    have hz4 : W3.heap.size < (W3.alloc o).heap.size := by simp
    have hfin : CacheIs (w4.setCell ⟨b, 3, none⟩ (.slice A' ((offK p m).length + 1) c)) B (ob A' ++ S1) b bud (onK p t m) r1 A' c (ins p t kvs1) := by
      have hlen : (onK p t m).length = (offK p m).length + 1 := by rw [HON.out]; simp
      refine ⟨?_, ?_, ?_, hc.keys.ins, fun q => ?_, HND.out.on, fun g hg => by simp [hg], by simp [hc.subb], by simp [hc.subr], fun g hg => ?_⟩
      · rw [HSON.out, hlen]
        exact hblk4
      · rw [hlen, HON.out, List.map_append]
        unfold strs at hO ⊢
        rw [List.map_append]
        exact hO.only ho45 (fun g hg hm => by
          simp at hm
          rcases hsub g hg with h1 | h1
          · exact hba (hm ▸ h1)
          · have := (hc.own b hc.subb).2; omega)
      · exact ((hmap3.only hoa (by simp)).only ho hra).only ho45 (by simpa using hrb)
      · rw [get_ins, HGO.out, hc.same]
        by_cases hq : q = p
        · rw [if_pos hq, if_pos hq]
        · rw [if_neg hq, if_neg hq, HGF.out, if_neg hq]
      · rcases List.mem_append.1 hg with hg | hg
        · have h1 := hO.lt g hg
          exact ⟨h1.1, Nat.lt_of_lt_of_le h1.2 ho45.size⟩
        · exact ⟨(hc.own g hg).1, Nat.lt_of_lt_of_le (hc.own g hg).2 hall.size⟩
    refine CacheTo.back ho1 hs1 ⟨_, r1, A', c, _, hfin, hall, fun g hg => ?_⟩
    rcases List.mem_append.1 hg with hg | hg
    · rcases hsub g hg with h1 | h1
      · exact .inl (hc.suba g h1)
      · exact .inr (by omega)
    · exact .inl hg
  have c2 : w1.cell? ⟨b, 2, none⟩ = some (.map (some r1)) := hc.blk.cell 2
  have d1 : w2.cell? ⟨b, 1, none⟩ = some (.int .i64 (sumK (offK p m))) := hblk2.cell 1
  have f1 := hblk2.frozen 1
  have d3 : w2.cell? ⟨b, 3, none⟩ = some (.slice A1 (offK p m).length cap1) := hblk2.cell 3
  have e3 : W3.cell? ⟨b, 3, none⟩ = some (.slice A1 (offK p m).length cap1) := hblk3.cell 3
  have HB4 : Hid (∀ o w4, Only (ob A1) (W3.alloc o) w4 → Blk w4 b 72 #[.int .i64 bud, .int .i64 (sumK (offK p m) + t.size), .map (some r1), .slice A1 (offK p m).length cap1]) := fun o w4 ho => ho.blk (((Only.refl [] W3).alloc o).blk hblk3 (by simp)) hba
  have q1 : IntKind.i64.wrap (sumK (offK p m) + t.size) = sumK (offK p m) + t.size := IntWalk.i64_in _ (by omega)
  have hbW3 : b < W3.heap.size := hblk3.lt
  clear hc ho1 hs1 hmap2 hou hrb hra hba hblk2 hord2 ho3 hblk3 hord3 hmap3 HO HSON HON HGO HGF HND
  generalize hL : (offK p m).length = n at *
  generalize sumK (offK p m) = sm at *
  generalize strs ((offK p m).map Prod.fst) = ss at *
  subst hW3
  clear e3
  go_wp2_with (first
    | (at_builtin; go_loud (refine wpList_app _ (.tmp 28) (.tmp 30) rfl rfl elemS_ rfl rfl (HROW.out.alloc _) (HSRC.out _ _ (by simp)) HON1.out hF (by simp; omega) ?_; intro V2 cv2 w4 HO4 HL4 HX4; have HF4 := Lib.hid (HFIN.out w4 _ V2 cv2 HO4 HL4 HX4); have HBX := Lib.hid (HB4.out _ w4 HL4); have k3 : w4.cell? ⟨b, 3, none⟩ = some (.slice A1 n cap1) := HBX.out.cell 3; have f3 := HBX.out.frozen 3; clear HO4 HL4 HX4)))
  first | go_end0 | (refine bodyPost_ret (results_none rfl _ _ _) rfl ?_)
  exact ⟨rfl, HF4.out⟩
end Go.Proofs.Ytgkfmpkankjkdaa
/- cache.New, Load, Get, Places, Used, walked. Conditions: the numbers are small. -/
namespace Go.Proofs.Ytgkfmpkankjkdaa
open Go.RowKit
set_option linter.unusedVariables false
def budE (bud : Int) : Int := if bud < 1 ∨ 10000 < bud then 1 else 0
def CNewPost (w : World) (bud : Int) (e : Ending) (w' : World) : Prop := (budE bud ≠ 0 ∧ e = .returned (.tuple #[.pointer none, errV 1]) ∧ w' = w) ∨
    (budE bud = 0 ∧ ∃ b S r A cap kvs, e = .returned (.tuple #[.pointer (some ⟨b, 0, none⟩), .nilIface]) ∧ CacheIs w' w.heap.size S b bud [] r A cap kvs ∧ Below w.heap.size w w')
def CGetPost (w : World) (B : Nat) (S : List Nat) (b : Nat) (bud : Int) (m : List Kept) (p : ByteArray) (e : Ending) (w' : World) : Prop :=
  ((get p m).isSome = true ∧ e = .returned (.tuple #[.string (valK p m), .nilIface]) ∧ CacheTo w B S b bud (onK p (valK p m) m) w') ∨ ((get p m).isSome = false ∧ e = .returned (.tuple #[.string ⟨#[]⟩, errV 5]) ∧ w' = w)
set_option maxRecDepth 100000 in
theorem cnew_any (w : World) (bud : Int) : Calls Try.prog 7 #[.int .i64 bud] w (CNewPost w bud) := by
  have hmm : ∀ t w, (Instr.makeMap t none).run Try.prog w = .ok (.map (some w.heap.size)) (w.alloc (.map #[] 0)) := fun _ _ => rfl
  have HE1 := errV_ne (show (1 : Int) ≠ 0 by decide)
  have HIS : Hid (CacheIs ((w.alloc (.map #[] 0)).alloc (.cells #[.int .i64 bud, .int .i64 0, .map (some w.heap.size), .slice none 0 0] 72)) w.heap.size [w.heap.size, w.heap.size + 1] (w.heap.size + 1) bud [] w.heap.size none 0 []) := by
    have hz : (w.alloc (.map #[] 0)).heap.size = w.heap.size + 1 := by simp
    refine ⟨?_, Own.nil _ _ _ _, ?_, by simp [Keys], fun p => rfl, by simp [Keys], by simp [ob], by simp, by simp, fun g hg => ?_⟩
    · have := Blk.new (w.alloc (.map #[] 0)) 72 #[.int .i64 bud, .int .i64 0, .map (some w.heap.size), .slice none 0 0]
      rw [hz] at this
      exact this
    · refine ⟨#[], 0, ?_, rfl⟩
      exact (Below.heap_alloc _ _ w.heap.size (by rw [hz]; omega)).trans (heap_alloc_new w _)
    · simp only [List.mem_cons, List.not_mem_nil, or_false] at hg
      simp
      omega
  have HB : Hid (Below w.heap.size w ((w.alloc (.map #[] 0)).alloc (.cells #[.int .i64 bud, .int .i64 0, .map (some w.heap.size), .slice none 0 0] 72))) := ((Below.refl _ _).alloc (Nat.le_refl _) _).alloc (by simp) _
  by_cases h1 : bud < 1
  · have HF : Hid (budE bud ≠ 0) := by show _ ≠ _; unfold budE; rw [if_pos (.inl h1)]; decide
    go_enter Try.func7, Try.ntmps7
    go_wp2_with fail
    go_ret2
    exact .inl ⟨HF.out, rfl, rfl⟩
  · by_cases h2 : 10000 < bud
    · have HF : Hid (budE bud ≠ 0) := by show _ ≠ _; unfold budE; rw [if_pos (.inr h2)]; decide
      have h3 : decide (bud > 10000) = true := decide_eq_true h2
      go_enter Try.func7, Try.ntmps7
      go_wp2_with fail
      go_ret2
      exact .inl ⟨HF.out, rfl, rfl⟩
    · have HF : Hid (budE bud = 0) := by show _ = _; unfold budE; rw [if_neg (by omega)]
      go_enter Try.func7, Try.ntmps7
      go_wp2_with fail
      go_ret2
      exact .inr ⟨HF.out, w.heap.size + 1, [w.heap.size, w.heap.size + 1], w.heap.size, none, 0, [], rfl, HIS.out, HB.out⟩
section
variable (w : World) (B : Nat) (S : List Nat) (b : Nat) (bud : Int) (m : List Kept) (r : Nat) (A : Option Addr) (cap : Nat) (kvs : List Kept) (h : CacheIs w B S b bud m r A cap kvs)
include h
set_option maxRecDepth 100000 in
theorem cused_any : Calls Try.prog 16 #[.pointer (some ⟨b, 0, none⟩)] w (fun e w' => e = .returned (.int .i64 (sumK m)) ∧ w' = w) := by
  have c1 : w.cell? ⟨b, 1, none⟩ = some (.int .i64 (sumK m)) := h.blk.cell 1
  clear h
  go_enter Try.func16, Try.ntmps16
  go_wp2_with fail
  go_ret
  exact ⟨rfl, rfl⟩
set_option maxRecDepth 100000 in
set_option maxHeartbeats 4000000 in
theorem cget_any (hs : sumK m ≤ 1000000) (hl : m.length ≤ 90000) (p : ByteArray) :
    Calls Try.prog 13 #[.pointer (some ⟨b, 0, none⟩), .string p] w (CGetPost w B S b bud m p) := by
  have c2 : w.cell? ⟨b, 2, none⟩ = some (.map (some r)) := h.blk.cell 2
  have hlk := h.look2 p
  have HE5 := errV_ne (show (5 : Int) ≠ 0 by decide)
  have hvl := val_le (p := p) (m := m)
  have HON := Lib.hid (on_any w B S b bud m r A cap kvs h hs hl p (valK p m) (by omega))
  have hnot : ∀ (x : Bool) (w : World), (Op.unary .not (.bool x)).run Try.prog w = .ok (.bool (!x)) w := fun _ _ => rfl
  clear h hvl
  cases hg : (get p m).isSome with
  | true =>
    rw [hg] at hlk
    have HG := Lib.hid hg
    clear hg
    go_enter Try.func13, Try.ntmps13
    go_wp2_with fail
    refine HON.out.mono ?_
    rintro e w1 ⟨rfl, ht⟩
    have HT := Lib.hid ht
    clear ht
    go_wp2_with fail
    go_ret2
    exact .inl ⟨HG.out, rfl, HT.out⟩
  | false =>
    rw [hg] at hlk
    have HG := Lib.hid hg
    clear hg
    go_enter Try.func13, Try.ntmps13
    go_wp2_with fail
    go_ret2
    exact .inr ⟨HG.out, rfl, rfl⟩
end
end Go.Proofs.Ytgkfmpkankjkdaa
/- The end of a line as plain data: what the program's package link does, and how it lies in memory. Conditions: none. -/
namespace Go.Proofs.Ytgkfmpkankjkdaa
open Go.RowKit

structure LEnd where
  win : Nat
  wait : Nat
  data : List ByteArray
  acked : Nat
  said : Nat
  ticks : Nat
  got : List ByteArray
  owes : Bool

structure LFrame where
  ack : Bool
  seq : Int
  data : ByteArray

def LFrame.cells (f : LFrame) : List Value := [.bool f.ack, .int .i64 f.seq, .string f.data]
def fcells (l : List LFrame) : List Value := l.flatMap LFrame.cells
theorem fcells_append (a b : List LFrame) : fcells (a ++ b) = fcells a ++ fcells b := by simp [fcells]
theorem fcells_len (l : List LFrame) : (fcells l).length = l.length * 3 := by
  induction l with
  | nil => rfl
  | cons f l ih => simp [fcells, LFrame.cells] at ih ⊢; omega
theorem oneCells_f (l : List LFrame) : OneCells (fcells l) := by
  intro u hu
  obtain ⟨f, _, h⟩ := List.mem_flatMap.1 hu
  simp only [LFrame.cells, List.mem_cons, List.not_mem_nil, or_false] at h
  rcases h with rfl | rfl | rfl <;> rfl

def LEnd.new (win wait : Nat) : LEnd := ⟨win, wait, [], 0, 0, 0, [], false⟩
def LEnd.send (st : LEnd) (s : ByteArray) : LEnd := { st with data := st.data ++ [s] }
/-- How many frames of data it may say, from the first that is not acknowledged. -/
def LEnd.wide (st : LEnd) : Nat := min st.win st.data.length
/-- How many of these it passes over, as it said them already. -/
def LEnd.skip (st : LEnd) : Nat := if st.wait ≤ st.ticks then 0 else max st.said st.acked - st.acked
def LEnd.frame (st : LEnd) (j : Nat) : LFrame := ⟨false, st.acked + j + 1, st.data.getD j ⟨#[]⟩⟩
def LEnd.ackFrames (st : LEnd) : List LFrame := if st.owes then [⟨true, st.got.length, ⟨#[]⟩⟩] else []
def LEnd.outFrames (st : LEnd) : List LFrame := st.ackFrames ++ (List.range' st.skip (st.wide - st.skip)).map st.frame
def LEnd.out (st : LEnd) : LEnd := { st with owes := false, ticks := if st.skip < st.wide then 0 else st.ticks, said := max st.said (st.acked + st.wide) }
def LEnd.tick (st : LEnd) : LEnd := { st with ticks := st.ticks + 1 }
/-- What is wrong with a frame that is heard. -/
def LEnd.hearErr (st : LEnd) (f : LFrame) : Int :=
  if f.ack then (if f.seq < 0 ∨ (st.said : Int) < f.seq then 1 else if f.data.size ≠ 0 then 3 else 0)
  else (if f.seq < 1 then 1 else if 200 < f.data.size then 4 else 0)
def LEnd.hear (st : LEnd) (f : LFrame) : LEnd :=
  if st.hearErr f ≠ 0 then st
  else if f.ack then (if (st.acked : Int) < f.seq then { st with data := st.data.drop (f.seq.toNat - st.acked), acked := f.seq.toNat } else st)
  else { st with got := if f.seq = st.got.length + 1 then st.got ++ [f.data] else st.got, owes := true }

/-- What holds of each end. -/
structure LEnd.Ok (st : LEnd) : Prop where
  win1 : 1 ≤ st.win
  win2 : st.win ≤ 16
  wait1 : 1 ≤ st.wait
  wait2 : st.wait ≤ 20
  data : st.data.length ≤ 100
  acked : st.acked ≤ 100000
  said : st.said ≤ st.acked + st.data.length
  ticks : st.ticks ≤ 100000
  got : st.got.length ≤ 100000

/-- The cells of an end. -/
def LEnd.cells (st : LEnd) (A : Option Addr) (ca : Nat) (G : Option Addr) (cg : Nat) : Array Value :=
  #[.int .i64 st.win, .int .i64 st.wait, .slice A st.data.length ca, .int .i64 st.acked, .int .i64 st.said, .int .i64 st.ticks, .slice G st.got.length cg, .bool st.owes]

theorem elemS : Elem Try.prog 70 9 1 16 := Elem.mk_ (z := .string ⟨#[]⟩) Try.underlying70 (by kernel_rfl) rfl (by decide)
/-- The blocks of an end. -/
def endBlocks (b : Nat) (A G : Option Addr) : List Nat := b :: (ob A ++ ob G)
section
variable {w w' : World} {B b ca cg : Nat} {A G : Option Addr} {st : LEnd}
end
end Go.Proofs.Ytgkfmpkankjkdaa
/- What an end of a line hears, sends, has: the other methods of link.End, walked. Conditions: what holds of each end (LEnd.Ok). -/
namespace Go.Proofs.Ytgkfmpkankjkdaa
open Go.RowKit
set_option linter.unusedVariables false


def GotPost (w : World) (st : LEnd) (e : Ending) (w' : World) : Prop :=
  ∃ V c, e = .returned (.slice V st.got.length c) ∧ Own w' w.heap.size 9 1 V st.got.length c (strs st.got) ∧ Below w.heap.size w w'
end Go.Proofs.Ytgkfmpkankjkdaa
/- (*cache.Cache).Load, Places, walked. Conditions: the numbers are small. -/
namespace Go.Proofs.Ytgkfmpkankjkdaa
open Go.RowKit
set_option linter.unusedVariables false
def loadE (bud : Int) (p t : ByteArray) : Int := if p.size ≠ 0 ∧ placeErr p ≠ 0 then 2 else if bud < t.size then 4 else 0
def loadR (bud : Int) (p t : ByteArray) (m : List Kept) : List Kept := if loadE bud p t = 0 then fitK bud (onK p t m) else m
theorem empty_of {s : ByteArray} (h : s.size = 0) : s.toList.isEmpty = true := by
  rw [ByteArray.toList_eq]
  rcases s with ⟨⟨l⟩⟩
  cases l with
  | nil => rfl
  | cons x l => cases h
theorem empty_not {s : ByteArray} (h : s.size ≠ 0) : s.toList.isEmpty = false := by
  rw [ByteArray.toList_eq]
  rcases s with ⟨⟨l⟩⟩
  cases l with
  | nil => exact absurd rfl h
  | cons x l => rfl
section
variable (w : World) (B : Nat) (S : List Nat) (b : Nat) (bud : Int) (m : List Kept) (r : Nat) (A : Option Addr) (cap : Nat) (kvs : List Kept) (h : CacheIs w B S b bud m r A cap kvs)
include h
def CLoadPost (w : World) (B : Nat) (S : List Nat) (b : Nat) (bud : Int) (m : List Kept) (k : Int) (e : Ending) (w' : World) : Prop := e = .returned (errV k) ∧ CacheTo w B S b bud m w'
def FitLoop (w : World) (B : Nat) (S : List Nat) (b : Nat) (bud : Int) (m0 : List Kept) (k : Nat) (wr : World) : Prop := ∃ m : List Kept, m.length = k ∧ Hid (CacheTo w B S b bud m wr) ∧ fitK bud m0 = fitK bud m ∧ Keys m ∧ sumK m ≤ 1000000 ∧ m.length ≤ 90000
set_option maxRecDepth 100000 in
set_option maxHeartbeats 4000000 in
theorem cload_any (hb0 : 1 ≤ bud) (hb1 : bud ≤ 10000) (hs : sumK m ≤ 500000) (hl : m.length ≤ 80000) (p t : ByteArray) (hp : p.size ≤ 9223372036854775807) (ht : t.size ≤ 9223372036854775807) :
    Calls Try.prog 15 #[.pointer (some ⟨b, 0, none⟩), .string p, .string t] w (CLoadPost w B S b bud (loadR bud p t m) (loadE bud p t)) := by
  have HI := Lib.hid h
  have HPC := Lib.hid (fun W => check_any W p hp)
  have HE2 := errV_ne (show (2 : Int) ≠ 0 by decide)
  have HE4 := errV_ne (show (4 : Int) ≠ 0 by decide)
  have HSAME : Hid (∀ W, Below w.heap.size w W → CacheTo w B S b bud m W) := fun W hb => ⟨S, r, A, cap, kvs, h.below hb, Only.of_below hb, fun g hg => .inl hg⟩
  have HC0 : Hid (∀ W, Below w.heap.size w W → CacheIs W B S b bud m r A cap kvs) := fun W hb => HI.out.below hb
  have HB0 : Hid (Below w.heap.size w w) := Below.refl _ _
  have HE0 : errV 0 = .nilIface := rfl
  clear h
  by_cases hbad : p.size ≠ 0 ∧ placeErr p ≠ 0
  · have HF : Hid (loadE bud p t = 2 ∧ loadR bud p t m = m) := by
      have e1 : loadE bud p t = 2 := if_pos hbad
      exact ⟨e1, by unfold loadR; rw [e1, if_neg (by decide)]⟩
    rw [HF.out.1, HF.out.2]
    have g1 := empty_not hbad.1
    have HV := Lib.hid (errV_ne hbad.2)
    clear hbad
    go_enter Try.func15, Try.ntmps15
    go_wp2_with fail
    refine (HPC.out _).mono ?_
    rintro e w1 ⟨rfl, hb⟩
    rw [HV.out]
    have HT := Lib.hid (HSAME.out _ hb)
    clear hb
    go_wp2_with fail
    go_ret
    exact ⟨rfl, HT.out⟩
  · by_cases hlong : bud < t.size
    · have HF : Hid (loadE bud p t = 4 ∧ loadR bud p t m = m) := by
        have e1 : loadE bud p t = 4 := by unfold loadE; rw [if_neg hbad, if_pos hlong]
        exact ⟨e1, by unfold loadR; rw [e1, if_neg (by decide)]⟩
      rw [HF.out.1, HF.out.2]
      have g2 : decide ((t.size : Int) > bud) = true := decide_eq_true hlong
      by_cases h0 : p.size = 0
      · have g1 := empty_of h0
        have HT := Lib.hid (HSAME.out _ HB0.out)
        have c0 : w.cell? ⟨b, 0, none⟩ = some (.int .i64 bud) := HI.out.blk.cell 0
        clear hbad h0 hlong
        go_enter Try.func15, Try.ntmps15
        go_wp2_with fail
        go_ret
        exact ⟨rfl, HT.out⟩
      · have g1 := empty_not h0
        have h1 : placeErr p = 0 := Classical.byContradiction (fun x => hbad ⟨h0, x⟩)
        rw [h1, HE0] at HPC
        have HC00 : Hid (∀ W, Below w.heap.size w W → W.cell? ⟨b, 0, none⟩ = some (.int .i64 bud)) := fun W hb => (HC0.out W hb).blk.cell 0
        clear hbad h0 h1 hlong
        go_enter Try.func15, Try.ntmps15
        go_wp2_with fail
        refine (HPC.out _).mono ?_
        rintro e w1 ⟨rfl, hb⟩
        have c0 := HC00.out _ hb
        have HT := Lib.hid (HSAME.out _ hb)
        clear hb
        go_wp2_with fail
        go_ret
        exact ⟨rfl, HT.out⟩
    · have HF : Hid (loadE bud p t = 0 ∧ loadR bud p t m = fitK bud (onK p t m)) := by
        have e1 : loadE bud p t = 0 := by unfold loadE; rw [if_neg hbad, if_neg hlong]
        exact ⟨e1, by unfold loadR; rw [if_pos e1]⟩
      rw [HF.out.1, HF.out.2]
      have g1 : ¬ bud < (t.size : Int) := hlong
      have g3 : decide ((t.size : Int) > bud) = false := decide_eq_false hlong
      by_cases h0 : p.size = 0
      · have g4 := empty_of h0
        have HB1 := HB0
        have hI := HC0.out _ HB1.out
        have c0 : w.cell? ⟨b, 0, none⟩ = some (.int .i64 bud) := hI.blk.cell 0
        have HON := Lib.hid (on_any w B S b bud m r A cap kvs hI (by omega) (by omega) p t (by omega))
        have HND := Lib.hid hI.nodup
        have hvk := sumK_on (p := p) (t := t) hI.nodup
        have hlen : (onK p t m).length ≤ m.length + 1 := by have := off_len p m; unfold onK; simp; first | done | omega
        have HBW : Hid (Only S w w) := Only.of_below HB1.out
        clear hbad hlong hI h0
        go_enter Try.func15, Try.ntmps15
        go_wp2_with fail
        refine HON.out.mono ?_
        rintro e w2 ⟨rfl, ht2⟩
        have HL0 : Hid (FitLoop w B S b bud (onK p t m) (onK p t m).length w2) := ⟨onK p t m, rfl, CacheTo.back HBW.out (fun g hg => .inl hg) ht2, rfl, HND.out.on, by omega, by omega⟩
        clear ht2 HON
        go_wp2_with fail
        go_loopg [] (onK p t m).length (fun k wr => FitLoop w B S b bud (onK p t m) k wr)
        case atStart => exact HL0.out
        case round =>
          obtain ⟨m1, hml, HT, hfit, hnd, hsm, hln⟩ := hrel
          have HFIT := Lib.hid hfit
          have HND1 := Lib.hid hnd
          have HML := Lib.hid hml
          obtain ⟨S1, r1, A1, cap1, kvs1, hc, ho1, hs1⟩ := HT.out
          have d0 : wr.cell? ⟨b, 0, none⟩ = some (.int .i64 bud) := hc.blk.cell 0
          have d1 : wr.cell? ⟨b, 1, none⟩ = some (.int .i64 (sumK m1)) := hc.blk.cell 1
          clear hfit hml
          by_cases hov : bud < sumK m1
          · cases m1 with
            | nil => simp [sumK] at hov; first | done | omega
            | cons x m2 =>
              have g2 : decide (sumK (x :: m2) > bud) = true := decide_eq_true hov
              have HCN := Lib.hid (hc.only (T := []) (w' := wr.drewN 1) ((Only.refl [] wr).drewN 1) (by simp))
              have HOFF := Lib.hid (fun n => off_any (wr.drewN n) B S1 b bud (x :: m2) r1 A1 cap1 kvs1 (hc.only (T := []) ((Only.refl [] wr).drewN n) (by simp)) (by omega) (by omega) x.1)
              have HOH := Lib.hid (off_head HND1.out)
              obtain ⟨g, rfl, _, _⟩ := hc.ord.head (by simp)
              have HCO : Hid (∀ n, (wr.drewN n).cell? ⟨b, 3, none⟩ = some (.slice (some ⟨g, 0, none⟩) (x :: m2).length cap1) ∧ (wr.drewN n).cell? ⟨g, 0, none⟩ = some (.string x.1)) := fun n => ⟨hc.blk.cell 3, by
                have := hc.ord.cellAt (j := 0) (by simp)
                rw [show (wr.drewN n).cell? ⟨g, 0, none⟩ = wr.cell? ⟨g, 0, none⟩ from rfl, this]
                rfl⟩
              have HFX : Hid (fitK bud (x :: m2) = fitK bud m2) := if_pos hov
              have HS2 : Hid (sumK m2 ≤ 1000000) := by have := sumK_cons x m2; show _ ≤ _; omega
              have HL2 : Hid (m2.length ≤ 90000) := by simp at hln; show _ ≤ _; omega
              have HO1 := Lib.hid ho1
              have HS1 := Lib.hid hs1
              have hln1 : (0 : Int) < ((x :: m2).length : Int) := by simp <;> omega
              clear hc ho1 hs1 hov hsm hln HT hnd
              generalize hq : (x :: m2).length = n1 at *
              generalize hsu : sumK (x :: m2) = su at *
              go_wp2_with fail
              go_quiet (fail)
              obtain ⟨e3, e4⟩ := HCO.out nq
              go_wp2_with fail
              refine (HOFF.out _).mono ?_
              rintro e w3 ⟨rfl, ht3⟩
              rw [HOH.out] at ht3
              have HT3 := Lib.hid (CacheTo.back (HO1.out.drewN nq) HS1.out ht3)
              clear ht3 e3 e4
              go_wp2_with fail
              go_roundg m2.length
              case measure => have := HML.out; simp at hq; omega
              case rel => exact ⟨m2, rfl, HT3, by rw [HFIT.out, HFX.out], HND1.out.tail.2, HS2.out, HL2.out⟩
          · have g2 : ¬ bud < sumK m1 := hov
            have HFX : Hid (fitK bud m1 = m1) := by
              cases m1 with
              | nil => rfl
              | cons x m2 => exact if_neg hov
            have HT2 := Lib.hid (fun n => (show CacheTo w B S b bud m1 (wr.drewN n) from ⟨S1, r1, A1, cap1, kvs1, hc.only (T := []) ((Only.refl [] wr).drewN n) (by simp), ho1.drewN n, hs1⟩))
            clear hc ho1 hs1 hov HT
            generalize hsu : sumK m1 = su at *
            go_wp2_with fail
            go_quiet (fail)
            go_wp2_with fail
            go_ret
            rw [HFIT.out, HFX.out]
            exact ⟨rfl, HT2.out _⟩
      · have g4 := empty_not h0
        have h1 : placeErr p = 0 := Classical.byContradiction (fun x => hbad ⟨h0, x⟩)
        rw [h1, HE0] at HPC
        go_enter Try.func15, Try.ntmps15
        go_wp2_with fail
        refine (HPC.out _).mono ?_
        rintro e wc ⟨rfl, hb⟩
        have HB1 := Lib.hid hb
        clear hb
        have hI := HC0.out _ HB1.out
        have c0 : wc.cell? ⟨b, 0, none⟩ = some (.int .i64 bud) := hI.blk.cell 0
        have HON := Lib.hid (on_any wc B S b bud m r A cap kvs hI (by omega) (by omega) p t (by omega))
        have HND := Lib.hid hI.nodup
        have hvk := sumK_on (p := p) (t := t) hI.nodup
        have hlen : (onK p t m).length ≤ m.length + 1 := by have := off_len p m; unfold onK; simp; first | done | omega
        have HBW : Hid (Only S w wc) := Only.of_below HB1.out
        clear hbad hlong hI h0 h1
        go_wp2_with fail
        refine HON.out.mono ?_
        rintro e w2 ⟨rfl, ht2⟩
        have HL0 : Hid (FitLoop w B S b bud (onK p t m) (onK p t m).length w2) := ⟨onK p t m, rfl, CacheTo.back HBW.out (fun g hg => .inl hg) ht2, rfl, HND.out.on, by omega, by omega⟩
        clear ht2 HON
        go_wp2_with fail
        go_loopg [] (onK p t m).length (fun k wr => FitLoop w B S b bud (onK p t m) k wr)
        case atStart => exact HL0.out
        case round =>
          obtain ⟨m1, hml, HT, hfit, hnd, hsm, hln⟩ := hrel
          have HFIT := Lib.hid hfit
          have HND1 := Lib.hid hnd
          have HML := Lib.hid hml
          obtain ⟨S1, r1, A1, cap1, kvs1, hc, ho1, hs1⟩ := HT.out
          have d0 : wr.cell? ⟨b, 0, none⟩ = some (.int .i64 bud) := hc.blk.cell 0
          have d1 : wr.cell? ⟨b, 1, none⟩ = some (.int .i64 (sumK m1)) := hc.blk.cell 1
          clear hfit hml
          by_cases hov : bud < sumK m1
          · cases m1 with
            | nil => simp [sumK] at hov; first | done | omega
            | cons x m2 =>
              have g2 : decide (sumK (x :: m2) > bud) = true := decide_eq_true hov
              have HCN := Lib.hid (hc.only (T := []) (w' := wr.drewN 1) ((Only.refl [] wr).drewN 1) (by simp))
              have HOFF := Lib.hid (fun n => off_any (wr.drewN n) B S1 b bud (x :: m2) r1 A1 cap1 kvs1 (hc.only (T := []) ((Only.refl [] wr).drewN n) (by simp)) (by omega) (by omega) x.1)
              have HOH := Lib.hid (off_head HND1.out)
              obtain ⟨g, rfl, _, _⟩ := hc.ord.head (by simp)
              have HCO : Hid (∀ n, (wr.drewN n).cell? ⟨b, 3, none⟩ = some (.slice (some ⟨g, 0, none⟩) (x :: m2).length cap1) ∧ (wr.drewN n).cell? ⟨g, 0, none⟩ = some (.string x.1)) := fun n => ⟨hc.blk.cell 3, by
                have := hc.ord.cellAt (j := 0) (by simp)
                rw [show (wr.drewN n).cell? ⟨g, 0, none⟩ = wr.cell? ⟨g, 0, none⟩ from rfl, this]
                rfl⟩
              have HFX : Hid (fitK bud (x :: m2) = fitK bud m2) := if_pos hov
              have HS2 : Hid (sumK m2 ≤ 1000000) := by have := sumK_cons x m2; show _ ≤ _; omega
              have HL2 : Hid (m2.length ≤ 90000) := by simp at hln; show _ ≤ _; omega
              have HO1 := Lib.hid ho1
              have HS1 := Lib.hid hs1
              have hln1 : (0 : Int) < ((x :: m2).length : Int) := by simp <;> omega
              clear hc ho1 hs1 hov hsm hln HT hnd
              generalize hq : (x :: m2).length = n1 at *
              generalize hsu : sumK (x :: m2) = su at *
              go_wp2_with fail
              go_quiet (fail)
              obtain ⟨e3, e4⟩ := HCO.out nq
              go_wp2_with fail
              refine (HOFF.out _).mono ?_
              rintro e w3 ⟨rfl, ht3⟩
              rw [HOH.out] at ht3
              have HT3 := Lib.hid (CacheTo.back (HO1.out.drewN nq) HS1.out ht3)
              clear ht3 e3 e4
              go_wp2_with fail
              go_roundg m2.length
              case measure => have := HML.out; simp at hq; omega
              case rel => exact ⟨m2, rfl, HT3, by rw [HFIT.out, HFX.out], HND1.out.tail.2, HS2.out, HL2.out⟩
          · have g2 : ¬ bud < sumK m1 := hov
            have HFX : Hid (fitK bud m1 = m1) := by
              cases m1 with
              | nil => rfl
              | cons x m2 => exact if_neg hov
            have HT2 := Lib.hid (fun n => (show CacheTo w B S b bud m1 (wr.drewN n) from ⟨S1, r1, A1, cap1, kvs1, hc.only (T := []) ((Only.refl [] wr).drewN n) (by simp), ho1.drewN n, hs1⟩))
            clear hc ho1 hs1 hov HT
            generalize hsu : sumK m1 = su at *
            go_wp2_with fail
            go_quiet (fail)
            go_wp2_with fail
            go_ret
            rw [HFIT.out, HFX.out]
            exact ⟨rfl, HT2.out _⟩
end
end Go.Proofs.Ytgkfmpkankjkdaa
/- A cache and some rows of texts beside it: the steps of a law. Conditions: the numbers are small. -/
namespace Go.Proofs.Ytgkfmpkankjkdaa
open Go.RowKit
set_option linter.unusedVariables false
/-! Plain -/
theorem fit_len (bud : Int) : ∀ m : List Kept, (fitK bud m).length ≤ m.length
  | [] => Nat.le_refl _
  | x :: m => by
    unfold fitK
    split
    · have := fit_len bud m; simp; omega
    · exact Nat.le_refl _
theorem fit_sum {bud : Int} (hb : 0 ≤ bud) : ∀ m : List Kept, sumK (fitK bud m) ≤ bud
  | [] => hb
  | x :: m => by
    unfold fitK
    split
    · exact fit_sum hb m
    · omega
theorem fit_keys {bud : Int} : ∀ {m : List Kept}, Keys m → Keys (fitK bud m)
  | [], h => h
  | x :: m, h => by
    unfold fitK
    split
    · exact fit_keys h.tail.2
    · exact h
theorem fit_last {bud : Int} {p t : ByteArray} (h : (t.size : Int) ≤ bud) : ∀ m : List Kept, ∃ m', fitK bud (m ++ [(p, t)]) = m' ++ [(p, t)]
  | [] => ⟨[], by
    have : sumK [(p, t)] = (t.size : Int) := by simp [sumK]
    show fitK bud [(p, t)] = _
    unfold fitK
    rw [if_neg (by omega)]
    rfl⟩
  | x :: m => by
    rw [List.cons_append]
    unfold fitK
    split
    · exact fit_last h m
    · exact ⟨x :: m, rfl⟩
theorem load_sum {bud : Int} {p t : ByteArray} {m : List Kept} (hb : 0 ≤ bud) (h : sumK m ≤ bud) : sumK (loadR bud p t m) ≤ bud := by
  unfold loadR
  split
  · exact fit_sum hb _
  · exact h
theorem load_keys {bud : Int} {p t : ByteArray} {m : List Kept} (h : Keys m) : Keys (loadR bud p t m) := by
  unfold loadR
  split
  · exact fit_keys h.on
  · exact h
theorem load_len {bud : Int} {p t : ByteArray} {m : List Kept} : (loadR bud p t m).length ≤ m.length + 1 := by
  unfold loadR
  split
  · have h1 := fit_len bud (onK p t m)
    have h2 := off_len p m
    have h3 : (onK p t m).length = (offK p m).length + 1 := by unfold onK; simp
    omega
  · omega
theorem load_last {bud : Int} {p t : ByteArray} {m : List Kept} (he : loadE bud p t = 0) : ∃ m', loadR bud p t m = m' ++ [(p, t)] := by
  unfold loadR
  rw [if_pos he]
  refine fit_last ?_ _
  unfold loadE at he
  split at he
  · exact absurd he (by decide)
  · split at he
    · exact absurd he (by decide)
    · omega
theorem keys_last {m : List Kept} {x : Kept} (h : Keys (m ++ [x])) : x.1 ∉ m.map Prod.fst := by
  unfold Keys at h
  rw [List.map_append, List.nodup_append] at h
  intro hm
  exact h.2.2 _ hm x.1 (by simp) rfl
theorem get_last {m : List Kept} {p t : ByteArray} (h : Keys (m ++ [(p, t)])) : get p (m ++ [(p, t)]) = some t := by
  rw [get_appr (keys_last h)]
  unfold get
  rw [if_pos rfl]
theorem off_app (p : ByteArray) (a b : List Kept) : offK p (a ++ b) = offK p a ++ offK p b := List.filter_append _ _
theorem on_last {m : List Kept} {p t : ByteArray} (h : Keys (m ++ [(p, t)])) : onK p t (m ++ [(p, t)]) = m ++ [(p, t)] := by
  unfold onK
  rw [off_app, offK_none (keys_last h), offK_cons, if_pos rfl]
  simp [offK]
def rotK (k : Nat) (m : List Kept) : List Kept := m.drop k ++ m.take k
theorem rot_zero (m : List Kept) : rotK 0 m = m := by simp [rotK]
theorem rot_all (m : List Kept) : rotK m.length m = m := by simp [rotK]
theorem rot_perm (k : Nat) (m : List Kept) : List.Perm (rotK k m) m := by
  unfold rotK
  refine List.perm_append_comm.trans ?_
  rw [List.take_append_drop]
theorem rot_keys {k : Nat} {m : List Kept} (h : Keys m) : Keys (rotK k m) := by
  unfold Keys at *
  exact ((rot_perm k m).map Prod.fst).nodup_iff.2 h
theorem rot_sum (k : Nat) (m : List Kept) : sumK (rotK k m) = sumK m := by
  unfold rotK
  rw [sumK_app, Int.add_comm, ← sumK_app, List.take_append_drop]
theorem rot_len (k : Nat) (m : List Kept) : (rotK k m).length = m.length := (rot_perm k m).length_eq
theorem rot_cons {k : Nat} {m : List Kept} (hk : k < m.length) : rotK k m = m[k] :: (m.drop (k + 1) ++ m.take k) := by
  unfold rotK
  rw [List.drop_eq_getElem_cons hk, List.cons_append]
theorem rot_get {k : Nat} {m : List Kept} (hk : k < m.length) : get m[k].1 (rotK k m) = some m[k].2 := by
  rw [rot_cons hk]
  generalize m[k] = x
  obtain ⟨p, t⟩ := x
  unfold get
  rw [if_pos rfl]
theorem rot_on {k : Nat} {m : List Kept} (h : Keys m) (hk : k < m.length) : onK m[k].1 m[k].2 (rotK k m) = rotK (k + 1) m := by
  have h1 := rot_keys (k := k) h
  rw [rot_cons hk] at h1 ⊢
  unfold onK
  rw [off_head h1]
  unfold rotK
  rw [List.append_assoc, List.take_succ_eq_append_getElem hk]
theorem sum_take {k : Nat} {m : List Kept} (hk : k < m.length) : sumK (m.take (k + 1)) = sumK (m.take k) + (m[k].2.size : Int) := by
  rw [List.take_succ_eq_append_getElem hk, sumK_app, sumK_cons]
  simp [sumK]
theorem sum_take_le (k : Nat) (m : List Kept) : sumK (m.take k) ≤ sumK m := by
  have h := sumK_app (m.take k) (m.drop k)
  rw [List.take_append_drop] at h
  have := sumK_nonneg (m.drop k)
  omega
theorem val_of {p t : ByteArray} {m : List Kept} (h : get p m = some t) : valK p m = t := by unfold valK; rw [h]; rfl
/-! The scene -/
def CRows (S : List Nat) (rows : List (Option Addr × List ByteArray)) (wr : World) : Prop := ∀ x ∈ rows, Reads wr wr.heap.size 1 x.1 x.2.length (strs x.2) ∧ (0 < x.2.length → ∀ g ∈ ob x.1, g ∉ S)
def CScene (w : World) (b : Nat) (bud : Int) (m : List Kept) (rows : List (Option Addr × List ByteArray)) (wr : World) : Prop :=
  ∃ B S r A cap kvs, CacheIs wr B S b bud m r A cap kvs ∧ Below w.heap.size w wr ∧ w.heap.size ≤ B ∧ CRows S rows wr
theorem CRows.go {S S' : List Nat} {rows : List (Option Addr × List ByteArray)} {w w' : World} (h : CRows S rows w) (ho : Only S w w') (hs : ∀ g ∈ S', g ∈ S ∨ w.heap.size ≤ g) : CRows S' rows w' := fun x hx => by
  obtain ⟨h1, h2⟩ := h x hx
  refine ⟨⟨h1.1, fun hn => ?_⟩, fun hn g hg hm => ?_⟩
  · obtain ⟨ad, e, hb, hc⟩ := h1.2 hn
    refine ⟨ad, e, Nat.lt_of_lt_of_le hb ho.size, fun j u hu => ?_⟩
    rw [← hc j u hu]
    exact ho.cell (by rw [block_of_add]; exact hb) (by rw [block_of_add]; exact h2 hn _ (by rw [e]; simp [ob]))
  · obtain ⟨ad, e, hb, hc⟩ := h1.2 hn
    rcases hs g hm with h3 | h3
    · exact h2 hn g hg h3
    · rw [e] at hg; simp [ob] at hg; omega
section
variable {w wr : World} {b : Nat} {bud : Int} {m : List Kept} {rows : List (Option Addr × List ByteArray)} (h : CScene w b bud m rows wr)
include h
theorem CScene.to_ {w' : World} {m' : List Kept} (hh : ∀ B S r A cap kvs, CacheIs wr B S b bud m r A cap kvs → CacheTo wr B S b bud m' w') : CScene w b bud m' rows w' := by
  obtain ⟨B, S, r, A, cap, kvs, h1, h2, h3, h4⟩ := h
  obtain ⟨S', r', A', cap', kvs', g1, g2, g3⟩ := hh _ _ _ _ _ _ h1
  refine ⟨B, S', r', A', cap', kvs', g1, h2.trans (g2.below h2.size fun i hi => by have := (h1.own i hi).1; omega), h3, h4.go g2 g3⟩
theorem CScene.stay {w' : World} (hb : Below wr.heap.size wr w') : CScene w b bud m rows w' :=
  h.to_ fun B S r A cap kvs hc => ⟨S, r, A, cap, kvs, hc.below hb, Only.of_below hb, fun g hg => .inl hg⟩
theorem CScene.drewN (n : Nat) : CScene w b bud m rows (wr.drewN n) := h.stay (below_drewN (Below.refl _ _) n)
theorem CScene.below : Below w.heap.size w wr := by
  obtain ⟨B, S, r, A, cap, kvs, h1, h2, h3, h4⟩ := h
  exact h2
theorem CScene.nodup : Keys m := by
  obtain ⟨B, S, r, A, cap, kvs, h1, h2, h3, h4⟩ := h
  exact h1.nodup
theorem CScene.row {x : Option Addr × List ByteArray} (hx : x ∈ rows) : Reads wr wr.heap.size 1 x.1 x.2.length (strs x.2) := by
  obtain ⟨B, S, r, A, cap, kvs, h1, h2, h3, h4⟩ := h
  exact (h4 x hx).1
theorem CScene.load (hb0 : 1 ≤ bud) (hb1 : bud ≤ 10000) (hs : sumK m ≤ 500000) (hl : m.length ≤ 80000) (p t : ByteArray) (hp : p.size ≤ 9223372036854775807) (ht : t.size ≤ 9223372036854775807) :
    Calls Try.prog 15 #[.pointer (some ⟨b, 0, none⟩), .string p, .string t] wr (fun e w' => e = .returned (errV (loadE bud p t)) ∧ CScene w b bud (loadR bud p t m) rows w') := by
  obtain ⟨B, S, r, A, cap, kvs, h1, h2, h3, h4⟩ := id h
  refine (cload_any wr B S b bud m r A cap kvs h1 hb0 hb1 hs hl p t hp ht).mono ?_
  rintro e w' ⟨rfl, ht⟩
  refine ⟨rfl, ?_⟩
  obtain ⟨S', r', A', cap', kvs', g1, g2, g3⟩ := ht
  exact ⟨B, S', r', A', cap', kvs', g1, h2.trans (g2.below h2.size fun i hi => by have := (h1.own i hi).1; omega), h3, h4.go g2 g3⟩
theorem CScene.used : Calls Try.prog 16 #[.pointer (some ⟨b, 0, none⟩)] wr (fun e w' => e = .returned (.int .i64 (sumK m)) ∧ w' = wr) := by
  obtain ⟨B, S, r, A, cap, kvs, h1, h2, h3, h4⟩ := id h
  exact cused_any wr B S b bud m r A cap kvs h1
theorem CScene.found (hs : sumK m ≤ 1000000) (hl : m.length ≤ 90000) {p t : ByteArray} (hg : get p m = some t) :
    Calls Try.prog 13 #[.pointer (some ⟨b, 0, none⟩), .string p] wr (fun e w' => e = .returned (.tuple #[.string t, .nilIface]) ∧ CScene w b bud (onK p t m) rows w') := by
  obtain ⟨B, S, r, A, cap, kvs, h1, h2, h3, h4⟩ := id h
  refine (cget_any wr B S b bud m r A cap kvs h1 hs hl p).mono ?_
  rintro e w' (⟨_, rfl, ht⟩ | ⟨hno, _⟩)
  · rw [val_of hg] at ht ⊢
    obtain ⟨S', r', A', cap', kvs', g1, g2, g3⟩ := ht
    exact ⟨rfl, B, S', r', A', cap', kvs', g1, h2.trans (g2.below h2.size fun i hi => by have := (h1.own i hi).1; omega), h3, h4.go g2 g3⟩
  · rw [hg] at hno; cases hno
theorem CScene.lost (hs : sumK m ≤ 1000000) (hl : m.length ≤ 90000) {p : ByteArray} (hg : get p m = none) :
    Calls Try.prog 13 #[.pointer (some ⟨b, 0, none⟩), .string p] wr (fun e w' => e = .returned (.tuple #[.string ⟨#[]⟩, errV 5]) ∧ w' = wr) := by
  obtain ⟨B, S, r, A, cap, kvs, h1, h2, h3, h4⟩ := id h
  refine (cget_any wr B S b bud m r A cap kvs h1 hs hl p).mono ?_
  rintro e w' (⟨hno, _⟩ | ⟨_, rfl, rfl⟩)
  · rw [hg] at hno; cases hno
  · exact ⟨rfl, rfl⟩
end
theorem cnew_scene (w wr : World) (hb : Below w.heap.size w wr) (bud : Int) (h0 : 1 ≤ bud) (h1 : bud ≤ 10000) : Calls Try.prog 7 #[.int .i64 bud] wr (fun e w' => ∃ b, e = .returned (.tuple #[.pointer (some ⟨b, 0, none⟩), .nilIface]) ∧ CScene w b bud [] [] w') := by
  refine (cnew_any wr bud).mono ?_
  rintro e w' (⟨hno, _⟩ | ⟨_, b, S, r, A, cap, kvs, rfl, hc, hbb⟩)
  · unfold budE at hno; rw [if_neg (by omega)] at hno; exact absurd rfl hno
  · exact ⟨b, rfl, wr.heap.size, S, r, A, cap, kvs, hc, hb.trans (hbb.mono hb.size), hb.size, by intro x hx; cases hx⟩
theorem cnew_none (wr : World) (bud : Int) (h : bud < 1 ∨ 10000 < bud) : Calls Try.prog 7 #[.int .i64 bud] wr (fun e w' => e = .returned (.tuple #[.pointer none, errV 1]) ∧ w' = wr) := by
  refine (cnew_any wr bud).mono ?_
  rintro e w' (⟨_, rfl, rfl⟩ | ⟨hno, _⟩)
  · exact ⟨rfl, rfl⟩
  · unfold budE at hno; rw [if_pos h] at hno; exact absurd hno (by decide)
end Go.Proofs.Ytgkfmpkankjkdaa
