/- (*cache.Cache).off, on, walked. Conditions: the numbers are small. -/
import Derived.Test.YtgjhkblnohcppaaDoorCacheSpec
namespace Go.Proofs.YtgjhkblnohcppaaDoor
open Go.RowKit
set_option linter.unusedVariables false
theorem keyStr : KeyOk Tryd.prog 9 Value.string := strKey Tryd.underlying9
theorem zero_text (w : World) : (zeroValue 9).run Tryd.prog w = .ok (.string ⟨#[]⟩) w := by kernel_rfl
theorem CacheIs.look {w : World} {B : Nat} {S : List Nat} {b : Nat} {bud : Int} {m : List Kept} {r : Nat} {A : Option Addr} {cap : Nat} {kvs : List Kept} (h : CacheIs w B S b bud m r A cap kvs) (p : ByteArray) :
    (Instr.lookup 118 (.map (some r)) (.string p) false).run Tryd.prog w = .ok (.string (valK p m)) w := by
  have := lookup_run keyStr Tryd.underlying118 zero_text h.map p
  rw [h.same] at this
  unfold valK
  cases hg : get p m with
  | none => rw [hg] at this; exact this
  | some v => rw [hg] at this; exact this
theorem CacheIs.look2 {w : World} {B : Nat} {S : List Nat} {b : Nat} {bud : Int} {m : List Kept} {r : Nat} {A : Option Addr} {cap : Nat} {kvs : List Kept} (h : CacheIs w B S b bud m r A cap kvs) (p : ByteArray) :
    (Instr.lookup 118 (.map (some r)) (.string p) true).run Tryd.prog w = .ok (.tuple #[.string (valK p m), .bool (get p m).isSome]) w := by
  have := lookup_ok_run keyStr Tryd.underlying118 zero_text h.map p
  rw [h.same] at this
  unfold valK
  cases hg : get p m with
  | none => rw [hg] at this; exact this
  | some v => rw [hg] at this; exact this
theorem CacheIs.drew {w : World} {B : Nat} {S : List Nat} {b : Nat} {bud : Int} {m : List Kept} {r : Nat} {A : Option Addr} {cap : Nat} {kvs : List Kept} (h : CacheIs w B S b bud m r A cap kvs) : CacheIs w.drew B S b bud m r A cap kvs := h.only (T := []) ((Only.refl [] w).drew) (by simp)
def OffPost (w : World) (B : Nat) (S : List Nat) (b : Nat) (bud : Int) (m : List Kept) (e : Ending) (w' : World) : Prop := e = .returned (.tuple #[]) ∧ CacheTo w B S b bud m w'
set_option maxRecDepth 100000 in
set_option maxHeartbeats 8000000 in
theorem off_any (w : World) (B : Nat) (S : List Nat) (b : Nat) (bud : Int) (m : List Kept) (r : Nat) (A : Option Addr) (cap : Nat) (kvs : List Kept) (h : CacheIs w B S b bud m r A cap kvs) (hs : sumK m ≤ 1000000) (hl : m.length ≤ 100000) (p : ByteArray) :
    Calls Tryd.prog 66 #[.pointer (some ⟨b, 0, none⟩), .string p] w (OffPost w B S b bud (offK p m)) := by
  obtain ⟨WX, hWX⟩ : ∃ WX, WX = w.alloc (.cells #[.string p] 9) := ⟨_, rfl⟩
  have hbX : Below w.heap.size w WX := by rw [hWX]; exact (Below.refl _ _).alloc (Nat.le_refl _) _
  have hbk : Blk WX w.heap.size 9 #[.string p] := by rw [hWX]; exact Blk.new w _ _
  have HX := Lib.hid (h.below hbX)
  have hb1 := (h.own b h.subb).2
  have hr1 := (h.own r h.subr).2
  have hbs : w.heap.size ∉ S := fun hm => by have := (h.own _ hm).2; omega
  -- the number is lowered
  obtain ⟨W2, hW2⟩ : ∃ W2, W2 = (WX.setCell ⟨b, 1, none⟩ (.int .i64 (sumK m - (valK p m).size))).drew := ⟨_, rfl⟩
  have hob : Only [b] WX W2 := by rw [hW2]; exact ((Only.refl [b] WX).setCell (p := ⟨b, 1, none⟩) (.inl (by simp)) _).drew
  have hrb : r ≠ b := HX.out.map.not_blk HX.out.blk
  have hmap2 : MapAt W2 r Value.string Value.string kvs := HX.out.map.only hob (by simpa using hrb)
  have hblk2 : Blk W2 b 120 #[.int .i64 bud, .int .i64 (sumK m - (valK p m).size), .map (some r), .slice A m.length cap] := by
    rw [hW2]
    exact HX.out.blk.set_ 1 _
  have hord2 : Own W2 B 9 1 A m.length cap (strs (m.map Prod.fst)) := HX.out.ord.only hob (fun g hg hm => HX.out.ord.blk_ne HX.out.blk (by decide) (by simp at hm; exact hm ▸ hg))
  have hbox2 : Blk W2 w.heap.size 9 #[.string p] := hob.blk hbk (by simp; omega)
  -- the text is deleted
  obtain ⟨W3, hdel, hmap3, hod⟩ := delete_run (t2 := 9) keyStr Tryd.underlying118 (show MapAt W2.drew r Value.string Value.string kvs from hmap2.only ((Only.refl [] W2).drew) (by simp)) p
  have hd0 := hdel 0
  have ho23 : Only [r] W2 W3 := ((Only.refl [r] W2).drew).trans hod
  have hblk3 := ho23.blk hblk2 (by simpa using fun e => hrb e.symm)
  have hra : r ∉ ob A := hmap2.not_own hord2
  have hord3 : Own W3 B 9 1 A m.length cap (strs (m.map Prod.fst)) := hord2.only ho23 (fun g hg hm => hra (by simp at hm; exact hm ▸ hg))
  have hbox3 := ho23.blk hbox2 (by simp; omega)
  -- the place too
  have hl1 : (m.map Prod.fst).length = m.length := by simp
  have HD := Lib.hid (StrDel.del_any W3 B p w.heap.size ⟨hbox3.lt, hbox3.cell 0⟩ A cap (m.map Prod.fst) (by rw [hl1]; exact hord3) (fun g hg e => hbs (e ▸ h.suba g hg)) (by rw [hl1]; exact hl))
  rw [hl1] at HD
  unfold StrDel.DelPost at HD
  rw [← offK_keys] at HD
  have hl2 : ((offK p m).map Prod.fst).length = (offK p m).length := by simp
  rw [hl2] at HD
  have HFIN : Hid (∀ (w4 : World) (A' : Option Addr) (c : Nat), Own w4 B 9 1 A' (offK p m).length c (strs ((offK p m).map Prod.fst)) → Only (ob A) W3 w4 → (∀ g ∈ ob A', g ∈ ob A) → CacheTo w B S b bud (offK p m) (w4.setCell ⟨b, 3, none⟩ (.slice A' (offK p m).length c))) := fun w4 A' c hO ho hsub => by
    have hba : b ∉ ob A := fun hm => hord3.blk_ne hblk3 (by decide) hm
    have hblk4 := (ho.blk hblk3 hba).set_ 3 (.slice A' (offK p m).length c)
    have ho45 : Only [b] w4 (w4.setCell ⟨b, 3, none⟩ (.slice A' (offK p m).length c)) := (Only.refl [b] w4).setCell (p := ⟨b, 3, none⟩) (.inl (by simp)) _
    have hall : Only S w (w4.setCell ⟨b, 3, none⟩ (.slice A' (offK p m).length c)) :=
      (((((Only.of_below hbX).trans (hob.mono (fun i hi => by simp at hi; subst hi; exact .inl h.subb))).trans (ho23.mono (fun i hi => by simp at hi; subst hi; exact .inl h.subr))).trans (ho.mono (fun i hi => .inl (h.suba i hi)))).trans (ho45.mono (fun i hi => by simp at hi; subst hi; exact .inl h.subb)))
    refine ⟨S, r, A', c, delK p kvs, ⟨?_, ?_, ?_, h.keys.del, fun q => ?_, h.nodup.off, fun g hg => h.suba g (hsub g hg), h.subb, h.subr, fun g hg => ⟨(h.own g hg).1, Nat.lt_of_lt_of_le (h.own g hg).2 hall.size⟩⟩, hall, fun g hg => .inl hg⟩
    · rw [sumK_off h.nodup]
      exact hblk4
    · exact hO.only ho45 (fun g hg hm => by simp at hm; exact hba (hm ▸ hsub g hg))
    · exact (hmap3.only ho hra).only ho45 (by simpa using hrb)
    · rw [get_del h.keys, get_off, h.same]
  -- cells
  have c1 : WX.cell? ⟨b, 1, none⟩ = some (.int .i64 (sumK m)) := HX.out.blk.cell 1
  have c2 : WX.cell? ⟨b, 2, none⟩ = some (.map (some r)) := HX.out.blk.cell 2
  have cb : WX.cell? ⟨w.heap.size, 0, none⟩ = some (.string p) := hbk.cell 0
  have f1 := HX.out.blk.frozen 1
  have hlk := HX.out.drew.look p
  have e2 : W2.cell? ⟨b, 2, none⟩ = some (.map (some r)) := hblk2.cell 2
  have eb : W2.cell? ⟨w.heap.size, 0, none⟩ = some (.string p) := hbox2.cell 0
  have g3 : W3.cell? ⟨b, 3, none⟩ = some (.slice A m.length cap) := hblk3.cell 3
  have HG := Lib.hid hblk3
  have HOA : Hid (∀ w4, Only (ob A) W3 w4 → Blk w4 b 120 #[.int .i64 bud, .int .i64 (sumK m - (valK p m).size), .map (some r), .slice A m.length cap]) := fun w4 ho => ho.blk hblk3 (fun hm => hord3.blk_ne hblk3 (by decide) hm)
  have hvl := val_le (p := p) (m := m)
  have hnn := sumK_nonneg m
  have q1 : IntKind.i64.wrap (sumK m - (valK p m).size) = sumK m - (valK p m).size := IntWalk.i64_in _ (by omega)
  have hmf : ∀ (fn : Fn) (first cap : Array Value) (w : World), (Instr.makeFunc fn first cap).run Tryd.prog w = .ok (.func fn first cap) w := fun _ _ _ _ => rfl
  clear hdel hmap3 hod ho23 hblk3 hra hord3 hbox3 hmap2 hblk2 hord2 hbox2 hob hbs hbk hbX h HX
  generalize valK p m = v at *
  generalize sumK m = sm at *
  generalize offK p m = m' at *
  go_enter Tryd.func66, Tryd.ntmps66
  go_wp2_with fail
  rw [← hWX]
  clear hWX
  go_region
  go_wp2_with fail
  rw [← hW2]
  clear hW2 c1 c2 cb f1 hlk
  go_region
  clear hd0 e2 eb
  go_wp2_with fail
  refine HD.out.mono ?_
  rintro e w4 ⟨A', c', rfl, hO, ho, hsub⟩
  have HB4 := Lib.hid (HOA.out w4 ho)
  have HF := Lib.hid (HFIN.out w4 A' c' hO ho hsub)
  have k3 : w4.cell? ⟨b, 3, none⟩ = some (.slice A m.length cap) := HB4.out.cell 3
  have f3 := HB4.out.frozen 3
  clear hO ho hsub g3
  go_wp2_with fail
  first | go_end0 | (refine bodyPost_ret (results_none rfl _ _ _) rfl ?_)
  exact ⟨rfl, HF.out⟩
theorem elemS_ : Elem Tryd.prog 31 9 1 16 := Elem.mk_ (z := .string ⟨#[]⟩) Tryd.underlying31 (by kernel_rfl) rfl (by decide)
set_option maxRecDepth 100000 in
set_option maxHeartbeats 8000000 in
theorem on_any (w : World) (B : Nat) (S : List Nat) (b : Nat) (bud : Int) (m : List Kept) (r : Nat) (A : Option Addr) (cap : Nat) (kvs : List Kept) (h : CacheIs w B S b bud m r A cap kvs) (hs : sumK m ≤ 1000000) (hl : m.length ≤ 90000) (p t : ByteArray) (ht : t.size ≤ 1000000) :
    Calls Tryd.prog 65 #[.pointer (some ⟨b, 0, none⟩), .string p, .string t] w (OffPost w B S b bud (onK p t m)) := by
  have HO := Lib.hid (off_any w B S b bud m r A cap kvs h hs (by omega) p)
  have hso := sumK_off (p := p) h.nodup
  have hvl := val_le (p := p) (m := m)
  have hnn := sumK_nonneg (offK p m)
  have hle : (offK p m).length ≤ 90000 := by have := off_len p m; omega
  have HND := Lib.hid h.nodup
  have hson := sumK_on (p := p) (t := t) h.nodup
  have HSON : Hid (sumK (onK p t m) = sumK (offK p m) + t.size) := by show _ = _; rw [hson, hso]
  have hsm : sumK (offK p m) ≤ 1000000 := by omega
  have HON : Hid (onK p t m = offK p m ++ [(p, t)]) := rfl
  have HGO := Lib.hid (fun q => get_on (p := p) (t := t) (q := q) (m := m))
  have HGF := Lib.hid (fun q => get_off (p := p) (q := q) (m := m))
  clear hso hson h hvl
  go_enter Tryd.func65, Tryd.ntmps65
  go_wp2_with fail
  refine HO.out.mono ?_
  rintro e w1 ⟨rfl, S1, r1, A1, cap1, kvs1, hc, ho1, hs1⟩
  obtain ⟨w2, hu, hmap2, hou⟩ := update_run keyStr Tryd.underlying118 hc.map p t
  have hrb : r1 ≠ b := hc.map.not_blk hc.blk
  have hra : r1 ∉ ob A1 := hc.map.not_own hc.ord
  have hba : b ∉ ob A1 := fun hm => hc.ord.blk_ne hc.blk (by decide) hm
  have hblk2 := hou.blk hc.blk (by simpa using fun e => hrb e.symm)
  have hord2 : Own w2 B 9 1 A1 (offK p m).length cap1 (strs ((offK p m).map Prod.fst)) := hc.ord.only hou (fun g hg hm => hra (by simp at hm; exact hm ▸ hg))
  obtain ⟨W3, hW3⟩ : ∃ W3, W3 = w2.setCell ⟨b, 1, none⟩ (.int .i64 (sumK (offK p m) + t.size)) := ⟨_, rfl⟩
  have ho3 : Only [b] w2 W3 := by rw [hW3]; exact (Only.refl [b] w2).setCell (p := ⟨b, 1, none⟩) (.inl (by simp)) _
  have hblk3 : Blk W3 b 120 #[.int .i64 bud, .int .i64 (sumK (offK p m) + t.size), .map (some r1), .slice A1 (offK p m).length cap1] := by rw [hW3]; exact hblk2.set_ 1 _
  have hord3 := hord2.only ho3 (fun g hg hm => by simp at hm; exact hba (hm ▸ hg))
  have hmap3 := hmap2.only ho3 (by simpa using hrb)
  have hB2 : B ≤ w2.heap.size := by
    have h1 := (hc.own b hc.subb); have h2 := hou.size; omega
  have hB3 : B ≤ W3.heap.size := by
    have h1 := (hc.own b hc.subb); have h2 := hou.size; have h3 := ho3.size; omega
  have HROW := Lib.hid hord3
  have HSRC : Hid (∀ (W : World) (N : Nat), W.heap.size = N → Reads (W.alloc (.cells #[.string p] 9)) (N + 1) 1 (some ⟨N, 0, none⟩) 1 (strs [p])) := fun W N hN => by subst hN; exact Reads.row W 9 #[.string p]
  have HON1 := Lib.hid (oneCells_strs [p])
  have hF : Fits ((offK p m).length + 1) 16 := Fits.of_small (by omega) (by decide)
  have HFIN : Hid (∀ (w4 : World) (o : Obj) (A' : Option Addr) (c : Nat), Own w4 B 9 1 A' ((offK p m).length + 1) c (strs ((offK p m).map Prod.fst) ++ strs [p]) → Only (ob A1) (W3.alloc o) w4 → (∀ g ∈ ob A', g ∈ ob A1 ∨ g = (W3.alloc o).heap.size) → CacheTo w B S b bud (onK p t m) (w4.setCell ⟨b, 3, none⟩ (.slice A' ((offK p m).length + 1) c))) := fun w4 o A' c hO ho hsub => by
    have ho3a : Only [b] w2 (W3.alloc o) := ho3.alloc o
    have hoa : Only [] W3 (W3.alloc o) := (Only.refl [] W3).alloc o
    have hblk4 := (ho.blk (hoa.blk hblk3 (by simp)) hba).set_ 3 (.slice A' ((offK p m).length + 1) c)
    have ho45 : Only [b] w4 (w4.setCell ⟨b, 3, none⟩ (.slice A' ((offK p m).length + 1) c)) := (Only.refl [b] w4).setCell (p := ⟨b, 3, none⟩) (.inl (by simp)) _
    have hall : Only S1 w1 (w4.setCell ⟨b, 3, none⟩ (.slice A' ((offK p m).length + 1) c)) :=
      (((hou.mono (fun i hi => by simp at hi; subst hi; exact .inl hc.subr)).trans (ho3a.mono (fun i hi => by simp at hi; subst hi; exact .inl hc.subb))).trans (ho.mono (fun i hi => .inl (hc.suba i hi)))).trans (ho45.mono (fun i hi => by simp at hi; subst hi; exact .inl hc.subb))
    have hz1 := hou.size
    have hz2 := ho3.size
    have hz3 := ho.size
    have hz4 : W3.heap.size < (W3.alloc o).heap.size := by simp
    have hfin : CacheIs (w4.setCell ⟨b, 3, none⟩ (.slice A' ((offK p m).length + 1) c)) B (ob A' ++ S1) b bud (onK p t m) r1 A' c (ins p t kvs1) := by
      have hlen : (onK p t m).length = (offK p m).length + 1 := by rw [HON.out]; simp
      refine ⟨?_, ?_, ?_, hc.keys.ins, fun q => ?_, HND.out.on, fun g hg => by simp [hg], by simp [hc.subb], by simp [hc.subr], fun g hg => ?_⟩
      · rw [HSON.out, hlen]
        exact hblk4
      · rw [hlen, HON.out, List.map_append]
        unfold strs at hO ⊢
        rw [List.map_append]
        exact hO.only ho45 (fun g hg hm => by
          simp at hm
          rcases hsub g hg with h1 | h1
          · exact hba (hm ▸ h1)
          · have := (hc.own b hc.subb).2; omega)
      · exact ((hmap3.only hoa (by simp)).only ho hra).only ho45 (by simpa using hrb)
      · rw [get_ins, HGO.out, hc.same]
        by_cases hq : q = p
        · rw [if_pos hq, if_pos hq]
        · rw [if_neg hq, if_neg hq, HGF.out, if_neg hq]
      · rcases List.mem_append.1 hg with hg | hg
        · have h1 := hO.lt g hg
          exact ⟨h1.1, Nat.lt_of_lt_of_le h1.2 ho45.size⟩
        · exact ⟨(hc.own g hg).1, Nat.lt_of_lt_of_le (hc.own g hg).2 hall.size⟩
    refine CacheTo.back ho1 hs1 ⟨_, r1, A', c, _, hfin, hall, fun g hg => ?_⟩
    rcases List.mem_append.1 hg with hg | hg
    · rcases hsub g hg with h1 | h1
      · exact .inl (hc.suba g h1)
      · exact .inr (by omega)
    · exact .inl hg
  have c2 : w1.cell? ⟨b, 2, none⟩ = some (.map (some r1)) := hc.blk.cell 2
  have d1 : w2.cell? ⟨b, 1, none⟩ = some (.int .i64 (sumK (offK p m))) := hblk2.cell 1
  have f1 := hblk2.frozen 1
  have d3 : w2.cell? ⟨b, 3, none⟩ = some (.slice A1 (offK p m).length cap1) := hblk2.cell 3
  have e3 : W3.cell? ⟨b, 3, none⟩ = some (.slice A1 (offK p m).length cap1) := hblk3.cell 3
  have HB4 : Hid (∀ o w4, Only (ob A1) (W3.alloc o) w4 → Blk w4 b 120 #[.int .i64 bud, .int .i64 (sumK (offK p m) + t.size), .map (some r1), .slice A1 (offK p m).length cap1]) := fun o w4 ho => ho.blk (((Only.refl [] W3).alloc o).blk hblk3 (by simp)) hba
  have q1 : IntKind.i64.wrap (sumK (offK p m) + t.size) = sumK (offK p m) + t.size := IntWalk.i64_in _ (by omega)
  have hbW3 : b < W3.heap.size := hblk3.lt
  clear hc ho1 hs1 hmap2 hou hrb hra hba hblk2 hord2 ho3 hblk3 hord3 hmap3 HO HSON HON HGO HGF HND
  generalize hL : (offK p m).length = n at *
  generalize sumK (offK p m) = sm at *
  generalize strs ((offK p m).map Prod.fst) = ss at *
  subst hW3
  clear e3
  go_wp2_with (first
    | (at_builtin; go_loud (refine wpList_app _ (.tmp 28) (.tmp 30) rfl rfl elemS_ rfl rfl (HROW.out.alloc _) (HSRC.out _ _ (by simp)) HON1.out hF (by simp; omega) ?_; intro V2 cv2 w4 HO4 HL4 HX4; have HF4 := Lib.hid (HFIN.out w4 _ V2 cv2 HO4 HL4 HX4); have HBX := Lib.hid (HB4.out _ w4 HL4); have k3 : w4.cell? ⟨b, 3, none⟩ = some (.slice A1 n cap1) := HBX.out.cell 3; have f3 := HBX.out.frozen 3; clear HO4 HL4 HX4)))
  first | go_end0 | (refine bodyPost_ret (results_none rfl _ _ _) rfl ?_)
  exact ⟨rfl, HF4.out⟩
end Go.Proofs.YtgjhkblnohcppaaDoor
