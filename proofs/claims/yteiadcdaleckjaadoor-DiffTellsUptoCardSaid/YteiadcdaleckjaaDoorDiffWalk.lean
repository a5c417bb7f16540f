/- diff.walk, diff.Apply, diff.Turn, walked: edits done, edits turned. Conditions: what is written has at most 2,000,000 bytes. -/
import Derived.Test.YteiadcdaleckjaaDoorBld
import Derived.Test.YteiadcdaleckjaaDoorDiff
import Derived.Test.YteiadcdaleckjaaDoorShelfBld
namespace Go.Proofs.YteiadcdaleckjaaDoor
open Go.RowKit
set_option linter.unusedVariables false

section
variable {T e : TypeId} {B b : Nat} {bs : List Value} {w w' : World}
/-- A builder stays where its block, and all rows of its element type, stay. -/
theorem bld_keep (h : Lib.IsBuilderF T e B b bs w) (hk : ∀ (k : Nat) (c : Array Value) (fz : Nat × Nat) (t : TypeId), (t = T ∨ t = e) → w.heap[k]? = some (Obj.cells c t fz) → w'.heap[k]? = some (Obj.cells c t fz)) : Lib.IsBuilderF T e B b bs w' := by
  have one : ∀ p, Lib.BuilderAtF T e B b p bs w → Lib.BuilderAtF T e B b p bs w' := by
    rintro p ⟨hB, v, hb, ⟨h1, h2⟩, hne⟩
    refine ⟨hB, v, hk _ _ _ _ (.inl rfl) hb, ⟨h1, ?_⟩, hne⟩
    rcases h2 with h2 | ⟨g, cap, cur, fz, e1, e2, e3, e4⟩
    · exact .inl h2
    · exact .inr ⟨g, cap, cur, fz, e1, e2, hk _ _ _ _ (.inr rfl) e3, e4⟩
  rcases h with h | h
  · exact .inl (one _ h)
  · exact .inr (one _ h)
theorem bld_alloc (h : Lib.IsBuilderF T e B b bs w) (o : Obj) : Lib.IsBuilderF T e B b bs (w.alloc o) :=
  bld_keep h fun k c fz t _ hk => (Below.heap_alloc w o k (Array.getElem?_eq_some_iff.1 hk).1).trans hk
theorem bld_drewN (h : Lib.IsBuilderF T e B b bs w) (n : Nat) : Lib.IsBuilderF T e B b bs (w.drewN n) := bld_keep h fun k c fz t _ hk => hk
theorem bld_only {S : List Nat} {t2 : TypeId} (h : Lib.IsBuilderF T e B b bs w) (ho : Only S w w') (hS : ∀ g ∈ S, ∃ c fz, w.heap[g]? = some (Obj.cells c t2 fz)) (h1 : t2 ≠ T) (h2 : t2 ≠ e) : Lib.IsBuilderF T e B b bs w' :=
  bld_keep h fun k c fz t ht hk => (ho.block k (Array.getElem?_eq_some_iff.1 hk).1 (fun hm => by
    obtain ⟨c2, fz2, h3⟩ := hS k hm
    rw [hk] at h3
    injection h3 with h3
    injection h3 with _ h3
    rcases ht with ht | ht
    · exact h1 (by rw [← h3, ht])
    · exact h2 (by rw [← h3, ht]))).trans hk
theorem Own.others {B2 : Nat} {t2 : TypeId} {size n c : Nat} {A : Option Addr} {xs : List Value} (h : Own w B2 t2 size A n c xs) (hk : Lib.OthersKept e (some b) w w') (hB : b < B2) (hne : t2 ≠ e) : Own w' B2 t2 size A n c xs := by
  obtain ⟨h1, h2⟩ := h
  refine ⟨h1, ?_⟩
  rcases h2 with h2 | ⟨g, cap, cur, e1, e2, e3, e4⟩
  · exact .inl h2
  · refine .inr ⟨g, cap, cur, e1, e2, hk _ _ e3 (fun h => by injection h; omega) (fun c fz h => ?_), e4⟩
    injection h with _ h
    exact hne h
theorem Blk.others {g : Nat} {t2 : TypeId} {cs : Array Value} (h : Blk w g t2 cs) (hk : Lib.OthersKept e (some b) w w') (hB : g ≠ b) (hne : t2 ≠ e) : Blk w' g t2 cs :=
  hk _ _ h (fun h => by injection h; omega) (fun c fz h => by injection h with _ h; exact hne h)
theorem Own.kind {B2 : Nat} {t2 : TypeId} {size n c : Nat} {A : Option Addr} {xs : List Value} (h : Own w B2 t2 size A n c xs) : ∀ g ∈ ob A, ∃ c fz, w.heap[g]? = some (Obj.cells c t2 fz) := by
  intro g hg
  have hv := mem_ob (n := n) (c := c) hg
  rcases h.2 with ⟨he, _⟩ | ⟨g', cap, cur, he, _, hh, _⟩
  · rw [he] at hv; simp [Value.ownBlock] at hv
  · rw [he] at hv
    have : g' = g := by simpa [Value.ownBlock] using hv
    subst this
    exact ⟨_, _, hh⟩
end

/-- Midway: what came, what takes it back. -/
structure WkSt (w : World) (V : Option Addr) (n cv : Nat) (done : List UInt8) (bk : List LEd) (wr : World) : Prop where
  bld : Lib.IsBuilderF 83 5 w.heap.size w.heap.size (Lib.byteCells done) wr
  own : Own wr (w.heap.size + 1) 59 3 V n cv (ecells bk)
  bel : Below w.heap.size w wr
section
variable {w wr w' : World} {n cv n' c' : Nat} {V V' : Option Addr} {done : List UInt8} {bk : List LEd} {e : LEd}
theorem WkSt.alloc (h : WkSt w V n cv done bk wr) (o : Obj) : WkSt w V n cv done bk (wr.alloc o) := ⟨bld_alloc h.bld o, h.own.alloc _, h.bel.alloc h.bel.size _⟩
theorem WkSt.drewN (h : WkSt w V n cv done bk wr) (k : Nat) : WkSt w V n cv done bk (wr.drewN k) := ⟨bld_drewN h.bld k, h.own.drewN k, below_drewN h.bel k⟩
theorem WkSt.drew (h : WkSt w V n cv done bk wr) : WkSt w V n cv done bk wr.drew := ⟨bld_keep h.bld fun k c fz t _ hk => hk, h.own.drew, h.bel.drew⟩
theorem WkSt.base (h : WkSt w V n cv done bk wr) : w.heap.size + 1 ≤ wr.heap.size := by
  rcases h.bld with h | h
  · exact h.lt
  · exact h.lt
theorem WkSt.len (h : WkSt w V n cv done bk wr) : n = bk.length := by have := h.own.len; rw [ecells_len] at this; omega
theorem byteCells_str (done : List UInt8) (s : ByteArray) : Lib.byteCells done ++ Lib.strCells s = Lib.byteCells (done ++ s.data.toList) := by simp [Lib.byteCells, Lib.strCells]
theorem WkSt.wrote {s : ByteArray} (h : WkSt w V n cv done bk wr) (h1 : Lib.BuilderAtF 83 5 w.heap.size w.heap.size (.pointer (some ⟨w.heap.size, 0, none⟩)) (Lib.byteCells done ++ Lib.strCells s) w') (h2 : Below w.heap.size wr w') (h3 : Lib.OthersKept 5 (some w.heap.size) wr w') :
    WkSt w V n cv (done ++ s.data.toList) bk w' :=
  ⟨.inr (by rw [byteCells_str] at h1; exact h1), h.own.others h3 (by omega) (by decide), h.bel.trans h2⟩
theorem WkSt.app (h : WkSt w V n cv done bk wr) (hown : Own w' (w.heap.size + 1) 59 3 V' n' c' (ecells bk ++ ecells [e])) (ho : Only (ob V) wr w') : WkSt w V' n' c' done (bk ++ [e]) w' := by
  have hS : ∀ i ∈ ob V, w.heap.size + 1 ≤ i := fun i hi => (h.own.lt _ hi).1
  exact ⟨bld_only h.bld ho h.own.kind (by decide) (by decide), by rw [ecells_append] at hown; exact hown, h.bel.trans (ho.below h.bel.size (fun i hi => by have := hS _ hi; omega))⟩
end
theorem reads_led (W : World) (e : LEd) : Reads (W.alloc (.cells #[.int .i64 e.keep, .int .i64 e.strike, .string e.write] 59)) (W.alloc (.cells #[.int .i64 e.keep, .int .i64 e.strike, .string e.write] 59)).heap.size 3 (some ⟨W.heap.size, 0, none⟩) 1 (ecells [e]) := by
  have h := Reads.row W 59 #[.int .i64 e.keep, .int .i64 e.strike, .string e.write]
  show Reads _ (W.alloc (.cells #[.int .i64 e.keep, .int .i64 e.strike, .string e.write] 59)).heap.size 3 (some ⟨W.heap.size, 0, none⟩) 1 [.int .i64 e.keep, .int .i64 e.strike, .string e.write]
  simpa using h
def sumW (l : List LEd) : Nat := (l.map fun e => e.write.size).sum
theorem sumW_take {l : List LEd} {k : Nat} (h : k < l.length) : sumW (l.take (k + 1)) = sumW (l.take k) + l[k].write.size := by
  unfold sumW
  rw [List.take_succ_eq_append_getElem h]
  simp only [List.map_append, List.map_cons, List.map_nil, List.sum_append, List.sum_cons, List.sum_nil, Nat.add_zero]
theorem sumW_le {l : List LEd} (k : Nat) : sumW (l.take k) ≤ sumW l := by
  have : sumW l = sumW (l.take k) + sumW (l.drop k) := by
    unfold sumW
    rw [← List.sum_append, ← List.map_append, List.take_append_drop]
  omega
def wkErr (a : ByteArray) (l : List LEd) : Int :=
  if 200 < a.size ∨ 200 < l.length then 4 else match wk a.data.toList l with
    | none => 1
    | some r => if 200 < r.1.length then 4 else 0
def wkOut (a : ByteArray) (l : List LEd) : List UInt8 := match wk a.data.toList l with
  | none => []
  | some r => r.1
def wkBack (a : ByteArray) (l : List LEd) : List LEd := match wk a.data.toList l with
  | none => []
  | some r => r.2
def WkPost (w : World) (a : ByteArray) (l : List LEd) (e : Ending) (w' : World) : Prop :=
  if wkErr a l = 0 then ∃ V c, e = .returned (.tuple #[.string (strOf (wkOut a l)), .slice V (wkBack a l).length c, .nilIface]) ∧ Reads w' w'.heap.size 3 V (wkBack a l).length (ecells (wkBack a l)) ∧ Below w.heap.size w w'
  else e = .returned (.tuple #[.string ⟨#[]⟩, .slice none 0 0, errV (wkErr a l)]) ∧ Below w.heap.size w w'
theorem extract_str (a : ByteArray) (i j : Nat) : strOf ((a.data.toList.take j).drop i) = a.extract i j := by
  apply ByteArray.ext
  rw [ByteArray.data_extract]
  apply Array.ext'
  rw [Array.toList_extract, List.extract_eq_take_drop]
  show (a.data.toList.take j).drop i = _
  rw [List.drop_take]
theorem extract_list (a : ByteArray) (i j : Nat) : (a.extract i j).data.toList = (a.data.toList.take j).drop i := by rw [← extract_str]; rfl

theorem wk_step {rest : ByteArray} {ke se : Nat} {ws : ByteArray} {tail : List LEd} (h : ke + se ≤ rest.size) :
    wk rest.data.toList (⟨ke, se, ws⟩ :: tail) = (wk (rest.extract (ke + se) rest.size).data.toList tail).map fun r => ((rest.extract 0 ke ++ ws).data.toList ++ r.1, ⟨ke, ws.size, rest.extract ke (ke + se)⟩ :: r.2) := by
  have hrl : rest.data.toList.length = rest.size := by rw [Array.length_toList]; rfl
  have e1 : ((ke : Int) + (se : Int)).toNat = ke + se := by omega
  have hb : ¬ edBad rest.data.toList.length ⟨ke, se, ws⟩ := by rw [hrl]; simp only [edBad]; omega
  rw [wk, if_neg hb]
  simp only [edBack, e1, Int.toNat_natCast, extract_str]
  rw [extract_list, ← hrl, List.take_length]
  have e2 : (rest.extract 0 ke ++ ws).data.toList = rest.data.toList.take ke ++ ws.data.toList := by
    rw [ByteArray.data_append, Array.toList_append, extract_list, List.drop_zero]
  rw [e2]

def WkLoop (w : World) (a : ByteArray) (l : List LEd) (x v i : Value) (wr : World) : Prop :=
  ∃ (k cv : Nat) (V : Option Addr) (rest : ByteArray) (done : List UInt8) (bk : List LEd), k ≤ l.length ∧ i = .int .i64 k ∧ x = .string rest ∧ v = .slice V k cv ∧ rest.size ≤ 200 ∧
    Hid (WkSt w V k cv done bk wr) ∧ Hid (wk a.data.toList l = (wk rest.data.toList (l.drop k)).map fun r => (done ++ r.1, bk ++ r.2)) ∧ done.length + rest.size ≤ 200 + sumW (l.take k)

set_option maxRecDepth 100000 in
set_option maxHeartbeats 4000000 in
theorem walk_any (w : World) (a : ByteArray) (A : Option Addr) (c : Nat) (l : List LEd) (h : Reads w w.heap.size 3 A l.length (ecells l)) (ha : a.size ≤ 9223372036854775807) (hn : l.length ≤ 9223372036854775807) (hW : sumW l ≤ 2000000) :
    Calls Tryd.prog 25 #[.string a, .slice A l.length c] w (WkPost w a l) := by
  have HW := Lib.hid (fun B b bs s w h h1 h2 => writeString_any B b bs s w h h1 h2)
  have HR := Lib.hid h
  clear h
  by_cases hz : 200 < a.size ∨ 200 < l.length
  · have HE : Hid (wkErr a l = 4) := by show _ = _; unfold wkErr; rw [if_pos hz]
    by_cases h1 : 200 < a.size
    · clear hz
      go_enter Tryd.func25, Tryd.ntmps25
      go_wp2_with fail
      go_ret3
      unfold WkPost
      rw [HE.out, if_neg (by decide)]
      exact ⟨rfl, Below.refl _ _⟩
    · have h2 : 200 < l.length := by omega
      clear hz
      go_enter Tryd.func25, Tryd.ntmps25
      go_wp2_with fail
      go_ret3
      unfold WkPost
      rw [HE.out, if_neg (by decide)]
      exact ⟨rfl, Below.refl _ _⟩
  · have ha2 : a.size ≤ 200 := by omega
    have hl2 : l.length ≤ 200 := by omega
    have HZ := Lib.hid hz
    have HST : Hid (WkSt w none 0 0 [] [] (w.alloc (.cells #[.pointer none, .slice none 0 0] 83))) :=
      ⟨Lib.IsBuilderF.of (Lib.fresh_isBuilder 83 5 w), Own.nil _ _ _ _, (Below.refl _ _).alloc (Nat.le_refl _) _⟩
    clear hz ha hn
    go_enter Tryd.func25, Tryd.ntmps25
    go_wp2_with fail
    go_loopw [0, 8, 23] (fun x v i wr => WkLoop w a l x v i wr) (fun _ _ i _ => l.length - (intOf i).toNat)
    case atStart =>
      refine ⟨0, 0, none, a, [], [], by omega, rfl, rfl, rfl, ha2, HST, ?_, by simp; omega⟩
      show _ = _
      simp
    case round =>
      obtain ⟨k, cv, V, rest, done, bk, hk, rfl, rfl, rfl, hr, HS, HK, hd⟩ := hrel
      clear HST
      by_cases hkn : k < l.length
      · obtain ⟨ad, rfl, hb, c0, c1, c2⟩ := (HR.out.below HS.out.bel).ed hkn
        have hlt : (k : Int) < (l.length : Int) := by omega
        have hkd := List.drop_eq_getElem_cons hkn
        have hst := sumW_take hkn
        have hsl := sumW_le (l := l) (k + 1)
        generalize l[k] = ed at c0 c1 c2 hkd hst
        obtain ⟨kp, sp, ws⟩ := ed
        simp only at c0 c1 c2 hst
        have HST := Lib.hid hst
        have hws : sumW (l.take k) + ws.size ≤ 2000000 := by omega
        rw [hkd] at HK
        clear hkd hst hsl
        have HBa : Hid (Below w.heap.size w (wr.alloc (.cells #[.int .i64 kp, .int .i64 sp, .string ws] 59))) := HS.out.bel.alloc HS.out.bel.size _
        have HBad : Hid (edBad rest.data.toList.length ⟨kp, sp, ws⟩ → wkErr a l = 1) := fun hbd => by
          have h := HK.out
          rw [wk, if_pos hbd] at h
          unfold wkErr
          rw [if_neg HZ.out, h]
          rfl
        have hrl : rest.data.toList.length = rest.size := by rw [Array.length_toList]; rfl
        rw [hrl] at HBad
        have HRL := Lib.hid hrl
        clear hrl
        by_cases b1 : kp < 0
        · have HErr := Lib.hid (HBad.out (.inl b1))
          go_wp2_with fail
          go_ret3
          unfold WkPost
          rw [HErr.out, if_neg (by decide)]
          exact ⟨rfl, HBa.out⟩
        · by_cases b2 : sp < 0
          · have HErr := Lib.hid (HBad.out (.inr (.inl b2)))
            go_wp2_with fail
            go_ret3
            unfold WkPost
            rw [HErr.out, if_neg (by decide)]
            exact ⟨rfl, HBa.out⟩

          · by_cases b3 : (rest.size : Int) < kp
            · have HErr := Lib.hid (HBad.out (.inr (.inr (.inl b3))))
              go_wp2_with fail
              go_ret3
              unfold WkPost
              rw [HErr.out, if_neg (by decide)]
              exact ⟨rfl, HBa.out⟩

            · by_cases b4 : (rest.size : Int) - kp < sp
              · have HErr := Lib.hid (HBad.out (.inr (.inr (.inr b4))))
                go_wp2_with fail
                go_ret3
                unfold WkPost
                rw [HErr.out, if_neg (by decide)]
                exact ⟨rfl, HBa.out⟩

              · obtain ⟨ke, rfl⟩ := Int.eq_ofNat_of_zero_le (show 0 ≤ kp by omega)
                obtain ⟨se, rfl⟩ := Int.eq_ofNat_of_zero_le (show 0 ≤ sp by omega)
                clear HBad
                go_upto_region 11 with (fail)
                have HS5 := Lib.hid (HS.out.alloc (.cells #[.int .i64 (ke : Int), .int .i64 (se : Int), .string ws] 59))
                have HBX := Lib.hid (Blk.new wr 59 #[.int .i64 (ke : Int), .int .i64 (se : Int), .string ws])
                have hdb : w.heap.size < wr.heap.size := HS.out.base
                have HVdb : Hid (∀ g ∈ ob V, g < wr.heap.size) := fun g hg => (HS.out.own.lt g hg).2
                obtain ⟨db, hdbe⟩ : ∃ db, db = wr.heap.size := ⟨_, rfl⟩
                obtain ⟨wx, hwx⟩ : ∃ wx, wx = wr.alloc (.cells #[.int .i64 (ke : Int), .int .i64 (se : Int), .string ws] 59) := ⟨_, rfl⟩
                rw [← hwx] at HS5 HBX HBa ⊢
                rw [← hdbe] at HBX hdb HVdb ⊢
                clear hwx hdbe c0 c1 c2 HS hb
                have e0 : wx.cell? ⟨db, 0, none⟩ = some (.int .i64 (ke : Int)) := by rw [HBX.out.cell]; rfl
                have e2 : wx.cell? ⟨db, 2, none⟩ = some (.string ws) := by rw [HBX.out.cell]; rfl
                have hk0 : (0 : Int) ≤ (ke : Int) := by omega
                have hk1 : (ke : Int) ≤ (rest.size : Int) := by omega
                have hex : (rest.extract 0 ke).size ≤ 200 := by rw [ByteArray.size_extract]; omega
                have hcat : ∀ W, (Op.stringOp .add (rest.extract 0 ke) ws).run Tryd.prog W = .ok (.string (rest.extract 0 ke ++ ws)) W := fun W => run_string_add_sum _ _ _ (by omega)
                have hsz : (Lib.byteCells done).length + (rest.extract 0 ke ++ ws).size ≤ 140737488355328 := by
                  have hx1 := HST.out
                  have hx2 := sumW_le (l := l) k
                  rw [Lib.byteCells_length, ByteArray.size_append]
                  omega
                have HB6 := HS5.out.drew.bld
                have hb6 : w.heap.size ≤ wx.drew.heap.size := HS5.out.drew.bel.size
                clear hex
                go_region_held3 (fun w' => w'.cell? ⟨db, 0, none⟩ = some (.int .i64 (ke : Int)) ∧ w'.cell? ⟨db, 2, none⟩ = some (.string ws))
                  (first
                    | go_keep
                    | (refine ⟨?_, ?_⟩ <;> assumption))
                  (first
                    | (go_at_call 37; refine (HW.out _ _ _ _ _ HB6 hsz hb6).mono ?_; rintro e w2 ⟨rfl, g1, g2, g3⟩; have HS7 := Lib.hid (HS5.out.drew.wrote g1 g2 g3); have HBX7 := Lib.hid (HBX.out.drew.others g3 (by omega) (by decide)); have e0 : w2.cell? ⟨db, 0, none⟩ = some (.int .i64 (ke : Int)) := (by rw [HBX7.out.cell]; rfl); have e2 : w2.cell? ⟨db, 2, none⟩ = some (.string ws) := (by rw [HBX7.out.cell]; rfl); clear g1 g2 g3))
                clear HB6 hb6 hcat hsz HS5 HBX HBa
                go_wp2_with fail
                have hk2 : (0 : Int) ≤ (ke : Int) + (se : Int) := by omega
                have hk3 : (ke : Int) + (se : Int) ≤ (rest.size : Int) := by omega
                have hk4 : (ke : Int) ≤ (ke : Int) + (se : Int) := by omega
                have hk5 : ((ke : Int) + (se : Int)).toNat = ke + se := by omega
                have HS8 := (HS7.out.alloc (.cells #[.int .i64 (ke : Int), .int .i64 (ws.size : Int), .string (rest.extract ke (ke + se))] 59)).drew
                have HRX := (reads_led w2 ⟨ke, ws.size, rest.extract ke (ke + se)⟩).drew
                have HOX := HS8.own
                have HBX8 := HS8.base
                have HS8 := Lib.hid HS8
                have HBD8 := Lib.hid ((HBX7.out.alloc (.cells #[.int .i64 (ke : Int), .int .i64 (ws.size : Int), .string (rest.extract ke (ke + se))] 59)).drew)
                have hF : Fits (k + 1) 32 := Fits.of_small (by omega) (by decide)
                go_region_held3 (fun w' => w'.cell? ⟨db, 0, none⟩ = some (.int .i64 (ke : Int)) ∧ w'.cell? ⟨db, 2, none⟩ = some (.string ws))
                  (first
                    | go_keep
                    | (refine ⟨?_, ?_⟩ <;> assumption))
                  (first
                    | (refine step_app _ (.tmp 66) (.tmp 78) rfl rfl elemE rfl rfl HOX HRX (oneCells_e _) hF HBX8 ?_; intro V5 cv5 w7 HO HL HX; have HS9 := Lib.hid (HS8.out.app HO HL); have HBX9 := Lib.hid (HL.blk HBD8.out (fun hm => by have := HVdb.out _ hm; omega)); have e0 : w7.cell? ⟨db, 0, none⟩ = some (.int .i64 (ke : Int)) := (by rw [HBX9.out.cell]; rfl); have e2 : w7.cell? ⟨db, 2, none⟩ = some (.string ws) := (by rw [HBX9.out.cell]; rfl); clear HO HL HX))
                clear HOX HRX HBX8
                have HK3 := HK.out
                rw [wk_step (by omega), Option.map_map] at HK3
                have HK4 : Hid (wk a.data.toList l = (wk (rest.extract (ke + se) rest.size).data.toList (l.drop (k + 1))).map fun r => (done ++ (rest.extract 0 ke ++ ws).data.toList ++ r.1, bk ++ [⟨ke, ws.size, rest.extract ke (ke + se)⟩] ++ r.2)) := by
                  show _ = _
                  rw [HK3]
                  congr 1
                  funext r
                  simp
                have hlen3 : Hid ((done ++ (rest.extract 0 ke ++ ws).data.toList).length + (rest.extract (ke + se) rest.size).size ≤ 200 + sumW (l.take (k + 1)) ∧ (rest.extract (ke + se) rest.size).size ≤ 200) := by
                  have hx := HST.out
                  have h1 : (rest.extract 0 ke ++ ws).data.toList.length = (rest.extract 0 ke ++ ws).size := by rw [Array.length_toList]; rfl
                  show _ ∧ _
                  rw [List.length_append, h1, ByteArray.size_append, ByteArray.size_extract, ByteArray.size_extract]
                  omega
                clear HK HK3 HST
                go_wp2_with fail
                go_roundw
                case rel => exact ⟨k + 1, cv5, V5, rest.extract (ke + se) rest.size, done ++ (rest.extract 0 ke ++ ws).data.toList, bk ++ [⟨ke, ws.size, rest.extract ke (ke + se)⟩], by omega, by go_num, rfl, rfl, hlen3.out.2, HS9, HK4, hlen3.out.1⟩
                case measure => simp [intOf]; omega
      · have hkk : k = l.length := by omega
        have hd2 : decide ((k : Int) < (l.length : Int)) = false := by simp; omega
        have HK2 : Hid (wk a.data.toList l = some (done ++ rest.data.toList, bk)) := by
          have := HK.out
          rw [List.drop_of_length_le (by omega), wk] at this
          rw [Option.map_some, List.append_nil] at this
          exact this
        have hsw := sumW_le (l := l) k
        have hlen : (Lib.byteCells done).length + rest.size ≤ 140737488355328 := by rw [Lib.byteCells_length]; omega
        clear HK hkk
        have hbw : w.heap.size ≤ wr.heap.size := HS.out.bel.size
        go_wp2_with fail
        refine (HW.out _ _ _ _ _ HS.out.bld hlen hbw).mono ?_
        rintro e w1 ⟨rfl, g1, g2, g3⟩
        have HS1 := Lib.hid (HS.out.wrote g1 g2 g3)
        have hbw1 : w.heap.size ≤ w1.heap.size := HS1.out.bel.size
        clear g1 g2 g3 HS hbw hlen
        have HRes : Hid (wkOut a l = done ++ rest.data.toList ∧ wkBack a l = bk ∧ wkErr a l = if 200 < (done ++ rest.data.toList).length then 4 else 0) := by
          show _ ∧ _ ∧ _
          unfold wkOut wkBack wkErr
          rw [if_neg HZ.out, HK2.out]
          exact ⟨rfl, rfl, rfl⟩
        have hlen2 : (Lib.byteCells (done ++ rest.data.toList)).length = (done ++ rest.data.toList).length := Lib.byteCells_length _
        have HL2 := Lib.hid hlen2
        clear hlen2 HK2
        have hdl : (done ++ rest.data.toList).length ≤ 2000200 := by have hrl : rest.data.toList.length = rest.size := (by rw [Array.length_toList]; rfl); rw [List.length_append, hrl]; omega
        generalize done ++ rest.data.toList = fin at *
        go_wp2_with fail
        refine (Tryd.Builder_Len_f _ _ _ _ HS1.out.bld).mono ?_
        rintro e w2 ⟨rfl, rfl⟩
        rw [HL2.out]
        by_cases hbig : 200 < fin.length
        · have hdb : decide (200 < (fin.length : Int)) = true := by simp; omega
          have HE : Hid (wkErr a l = 4) := by show _ = _; rw [HRes.out.2.2, if_pos hbig]
          go_wp2_with fail
          go_ret3
          unfold WkPost
          rw [HE.out, if_neg (by decide)]
          exact ⟨rfl, HS1.out.bel⟩
        · have hdb : decide (200 < (fin.length : Int)) = false := by simp; omega
          have HE : Hid (wkErr a l = 0) := by show _ = _; rw [HRes.out.2.2, if_neg hbig]
          go_wp2_with fail
          refine (Tryd.Builder_String_any_k _ _ fin _ HS1.out.bld hbw1).mono ?_
          rintro e w3 ⟨rfl, h1, h2, h3⟩
          have HOW := Lib.hid (HS1.out.own.others h3 (by omega) (by decide))
          have HBe := Lib.hid (HS1.out.bel.trans h2)
          have HKL : Hid (k = bk.length) := HS1.out.len
          clear h1 h2 h3
          go_wp2_with fail
          go_ret3
          unfold WkPost
          rw [HE.out, if_pos rfl, HRes.out.1, HRes.out.2.1]
          exact ⟨V, cv, by rw [← HKL.out]; rfl, by rw [← HKL.out]; exact HOW.out.reads, HBe.out⟩

def ApplyPost (w : World) (a : ByteArray) (l : List LEd) (e : Ending) (w' : World) : Prop :=
  e = .returned (.tuple #[.string (if wkErr a l = 0 then strOf (wkOut a l) else ⟨#[]⟩), errV (wkErr a l)]) ∧ Below w.heap.size w w'
set_option maxRecDepth 100000 in
theorem apply_any (w : World) (a : ByteArray) (A : Option Addr) (c : Nat) (l : List LEd) (h : Reads w w.heap.size 3 A l.length (ecells l)) (ha : a.size ≤ 9223372036854775807) (hn : l.length ≤ 9223372036854775807) (hW : sumW l ≤ 2000000) :
    Calls Tryd.prog 10 #[.string a, .slice A l.length c] w (ApplyPost w a l) := by
  have HX := Lib.hid (walk_any w a A c l h ha hn hW)
  clear h ha hn hW
  go_enter Tryd.func10, Tryd.ntmps10
  go_wp2_with fail
  refine HX.out.mono ?_
  intro e w1 hp
  unfold WkPost at hp
  by_cases he : wkErr a l = 0
  · rw [if_pos he] at hp
    obtain ⟨V, cv, rfl, _, hb⟩ := hp
    have HE := Lib.hid he
    clear he
    go_wp2_with fail
    go_ret2
    unfold ApplyPost
    rw [HE.out, if_pos rfl]
    exact ⟨rfl, hb⟩
  · rw [if_neg he] at hp
    obtain ⟨rfl, hb⟩ := hp
    have HE := Lib.hid he
    clear he
    go_wp2_with fail
    go_ret2
    unfold ApplyPost
    rw [if_neg HE.out]
    exact ⟨rfl, hb⟩
def TurnPost (w : World) (a : ByteArray) (l : List LEd) (e : Ending) (w' : World) : Prop :=
  if wkErr a l = 0 then ∃ V c, e = .returned (.tuple #[.slice V (wkBack a l).length c, .nilIface]) ∧ Reads w' w'.heap.size 3 V (wkBack a l).length (ecells (wkBack a l)) ∧ Below w.heap.size w w'
  else e = .returned (.tuple #[.slice none 0 0, errV (wkErr a l)]) ∧ Below w.heap.size w w'
set_option maxRecDepth 100000 in
theorem turn_any (w : World) (a : ByteArray) (A : Option Addr) (c : Nat) (l : List LEd) (h : Reads w w.heap.size 3 A l.length (ecells l)) (ha : a.size ≤ 9223372036854775807) (hn : l.length ≤ 9223372036854775807) (hW : sumW l ≤ 2000000) :
    Calls Tryd.prog 11 #[.string a, .slice A l.length c] w (TurnPost w a l) := by
  have HX := Lib.hid (walk_any w a A c l h ha hn hW)
  clear h ha hn hW
  go_enter Tryd.func11, Tryd.ntmps11
  go_wp2_with fail
  refine HX.out.mono ?_
  intro e w1 hp
  unfold WkPost at hp
  by_cases he : wkErr a l = 0
  · rw [if_pos he] at hp
    obtain ⟨V, cv, rfl, hr, hb⟩ := hp
    have HE := Lib.hid he
    have HRR := Lib.hid hr
    clear he hr
    go_wp2_with fail
    go_ret2
    unfold TurnPost
    rw [if_pos HE.out]
    exact ⟨V, cv, rfl, HRR.out, hb⟩
  · rw [if_neg he] at hp
    obtain ⟨rfl, hb⟩ := hp
    have HE := Lib.hid he
    clear he
    go_wp2_with fail
    go_ret2
    unfold TurnPost
    rw [if_neg HE.out]
    exact ⟨rfl, hb⟩
end Go.Proofs.YteiadcdaleckjaaDoor
