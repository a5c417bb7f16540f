/- op.two, op.Encode, walked. Conditions: stated with each. -/
import Derived.Deep.CutBlock
import Derived.Lib.AppendStr
import Derived.Test.YthfbjfocmnikaaaGreatDoorBytes
namespace Go.Proofs.YthfbjfocmnikaaaGreatDoor
open Go.RowKit
set_option linter.unusedVariables false

set_option maxRecDepth 100000 in
theorem two_any (w : World) (n : Int) (h0 : 0 ≤ n) (h1 : n ≤ 65535) :
    Calls Tryz.prog 122 #[.int .i64 n] w fun e w' => e = .returned (.slice (some ⟨w.heap.size, 0, none⟩) 2 2) ∧ w' = w.alloc (.cells #[.int .u8 (n / 256), .int .u8 (n % 256)] 5) := by
  go_enter Tryz.func122, Tryz.ntmps122
  go_wp2_with fail
  go_ret
  exact ⟨rfl, rfl⟩

theorem Own.fresh (w : World) (B : Nat) (hB : B ≤ w.heap.size) (l : List UInt8) (hl : l.length ≤ 1000) (cs : Array Value) (hc : cs.toList = bs l) :
    Own (w.alloc (.cells cs 5)) B 5 1 (some ⟨w.heap.size, 0, none⟩) l.length l.length (bs l) :=
  ⟨by simp [bs_len], .inr ⟨w.heap.size, l.length, cs, rfl, hB, heap_alloc_new w _, Nat.le_refl _, by unfold maxLen; omega, by rw [← Array.length_toList, hc, bs_len]; simp, by rw [hc, List.take_of_length_le (by simp [bs_len])]⟩⟩

/-- append of a string's bytes onto a row of the call's own. -/
theorem wpList_appS {w : World} {ops : Array Oper} {rest : List Oper} {o : Oper} {a : Act} {Q : Exit → Act → World → Prop} (s x : Operand) (hgd : o.guard = none)
    (ho : o.op = .call { callee := .builtin .append, args := #[s, x], argTypes := #[122, 9] })
    {base : Nat} {A0 : Option Addr} {n c0 : Nat} {xs : List Value} (hs : a.eval s = .slice A0 n c0) {str : ByteArray} (hx : a.eval x = .string str)
    (hown : Own w base 5 1 A0 n c0 xs) (hf : Fits (n + str.size) 1) (hbase : base ≤ w.heap.size)
    (h : ∀ A' c' w', Own w' base 5 1 A' (n + str.size) c' (xs ++ bs str.data.toList) → Only (ob A0) w w' → wpList Tryz.prog ops Q rest (a.put o.dst (.slice A' (n + str.size) c')) w') : wpList Tryz.prog ops Q (o :: rest) a w := by
  obtain ⟨ht, ⟨i, z, hi, hz, hsize, hby, hzs⟩, hsz⟩ := elemB
  have hz8 : i.zero = some (.int .u8 0) := by
    have hk : ((Tryz.prog).info? 5).map (fun i => (i.zero, i.size, i.bytes)) = some (some (.int .u8 0), 1, 1) := by kernel_rfl
    rw [hi] at hk
    simp at hk
    exact hk.1
  refine wpList_plain hgd fun K hK => ?_
  obtain ⟨v', w', hr, h2, h3, _⟩ := Lib.run_append_own_string (P := Tryz.prog) w base 122 9 o.type 5 i Tryz.underlying122 Tryz.underlying9 hi hz8 hsize hby _ n xs hown str hf.1 (by have := hf.2; omega) hbase
  obtain ⟨A', c', rfl, hown'⟩ := Own.of_row h2
  unfold Oper.wp execOp
  simp only [ho, resolve, invoke, builtin, Sem.run_bind, Sem.run_pure, Result.andThen_ok, List.map_toArray, List.map_cons, List.map_nil, hs, hx, hr]
  exact hK _ _ (h A' c' w' hown' ((Only.refl _ _).grown h3 (fun g hg => .inl (by rw [ownBlock_ob hg]; simp))))

def opHead (o : LOp) : List UInt8 := [u8 o.what, u8 o.dot.who, u8 (o.dot.n / 256), u8 (o.dot.n % 256), u8 o.place.size] ++ o.place.data.toList
def dotBytes (d : LDot) : List UInt8 := [u8 d.who, u8 (d.n / 256), u8 (d.n % 256)]
def opTail (o : LOp) : List UInt8 := if o.what = 1 then [u8 o.letter] else if o.what = 4 then u8 o.seen.length :: o.seen.flatMap dotBytes else []
def sumB (l : List UInt8) : Nat := (l.map UInt8.toNat).sum
def opBytes (o : LOp) : List UInt8 := opHead o ++ opTail o ++ [u8 ((sumB (opHead o ++ opTail o) : Int) % 253)]

/-- What an op without fault is. -/
structure LOp.Ok (o : LOp) : Prop where
  who : 1 ≤ o.dot.who ∧ o.dot.who ≤ 8
  n : 1 ≤ o.dot.n ∧ o.dot.n ≤ 9999
  what : 1 ≤ o.what ∧ o.what ≤ 4
  place : placeErr o.place = 0
  letter : o.what = 1 → 32 ≤ o.letter ∧ o.letter ≤ 126
  none_ : o.what ≠ 1 → o.letter = 0
  seen : o.what ≠ 4 → o.seen = []
  few : o.seen.length ≤ 40
  rise : riseErr o.seen = 0
theorem dotErr_ok {d : LDot} (h : dotErr d = 0) : 1 ≤ d.who ∧ d.who ≤ 8 ∧ 1 ≤ d.n ∧ d.n ≤ 9999 := by
  unfold dotErr at h
  split at h
  · assumption
  · omega
theorem opOk_of {o : LOp} (h : opErr o = 0) : o.Ok := by
  unfold opErr at h
  by_cases h1 : dotErr o.dot ≠ 0
  · rw [if_pos h1] at h; exact absurd h h1
  rw [if_neg h1] at h
  by_cases h2 : ¬ (1 ≤ o.what ∧ o.what ≤ 4)
  · rw [if_pos h2] at h; omega
  rw [if_neg h2] at h
  by_cases h3 : placeErr o.place ≠ 0
  · rw [if_pos h3] at h; exact absurd h h3
  rw [if_neg h3] at h
  by_cases h4 : o.what = 1 ∧ letterB o.letter = false
  · rw [if_pos h4] at h; omega
  rw [if_neg h4] at h
  by_cases h5 : o.what ≠ 1 ∧ o.letter ≠ 0
  · rw [if_pos h5] at h; omega
  rw [if_neg h5] at h
  by_cases h6 : o.what ≠ 4 ∧ 0 < o.seen.length
  · rw [if_pos h6] at h; omega
  rw [if_neg h6] at h
  by_cases h7 : 40 < o.seen.length
  · rw [if_pos h7] at h; omega
  rw [if_neg h7] at h
  obtain ⟨a, b, c, d⟩ := dotErr_ok (by omega : dotErr o.dot = 0)
  refine ⟨⟨a, b⟩, ⟨c, d⟩, by omega, by omega, fun hw => ?_, fun hw => by omega, fun hw => ?_, by omega, h⟩
  · have : letterB o.letter = true := by
      cases hl : letterB o.letter
      · exact absurd ⟨hw, hl⟩ h4
      · rfl
    simp [letterB] at this
    exact this
  · cases hs : o.seen with
    | nil => rfl
    | cons x l => exact absurd ⟨hw, by simp [hs]⟩ h6

/-- Midway: the row of bytes, the op's box. -/
structure EncSt (w : World) (o : LOp) (A : Option Addr) (c : Nat) (V : Option Addr) (n cv : Nat) (l : List UInt8) (wr : World) : Prop where
  own : Own wr (w.heap.size + 1) 5 1 V n cv (bs l)
  box : Blk wr w.heap.size 30 (o.cells A c)
  bel : Below w.heap.size w wr
section
variable {w wr w' : World} {o : LOp} {A V V' : Option Addr} {c n cv n' c' : Nat} {l l2 : List UInt8}
theorem EncSt.alloc (h : EncSt w o A c V n cv l wr) (b : Obj) : EncSt w o A c V n cv l (wr.alloc b) := ⟨h.own.alloc _, h.box.alloc _, h.bel.alloc h.bel.size _⟩
theorem EncSt.drew (h : EncSt w o A c V n cv l wr) : EncSt w o A c V n cv l wr.drew := ⟨h.own.drew, h.box.drew, h.bel.drew⟩
theorem EncSt.len (h : EncSt w o A c V n cv l wr) : n = l.length := by have := h.own.len; rw [bs_len] at this; omega
theorem EncSt.app (h : EncSt w o A c V n cv l wr) (hown : Own w' (w.heap.size + 1) 5 1 V' n' c' (bs l ++ bs l2)) (ho : Only (ob V) wr w') : EncSt w o A c V' n' c' (l ++ l2) w' :=
  ⟨by rw [← bs_append]; exact hown, ho.blk h.box (fun hm => by have := (h.own.lt _ hm).1; omega),
    h.bel.trans (ho.below h.bel.size (fun i hi => by have := (h.own.lt _ hi).1; omega))⟩
theorem EncSt.cell (h : EncSt w o A c V n cv l wr) (i : Nat) : wr.cell? ⟨w.heap.size, i, none⟩ = (o.cells A c)[i]? := h.box.cell i
theorem EncSt.base (h : EncSt w o A c V n cv l wr) : w.heap.size + 1 ≤ wr.heap.size := h.box.lt
theorem EncSt.below (h : EncSt w o A c V n cv l wr) (hb : Below wr.heap.size wr w') : EncSt w o A c V n cv l w' := ⟨h.own.below hb, h.box.below hb h.box.lt, h.bel.trans (hb.mono h.bel.size)⟩
/-- A slice of bytes that is laid to be appended. -/
theorem reads_new (W : World) (l : List UInt8) (hl : l.length ≤ 1000) (cs : Array Value) (hc : cs.toList = bs l) :
    Reads (W.alloc (.cells cs 5)) (W.alloc (.cells cs 5)).heap.size 1 (some ⟨W.heap.size, 0, none⟩) l.length (bs l) := (Own.fresh W 0 (Nat.zero_le _) l hl cs hc).reads
end

theorem EncSt.str {w wr : World} {o : LOp} {A V : Option Addr} {c n cv : Nat} {l : List UInt8} (h : EncSt w o A c V n cv l wr) (hn : 0 < n) :
    (convert 122 9 (.slice V n cv)).run Tryz.prog wr = .ok (.string (strOf l)) wr := by
  obtain ⟨g, rfl, _, _⟩ := h.own.head hn
  have hl := h.len
  subst hl
  refine run_convert_bytes_back (P := Tryz.prog) wr 122 9 5 ⟨g, 0, none⟩ cv l Tryz.underlying122 Tryz.underlying5 Tryz.underlying9 (fun j hj => ?_)
  have e : (⟨g, 0, none⟩ : Addr).add j = ⟨g, j, none⟩ := by unfold Addr.add; by_cases h : j = 0 <;> simp [h]
  rw [e, h.own.cellAt (by omega)]
  simp [bs, hj]
theorem rise_zero {l : List LDot} (h : riseErr l = 0) {k : Nat} (hk : k < l.length) : dotErr l[k] = 0 := by
  unfold riseErr at h
  by_cases ha : (l.all (fun d => dotErr d == 0)) = true
  · rw [List.all_eq_true] at ha
    simpa using ha l[k] (List.getElem_mem hk)
  · rw [if_neg ha] at h; omega
theorem placeErr_len {s : ByteArray} (h : placeErr s = 0) : s.size ≤ 12 := by
  unfold placeErr at h
  by_cases h1 : 12 < s.size
  · rw [if_pos h1] at h; omega
  · omega
theorem flat_len (l : List LDot) : (l.flatMap dotBytes).length = 3 * l.length := by
  induction l with
  | nil => rfl
  | cons d l ih => simp only [List.flatMap_cons, List.length_append, ih, List.length_cons]; simp [dotBytes]; omega
theorem body_len {o : LOp} (h : o.Ok) : (opHead o ++ opTail o).length ≤ 138 := by
  have h1 := placeErr_len h.place
  have h2 := h.few
  have h3 : o.place.data.toList.length = o.place.size := by rw [Array.length_toList]; rfl
  have h4 := flat_len o.seen
  rw [List.length_append]
  unfold opHead opTail
  rw [List.length_append, h3]
  by_cases hw : o.what = 1
  · rw [if_pos hw]; simp; omega
  · rw [if_neg hw]
    by_cases hw : o.what = 4
    · rw [if_pos hw]; simp only [List.length_cons, List.length_nil]; omega
    · rw [if_neg hw]; simp; omega
theorem sumB_le (l : List UInt8) : sumB l ≤ 255 * l.length := by
  induction l with
  | nil => simp [sumB]
  | cons a l ih =>
    have := a.toNat_lt
    simp only [sumB, List.map_cons, List.sum_cons, List.length_cons] at ih ⊢
    omega
theorem sumB_take {l : List UInt8} {k : Nat} (h : k < l.length) : sumB (l.take (k + 1)) = sumB (l.take k) + l[k].toNat := by
  rw [List.take_succ_eq_append_getElem h]
  unfold sumB
  rw [List.map_append, List.sum_append]
  simp

def TwoPost (w : World) (n : Int) (e : Ending) (w' : World) : Prop :=
  ∃ g, e = .returned (.slice (some ⟨g, 0, none⟩) 2 2) ∧ Reads w' w'.heap.size 1 (some ⟨g, 0, none⟩) 2 (bs [u8 (n / 256), u8 (n % 256)]) ∧ Below w.heap.size w w'
theorem two_post (w : World) (n : Int) (h0 : 0 ≤ n) (h1 : n ≤ 65535) : Calls Tryz.prog 122 #[.int .i64 n] w (TwoPost w n) := by
  refine (two_any w n h0 h1).mono ?_
  rintro e w' ⟨rfl, rfl⟩
  refine ⟨_, rfl, reads_new w [u8 (n / 256), u8 (n % 256)] (by simp) _ ?_, (Below.refl _ _).alloc (Nat.le_refl _) _⟩
  simp [bs, u8_val (show 0 ≤ n / 256 by omega) (show n / 256 ≤ 255 by omega), u8_val (show 0 ≤ n % 256 by omega) (show n % 256 ≤ 255 by omega)]

def encRes (o : LOp) : ByteArray := if opErr o = 0 then strOf (opBytes o) else ⟨#[]⟩
def EncPost (w : World) (o : LOp) (e : Ending) (w' : World) : Prop := e = .returned (.tuple #[.string (encRes o), errV (opErr o)]) ∧ Below w.heap.size w w'

set_option maxRecDepth 100000 in
set_option maxHeartbeats 4000000 in
theorem encode_any (w : World) (A : Option Addr) (c : Nat) (o : LOp) (h : Reads w w.heap.size 2 A o.seen.length (dcells o.seen)) (hp : o.place.size ≤ 9223372036854775807) :
    Calls Tryz.prog 63 #[o.val A c] w (EncPost w o) := by
  have HC := Lib.hid (fun w1 (hb : Below w.heap.size w w1) => opCheck_any w1 A c o ((h.below hb).more hb.size) hp)
  have HB := Lib.hid (Blk.new w 30 (LOp.cells o A c))
  have HBel : Hid (Below w.heap.size w (w.alloc (.cells (LOp.cells o A c) 30))) := (Below.refl _ _).alloc (Nat.le_refl _) _
  have HT := Lib.hid (fun w n => two_post w n)
  have HS := Lib.hid h
  clear h
  unfold LOp.val LOp.cells at *
  by_cases he : opErr o = 0
  · have ok := opOk_of he
    have HE := Lib.hid he
    clear he
    have OK := Lib.hid ok
    have b1 := ok.who.1
    have b2 := ok.who.2
    have b3 := ok.n.1
    have b4 := ok.n.2
    have b5 := ok.what.1
    have b6 := ok.what.2
    have b7 : o.place.size ≤ 12 := by
      have := ok.place
      unfold placeErr at this
      by_cases h : 12 < o.place.size
      · rw [if_pos h] at this; omega
      · omega
    clear ok
    have c0 : (w.alloc (.cells #[.int .i64 o.dot.who, .int .i64 o.dot.n, .int .i64 o.what, .string o.place, .int .i64 o.letter, .slice A o.seen.length c] 30)).cell? ⟨w.heap.size, 0, none⟩ = some (.int .i64 o.dot.who) := by rw [HB.out.cell]; rfl
    have c1 : (w.alloc (.cells #[.int .i64 o.dot.who, .int .i64 o.dot.n, .int .i64 o.what, .string o.place, .int .i64 o.letter, .slice A o.seen.length c] 30)).cell? ⟨w.heap.size, 1, none⟩ = some (.int .i64 o.dot.n) := by rw [HB.out.cell]; rfl
    go_enter Tryz.func63, Tryz.ntmps63
    go_wp2_with fail
    refine (HC.out _ HBel.out).mono ?_
    rintro e w1 ⟨rfl, hb1⟩
    rw [HE.out, show errV 0 = .nilIface from rfl]
    have k0 : w1.cell? ⟨w.heap.size, 0, none⟩ = some (.int .i64 o.dot.who) := by rw [(HB.out.below hb1 (by simp)).cell]; rfl
    have k1 : w1.cell? ⟨w.heap.size, 1, none⟩ = some (.int .i64 o.dot.n) := by rw [(HB.out.below hb1 (by simp)).cell]; rfl
    have k2 : w1.cell? ⟨w.heap.size, 2, none⟩ = some (.int .i64 o.what) := by rw [(HB.out.below hb1 (by simp)).cell]; rfl
    have k3 : w1.cell? ⟨w.heap.size, 3, none⟩ = some (.string o.place) := by rw [(HB.out.below hb1 (by simp)).cell]; rfl
    have k4 : w1.cell? ⟨w.heap.size, 4, none⟩ = some (.int .i64 o.letter) := by rw [(HB.out.below hb1 (by simp)).cell]; rfl
    have k5 : w1.cell? ⟨w.heap.size, 5, none⟩ = some (.slice A o.seen.length c) := by rw [(HB.out.below hb1 (by simp)).cell]; rfl
    clear c0 c1
    have hlt1 : Hid (w.heap.size < w1.heap.size) := by have := hb1.size; simp at this; show w.heap.size < w1.heap.size; omega
    have HBX : Hid (Blk w1 w.heap.size 30 (o.cells A c)) := HB.out.below hb1 (by simp)
    have HB1 : Hid (Below w.heap.size w w1) := HBel.out.trans (hb1.mono (by simp))
    go_upto_region 5 with (fail)
    have EW := Lib.hid (u8_val (show 0 ≤ o.what by omega) (show o.what ≤ 255 by omega))
    have ED := Lib.hid (u8_val (show 0 ≤ o.dot.who by omega) (show o.dot.who ≤ 255 by omega))
    have EN1 := Lib.hid (u8_val (show 0 ≤ o.dot.n / 256 by omega) (show o.dot.n / 256 ≤ 255 by omega))
    have EN2 := Lib.hid (u8_val (show 0 ≤ o.dot.n % 256 by omega) (show o.dot.n % 256 ≤ 255 by omega))
    have EP := Lib.hid (u8_val (show 0 ≤ (o.place.size : Int) by omega) (show (o.place.size : Int) ≤ 255 by omega))
    have ST1 : EncSt w o A c (some ⟨w1.heap.size, 0, none⟩) 2 2 [u8 o.what, u8 o.dot.who] (w1.alloc (.cells #[.int .u8 o.what, .int .u8 o.dot.who] 5)) :=
      ⟨Own.fresh w1 (w.heap.size + 1) hlt1.out [u8 o.what, u8 o.dot.who] (by simp) #[.int .u8 o.what, .int .u8 o.dot.who] (by simp [bs, EW.out, ED.out]), HBX.out.alloc _, HB1.out.alloc HB1.out.size _⟩
    clear k0 k1 k2 k3 k4 k5 hb1
    have j1 : (w1.alloc (.cells #[.int .u8 o.what, .int .u8 o.dot.who] 5)).cell? ⟨w.heap.size, 1, none⟩ = some (.int .i64 o.dot.n) := by rw [ST1.cell]; rfl
    have HST1 := Lib.hid ST1
    clear ST1
    go_wp2_with fail
    refine (HT.out _ _ (by omega) (by omega)).mono ?_
    rintro e w2 ⟨g, rfl, HR, hb2⟩
    clear j1
    have ST2 := HST1.out.below hb2
    have hF1 : Fits (2 + 2) 1 := Fits.of_small (by decide) (by decide)
    clear HST1 hb2
    go_upto_region 6 with (at_builtin; refine wpList_app _ (.tmp 24) (.tmp 28) rfl rfl elemB rfl rfl ST2.own HR (oneCells_bs _) hF1 ST2.base ?_; intro V1 cv1 w3 HO HL HX; have ST3 := ST2.app HO HL; have j2 : w3.cell? ⟨w.heap.size, 2, none⟩ = some (.int .i64 o.what) := (by rw [ST3.cell]; rfl); have j3 : w3.cell? ⟨w.heap.size, 3, none⟩ = some (.string o.place) := (by rw [ST3.cell]; rfl); have HST3 := Lib.hid ST3; clear ST3 HO HL HX ST2 HR)
    have RP := Lib.hid (fun W : World => reads_new W [u8 o.place.size] (by simp) #[.int .u8 (o.place.size : Int)] (by simp [bs, EP.out]))
    have hF2 : Fits (2 + 2 + 1) 1 := Fits.of_small (by decide) (by decide)
    go_upto_region 7 with (at_builtin; go_loud (refine wpList_app _ (.tmp 30) (.tmp 35) rfl rfl elemB rfl rfl (HST3.out.alloc _).own (RP.out _) (oneCells_bs _) hF2 (HST3.out.alloc _).base ?_; intro V2 cv2 w4 HO HL HX; have ST4 := (HST3.out.alloc _).app HO HL; have j2 : w4.cell? ⟨w.heap.size, 2, none⟩ = some (.int .i64 o.what) := (by rw [ST4.cell]; rfl); have j3 : w4.cell? ⟨w.heap.size, 3, none⟩ = some (.string o.place) := (by rw [ST4.cell]; rfl); have HST4 := Lib.hid ST4; clear ST4 HO HL HX HST3))
    have hF3 : Fits (2 + 2 + 1 + o.place.size) 1 := Fits.of_small (by omega) (by decide)
    go_upto_region 8 with (at_builtin; go_loud (refine wpList_appS (.tmp 37) (.tmp 39) rfl rfl rfl rfl HST4.out.own hF3 HST4.out.base ?_; intro V3 cv3 w5 HO HL; have ST5 := HST4.out.app HO HL; have HST5 := Lib.hid ST5; clear ST5 HO HL HST4))
    have ok := OK.out
    have l1 := ok.letter
    have s1 := ok.few
    clear ok
    have i2 : w5.cell? ⟨w.heap.size, 2, none⟩ = some (.int .i64 o.what) := by rw [HST5.out.cell]; rfl
    have i4 : w5.cell? ⟨w.heap.size, 4, none⟩ = some (.int .i64 o.letter) := by rw [HST5.out.cell]; rfl
    have i5 : w5.cell? ⟨w.heap.size, 5, none⟩ = some (.slice A o.seen.length c) := by rw [HST5.out.cell]; rfl
    have HHD : Hid ([u8 o.what, u8 o.dot.who] ++ [u8 (o.dot.n / 256), u8 (o.dot.n % 256)] ++ [u8 (o.place.size : Int)] ++ o.place.data.toList = opHead o) := by show _ = _; simp [opHead]
    have HST : Hid (EncSt w o A c V3 (5 + o.place.size) cv3 (opHead o) w5) := by rw [← HHD.out]; exact HST5.out
    clear HST5
    go_upto_block 0 with (fail)
    go_cut [5] (fun v wr => ∃ V n cv, v = .slice V n cv ∧ EncSt w o A c V n cv (opHead o ++ opTail o) wr)
    case first =>
      by_cases h1 : o.what = 1
      · obtain ⟨l2, l3⟩ := l1 h1
        have g1 : (o.what == 1) = true := by simp [h1]
        have EL := u8_val (show 0 ≤ o.letter by omega) (show o.letter ≤ 255 by omega)
        have RL := Lib.hid (fun W : World => reads_new W [u8 o.letter] (by simp) #[.int .u8 o.letter] (by simp [bs, EL]))
        have hF4 : Fits (5 + o.place.size + 1) 1 := Fits.of_small (by omega) (by decide)
        have HT1 : Hid (opTail o = [u8 o.letter]) := if_pos h1
        clear h1 EL
        go_wp2_with (at_builtin; refine wpList_app _ (.tmp 45) (.tmp 49) rfl rfl elemB rfl rfl (HST.out.alloc _).own (RL.out _) (oneCells_bs _) hF4 (HST.out.alloc _).base ?_; intro V4 cv4 w6 HO HL HX; have ST6 := Lib.hid ((HST.out.alloc _).app HO HL))
        go_meet
        case rel =>
          rw [HT1.out]
          exact ⟨_, _, _, rfl, ST6.out⟩
      · have g1 : (o.what == 1) = false := by simp [h1]
        by_cases h4 : o.what = 4
        · have g4 : (o.what == 4) = true := by simp [h4]
          have EL := u8_val (show (0 : Int) ≤ (o.seen.length : Int) by omega) (show (o.seen.length : Int) ≤ 255 by omega)
          have RL := Lib.hid (fun W : World => reads_new W [u8 (o.seen.length : Int)] (by simp) #[.int .u8 (o.seen.length : Int)] (by simp [bs, EL]))
          have hF4 : Fits (5 + o.place.size + 1) 1 := Fits.of_small (by omega) (by decide)
          have HT1 : Hid (opTail o = u8 (o.seen.length : Int) :: o.seen.flatMap dotBytes) := by show _ = _; unfold opTail; rw [if_neg h1, if_pos h4]
          have HRI := Lib.hid OK.out.rise
          clear h1 h4 EL
          go_upto_region 13 with (at_builtin; refine wpList_app _ (.tmp 53) (.tmp 58) rfl rfl elemB rfl rfl (HST.out.alloc _).own (RL.out _) (oneCells_bs _) hF4 (HST.out.alloc _).base ?_; intro V4 cv4 w6 HO HL HX; have HST6 := Lib.hid ((HST.out.alloc _).app HO HL); have j5 : w6.cell? ⟨w.heap.size, 5, none⟩ = some (.slice A o.seen.length c) := (by rw [HST6.out.cell]; rfl); clear HO HL HX)
          clear i2 i4 i5
          go_wp2_with fail
          go_loopw [5, 63] (fun v i wr => ∃ (k : Nat) (V : Option Addr) (n cv : Nat), k ≤ o.seen.length ∧ i = .int .i64 k ∧ v = .slice V n cv ∧ EncSt w o A c V n cv (opHead o ++ (u8 (o.seen.length : Int) :: (o.seen.take k).flatMap dotBytes)) wr) (fun v i _ => o.seen.length - (intOf i).toNat)
          case atStart => exact ⟨0, _, _, _, by omega, rfl, rfl, by simpa using HST6.out⟩
          case round =>
            obtain ⟨k, V, n, cv, hk, rfl, rfl, ST⟩ := hrel
            by_cases hkn : k < o.seen.length
            · obtain ⟨ad, rfl, hb, c0, c1⟩ := (HS.out.below ST.bel).dot hkn
              have hlt : (k : Int) < (o.seen.length : Int) := by omega
              have HST7 := Lib.hid ST
              clear ST
              go_upto_region 16 with (fail)
              obtain ⟨x1, x2, x3, x4⟩ := dotErr_ok (rise_zero HRI.out hkn)
              have hn8 : Hid (n = 5 + o.place.size + 1 + 3 * k) := by
                have h1 := HST7.out.len
                have h3 : o.place.data.toList.length = o.place.size := by rw [Array.length_toList]; rfl
                have h4 := flat_len (o.seen.take k)
                rw [List.length_take, show min k o.seen.length = k by omega] at h4
                show n = _
                rw [h1, List.length_append, List.length_cons, h4]
                unfold opHead
                rw [List.length_append, h3]
                simp only [List.length_cons, List.length_nil]
                omega
              have hF5 : Fits (n + 1) 1 := Fits.of_small (by have := hn8.out; omega) (by decide)
              have hF6 : Fits (n + 1 + 2) 1 := Fits.of_small (by have := hn8.out; omega) (by decide)
              have EX := u8_val (show 0 ≤ o.seen[k].who by omega) (show o.seen[k].who ≤ 255 by omega)
              have RX := Lib.hid (fun W : World => reads_new W [u8 o.seen[k].who] (by simp) #[.int .u8 (IntKind.u8.wrap o.seen[k].who)] (by rw [IntWalk.u8_in _ (by omega)]; simp [bs, EX]))
              clear EX
              have HST8 := Lib.hid (HST7.out.alloc (.cells #[.int .i64 o.seen[k].who, .int .i64 o.seen[k].n] 27))
              have HBD := Lib.hid (Blk.new wr 27 #[.int .i64 o.seen[k].who, .int .i64 o.seen[k].n])
              have e0 : (wr.alloc (.cells #[.int .i64 o.seen[k].who, .int .i64 o.seen[k].n] 27)).cell? ⟨wr.heap.size, 0, none⟩ = some (.int .i64 o.seen[k].who) := by rw [HBD.out.cell]; rfl
              have e1 : (wr.alloc (.cells #[.int .i64 o.seen[k].who, .int .i64 o.seen[k].n] 27)).cell? ⟨wr.heap.size, 1, none⟩ = some (.int .i64 o.seen[k].n) := by rw [HBD.out.cell]; rfl
              clear c0 c1
              obtain ⟨db, hdb⟩ : ∃ db, db = wr.heap.size := ⟨_, rfl⟩
              obtain ⟨wx, hwx⟩ : ∃ wx, wx = wr.alloc (.cells #[.int .i64 o.seen[k].who, .int .i64 o.seen[k].n] 27) := ⟨_, rfl⟩
              rw [← hwx] at HST8 HBD e0 e1 ⊢
              rw [← hdb] at HBD e0 e1 ⊢
              clear hwx hdb
              have HST8 := (HST8.out.alloc (.cells #[.int .u8 (IntKind.u8.wrap o.seen[k].who)] 5)).drew
              have HOX := HST8.own
              have HBX8 := HST8.base
              have HBD8 := Lib.hid (HBD.out.alloc (.cells #[.int .u8 (IntKind.u8.wrap o.seen[k].who)] 5)).drew
              have HNB8 := Lib.hid (HST8.own.blk_ne HBD8.out (by decide))
              have HST8 := Lib.hid HST8
              have HRX : Reads (wx.alloc (.cells #[.int .u8 (IntKind.u8.wrap o.seen[k].who)] 5)).drew (wx.alloc (.cells #[.int .u8 (IntKind.u8.wrap o.seen[k].who)] 5)).drew.heap.size 1 (some ⟨wx.heap.size, 0, none⟩) 1 (bs [u8 o.seen[k].who]) := (RX.out wx).drew
              go_region_held3 (fun w' => w'.cell? ⟨db, 0, none⟩ = some (.int .i64 o.seen[k].who) ∧ w'.cell? ⟨db, 1, none⟩ = some (.int .i64 o.seen[k].n))
                (first
                  | go_keep
                  | (refine ⟨?_, ?_⟩ <;> assumption))
                (first
                  | (go_at_call 122; refine (HT.out _ _ (by omega) (by omega)).mono ?_; rintro e w8 ⟨g8, rfl, HR8, hb8⟩; have HBD3 := Lib.hid (HBD2.out.below hb8 HBD2.out.lt); have HST10 := Lib.hid (HST9.out.below hb8); have e0 : w8.cell? ⟨db, 0, none⟩ = some (.int .i64 o.seen[k].who) := (by rw [HBD3.out.cell]; rfl); have e1 : w8.cell? ⟨db, 1, none⟩ = some (.int .i64 o.seen[k].n) := (by rw [HBD3.out.cell]; rfl))
                  | (refine step_app _ (.tmp 67) (.tmp 71) rfl rfl elemB rfl rfl HOX HRX (oneCells_bs _) hF5 HBX8 ?_; intro V5 cv5 w7 HO HL HX; have HBD2 := Lib.hid (HL.blk HBD8.out HNB8.out); have HST9 := Lib.hid (HST8.out.app HO HL); have e0 : w7.cell? ⟨db, 0, none⟩ = some (.int .i64 o.seen[k].who) := (by rw [HBD2.out.cell]; rfl); have e1 : w7.cell? ⟨db, 1, none⟩ = some (.int .i64 o.seen[k].n) := (by rw [HBD2.out.cell]; rfl))
                  | (refine step_app _ (.tmp 72) (.tmp 75) rfl rfl elemB rfl rfl HST10.out.own HR8 (oneCells_bs _) hF6 HST10.out.base ?_; intro V6 cv6 w9 HO HL HX; have HBD4 := Lib.hid (HL.blk HBD3.out (HST10.out.own.blk_ne HBD3.out (by decide))); have HST11 := Lib.hid (HST10.out.app HO HL); have e0 : w9.cell? ⟨db, 0, none⟩ = some (.int .i64 o.seen[k].who) := (by rw [HBD4.out.cell]; rfl); have e1 : w9.cell? ⟨db, 1, none⟩ = some (.int .i64 o.seen[k].n) := (by rw [HBD4.out.cell]; rfl)))
              have hcat : Hid (opHead o ++ (u8 (o.seen.length : Int) :: (o.seen.take (k + 1)).flatMap dotBytes) = (opHead o ++ (u8 (o.seen.length : Int) :: (o.seen.take k).flatMap dotBytes)) ++ [u8 o.seen[k].who] ++ [u8 (o.seen[k].n / 256), u8 (o.seen[k].n % 256)]) := by
                show _ = _
                rw [List.take_succ_eq_append_getElem hkn, List.flatMap_append]
                simp [dotBytes]
              go_wp2_with fail
              go_roundw
              case rel => exact ⟨k + 1, _, _, _, by omega, by go_num, rfl, by rw [hcat.out]; exact HST11.out⟩
              case measure => simp [intOf]; omega
            · have hkn' : o.seen.length = k := by omega
              have htk : Hid (opHead o ++ opTail o = opHead o ++ (u8 (o.seen.length : Int) :: (o.seen.take k).flatMap dotBytes)) := by show _ = _; rw [HT1.out, List.take_of_length_le (by omega)]
              have hd : decide ((k : Int) < (o.seen.length : Int)) = false := by simp; omega
              have HST7 := Lib.hid ST
              clear ST
              go_wp2_with fail
              go_meet
              case rel => exact ⟨_, _, _, rfl, by rw [htk.out]; exact HST7.out⟩
        · have g4 : (o.what == 4) = false := by simp [h4]
          have HT1 : Hid (opTail o = []) := by show _ = _; unfold opTail; rw [if_neg h1, if_neg h4]
          clear h1 h4
          go_wp2_with fail
          go_meet
          case rel =>
            rw [HT1.out, List.append_nil]
            exact ⟨_, _, _, rfl, HST.out⟩
    case rest =>
      obtain ⟨V, n, cv, rfl, ST⟩ := hcut
      have hn := ST.len
      have hl := body_len OK.out
      generalize hB : opHead o ++ opTail o = l at *
      have HB := Lib.hid hB
      have HST := Lib.hid ST
      clear hB
      have hn2 : n ≤ 138 := by omega
      obtain ⟨g, rfl, _, _⟩ := ST.own.head (by rw [hn, ← HB.out]; simp [opHead])
      have HN := Lib.hid hn
      clear hn hl ST
      go_wp2_with fail
      go_loop [8, 80] (fun v i => ∃ k : Nat, k ≤ n ∧ i = .int .i64 k ∧ v = .int .i64 (sumB (l.take k))) (fun v i => n - (intOf i).toNat)
      case atStart => exact ⟨0, by omega, rfl, by simp [sumB]⟩
      case round =>
        obtain ⟨k, hk, rfl, rfl⟩ := hrel
        by_cases hkn : k < n
        · have hkl : k < l.length := by have := HN.out; omega
          have d0 : wc.cell? ⟨g, k, none⟩ = some (.int .u8 (l[k].toNat : Int)) := by
            rw [HST.out.own.cellAt (by omega)]
            simp [bs, hkl]
          have hs1 := sumB_le (l.take k)
          have hs2 : sumB (l.take k) ≤ 40000 := by rw [List.length_take] at hs1; omega
          have hs3 : (l[k].toNat : Nat) ≤ 255 := by have := l[k].toNat_lt; omega
          have HSU := Lib.hid (sumB_take hkl)
          generalize hS : sumB (l.take k) = S at *
          generalize hX : l[k].toNat = X at *
          clear hs1
          go_wp2_with fail
          go_round
          case rel => exact ⟨k + 1, by omega, rfl, by rw [HSU.out]; simp⟩
          case measure => simp [intOf]; omega
        · have hkn' : k = n := by omega
          subst hkn'
          have hlt : l.take k = l := List.take_of_length_le (by have := HN.out; omega)
          rw [hlt]
          clear hlt
          have hres : Hid (opBytes o = l ++ [u8 ((sumB l : Int) % 253)]) := by show opBytes o = _; unfold opBytes; rw [HB.out]
          have hss := sumB_le l
          have hs2 : sumB l ≤ 40000 := by have := HN.out; omega
          generalize hS : sumB l = S at *
          have ES := u8_val (show (0 : Int) ≤ (S : Int) % 253 by omega) (show (S : Int) % 253 ≤ 255 by omega)
          have RS := Lib.hid (fun W : World => reads_new W [u8 ((S : Int) % 253)] (by simp) #[.int .u8 ((S : Int) % 253)] (by simp [bs, ES]))
          have hF9 : Fits (k + 1) 1 := Fits.of_small (by omega) (by decide)
          clear ES hss hS
          go_wp2_with (at_builtin; go_loud (refine wpList_app _ (.tmp 89) (.tmp 93) rfl rfl elemB rfl rfl (HST.out.alloc _).own (RS.out _) (oneCells_bs _) hF9 (HST.out.alloc _).base ?_; intro V9 cv9 w9 HO HL HX; have ST9 := (HST.out.alloc _).app HO HL; have hcv := ST9.str (by omega); have HST9 := Lib.hid ST9; clear ST9 HO HL HX))
          go_ret2
          exact ⟨by rw [show encRes o = strOf (opBytes o) from if_pos HE.out, HE.out, hres.out]; rfl, HST9.out.bel⟩
  · have HV := Lib.hid (errV_ne he)
    have HZ : Hid (encRes o = ⟨#[]⟩) := if_neg he
    clear he
    have c0 : (w.alloc (.cells #[.int .i64 o.dot.who, .int .i64 o.dot.n, .int .i64 o.what, .string o.place, .int .i64 o.letter, .slice A o.seen.length c] 30)).cell? ⟨w.heap.size, 0, none⟩ = some (.int .i64 o.dot.who) := by rw [HB.out.cell]; rfl
    go_enter Tryz.func63, Tryz.ntmps63
    go_wp2_with fail
    refine (HC.out _ HBel.out).mono ?_
    rintro e w1 ⟨rfl, hb1⟩
    rw [HV.out]
    go_wp2_with fail
    go_ret2
    exact ⟨by rw [HZ.out, HV.out]; rfl, HBel.out.trans (hb1.mono (by simp))⟩
end Go.Proofs.YthfbjfocmnikaaaGreatDoor
