/- AS LONG AS IT IS SAID: the law OpLong answers true. Conditions: none. -/
import Derived.Test.YtgninfpdomcobaaOpEnc
import Derived.Test.YtgninfpdomcobaaOpenOp
import Derived.Test.YtgninfpdomcobaaLift
namespace Go.Proofs.Ytgninfpdomcobaa
open Go.RowKit Go.WideShapes Go.ChangeShapes Go.ChangeAt
set_option linter.unusedVariables false
namespace lawOpLong

def one : LOp := ⟨⟨1, 1⟩, 1, ⟨#[110, 98]⟩, 65, []⟩
theorem one_err : opErr one = 0 := by decide +kernel
theorem one_size : (encRes one).size = 9 := by decide +kernel
theorem enc_size {o : LOp} (h : opErr o = 0) : (encRes o).size = 6 + o.place.size + (if o.what = 1 then 1 else 0) + (if o.what = 4 then 1 + 3 * o.seen.length else 0) := by
  rw [encRes, if_pos h, strOf_size]
  have h3 : o.place.data.toList.length = o.place.size := by rw [Array.length_toList]; rfl
  have h4 := flat_len o.seen
  unfold opBytes opHead opTail
  simp only [List.length_append, h3]
  by_cases hw : o.what = 1
  · rw [if_pos hw, if_pos hw, if_neg (by omega)]; simp; omega
  · rw [if_neg hw, if_neg hw]
    by_cases hw : o.what = 4
    · rw [if_pos hw, if_pos hw]; simp only [List.length_cons, List.length_nil]; omega
    · rw [if_neg hw, if_neg hw]; simp; omega

set_option maxRecDepth 100000 in
set_option maxHeartbeats 4000000 in
theorem walk (w : World) (A : Option Addr) (c : Nat) (o : LOp) (h : Reads w w.heap.size 2 A o.seen.length (dcells o.seen)) (hp : o.place.size ≤ 9223372036854775807) :
    Calls Try.prog 7 #[o.val A c] w (CheckPost w (.bool true)) := by
  have HB := Lib.hid (Blk.new w 60 (LOp.cells o A c))
  have HBel : Hid (Below w.heap.size w (w.alloc (.cells (LOp.cells o A c) 60))) := (Below.refl _ _).alloc (Nat.le_refl _) _
  have HC := Lib.hid (fun w1 (hb : Below w.heap.size w w1) => encode_any w1 A c o ((h.below hb).more hb.size) hp)
  have H1 := Lib.hid (fun w1 => encode_any w1 none 0 one Reads.none_ (by decide))
  have ES := Lib.hid (fun h => enc_size (o := o) h)
  have OK := Lib.hid (fun h => op_ok (o := o) h)
  clear h
  unfold LOp.val LOp.cells at *
  go_enter Try.func7, Try.ntmps7
  go_wp2_with fail
  refine (H1.out _).mono ?_
  rintro e w1 ⟨rfl, hb1⟩
  rw [one_err, show errV 0 = .nilIface from rfl]
  have hs : (((encRes one).size : Int) != 9) = false := by rw [one_size]; rfl
  generalize encRes one = f at hs ⊢
  have HST := Lib.hid (HB.out.below hb1 (by simp))
  have k0 : w1.cell? ⟨w.heap.size, 0, none⟩ = some (.int .i64 o.dot.who) := by rw [HST.out.cell]; rfl
  have k1 : w1.cell? ⟨w.heap.size, 1, none⟩ = some (.int .i64 o.dot.n) := by rw [HST.out.cell]; rfl
  have k2 : w1.cell? ⟨w.heap.size, 2, none⟩ = some (.int .i64 o.what) := by rw [HST.out.cell]; rfl
  have k3 : w1.cell? ⟨w.heap.size, 3, none⟩ = some (.string o.place) := by rw [HST.out.cell]; rfl
  have k4 : w1.cell? ⟨w.heap.size, 4, none⟩ = some (.int .i64 o.letter) := by rw [HST.out.cell]; rfl
  have k5 : w1.cell? ⟨w.heap.size, 5, none⟩ = some (.slice A o.seen.length c) := by rw [HST.out.cell]; rfl
  have hb01 : Hid (Below w.heap.size w w1) := HBel.out.trans (hb1.mono (by simp))
  have hlt1 : Hid (w.heap.size < w1.heap.size) := by have := hb1.size; simp at this; show w.heap.size < w1.heap.size; omega
  clear hb1
  go_wp2_with fail
  refine (HC.out _ hb01.out).mono ?_
  rintro e w2 ⟨rfl, hb2⟩
  have hb02 : Hid (Below w.heap.size w w2) := hb01.out.trans (hb2.mono hb01.out.size)
  have HST2 := Lib.hid (HST.out.below hb2 hlt1.out)
  clear hb2 k0 k1 k2 k3 k4 k5
  by_cases he : opErr o = 0
  · have hes := ES.out he
    have hok := OK.out he
    have hpl := placeErr_len hok.place
    have hfew := hok.few
    have m2 : w2.cell? ⟨w.heap.size, 2, none⟩ = some (.int .i64 o.what) := by rw [HST2.out.cell]; rfl
    have m3 : w2.cell? ⟨w.heap.size, 3, none⟩ = some (.string o.place) := by rw [HST2.out.cell]; rfl
    have m5 : w2.cell? ⟨w.heap.size, 5, none⟩ = some (.slice A o.seen.length c) := by rw [HST2.out.cell]; rfl
    have HE := Lib.hid he
    rw [he, show errV 0 = .nilIface from rfl]
    generalize encRes o = r at hes ⊢
    have HES := Lib.hid hes
    clear he hes hok
    by_cases h1 : o.what = 1
    · have g1 : (o.what == 1) = true := by simp [h1]
      have g4 : (o.what == 4) = false := by simp [h1]
      have HZ : Hid (((r.size : Int) == (6 + (o.place.size : Int) + 1)) = true) := by
        show (_ == _) = true
        have := HES.out
        rw [if_pos h1, if_neg (by omega)] at this
        rw [beq_iff_eq]
        omega
      clear h1
      go_wp2_with fail
      go_ret
      exact ⟨by rw [HZ.out]; rfl, hb02.out⟩
    · have g1 : (o.what == 1) = false := by simp [h1]
      by_cases h4 : o.what = 4
      · have g4 : (o.what == 4) = true := by simp [h4]
        have HZ : Hid (((r.size : Int) == (6 + (o.place.size : Int) + 1 + 3 * (o.seen.length : Int))) = true) := by
          show (_ == _) = true
          have := HES.out
          rw [if_neg h1, if_pos h4] at this
          rw [beq_iff_eq]
          omega
        clear h1 h4
        go_wp2_with fail
        go_ret
        exact ⟨by rw [HZ.out]; rfl, hb02.out⟩
      · have g4 : (o.what == 4) = false := by simp [h4]
        have HZ : Hid (((r.size : Int) == (6 + (o.place.size : Int))) = true) := by
          show (_ == _) = true
          have := HES.out
          rw [if_neg h1, if_neg h4] at this
          rw [beq_iff_eq]
          omega
        clear h1 h4
        go_wp2_with fail
        go_ret
        exact ⟨by rw [HZ.out]; rfl, hb02.out⟩
  · have HV := Lib.hid (errV_ne he)
    rw [errV_ne he]
    clear he
    go_wp2_with fail
    go_ret
    exact ⟨rfl, hb02.out⟩
set_option maxRecDepth 100000 in
theorem lifted (os : Os) (started : os.Started) (H : Type) (enc : TypeId × Value → H) :
    ReturnsInHanded {} Try.checked os 7 .any (Rows.opLongSpec.pre6 enc Try.prog Try.f7 Rows.opLongRow.domain false) (Rows.opLongSpec.post enc Try.prog Try.f7 false true false false) := by
  refine returnsInHanded_of_change (C := Try.checked) Try.own started (by kernel_rfl) Try.func7
    (ChangeSpec.witness6 (enc := enc) (C := Try.checked) false ⟨#[], #[.agg #[.int .i64 0, .int .i64 0, .int .i64 0, .string ⟨#[]⟩, .int .i64 0, .slice none 0 0]], []⟩ 8 (by kernel_rfl) (by kernel_rfl) (by kernel_rfl) (by kernel_rfl)) ?_
  intro W base args ds gs before hval0 hW _ _
  have hval : ∀ (j : Nat) t v, Try.f7.params[j]? = some t → args[j]? = some v → Value.okWide Try.prog W .any base t v := hval0
  obtain ⟨p, q, hA0, _⟩ := id hW
  have hA : DataW.TrodAll enc Try.prog W 0 (fun _ => true) true Try.f7.params.toList args.toList ds p := hA0
  rw [Try.params7] at hA hval
  obtain ⟨v0, d0, rfl, rfl, h0⟩ := trodAll_one hA
  obtain ⟨y, rfl, g⟩ := arg_op (hval 0 60 v0 rfl rfl) h0
  refine (walk W y.at_ y.cap y.op g.1 (by have := g.2.1; unfold maxLen at this; exact this)).mono fun e W' ⟨he, hb⟩ => ⟨_, he, ?_⟩
  exact law_post Try.laidOut (tb := 4) (by kernel_rfl) Try.underlying4 (by rw [Try.params7]; simp only [List.mem_cons, List.not_mem_nil, or_false]; rintro t (rfl) <;> exact ⟨by kernel_rfl, of_decide_eq_true (by kernel_rfl)⟩) rfl rfl hW hb

theorem holds : Rows.OpLongSaid :=
  OpenClaim.holds_of_wide 7 Try.f7 rfl rfl rfl rfl rfl rfl rfl ⟨rfl, rfl, rfl, rfl, rfl⟩ rfl rfl rfl rfl rfl (by kernel_rfl) Try.func7 (by kernel_rfl)
    (of_decide_eq_true (by kernel_rfl)) (by unfold Func.isWrapper; first | (rw [if_pos (by decide +kernel)]; kernel_rfl) | (rw [if_neg (by decide +kernel)]; exact ⟨rfl, rfl⟩))
    (fun os started H enc _ => lifted os started H enc)
#print axioms holds

end lawOpLong
end Go.Proofs.Ytgninfpdomcobaa
