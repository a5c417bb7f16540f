/- The keys of the map of joined cuts, asked by the model. Conditions: none. -/
import Derived.Test.YtpofdjikogoobaaDocSpec
import Derived.Test.YtpofdjikogoobaaSame0
namespace Go.Proofs.Ytpofdjikogoobaa
open Go.RowKit
set_option linter.unusedVariables false
namespace JKey
theorem same_one {x0 y0 : ByteArray} {x1 y1 : Int} {x2 y2 : Int} : (x0.toList == y0.toList && (x1 == y1 && (x2 == y2))) = decide ((⟨x0, ⟨x1, x2⟩⟩ : JKey) = ⟨y0, ⟨y1, y2⟩⟩) := by
  rw [Bool.eq_iff_iff]
  simp only [Bool.and_eq_true, beq_iff_eq, decide_eq_true_eq, JKey.mk.injEq, LDot.mk.injEq, same_toList]
set_option maxRecDepth 100000 in
theorem eq_key (W : World) (a b : JKey) : (Op.equal 128 a.val b.val).run Try.prog W = .ok (decide (a = b)) W := by
  obtain ⟨x0, x1, x2⟩ := a
  obtain ⟨y0, y1, y2⟩ := b
  have ui := Try.underlying3
  have us := Try.underlying9
  have hDD : ∀ (a b c d : Int) (W : World), (Op.equalIn 9999 47 (.agg #[.int .i64 a, .int .i64 b]) (.agg #[.int .i64 c, .int .i64 d])).run Try.prog W = .ok (a == c && b == d) W := fun a b c d W => by
    have hD : Try.prog.underlying 47 = some (.struct (Try.prog.fieldsOf 47)) := by kernel_rfl
    have hpD : Try.prog.stoodInHeld 47 = false := by kernel_rfl
    rw [show (9999 : Nat) = 9998 + 1 from rfl, run_equalIn_agg W 9998 47 _ _ hD hpD]
    simp only [Program.fieldsOf, Try.underlying47]
    clear hD hpD
    go_simp
    by_cases h1 : a = c <;> by_cases h2 : b = d <;> simp [h1, h2]
  have haD := Try.isAgg47
  have hS : Try.prog.underlying 128 = some (.struct (Try.prog.fieldsOf 128)) := by kernel_rfl
  have hp : Try.prog.stoodInHeld 128 = false := by kernel_rfl
  rw [← same_one]
  unfold Op.equal Op.maxDepth JKey.val
  simp only
  rw [show (10000 : Nat) = 9999 + 1 from rfl, run_equalIn_agg W 9999 128 _ _ hS hp]
  simp only [Program.fieldsOf, Try.underlying128]
  go_simp
  by_cases h0 : x0.toList = y0.toList <;> by_cases h1 : x1 = y1 <;> by_cases h2 : x2 = y2 <;> simp [h0, h1, h2]
set_option maxRecDepth 100000 in
theorem check_key (W : World) (em : Bool) (a : JKey) : (Instr.checkKey em 10000 128 a.val).run Try.prog W = .ok () W := by
  obtain ⟨x0, x1, x2⟩ := a
  have ui := Try.underlying3
  have us := Try.underlying9
  have uD := Try.underlying47
  have uK := Try.underlying128
  have haD := Try.isAgg47
  have hI : ∀ (n : Nat) (k : Int), (Instr.checkKey em (n + 1) 3 (.int .i64 k)).run Try.prog W = .ok () W := fun n k => by simp [Instr.checkKey, run_underlying ui]
  have hT : ∀ (n : Nat) (k : ByteArray), (Instr.checkKey em (n + 1) 9 (.string k)).run Try.prog W = .ok () W := fun n k => by simp [Instr.checkKey, run_underlying us]
  have hD : ∀ (n : Nat) (a b : Int), (Instr.checkKey em (n + 1 + 1) 47 (.agg #[.int .i64 a, .int .i64 b])).run Try.prog W = .ok () W := fun n a b => by
    unfold Instr.checkKey
    simp only [Sem.run_bind, run_underlying uD, Result.andThen_ok]
    go_simp
  unfold JKey.val
  rw [show (10000 : Nat) = 9997 + 1 + 1 + 1 from rfl]
  unfold Instr.checkKey
  simp only [Sem.run_bind, run_underlying uK, Result.andThen_ok]
  go_simp
theorem bits_key (a : JKey) : Instr.sameBits 10000 a.val a.val = true := by
  rw [show (10000 : Nat) = 9999 + 1 from rfl]
  unfold JKey.val
  simp [Instr.sameBits]
  have h : ∀ x : ByteArray, (x == x) = true := fun x => by
    rcases x with ⟨⟨l⟩⟩
    show (ByteArray.beq _ _) = true
    simp [ByteArray.beq]
  exact h _
theorem keyOk : KeyOk Try.prog 128 JKey.val := KeyOk.of_wide (by simp only [Try.underlying128]) eq_key check_key bits_key
end JKey
end Go.Proofs.Ytpofdjikogoobaa
