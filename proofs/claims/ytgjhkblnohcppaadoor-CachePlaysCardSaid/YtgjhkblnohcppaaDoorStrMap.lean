/- Maps whose keys are texts; what is deleted of a map. Plain lemmas. Conditions: none. -/
import Derived.Test.YtgjhkblnohcppaaDoorMapLaw
import Derived.Test.YtgjhkblnohcppaaDoorStrs
namespace Go.Proofs.YtgjhkblnohcppaaDoor
open Go.RowKit
set_option linter.unusedVariables false
theorem bytes_beq (a b : ByteArray) : (a == b) = decide (a = b) := by
  rcases a with ⟨⟨x⟩⟩
  rcases b with ⟨⟨y⟩⟩
  have h1 : ((⟨⟨x⟩⟩ : ByteArray) == ⟨⟨y⟩⟩) = ((⟨x⟩ : Array UInt8) == ⟨y⟩) := rfl
  rw [h1, Bool.eq_iff_iff, beq_iff_eq, decide_eq_true_iff]
  constructor
  · intro h; rw [h]
  · intro h; injection h
section
variable {P : Program} {V : Type}
theorem findNow_str (g : V → Value) (a : ByteArray) : ∀ (es : List MapEntry) (kvs : List (ByteArray × V)) (i : Nat), Pairs Value.string g es kvs → Instr.findNow .string (.string a) es i = some (seek g a kvs i)
  | [], kvs, i => fun h => by
    cases kvs with
    | nil => rfl
    | cons x l => simp [Pairs] at h
  | e :: es, kvs, i => fun h => by
    cases kvs with
    | nil => simp [Pairs] at h
    | cons x l =>
      obtain ⟨k, v⟩ := x
      simp only [Pairs, List.map_cons, List.cons.injEq, Prod.mk.injEq] at h
      obtain ⟨⟨h1, h2⟩, h3⟩ := h
      unfold Instr.findNow seek
      rw [h1]
      simp only [Instr.sameNow, bytes_beq]
      by_cases hk : a = k
      · simp [hk, h2]
      · simp only [decide_eq_false hk, if_neg hk]
        exact findNow_str g a es l (i + 1) h3
theorem strKey {t : TypeId} (ht : P.underlying t = some .string) : KeyOk P t Value.string where
  find := fun V g W a es kvs h => MapKept.run_findKey ht (findNow_str g a es kvs 0 h)
  chk := fun W em a => by
    have key : ∀ n : Nat, (Instr.checkKey em (n + 1) t (.string a)).run P W = .ok () W := fun n => by simp [Instr.checkKey, run_underlying ht]
    exact key 9999
  bits := fun a => by
    have key : ∀ n : Nat, Instr.sameBits (n + 1) (.string a) (.string a) = true := fun n => by simp [Instr.sameBits, bytes_beq]
    exact key 9999
end
section
variable {P : Program} {K V : Type} [DecidableEq K]
def delK (a : K) : List (K × V) → List (K × V)
  | [] => []
  | (k, v) :: l => if a = k then l else (k, v) :: delK a l
def Keys (kvs : List (K × V)) : Prop := (kvs.map Prod.fst).Nodup
theorem get_none {a : K} : ∀ {kvs : List (K × V)}, a ∉ kvs.map Prod.fst → get a kvs = none
  | [], _ => rfl
  | (k, v) :: l, h => by
    simp only [List.map_cons, List.mem_cons, not_or] at h
    unfold get
    rw [if_neg h.1]
    exact get_none h.2
theorem get_some {a : K} : ∀ {kvs : List (K × V)}, a ∈ kvs.map Prod.fst → ∃ v, get a kvs = some v
  | [], h => by simp at h
  | (k, v) :: l, h => by
    unfold get
    by_cases hk : a = k
    · exact ⟨v, if_pos hk⟩
    · rw [if_neg hk]
      simp only [List.map_cons, List.mem_cons] at h
      exact get_some (h.resolve_left hk)
theorem delK_sub (a : K) : ∀ (kvs : List (K × V)), ∀ b ∈ (delK a kvs).map Prod.fst, b ∈ kvs.map Prod.fst
  | [] => by simp [delK]
  | (k, v) :: l => fun b hb => by
    unfold delK at hb
    by_cases hk : a = k
    · rw [if_pos hk] at hb; simp only [List.map_cons, List.mem_cons]; exact .inr hb
    · rw [if_neg hk] at hb
      simp only [List.map_cons, List.mem_cons] at hb ⊢
      exact hb.imp id (delK_sub a l b)
theorem Keys.del {a : K} : ∀ {kvs : List (K × V)}, Keys kvs → Keys (delK a kvs)
  | [], h => h
  | (k, v) :: l, h => by
    unfold Keys at h ⊢
    simp only [List.map_cons, List.nodup_cons] at h
    unfold delK
    by_cases hk : a = k
    · rw [if_pos hk]; exact h.2
    · rw [if_neg hk]
      simp only [List.map_cons, List.nodup_cons]
      exact ⟨fun hm => h.1 (delK_sub a l k hm), Keys.del h.2⟩
theorem get_del {a b : K} : ∀ {kvs : List (K × V)}, Keys kvs → get b (delK a kvs) = if b = a then none else get b kvs
  | [], _ => by simp [delK, get]
  | (k, v) :: l, h => by
    unfold Keys at h
    simp only [List.map_cons, List.nodup_cons] at h
    unfold delK
    by_cases hk : a = k
    · rw [if_pos hk]
      by_cases hb : b = a
      · rw [if_pos hb]; exact get_none (by rw [hb, hk]; exact h.1)
      · rw [if_neg hb]
        conv => rhs; unfold get
        rw [if_neg (by rw [← hk]; exact hb)]
    · rw [if_neg hk]
      unfold get
      by_cases hb : b = k
      · rw [if_pos hb, if_neg (by rw [hb]; exact fun h => hk h.symm), if_pos hb]
      · rw [if_neg hb, if_neg hb]; exact get_del h.2
theorem ins_mem {a : K} {v : V} : ∀ {kvs : List (K × V)} {b : K}, b ∈ (ins a v kvs).map Prod.fst → b = a ∨ b ∈ kvs.map Prod.fst
  | [], b, h => by simp [ins] at h; exact .inl h
  | (k, u) :: l, b, h => by
    unfold ins at h
    by_cases hk : a = k
    · rw [if_pos hk] at h
      simp only [List.map_cons, List.mem_cons] at h ⊢
      exact h.imp id .inr
    · rw [if_neg hk] at h
      simp only [List.map_cons, List.mem_cons] at h ⊢
      rcases h with h | h
      · exact .inr (.inl h)
      · exact (ins_mem h).imp id .inr
theorem Keys.ins {a : K} {v : V} : ∀ {kvs : List (K × V)}, Keys kvs → Keys (ins a v kvs)
  | [], h => by simp [Keys, Go.Proofs.YtgjhkblnohcppaaDoor.ins]
  | (k, u) :: l, h => by
    unfold Keys at h ⊢
    simp only [List.map_cons, List.nodup_cons] at h
    unfold Go.Proofs.YtgjhkblnohcppaaDoor.ins
    by_cases hk : a = k
    · rw [if_pos hk]; simp only [List.map_cons, List.nodup_cons]; rw [hk]; exact h
    · rw [if_neg hk]
      simp only [List.map_cons, List.nodup_cons]
      refine ⟨fun hm => ?_, Keys.ins h.2⟩
      rcases ins_mem hm with h1 | h1
      · exact hk h1.symm
      · exact h.1 h1
theorem seek_del (f : K → Value) (g : V → Value) (a : K) : ∀ (es : List MapEntry) (kvs : List (K × V)) (i j : Nat) (u : Value), Pairs f g es kvs → seek g a kvs i = some (j, u) → j - i < es.length ∧ Pairs f g (es.eraseIdx (j - i)) (delK a kvs)
  | [], kvs, i, j, u => fun hp h => by
    cases kvs with
    | nil => simp [seek] at h
    | cons x l => simp [Pairs] at hp
  | e :: es, kvs, i, j, u => fun hp h => by
    cases kvs with
    | nil => simp [Pairs] at hp
    | cons x l =>
      obtain ⟨k, w⟩ := x
      have hp0 := hp
      simp only [Pairs, List.map_cons, List.cons.injEq, Prod.mk.injEq] at hp
      obtain ⟨⟨h1, h2⟩, h3⟩ := hp
      unfold seek at h
      unfold delK
      by_cases hk : a = k
      · rw [if_pos hk] at h
        cases h
        rw [if_pos hk, Nat.sub_self]
        exact ⟨by simp, h3⟩
      · rw [if_neg hk] at h
        rw [if_neg hk]
        have hg := seek_ge g a l (i + 1) j u h
        obtain ⟨q1, q2⟩ := seek_del f g a es l (i + 1) j u h3 h
        have e1 : j - i = (j - (i + 1)) + 1 := by omega
        rw [e1]
        refine ⟨by simp; omega, ?_⟩
        simp only [Pairs, List.eraseIdx_cons_succ, List.map_cons, List.cons.injEq, Prod.mk.injEq]
        exact ⟨⟨h1, h2⟩, q2⟩
theorem del_none (g : V → Value) (a : K) : ∀ (kvs : List (K × V)) (i : Nat), seek g a kvs i = none → delK a kvs = kvs
  | [], _, _ => rfl
  | (k, v) :: l, i, h => by
    unfold seek at h
    unfold delK
    by_cases hk : a = k
    · rw [if_pos hk] at h; cases h
    · rw [if_neg hk] at h ⊢
      rw [del_none g a l (i + 1) h]
theorem delete_run {m t t2 e : TypeId} {f : K → Value} {g : V → Value} (ok : KeyOk P t f) (hm : P.underlying m = some (.map t e)) {w : World} {r : Nat} {kvs : List (K × V)} (h : MapAt w r f g kvs) (a : K) :
    ∃ w', (∀ ty, (Builtin.delete_ #[m, t2] ty #[.map (some r), f a]).run P w = .ok (.tuple #[]) w') ∧ MapAt w' r f g (delK a kvs) ∧ Only [r] w w' := by
  obtain ⟨es, clock, hb, hp⟩ := h
  have h1 := ok.find V g w a es.toList kvs hp
  cases hs : seek g a kvs 0 with
  | none =>
    refine ⟨setBlk w r (.map es clock), fun ty => ?_, ⟨_, _, setBlk_same hb, ?_⟩, only_setBlk _⟩
    · simp [Builtin.delete_, run_underlying hm, MapKept.run_getObj_map hb, ok.chk, h1, hs, MapKept.run_setObj_map _ hb, setBlk]
    · rw [del_none g a kvs 0 hs]; exact hp
  | some x =>
    obtain ⟨j, u⟩ := x
    obtain ⟨q1, q2⟩ := seek_del f g a es.toList kvs 0 j u hp hs
    rw [Nat.sub_zero] at q1 q2
    refine ⟨setBlk w r (.map (es.eraseIdxIfInBounds j) clock), fun ty => ?_, ⟨_, _, setBlk_same hb, ?_⟩, only_setBlk _⟩
    · simp [Builtin.delete_, run_underlying hm, MapKept.run_getObj_map hb, ok.chk, h1, hs, MapKept.run_setObj_map _ hb, setBlk]
    · have : (es.eraseIdxIfInBounds j).toList = es.toList.eraseIdx j := by
        simp [Array.eraseIdxIfInBounds]
        rw [dif_pos (by simpa using q1)]
        simp
      rw [this]
      exact q2
end
end Go.Proofs.YtgjhkblnohcppaaDoor
