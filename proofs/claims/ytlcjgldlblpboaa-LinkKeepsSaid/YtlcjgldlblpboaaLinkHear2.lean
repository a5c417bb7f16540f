/- (*link.End).Hear, walked. Conditions: what holds of each end (LEnd.Ok). -/
import Derived.Test.YtlcjgldlblpboaaLinkHear
namespace Go.Proofs.Ytlcjgldlblpboaa
open Go.RowKit
set_option linter.unusedVariables false

def LFrame.val (f : LFrame) : Value := .agg #[.bool f.ack, .int .i64 f.seq, .string f.data]

theorem EndTo.drewN {w w1 : World} {B b : Nat} {A G : Option Addr} {st : LEnd} (h : EndTo w B b A G st w1) (n : Nat) : EndTo w B b A G st (w1.drewN n) := by
  obtain ⟨A', ca', G', cg', he, ho, hs⟩ := h
  exact ⟨A', ca', G', cg', ⟨he.blk, he.base, he.data, he.got, he.apart⟩, ho.drewN n, hs⟩

theorem size_of_toList {d : ByteArray} (h : d.toList = []) : d.size = 0 := by
  have := congrArg List.length h
  simpa [ByteArray.toList_eq] using this

section
variable (w : World) (B b : Nat) (A G : Option Addr) (ca cg : Nat) (st : LEnd)

/-- The frame that is heard lies in a box. -/
def boxed (w : World) (a : Bool) (s : Int) (d : ByteArray) : World := w.alloc (.cells #[.bool a, .int .i64 s, .string d] 33)
theorem hear_box (a : Bool) (s : Int) (d : ByteArray) (h : EndAt w B b A ca G cg st) : EndTo w B b A G st (boxed w a s d) :=
  ⟨A, ca, G, cg, h.below ((Below.refl _ _).alloc (Nat.le_refl _) _), (Only.refl _ _).alloc _, fun _ hg => .inl hg⟩

theorem hear_ack_err1 (s : Int) (d : ByteArray) (h : EndAt w B b A ca G cg st) (ok : st.Ok) (hs : s < 0 ∨ (st.said : Int) < s) :
    Calls Try.prog 9 #[.pointer (some ⟨b, 0, none⟩), .agg #[.bool true, .int .i64 s, .string d]] w (SendPost w B b A G (errV 1) st) := by
  have hE := h.below ((Below.refl _ _).alloc (Nat.le_refl _) (.cells #[.bool true, .int .i64 s, .string d] 33))
  have hc4 : (w.alloc (.cells #[.bool true, .int .i64 s, .string d] 33)).cell? ⟨b, 4, none⟩ = some (.int .i64 st.said) := by rw [hE.blk.cell]; rfl
  have HE := Lib.hid (hear_box w B b A G ca cg st true s d h)
  have h5 := ok.said
  clear hE h
  by_cases h0 : s < 0
  · have hd : decide (s < 0) = true := by simpa using h0
    go_enter Try.func9, Try.ntmps9
    go_wp2_with fail
    go_quiet (fail)
    go_wp2_with fail
    go_ret
    exact ⟨rfl, HE.out.drewN _⟩
  · have hd : decide (s < 0) = false := by simpa using h0
    have h1 : (st.said : Int) < s := by omega
    go_enter Try.func9, Try.ntmps9
    go_wp2_with fail
    go_quiet (fail)
    go_wp2_with fail
    go_ret
    exact ⟨rfl, HE.out.drewN _⟩

theorem hear_ack_err3 (s : Int) (d : ByteArray) (h : EndAt w B b A ca G cg st) (ok : st.Ok) (h0 : 0 ≤ s) (h1 : s ≤ (st.said : Int)) (hd : d.size ≠ 0) :
    Calls Try.prog 9 #[.pointer (some ⟨b, 0, none⟩), .agg #[.bool true, .int .i64 s, .string d]] w (SendPost w B b A G (errV 3) st) := by
  have hE := h.below ((Below.refl _ _).alloc (Nat.le_refl _) (.cells #[.bool true, .int .i64 s, .string d] 33))
  have hc4 : (w.alloc (.cells #[.bool true, .int .i64 s, .string d] 33)).cell? ⟨b, 4, none⟩ = some (.int .i64 st.said) := by rw [hE.blk.cell]; rfl
  have HE := Lib.hid (hear_box w B b A G ca cg st true s d h)
  have h5 := ok.said
  clear hE h
  have hd' : decide (s < 0) = false := by simpa using h0
  have hnm : d.toList.isEmpty = false := by
    cases hh : d.toList.isEmpty
    · rfl
    · exact absurd (size_of_toList (List.isEmpty_iff.1 hh)) hd
  go_enter Try.func9, Try.ntmps9
  go_wp2_with fail
  go_quiet (fail)
  go_wp2_with fail
  go_ret
  exact ⟨rfl, HE.out.drewN _⟩

theorem hear_ack_old (s : Int) (h : EndAt w B b A ca G cg st) (ok : st.Ok) (h0 : 0 ≤ s) (h1 : s ≤ (st.said : Int)) (h2 : s ≤ st.acked) :
    Calls Try.prog 9 #[.pointer (some ⟨b, 0, none⟩), .agg #[.bool true, .int .i64 s, .string ⟨#[]⟩]] w (SendPost w B b A G .nilIface st) := by
  have hE := h.below ((Below.refl _ _).alloc (Nat.le_refl _) (.cells #[.bool true, .int .i64 s, .string ⟨#[]⟩] 33))
  have hc4 : (w.alloc (.cells #[.bool true, .int .i64 s, .string ⟨#[]⟩] 33)).cell? ⟨b, 4, none⟩ = some (.int .i64 st.said) := by rw [hE.blk.cell]; rfl
  have hc3 : (w.alloc (.cells #[.bool true, .int .i64 s, .string ⟨#[]⟩] 33)).cell? ⟨b, 3, none⟩ = some (.int .i64 st.acked) := by rw [hE.blk.cell]; rfl
  have HE := Lib.hid (hear_box w B b A G ca cg st true s ⟨#[]⟩ h)
  have h5 := ok.said
  clear hE h
  have hd' : decide (s < 0) = false := by simpa using h0
  go_enter Try.func9, Try.ntmps9
  go_wp2_with fail
  go_quiet (fail)
  go_wp2_with fail
  go_quiet (fail)
  go_wp2_with fail
  go_ret
  exact ⟨rfl, (HE.out.drewN _).drewN _⟩

theorem hear_data_err1 (s : Int) (d : ByteArray) (h : EndAt w B b A ca G cg st) (h0 : s < 1) :
    Calls Try.prog 9 #[.pointer (some ⟨b, 0, none⟩), .agg #[.bool false, .int .i64 s, .string d]] w (SendPost w B b A G (errV 1) st) := by
  have HE := Lib.hid (hear_box w B b A G ca cg st false s d h)
  clear h
  go_enter Try.func9, Try.ntmps9
  go_wp2_with fail
  go_ret
  exact ⟨rfl, HE.out⟩

theorem hear_data_err4 (s : Int) (d : ByteArray) (h : EndAt w B b A ca G cg st) (h0 : 1 ≤ s) (hd : 200 < d.size) (hm : d.size ≤ 9223372036854775807) :
    Calls Try.prog 9 #[.pointer (some ⟨b, 0, none⟩), .agg #[.bool false, .int .i64 s, .string d]] w (SendPost w B b A G (errV 4) st) := by
  have HE := Lib.hid (hear_box w B b A G ca cg st false s d h)
  clear h
  go_enter Try.func9, Try.ntmps9
  go_wp2_with fail
  go_ret
  exact ⟨rfl, HE.out⟩
end
end Go.Proofs.Ytlcjgldlblpboaa
