/- (*doc.Doc).Known, walked. Conditions: the document is right. -/
import Derived.Test.YtmpkgbkdndpnlaaGreatDocRead
namespace Go.Proofs.YtmpkgbkdndpnlaaGreat
open Go.RowKit
set_option linter.unusedVariables false
set_option maxRecDepth 100000 in
theorem known_doc (w : World) (B : Nat) (S : List Nat) (b : Nat) (st : LDoc) (D : DLay) (h : DocIs w B S b st D) (ok : st.Ok) : Calls Tryz.prog 15 #[.pointer (some ⟨b, 0, none⟩)] w (RowPost w 3 1 st.known.length (ints st.known)) := by
  have HC := Lib.hid (cloneI w D.a3 st.known.length D.c3 (ints st.known) h.known.reads (oneCells_ints st.known) (Fits.of_small (by have := vec_ok ok.known; omega) (by decide)))
  have c0 : w.cell? ⟨b, 2, none⟩ = some (.slice D.a3 st.known.length D.c3) := by rw [h.blk.cell]; rfl
  clear h ok
  go_enter Tryz.func15, Tryz.ntmps15
  go_wp2_with fail
  refine HC.out.mono ?_
  rintro e w1 ⟨V, c, rfl, hO, hb⟩
  have HO := Lib.hid hO
  have HB := Lib.hid hb
  clear hO hb
  go_wp2_with fail
  go_ret
  exact ⟨V, c, rfl, HO.out, HB.out⟩
end Go.Proofs.YtmpkgbkdndpnlaaGreat
