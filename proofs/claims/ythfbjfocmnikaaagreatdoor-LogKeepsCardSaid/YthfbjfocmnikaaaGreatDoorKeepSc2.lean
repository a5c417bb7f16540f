/- A log in a law, its document beside the reference's: the calls of a round, each in one sentence. Conditions: none of our own. -/
import Derived.Test.YthfbjfocmnikaaaGreatDoorKeepSc
import Derived.Test.YthfbjfocmnikaaaGreatDoorRefCopy
import Derived.Test.YthfbjfocmnikaaaGreatDoorTwinSame
namespace Go.Proofs.YthfbjfocmnikaaaGreatDoor
open Go.RowKit
set_option linter.unusedVariables false
theorem LDoc.all_says : ∀ (l : List LOp) {d : LDoc}, d.Ok → Says d.ops d → Says (d.all l).ops (d.all l)
  | [], d => fun _ h => h
  | o :: t, d => fun ok h => LDoc.all_says t (LDoc.apply_ok ok o) (apply_says ok h o)
theorem LLog.says (L : LLog) : Says L.doc.ops L.doc := LDoc.all_says _ LDoc.new_ok Says.new
namespace KS
variable {w wr w' : World} {B b : Nat} {L L' : LLog} {sts : List LDoc} {ms : List Int} {A1 A2 : Option Addr} {c1 c2 : Nat} {K K0 ps T : List Nat}
theorem ok (h : KS w B b L sts ms A1 c1 A2 c2 wr K K0 ps) : L.Ok := h.log.ok
theorem below (h : KS w B b L sts ms A1 c1 A2 c2 wr K K0 ps) : Below w.heap.size w wr := h.log.below
/-- The log's document, and one of the others that says the same. -/
theorem twin (h : KS w B b L sts ms A1 c1 A2 c2 wr K K0 ps) {i p : Nat} (hp : ps[i]? = some p) (hs : sts[i]? = some L.doc) :
    ∃ bd S1 S2 D1 D2, Twin w B bd p L.doc L.doc wr S1 S2 D1 D2 ∧ ∀ W, Below wr.heap.size wr W → Calls Tryz.prog 13 #[.pointer (some ⟨b, 0, none⟩)] W (fun e w' => e = .returned (.pointer (some ⟨bd, 0, none⟩)) ∧ w' = W) := by
  obtain ⟨S2, D2, k1, k2⟩ := h.docs i p _ hp hs
  obtain ⟨h1, h2, h3, h0, S, bd, SD, D, h4, h5⟩ := h.log
  refine ⟨bd, SD, S2, D, D2, ⟨h4.doc, k1, fun g hg hm => (h5 g (h.sub g (k2 g hm))).1 (h4.sub g hg), h3, h2⟩, fun W hW => ?_⟩
  exact ldoc_any W B S b L bd SD D L.doc (h4.below hW)
/-- A copy of one of them. -/
theorem copy (h : KS w B b L sts ms A1 c1 A2 c2 wr K K0 ps) {i p : Nat} {st : LDoc} (hp : ps[i]? = some p) (hs : sts[i]? = some st) (ok : st.Ok) :
    Calls Tryz.prog 19 #[.pointer (some ⟨p, 0, none⟩)] wr (fun e w' => ∃ q K' S D, e = .returned (.pointer (some ⟨q, 0, none⟩)) ∧ KS w B b L sts ms A1 c1 A2 c2 w' K' K0 ps ∧ KX w' B A1 A2 K' K0 q st S D) := by
  obtain ⟨S, D, k1, k2⟩ := h.docs i p st hp hs
  refine (rcopy_any wr B S p st D k1 ok).mono ?_
  rintro e w' ⟨q, T, D', rfl, g1, g2, g3, g4⟩
  obtain ⟨K', r1, r2⟩ := h.withX g2 g1 (fun g hg => (List.mem_append.1 hg).imp (k2 g) (g3 g)) g4
  exact ⟨q, K', _, _, rfl, r1, r2⟩
/-- An op of the law's, applied to the copy. -/
theorem apply (h : KS w B b L sts ms A1 c1 A2 c2 wr K K0 ps) {p : Nat} {st : LDoc} {S : List Nat} {D : RLay} (x : KX wr B A1 A2 K K0 p st S D) (ok : st.Ok) (hs : Says st.ops st) (o : LOp) (A : Option Addr) (c : Nat) (hp : o.place.size ≤ 9223372036854775807) (hr : Reads w w.heap.size 2 A o.seen.length (dcells o.seen)) :
    Calls Tryz.prog 20 #[.pointer (some ⟨p, 0, none⟩), o.val A c] wr (fun e w' => e = .returned (.tuple #[.bool (st.applyB o), .int .i64 (st.applyE o)]) ∧ ∃ K' S' D', KS w B b L sts ms A1 c1 A2 c2 w' K' K0 ps ∧ KX w' B A1 A2 K' K0 p (st.apply o) S' D') := by
  have hB := h.log.base
  refine (rapply_doc wr B S p st D x.is ok hs o A c hp (Seat.of_arg hr h.below hB (fun g hg => (x.is.own g (x.is.sub g hg)).1))).mono ?_
  rintro e w' ⟨rfl, ht⟩
  exact ⟨rfl, h.turn x ht⟩
theorem put (h : KS w B b L sts ms A1 c1 A2 c2 wr K K0 ps) (o : LOp) (A : Option Addr) (c : Nat) (hp : o.place.size ≤ 9223372036854775807) (hr : Reads w w.heap.size 2 A o.seen.length (dcells o.seen)) {p : Nat} {st : LDoc} {S : List Nat} {D : RLay} (x : KX wr B A1 A2 K K0 p st S D) :
    Calls Tryz.prog 10 #[.pointer (some ⟨b, 0, none⟩), o.val A c] wr (fun e w' => e = .returned (.tuple #[.bool (L.putB o), errV (L.putE o)]) ∧ KS w B b (L.put o) sts ms A1 c1 A2 c2 w' K K0 ps ∧ KX w' B A1 A2 K K0 p st S D) :=
  (h.log.put o A c hp hr).mono fun e w' hh => ⟨hh.1, h.on hh.2.1 hh.2.2, onX x hh.2.2⟩
theorem sync (h : KS w B b L sts ms A1 c1 A2 c2 wr K K0 ps) : Calls Tryz.prog 11 #[.pointer (some ⟨b, 0, none⟩)] wr (fun e w' => e = .returned (errV L.syncE) ∧ KS w B b L.sync sts ms A1 c1 A2 c2 w' K K0 ps) :=
  h.log.sync.mono fun e w' hh => ⟨hh.1, h.on hh.2.1 hh.2.2⟩
theorem fail (h : KS w B b L sts ms A1 c1 A2 c2 wr K K0 ps) (n : Int) (hn0 : -9223372036854775808 ≤ n) (hn1 : n ≤ 9223372036854775807) : Calls Tryz.prog 18 #[.pointer (some ⟨b, 0, none⟩), .int .i64 n] wr (fun e w' => e = .returned (.tuple #[]) ∧ KS w B b (L.fail n) sts ms A1 c1 A2 c2 w' K K0 ps) :=
  (h.log.fail n hn0 hn1).mono fun e w' hh => ⟨hh.1, h.on hh.2.1 hh.2.2⟩
theorem crash (h : KS w B b L sts ms A1 c1 A2 c2 wr K K0 ps) (n : Int) (hn0 : -9223372036854775808 ≤ n) (hn1 : n ≤ 9223372036854775807) : Calls Tryz.prog 12 #[.pointer (some ⟨b, 0, none⟩), .int .i64 n] wr (fun e w' => e = .returned (.tuple #[]) ∧ KS w B b (L.crash n) sts ms A1 c1 A2 c2 w' K K0 ps) :=
  (h.log.crash n hn0 hn1).mono fun e w' hh => ⟨hh.1, h.on hh.2.1 hh.2.2⟩
/-- What can be read of the two rows. -/
theorem ptr (h : KS w B b L sts ms A1 c1 A2 c2 wr K K0 ps) {i p : Nat} (hp : ps[i]? = some p) : ∃ g, A1 = some ⟨g, 0, none⟩ ∧ ∀ W, Below wr.heap.size wr W → W.cell? ⟨g, i, none⟩ = some (.pointer (some ⟨p, 0, none⟩)) := by
  have hi : i < ps.length := by
    rcases Nat.lt_or_ge i ps.length with h1 | h1
    · exact h1
    · rw [List.getElem?_eq_none h1] at hp; cases hp
  obtain ⟨g, rfl, _⟩ := h.done.head (by omega)
  refine ⟨g, rfl, fun W hW => ?_⟩
  rw [(h.done.below hW).cellAt (by omega)]
  unfold pps
  rw [List.getElem?_map, hp]; rfl
theorem num (h : KS w B b L sts ms A1 c1 A2 c2 wr K K0 ps) {i : Nat} {m : Int} (hm : ms[i]? = some m) : ∃ g, A2 = some ⟨g, 0, none⟩ ∧ ∀ W, Below wr.heap.size wr W → W.cell? ⟨g, i, none⟩ = some (.int .i64 m) := by
  have hi : i < ms.length := by
    rcases Nat.lt_or_ge i ms.length with h1 | h1
    · exact h1
    · rw [List.getElem?_eq_none h1] at hm; cases hm
  obtain ⟨g, rfl, _⟩ := h.mark.head (by omega)
  refine ⟨g, rfl, fun W hW => ?_⟩
  rw [(h.mark.below hW).cellAt (by omega)]
  unfold ints
  rw [List.getElem?_map, hm]; rfl
end KS
/-- The log L, and beside it the documents that a log of the ops l has been. -/
def KAt (w : World) (B b : Nat) (L : LLog) (l : List LOp) (n : Nat) (A1 : Option Addr) (c1 : Nat) (A2 : Option Addr) (c2 : Nat) (wr : World) : Prop :=
  n = l.length ∧ ∃ K K0 ps, KS w B b L (LLog.trail l) (LLog.marks l) A1 c1 A2 c2 wr K K0 ps
/-- Another document beside it. -/
def KTwo (w : World) (B b : Nat) (L : LLog) (l : List LOp) (n : Nat) (A1 : Option Addr) (c1 : Nat) (A2 : Option Addr) (c2 : Nat) (q : Nat) (st : LDoc) (wr : World) : Prop :=
  n = l.length ∧ ∃ K K0 ps S D, KS w B b L (LLog.trail l) (LLog.marks l) A1 c1 A2 c2 wr K K0 ps ∧ KX wr B A1 A2 K K0 q st S D
/-- It is one of them already; its mark is lacking. -/
def KHalf (w : World) (B b : Nat) (L : LLog) (l : List LOp) (st : LDoc) (n : Nat) (A1 : Option Addr) (c1 : Nat) (A2 : Option Addr) (c2 : Nat) (wr : World) : Prop :=
  n = l.length ∧ ∃ K K0 ps, KS w B b L (LLog.trail l ++ [st]) (LLog.marks l) A1 c1 A2 c2 wr K K0 ps
namespace KAt
variable {w wr w' : World} {B b : Nat} {L L' : LLog} {l : List LOp} {n : Nat} {A1 A2 : Option Addr} {c1 c2 : Nat}
theorem ok (h : KAt w B b L l n A1 c1 A2 c2 wr) : L.Ok := by obtain ⟨_, K, K0, ps, h1⟩ := h; exact h1.ok
theorem len (h : KAt w B b L l n A1 c1 A2 c2 wr) : n = l.length := h.1
theorem below (h : KAt w B b L l n A1 c1 A2 c2 wr) : Below w.heap.size w wr := by obtain ⟨_, K, K0, ps, h1⟩ := h; exact h1.below
theorem step (h : KAt w B b L l n A1 c1 A2 c2 wr) (hb : Below wr.heap.size wr w') : KAt w B b L l n A1 c1 A2 c2 w' := by
  obtain ⟨h0, K, K0, ps, h1⟩ := h
  exact ⟨h0, K, K0, ps, h1.step hb⟩
theorem caps (h : KAt w B b L l n A1 c1 A2 c2 wr) : n + 1 ≤ c1 ∧ c1 ≤ 9223372036854775807 ∧ n + 1 ≤ c2 ∧ c2 ≤ 9223372036854775807 := by
  obtain ⟨h0, K, K0, ps, h1⟩ := h
  have e1 := h1.done.cap_le
  have e2 := h1.done.cap_max
  have e3 := h1.mark.cap_le
  have e4 := h1.mark.cap_max
  have e5 := h1.len
  rw [LLog.trail_len] at e5
  rw [LLog.marks_len] at e3
  unfold maxLen at e2 e4
  omega
theorem sync (h : KAt w B b L l n A1 c1 A2 c2 wr) : Calls Tryz.prog 11 #[.pointer (some ⟨b, 0, none⟩)] wr (fun e w' => e = .returned (errV L.syncE) ∧ KAt w B b L.sync l n A1 c1 A2 c2 w') := by
  obtain ⟨h0, K, K0, ps, h1⟩ := h
  exact h1.sync.mono fun e w' hh => ⟨hh.1, h0, K, K0, ps, hh.2⟩
theorem fail (h : KAt w B b L l n A1 c1 A2 c2 wr) (m : Int) (hn0 : -9223372036854775808 ≤ m) (hn1 : m ≤ 9223372036854775807) : Calls Tryz.prog 18 #[.pointer (some ⟨b, 0, none⟩), .int .i64 m] wr (fun e w' => e = .returned (.tuple #[]) ∧ KAt w B b (L.fail m) l n A1 c1 A2 c2 w') := by
  obtain ⟨h0, K, K0, ps, h1⟩ := h
  exact (h1.fail m hn0 hn1).mono fun e w' hh => ⟨hh.1, h0, K, K0, ps, hh.2⟩
theorem crash (h : KAt w B b L l n A1 c1 A2 c2 wr) (m : Int) (hn0 : -9223372036854775808 ≤ m) (hn1 : m ≤ 9223372036854775807) : Calls Tryz.prog 12 #[.pointer (some ⟨b, 0, none⟩), .int .i64 m] wr (fun e w' => e = .returned (.tuple #[]) ∧ KAt w B b (L.crash m) l n A1 c1 A2 c2 w') := by
  obtain ⟨h0, K, K0, ps, h1⟩ := h
  exact (h1.crash m hn0 hn1).mono fun e w' hh => ⟨hh.1, h0, K, K0, ps, hh.2⟩
theorem bytes (h : KAt w B b L l n A1 c1 A2 c2 wr) : Calls Tryz.prog 15 #[.pointer (some ⟨b, 0, none⟩)] wr (fun e w' => e = .returned (.int .i64 (L.m : Nat)) ∧ w' = wr) := by
  obtain ⟨h0, K, K0, ps, h1⟩ := h
  exact h1.log.bytes
theorem safe (h : KAt w B b L l n A1 c1 A2 c2 wr) : Calls Tryz.prog 16 #[.pointer (some ⟨b, 0, none⟩)] wr (fun e w' => e = .returned (.int .i64 (L.safe : Nat)) ∧ w' = wr) := by
  obtain ⟨h0, K, K0, ps, h1⟩ := h
  exact h1.log.safe
theorem get (h : KAt w B b L l n A1 c1 A2 c2 wr) {i : Nat} (hi : i ≤ n) : ∃ K K0 ps p, KS w B b L (LLog.trail l) (LLog.marks l) A1 c1 A2 c2 wr K K0 ps ∧ ps[i]? = some p := by
  obtain ⟨h0, K, K0, ps, h1⟩ := h
  have e5 := h1.len
  rw [LLog.trail_len] at e5
  exact ⟨K, K0, ps, ps[i]'(by omega), h1, List.getElem?_eq_getElem _⟩
/-- The last of them, and a copy of it. -/
theorem last (h : KAt w B b L L.kept n A1 c1 A2 c2 wr) : ∃ g p, A1 = some ⟨g, 0, none⟩ ∧ (∀ W, Below wr.heap.size wr W → W.cell? ⟨g, n, none⟩ = some (.pointer (some ⟨p, 0, none⟩))) ∧
    Calls Tryz.prog 19 #[.pointer (some ⟨p, 0, none⟩)] wr (fun e w' => ∃ q, e = .returned (.pointer (some ⟨q, 0, none⟩)) ∧ KTwo w B b L L.kept n A1 c1 A2 c2 q L.doc w') := by
  have h0 := h.len
  obtain ⟨K, K0, ps, p, h1, hp⟩ := h.get (Nat.le_refl _)
  obtain ⟨g, e1, e2⟩ := h1.ptr hp
  refine ⟨g, p, e1, e2, ?_⟩
  have hs : (LLog.trail L.kept)[n]? = some L.doc := by rw [h0]; exact LLog.trail_last L
  refine (h1.copy hp hs h1.ok.doc_ok).mono ?_
  rintro e w' ⟨q, K', S, D, rfl, k1, k2⟩
  exact ⟨q, rfl, h0, K', K0, ps, S, D, k1, k2⟩
/-- The log's document beside the one that says the same. -/
theorem twin (h : KAt w B b L l n A1 c1 A2 c2 wr) {i : Nat} (hi : i ≤ n) (hd : L.doc = LDoc.new.all (l.take i)) :
    ∃ g p bd S1 S2 D1 D2, A1 = some ⟨g, 0, none⟩ ∧ (∀ W, Below wr.heap.size wr W → W.cell? ⟨g, i, none⟩ = some (.pointer (some ⟨p, 0, none⟩))) ∧ Twin w B bd p L.doc L.doc wr S1 S2 D1 D2 ∧
      ∀ W, Below wr.heap.size wr W → Calls Tryz.prog 13 #[.pointer (some ⟨b, 0, none⟩)] W (fun e w' => e = .returned (.pointer (some ⟨bd, 0, none⟩)) ∧ w' = W) := by
  have h0 := h.len
  obtain ⟨K, K0, ps, p, h1, hp⟩ := h.get hi
  obtain ⟨g, e1, e2⟩ := h1.ptr hp
  have hs : (LLog.trail l)[i]? = some L.doc := by rw [LLog.trail_at l (by omega), hd]
  obtain ⟨bd, S1, S2, D1, D2, k1, k2⟩ := h1.twin hp hs
  exact ⟨g, p, bd, S1, S2, D1, D2, e1, e2, k1, k2⟩
theorem num (h : KAt w B b L l n A1 c1 A2 c2 wr) {i : Nat} (hi : i ≤ n) : ∃ g, A2 = some ⟨g, 0, none⟩ ∧ ∀ W, Below wr.heap.size wr W → W.cell? ⟨g, i, none⟩ = some (.int .i64 ((packBody (l.take i)).length : Nat)) := by
  have h0 := h.len
  obtain ⟨_, K, K0, ps, h1⟩ := h
  exact h1.num (LLog.marks_at l (by omega))
/-- What a crash left. -/
theorem cut (h : KAt w B b L l n A1 c1 A2 c2 wr) {k : Nat} (hk : k ≤ n) (he : L.kept = l.take k) : KAt w B b L L.kept k A1 c1 A2 c2 wr := by
  obtain ⟨h0, K, K0, ps, h1⟩ := h
  have e5 := h1.len
  rw [LLog.trail_len] at e5
  rw [he]
  refine ⟨by rw [List.length_take]; omega, K, K0, ps.take (k + 1), ?_⟩
  rw [LLog.trail_take l (by omega), LLog.marks_take l (by omega)]
  exact h1.cut (by omega) (by omega) (by rw [LLog.marks_len]; omega)
end KAt
namespace KTwo
variable {w wr w' : World} {B b q : Nat} {L L' : LLog} {l : List LOp} {n : Nat} {A1 A2 : Option Addr} {c1 c2 : Nat} {st : LDoc}
theorem below (h : KTwo w B b L l n A1 c1 A2 c2 q st wr) : Below w.heap.size w wr := by obtain ⟨_, K, K0, ps, S, D, h1, h2⟩ := h; exact h1.below
theorem ok (h : KTwo w B b L l n A1 c1 A2 c2 q st wr) : L.Ok := by obtain ⟨_, K, K0, ps, S, D, h1, h2⟩ := h; exact h1.ok
theorem step (h : KTwo w B b L l n A1 c1 A2 c2 q st wr) (hb : Below wr.heap.size wr w') : KTwo w B b L l n A1 c1 A2 c2 q st w' := by
  obtain ⟨h0, K, K0, ps, S, D, h1, h2⟩ := h
  exact ⟨h0, K, K0, ps, S, D, h1.step hb, KS.onX h2 (Off.of_below hb)⟩
theorem bytes (h : KTwo w B b L l n A1 c1 A2 c2 q st wr) : Calls Tryz.prog 15 #[.pointer (some ⟨b, 0, none⟩)] wr (fun e w' => e = .returned (.int .i64 (L.m : Nat)) ∧ w' = wr) := by
  obtain ⟨h0, K, K0, ps, S, D, h1, h2⟩ := h
  exact h1.log.bytes
theorem apply (h : KTwo w B b L l n A1 c1 A2 c2 q st wr) (ok : st.Ok) (hs : Says st.ops st) (o : LOp) (A : Option Addr) (c : Nat) (hp : o.place.size ≤ 9223372036854775807) (hr : Reads w w.heap.size 2 A o.seen.length (dcells o.seen)) :
    Calls Tryz.prog 20 #[.pointer (some ⟨q, 0, none⟩), o.val A c] wr (fun e w' => e = .returned (.tuple #[.bool (st.applyB o), .int .i64 (st.applyE o)]) ∧ KTwo w B b L l n A1 c1 A2 c2 q (st.apply o) w') := by
  obtain ⟨h0, K, K0, ps, S, D, h1, h2⟩ := h
  refine (h1.apply h2 ok hs o A c hp hr).mono ?_
  rintro e w' ⟨rfl, K', S', D', k1, k2⟩
  exact ⟨rfl, h0, K', K0, ps, S', D', k1, k2⟩
theorem put (h : KTwo w B b L l n A1 c1 A2 c2 q st wr) (o : LOp) (A : Option Addr) (c : Nat) (hp : o.place.size ≤ 9223372036854775807) (hr : Reads w w.heap.size 2 A o.seen.length (dcells o.seen)) :
    Calls Tryz.prog 10 #[.pointer (some ⟨b, 0, none⟩), o.val A c] wr (fun e w' => e = .returned (.tuple #[.bool (L.putB o), errV (L.putE o)]) ∧ KTwo w B b (L.put o) l n A1 c1 A2 c2 q st w') := by
  obtain ⟨h0, K, K0, ps, S, D, h1, h2⟩ := h
  refine (h1.put o A c hp hr h2).mono ?_
  rintro e w' ⟨rfl, k1, k2⟩
  exact ⟨rfl, h0, K, K0, ps, S, D, k1, k2⟩
/-- It is let go. -/
theorem drop (h : KTwo w B b L l n A1 c1 A2 c2 q st wr) : KAt w B b L l n A1 c1 A2 c2 wr := by
  obtain ⟨h0, K, K0, ps, S, D, h1, h2⟩ := h
  exact ⟨h0, K, K0, ps, h1⟩
/-- The row to which it is appended. -/
theorem room (h : KTwo w B b L l n A1 c1 A2 c2 q st wr) : B ≤ wr.heap.size ∧ ∃ xs, Own wr B 41 1 A1 (n + 1) c1 xs ∧ ∀ W A' c' w', Below wr.heap.size wr W → Own w' B 41 1 A' (n + 1 + 1) c' (xs ++ [.pointer (some ⟨q, 0, none⟩)]) → Only (ob A1) W w' → (∀ g ∈ ob A', g ∈ ob A1 ∨ g = W.heap.size) →
    KHalf w B b L l st n A' c' A2 c2 w' := by
  obtain ⟨h0, K, K0, ps, S, D, h1, h2⟩ := h
  have e5 := h1.len
  rw [LLog.trail_len] at e5
  have e6 : ps.length = n + 1 := by omega
  refine ⟨h1.log.2.2.2.1, pps ps, by rw [← e6]; exact h1.done, fun W A' c' w' hW hO hL hg => ?_⟩
  have hz := hW.size
  obtain ⟨K', k1⟩ := (h1.step hW).push1 (KS.onX h2 (Off.of_below hW)) (by rw [e6]; exact hO) hL (fun g hm => (hg g hm).imp id (fun e => by omega))
  exact ⟨h0, K', _, _, k1⟩
end KTwo
namespace KHalf
variable {w wr w' : World} {B b : Nat} {L L' : LLog} {l : List LOp} {n : Nat} {A1 A2 : Option Addr} {c1 c2 : Nat} {st : LDoc}
theorem below (h : KHalf w B b L l st n A1 c1 A2 c2 wr) : Below w.heap.size w wr := by obtain ⟨_, K, K0, ps, h1⟩ := h; exact h1.below
theorem bytes (h : KHalf w B b L l st n A1 c1 A2 c2 wr) : Calls Tryz.prog 15 #[.pointer (some ⟨b, 0, none⟩)] wr (fun e w' => e = .returned (.int .i64 (L.m : Nat)) ∧ w' = wr) := by
  obtain ⟨h0, K, K0, ps, h1⟩ := h
  exact h1.log.bytes
/-- Its mark is appended. -/
theorem room (h : KHalf w B b L l st n A1 c1 A2 c2 wr) {o : LOp} (hst : st = LDoc.new.all (l ++ [o])) {m : Nat} (hm : m = (packBody (l ++ [o])).length) : B ≤ wr.heap.size ∧ ∃ xs, Own wr B 3 1 A2 (n + 1) c2 xs ∧ ∀ W A' c' w', Below wr.heap.size wr W → Own w' B 3 1 A' (n + 1 + 1) c' (xs ++ [.int .i64 (m : Nat)]) → Only (ob A2) W w' → (∀ g ∈ ob A', g ∈ ob A2 ∨ g = W.heap.size) →
    KAt w B b L (l ++ [o]) (n + 1) A1 c1 A' c' w' := by
  obtain ⟨h0, K, K0, ps, h1⟩ := h
  have e6 : (LLog.marks l).length = n + 1 := by rw [LLog.marks_len]; omega
  refine ⟨h1.log.2.2.2.1, ints (LLog.marks l), by rw [← e6]; exact h1.mark, fun W A' c' w' hW hO hL hg => ?_⟩
  have hz := hW.size
  obtain ⟨K', k1⟩ := (h1.step hW).push2 (m := (m : Int)) (by rw [e6]; exact hO) hL (fun g hm => (hg g hm).imp id (fun e => by omega))
  refine ⟨by rw [List.length_append, ← h0]; rfl, K', K0, ps, ?_⟩
  rw [LLog.trail_snoc, LLog.marks_snoc, ← hst, ← hm]
  exact k1
end KHalf
end Go.Proofs.YthfbjfocmnikaaaGreatDoor
