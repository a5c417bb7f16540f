/- 4 texts in one: each says ahead of itself what is proved, and its conditions. -/
import Derived.Test.YtmfbckpjemfkeaaGreatDoorApartLaw
import Derived.Test.YtmfbckpjemfkeaaGreatDoorDocKnown
import Derived.Test.YtmfbckpjemfkeaaGreatDoorDocs2
/- What one document lacks of another one, and what comes of giving it: plain. Conditions: none. -/
namespace Go.Proofs.YtmfbckpjemfkeaaGreatDoor
open Go.RowKit
set_option linter.unusedVariables false
/-- Ops that a vector does not know. -/
def lacksB (v : List Int) (o : LOp) : Bool := decide (nOf v o.dot < o.dot.n)
def lacksR (l : List LOp) (v : List Int) : List LOp := l.filter (lacksB v)
theorem lacksR_take {l : List LOp} {v : List Int} {k : Nat} (h : k < l.length) : lacksR (l.take (k + 1)) v = if lacksB v l[k] = true then lacksR (l.take k) v ++ [l[k]] else lacksR (l.take k) v := by
  unfold lacksR
  rw [List.take_succ_eq_append_getElem h, List.filter_append]
  by_cases hb : lacksB v l[k] = true
  · rw [if_pos hb, List.filter_cons, if_pos hb]; rfl
  · rw [if_neg hb, List.filter_cons, if_neg hb]; simp
namespace LDoc
/-- How many of some ops are new. -/
def takeN (d : LDoc) : List LOp → Int
  | [] => 0
  | o :: t => if d.applyE o ≠ 0 then 0 else (if d.applyB o = true then 1 else 0) + (d.apply o).takeN t
theorem takeN_le : ∀ (l : List LOp) (d : LDoc), 0 ≤ d.takeN l ∧ d.takeN l ≤ l.length
  | [], d => by simp [takeN]
  | o :: t, d => by
    unfold takeN
    have := takeN_le t (d.apply o)
    split
    · simp; omega
    · split <;> simp <;> omega
end LDoc
theorem numbered_known {l : List LOp} {d : LDoc} (hk : d.Ok) (hs : Says d.ops d) (hn : Numbered l) (i : Int) (hi : dotErr ⟨i, 1⟩ = 0) : ofWho i (lacksR l d.known) = (ofWho i l).drop (ofWho i d.ops).length := by
  have hk2 : ∀ o ∈ ofWho i l, nOf d.known o.dot = ((ofWho i d.ops).length : Int) := fun o ho => by
    have hw := (mem_ofWho.1 ho).2
    rw [nOf_who d.known (show o.dot.who = (⟨i, 1⟩ : LDot).who from hw), hs.known _ hi]
  have e1 : ofWho i (lacksR l d.known) = (ofWho i l).filter (lacksB d.known) := by
    unfold ofWho lacksR
    rw [List.filter_filter, List.filter_filter]
    congr 1
    funext o
    exact Bool.and_comm _ _
  rw [e1]
  generalize hp : (ofWho i d.ops).length = p at *
  have hnum := hn i
  generalize ofWho i l = m at *
  have key : ∀ (m : List LOp) (s : Nat), (∀ (k : Nat) (o : LOp), m[k]? = some o → o.dot.n = (k : Int) + s + 1) → (∀ o ∈ m, nOf d.known o.dot = (p : Int)) → m.filter (lacksB d.known) = m.drop (p - s) := by
    intro m
    induction m with
    | nil => intro s _ _; simp
    | cons o m ih =>
      intro s h1 h2
      have h0 := h1 0 o rfl
      have hi2 := ih (s + 1) (fun k x hx => by have := h1 (k + 1) x (by simpa using hx); push_cast at this ⊢; omega) (fun x hx => h2 x (by simp [hx]))
      have hb : lacksB d.known o = decide (p ≤ s) := by
        unfold lacksB
        rw [h2 o (by simp), h0]
        congr 1
        apply propext
        push_cast
        omega
      rw [List.filter_cons, hb]
      by_cases hps : p ≤ s
      · rw [if_pos (decide_eq_true hps), hi2, show p - (s + 1) = 0 by omega, show p - s = 0 by omega]; rfl
      · rw [if_neg (by simpa using hps), hi2, show p - s = (p - (s + 1)) + 1 by omega]; rfl
  have := key m 0 (fun k o ho => by have := hnum k o ho; simpa using this) hk2
  simpa using this
namespace LDoc
/-- Ops that lack, done one behind the other, are all new. -/
theorem news_do : ∀ (l : List LOp) (d : LDoc), d.Ok → Says d.ops d → (∀ i, ∀ (k : Nat) (o : LOp), (ofWho i l)[k]? = some o → o.dot.n = (k : Int) + (ofWho i d.ops).length + 1) → d.doE l = 0 → (d.doR l).ops = d.ops ++ l ∧ d.takeN l = l.length
  | [], d => fun _ _ _ _ => by simp [doR, takeN]
  | o :: t, d => fun hk hs hn hd => by
    unfold doE at hd
    unfold doR takeN
    by_cases he : d.applyE o ≠ 0
    · rw [if_pos he] at hd; exact absurd hd he
    rw [if_neg he] at hd ⊢
    rw [if_neg he]
    have he0 : d.applyE o = 0 := by omega
    have hop : opErr o = 0 := by
      by_cases h : opErr o = 0
      · exact h
      · have : d.applyE o = opErr o := by unfold applyE; rw [if_pos h]
        omega
    obtain ⟨p1, _⟩ := op_ok hop
    have h0 := hn o.dot.who 0 o (by simp [ofWho])
    obtain ⟨q1, q2, q3, q4, q5⟩ := apply_new hk he0 (by rw [hs.known _ p1]; omega)
    have ho : (d.apply o).ops = d.ops ++ [o] := by rw [q5]
    have hn2 : ∀ i, ∀ (k : Nat) (x : LOp), (ofWho i t)[k]? = some x → x.dot.n = (k : Int) + (ofWho i (d.apply o).ops).length + 1 := fun i k x hx => by
      rw [ho, ofWho_add]
      by_cases hw : o.dot.who = i
      · have e1 : ofWho i [o] = [o] := by simp [ofWho, hw]
        have e2 : ofWho i (o :: t) = o :: ofWho i t := by simp [ofWho, hw]
        have := hn i (k + 1) x (by rw [e2]; simpa using hx)
        rw [e1, List.length_append]
        simp only [List.length_cons, List.length_nil]
        push_cast at this ⊢
        omega
      · have e1 : ofWho i [o] = [] := by simp [ofWho, hw]
        have e2 : ofWho i (o :: t) = ofWho i t := by simp [ofWho, hw]
        have := hn i k x (by rw [e2]; exact hx)
        rw [e1, List.append_nil]
        exact this
    obtain ⟨r1, r2⟩ := news_do t (d.apply o) (apply_ok hk o) (apply_says hk hs o) hn2 hd
    rw [r1, r2, ho, if_pos q1]
    refine ⟨by simp, ?_⟩
    simp only [List.length_cons]; push_cast; omega
def gave (a b : LDoc) : LDoc := b.doR (lacksR a.ops b.known)
def gaveE (a b : LDoc) : Int := b.doE (lacksR a.ops b.known)
def gaveN (a b : LDoc) : Int := b.takeN (lacksR a.ops b.known)
/-- One has given what the other one lacked. -/
theorem gave_ok {a b : LDoc} (ka : a.Ok) (kb : b.Ok) (sa : Says a.ops a) (sb : Says b.ops b) (na : Numbered a.ops) (h : gaveE a b = 0) :
    (gave a b).ops = b.ops ++ lacksR a.ops b.known ∧ gaveN a b = (lacksR a.ops b.known).length ∧ ∀ i, dotErr ⟨i, 1⟩ = 0 → ofWho i (gave a b).ops = ofWho i b.ops ++ (ofWho i a.ops).drop (ofWho i b.ops).length := by
  have hgood : ∀ o ∈ lacksR a.ops b.known, dotErr ⟨o.dot.who, 1⟩ = 0 := fun o ho => by
    have h1 := sa.good o (List.mem_filter.1 ho).1
    have h2 := (op_ok h1).1
    unfold dotErr at h2 ⊢
    split at h2
    · rw [if_pos]; simp only; omega
    · omega
  have hn : ∀ i, ∀ (k : Nat) (o : LOp), (ofWho i (lacksR a.ops b.known))[k]? = some o → o.dot.n = (k : Int) + (ofWho i b.ops).length + 1 := fun i k o ho => by
    have hm := List.mem_of_getElem? ho
    obtain ⟨m1, m2⟩ := mem_ofWho.1 hm
    have hi : dotErr ⟨i, 1⟩ = 0 := by rw [← m2]; exact hgood o m1
    rw [numbered_known kb sb na i hi, List.getElem?_drop] at ho
    have := na i _ o ho
    push_cast at this
    omega
  obtain ⟨r1, r2⟩ := news_do _ b kb sb hn h
  refine ⟨r1, r2, fun i hi => ?_⟩
  show ofWho i (b.doR (lacksR a.ops b.known)).ops = _
  rw [r1, ofWho_add, numbered_known kb sb na i hi]
theorem doR_numbered : ∀ (l : List LOp) {d : LDoc}, d.Ok → Says d.ops d → Numbered d.ops → Numbered (d.doR l).ops
  | [], _, _, _, h => h
  | o :: t, d, hk, hs, h => by
    unfold doR
    split
    · exact h
    · exact doR_numbered t (apply_ok hk o) (apply_says hk hs o) (apply_numbered hk hs h o)
/-- Where both have an op of one dot, it is the same. -/
def Agree (a b : List LOp) : Prop := ∀ x ∈ a, ∀ y ∈ b, x.dot = y.dot → x = y
theorem both_ofWho {a b : LDoc} (ka : a.Ok) (kb : b.Ok) (sa : Says a.ops a) (sb : Says b.ops b) (na : Numbered a.ops) (nb : Numbered b.ops) (hag : Agree a.ops b.ops) (h1 : gaveE a b = 0) (h2 : gaveE (gave a b) a = 0) :
    ∀ i, ofWho i (gave (gave a b) a).ops = ofWho i (gave a b).ops := by
  have kb' : (gave a b).Ok := doR_ok _ kb
  have sb' : Says (gave a b).ops (gave a b) := doR_says _ kb sb
  have nb' : Numbered (gave a b).ops := doR_numbered _ kb sb nb
  obtain ⟨o1, _, r1⟩ := gave_ok ka kb sa sb na h1
  obtain ⟨o2, _, r2⟩ := gave_ok kb' ka sb' sa nb' h2
  intro i
  by_cases hi : dotErr ⟨i, 1⟩ = 0
  · rw [r2 i hi, r1 i hi]
    -- one of the two begins the other
    have hpre : ∀ k (h3 : k < (ofWho i a.ops).length) (h4 : k < (ofWho i b.ops).length), (ofWho i a.ops)[k] = (ofWho i b.ops)[k] := fun k h3 h4 => by
      have e1 := na i k _ (List.getElem?_eq_getElem h3)
      have e2 := nb i k _ (List.getElem?_eq_getElem h4)
      have m1 := mem_ofWho.1 (List.getElem_mem h3)
      have m2 := mem_ofWho.1 (List.getElem_mem h4)
      refine hag _ m1.1 _ m2.1 ?_
      have w1 := m1.2
      have w2 := m2.2
      generalize (ofWho i a.ops)[k] = x at *
      generalize (ofWho i b.ops)[k] = y at *
      obtain ⟨⟨xw, xn⟩, _, _, _, _⟩ := x
      obtain ⟨⟨yw, yn⟩, _, _, _, _⟩ := y
      simp only at e1 e2 w1 w2
      rw [e1, e2, w1, w2]
    generalize ofWho i a.ops = u at *
    generalize ofWho i b.ops = v at *
    apply List.ext_getElem?
    intro k
    rcases Nat.lt_or_ge k u.length with hu | hu
    · rw [List.getElem?_append_left hu]
      rcases Nat.lt_or_ge k v.length with hv | hv
      · rw [List.getElem?_append_left hv, List.getElem?_eq_getElem hu, List.getElem?_eq_getElem hv, hpre k hu hv]
      · rw [List.getElem?_append_right hv, List.getElem?_drop]
        congr 1; omega
    · rw [List.getElem?_append_right hu, List.getElem?_drop]
      congr 1; omega
  · have hz : ∀ l : List LOp, (∀ o ∈ l, opErr o = 0) → ofWho i l = [] := fun l hl => by
      unfold ofWho
      rw [List.filter_eq_nil_iff]
      intro o ho
      simp only [decide_eq_true_eq]
      rintro rfl
      apply hi
      have h3 := (op_ok (hl o ho)).1
      unfold dotErr at h3 ⊢
      split at h3
      · rw [if_pos]; simp only; omega
      · omega
    have sa2 : Says (gave (gave a b) a).ops (gave (gave a b) a) := doR_says _ ka sa
    rw [hz _ sa2.good, hz _ sb'.good]
/-- Then none lacks anything. -/
theorem sync_plain {a b : LDoc} (ka : a.Ok) (kb : b.Ok) (sa : Says a.ops a) (sb : Says b.ops b) (na : Numbered a.ops) (nb : Numbered b.ops) (hag : Agree a.ops b.ops) (h1 : gaveE a b = 0) (h2 : gaveE (gave a b) a = 0) :
    (gave (gave a b) a).book = (gave a b).book ∧ (gave (gave a b) a).marks = (gave a b).marks ∧ (gave (gave a b) a).known = (gave a b).known :=
  Says.same (doR_says _ ka sa) (doR_says _ kb sb) (doR_ok _ ka) (doR_ok _ kb) (both_ofWho ka kb sa sb na nb hag h1 h2)
theorem lacks_none {l : List LOp} {d : LDoc} (h : ∀ o ∈ l, hasRes d.known o.dot = true) : lacksR l d.known = [] := by
  unfold lacksR
  rw [List.filter_eq_nil_iff]
  intro o ho
  obtain ⟨_, _, h3⟩ := hasRes_iff.1 (h o ho)
  unfold lacksB
  simp only [decide_eq_true_eq]
  omega
theorem same_lacks {a b : LDoc} (ka : a.Ok) (kb : b.Ok) (h : a.known = b.known) : lacksR a.ops b.known = [] ∧ lacksR b.ops a.known = [] :=
  ⟨lacks_none fun o ho => by rw [← h]; exact (ka.ops o ho).2, lacks_none fun o ho => by rw [h]; exact (kb.ops o ho).2⟩
end LDoc
end Go.Proofs.YtmfbckpjemfkeaaGreatDoor
/- sync.lacks, sync.take, walked. Conditions: the document is right; the ops can be read, and lie apart from it. -/
namespace Go.Proofs.YtmfbckpjemfkeaaGreatDoor
open Go.RowKit
set_option linter.unusedVariables false
def lacksO (l : List OpAt) (v : List Int) : List OpAt := l.filter fun y => lacksB v y.op
theorem lacksO_map (l : List OpAt) (v : List Int) : (lacksO l v).map OpAt.op = lacksR (l.map OpAt.op) v := by
  unfold lacksO lacksR
  rw [List.filter_map]
  rfl
theorem lacksO_take {l : List OpAt} {v : List Int} {k : Nat} (h : k < l.length) : lacksO (l.take (k + 1)) v = if lacksB v l[k].op = true then lacksO (l.take k) v ++ [l[k]] else lacksO (l.take k) v := by
  unfold lacksO
  rw [List.take_succ_eq_append_getElem h, List.filter_append]
  by_cases hb : lacksB v l[k].op = true
  · rw [if_pos hb, List.filter_cons, if_pos hb]; rfl
  · rw [if_neg hb, List.filter_cons, if_neg hb]; simp
theorem reads_op_at (W : World) (N : Nat) (h : W.heap.size = N) (y : OpAt) : Reads (W.alloc (.cells (y.op.cells y.at_ y.cap) 33)) (N + 1) 6 (some ⟨N, 0, none⟩) 1 (ocells [y]) := by
  subst h; exact reads_op W y
def LacksLoop (w : World) (l : List OpAt) (v : List Int) (o i : Value) (wr : World) : Prop :=
  ∃ (k cv : Nat) (V : Option Addr), k ≤ l.length ∧ i = .int .i64 k ∧ o = .slice V (lacksO (l.take k) v).length cv ∧ Hid (Own wr w.heap.size 33 6 V (lacksO (l.take k) v).length cv (ocells (lacksO (l.take k) v))) ∧ Hid (Below w.heap.size w wr)
def LacksPost (w : World) (l : List OpAt) (v : List Int) (e : Ending) (w' : World) : Prop :=
  ∃ V c, e = .returned (.slice V (lacksO l v).length c) ∧ Own w' w.heap.size 33 6 V (lacksO l v).length c (ocells (lacksO l v)) ∧ Below w.heap.size w w'
set_option maxRecDepth 100000 in
set_option maxHeartbeats 4000000 in
theorem slacks_any (w : World) (A : Option Addr) (c : Nat) (l : List OpAt) (K : Option Addr) (ck : Nat) (v : List Int) (h : Reads w w.heap.size 6 A l.length (ocells l)) (hg : ∀ y ∈ l, dotErr y.op.dot = 0) (hl : l.length ≤ 100000) (hv : Reads w w.heap.size 1 K v.length (ints v)) (hv8 : v.length = 8) :
    Calls Tryz.prog 97 #[.slice A l.length c, .slice K v.length ck] w (LacksPost w l v) := by
  have HR := Lib.hid h
  have HV := Lib.hid hv
  have HG := Lib.hid hg
  have HV8 := Lib.hid hv8
  clear h hv hg hv8
  go_enter Tryz.func97, Tryz.ntmps97
  go_wp2_with fail
  go_loopw [4, 9] (fun o i wr => LacksLoop w l v o i wr) (fun _ i _ => l.length - (intOf i).toNat)
  case atStart => exact ⟨0, 0, none, Nat.zero_le _, rfl, rfl, Own.nil _ _ _ _, Below.refl _ _⟩
  case round =>
    obtain ⟨k, cv, V, hk, rfl, rfl, HO, HB⟩ := hrel
    have k0 : (0 : Int) ≤ (k : Int) := by omega
    by_cases hlt : k < l.length
    · have k1 : (k : Int) < (l.length : Int) := by omega
      obtain ⟨ad, rfl, _, d0, d1, d2, d3, d4, d5⟩ := (HR.out.below HB.out).op hlt
      have HT := Lib.hid (lacksO_take (v := v) hlt)
      have hll : (lacksO (l.take k) v).length ≤ k := by have := List.length_filter_le (fun y : OpAt => lacksB v y.op) (l.take k); unfold lacksO; rw [List.length_take] at this; omega
      obtain ⟨j, hj, hw, n1, n2⟩ := dot_in (HG.out _ (List.getElem_mem hlt))
      have hj8 : j < v.length := by have := HV8.out; omega
      obtain ⟨av, rfl, _, _⟩ := HV.out.int hj8
      have HCV : Hid (∀ W, Below w.heap.size w W → W.cell? (av.add j) = some (.int .i64 v[j])) := fun W hb => by
        obtain ⟨a', e, _, hh⟩ := (HV.out.below hb).int hj8
        injection e with e
        subst e
        exact hh
      have hnof : nOf v l[k].op.dot = v[j] := by
        unfold nOf
        rw [hw, show ((j : Int) + 1 - 1).toNat = j by omega]
        simp [List.getD, hj8]
      have hlb : lacksB v l[k].op = decide (v[j] < l[k].op.dot.n) := by unfold lacksB; rw [hnof]
      rw [hlb] at HT
      have HRO := Lib.hid (fun (W : World) (N : Nat) (hN : W.heap.size = N) => reads_op_at W N hN l[k])
      have HON := Lib.hid (ocells_one [l[k]])
      have hF : Fits ((lacksO (l.take k) v).length + 1) 72 := Fits.of_small (by omega) (by decide)
      generalize lacksO (l.take k) v = rs at *
      generalize l[k] = y at *
      obtain ⟨⟨⟨who, n⟩, what, p, letter, seen⟩, ya, yc⟩ := y
      unfold LOp.cells at HRO
      simp only at d0 d1 d2 d3 d4 d5 hw HT HRO HON
      subst hw
      have q1 : IntKind.i64.wrap ((j : Int) + 1 - 1) = (j : Int) := by rw [IntWalk.i64_in _ (by omega)]; omega
      have j0 : (0 : Int) ≤ (j : Int) := by omega
      have j1 : (j : Int) < (v.length : Int) := by omega
      have HOX := Lib.hid (HO.out.alloc (.cells #[.int .i64 ((j : Int) + 1), .int .i64 n, .int .i64 what, .string p, .int .i64 letter, .slice ya seen.length yc] 33))
      have HBX : Hid (Below w.heap.size w (wr.alloc (.cells #[.int .i64 ((j : Int) + 1), .int .i64 n, .int .i64 what, .string p, .int .i64 letter, .slice ya seen.length yc] 33))) := HB.out.alloc HB.out.size _
      have hsz : w.heap.size ≤ wr.heap.size := HB.out.size
      have b0 : (wr.alloc (.cells #[.int .i64 ((j : Int) + 1), .int .i64 n, .int .i64 what, .string p, .int .i64 letter, .slice ya seen.length yc] 33)).cell? ⟨wr.heap.size, 0, none⟩ = some (.int .i64 ((j : Int) + 1)) := (Blk.new wr 33 _).cell 0
      have b1 : (wr.alloc (.cells #[.int .i64 ((j : Int) + 1), .int .i64 n, .int .i64 what, .string p, .int .i64 letter, .slice ya seen.length yc] 33)).cell? ⟨wr.heap.size, 1, none⟩ = some (.int .i64 n) := (Blk.new wr 33 _).cell 1
      have c0 := HCV.out _ (HB.out.alloc HB.out.size (.cells #[.int .i64 ((j : Int) + 1), .int .i64 n, .int .i64 what, .string p, .int .i64 letter, .slice ya seen.length yc] 33))
      clear hnof hlb HO
      generalize v[j] = u at *
      by_cases hlk : u < n
      · have g1 : decide (n > u) = true := decide_eq_true hlk
        have g2 : decide (u < n) = true := decide_eq_true hlk
        rw [decide_eq_true hlk] at HT
        simp only [if_true] at HT
        clear hlk
        go_wp2_with fail
        go_quiet (fail)
        go_wp2_with (at_builtin; go_loud (refine wpList_app _ (.tmp 24) (.tmp 26) rfl rfl elemO_ rfl rfl ((HOX.out.drewN _).alloc _) (HRO.out _ _ (by simp)) HON.out hF (by simp; omega) ?_; intro V2 cv2 w4 HO4 HL4 HX4; have HOn := Lib.hid HO4; have HBn : Hid (Below w.heap.size w w4) := ((below_drewN HBX.out _).alloc HBX.out.size _).trans (HL4.below (by simp; omega) (fun g hg => (HOX.out.lt g hg).1)); clear HO4 HL4 HX4))
        go_roundw
        case rel => exact ⟨k + 1, cv2, V2, by omega, by go_num, by rw [HT.out]; simp, by rw [HT.out, ocells_app, List.length_append]; exact HOn, HBn⟩
        case measure => simp [intOf]; omega
      · have g1 : decide (n > u) = false := decide_eq_false hlk
        have g2 : decide (u < n) = false := decide_eq_false hlk
        rw [decide_eq_false hlk] at HT
        simp only [Bool.false_eq_true, if_false] at HT
        clear hlk
        go_wp2_with fail
        go_quiet (fail)
        go_wp2_with fail
        go_roundw
        case rel => exact ⟨k + 1, cv, V, by omega, by go_num, by rw [HT.out], by rw [HT.out]; exact HOX.out.drewN _, below_drewN HBX.out _⟩
        case measure => simp [intOf]; omega
    · have k1 : ¬ (k : Int) < (l.length : Int) := by omega
      obtain rfl : k = l.length := by omega
      rw [List.take_length] at HO ⊢
      go_wp2_with fail
      go_ret
      exact ⟨V, cv, rfl, HO.out, HB.out⟩
end Go.Proofs.YtmfbckpjemfkeaaGreatDoor
/- sync.take, walked. Conditions: the document is right; the ops can be read, and lie apart from it. -/
namespace Go.Proofs.YtmfbckpjemfkeaaGreatDoor
open Go.RowKit
set_option linter.unusedVariables false
namespace LDoc
def tookN (d : LDoc) (l : List LOp) : Int := if d.doE l = 0 then d.takeN l else 0
end LDoc
structure TkMid (w : World) (B : Nat) (S : List Nat) (b : Nat) (A : Option Addr) (ys : List OpAt) (st : LDoc) (k : Nat) (n : Int) (wr : World) (S' : List Nat) (D' : DLay) (sk : LDoc) : Prop where
  mid : DoMid w B S b A ys st k wr S' D' sk
  num : st.takeN (ys.map OpAt.op) = n + sk.takeN ((ys.drop k).map OpAt.op)
  le : 0 ≤ n ∧ n ≤ k
def TkLoop (w : World) (B : Nat) (S : List Nat) (b : Nat) (A : Option Addr) (ys : List OpAt) (st : LDoc) (v i : Value) (wr : World) : Prop := ∃ k : Nat, ∃ (n : Int), ∃ S' D' sk, k ≤ ys.length ∧ i = .int .i64 k ∧ v = .int .i64 n ∧ Hid (TkMid w B S b A ys st k n wr S' D' sk)
theorem TkMid.next {w wr w' : World} {B b : Nat} {S S' : List Nat} {A : Option Addr} {ys : List OpAt} {st sk : LDoc} {k : Nat} {n : Int} {D' : DLay} (h : TkMid w B S b A ys st k n wr S' D' sk) (hk : k < ys.length) (o : Obj) (he : sk.applyE ys[k].op = 0) (ht : DocTo (wr.alloc o) B S' b (sk.apply ys[k].op) w') :
    ∃ S2 D2, TkMid w B S b A ys st (k + 1) (n + if sk.applyB ys[k].op = true then 1 else 0) w' S2 D2 (sk.apply ys[k].op) := by
  obtain ⟨S2, D2, h1⟩ := h.mid.next hk o he ht
  refine ⟨S2, D2, h1, ?_, ?_⟩
  · rw [h.num, List.drop_eq_getElem_cons hk, List.map_cons, LDoc.takeN, if_neg (by omega)]
    omega
  · have := h.le
    split <;> omega
def TakePost (w : World) (B : Nat) (S : List Nat) (b : Nat) (n k : Int) (st : LDoc) (e : Ending) (w' : World) : Prop := e = .returned (.tuple #[.int .i64 n, errV k]) ∧ DocTo w B S b st w'
set_option maxRecDepth 100000 in
set_option maxHeartbeats 8000000 in
theorem take_any (w : World) (B : Nat) (S : List Nat) (b : Nat) (st : LDoc) (D : DLay) (h : DocIs w B S b st D) (ok : st.Ok) (A : Option Addr) (c : Nat) (ys : List OpAt) (hr : Reads w w.heap.size 6 A ys.length (ocells ys)) (ha : 0 < ys.length → ∀ g ∈ ob A, g ∉ S)
    (hf : ∀ y ∈ ys, OpFar w S y) (hl : ys.length ≤ 1000000) :
    Calls Tryz.prog 101 #[.pointer (some ⟨b, 0, none⟩), .slice A ys.length c] w (TakePost w B S b (st.tookN (ys.map OpAt.op)) (st.doE (ys.map OpAt.op)) (st.doR (ys.map OpAt.op))) := by
  have HR := Lib.hid hr
  have HA := Lib.hid ha
  have HF := Lib.hid hf
  have HM0 : Hid (TkMid w B S b A ys st 0 0 w S D st) := ⟨⟨h, Only.refl _ _, fun g hg => .inl hg, ok, rfl, rfl⟩, by simp, by omega⟩
  clear hr ha hf h ok
  go_enter Tryz.func101, Tryz.ntmps101
  go_wp2_with fail
  go_loopw [6, 13] (fun v i wr => TkLoop w B S b A ys st v i wr) (fun _ i _ => ys.length - (intOf i).toNat)
  case atStart => exact ⟨0, 0, _, _, _, Nat.zero_le _, rfl, rfl, HM0.out⟩
  case round =>
    obtain ⟨k, nn, S', D', sk, hk, rfl, rfl, HM⟩ := hrel
    have k0 : (0 : Int) ≤ (k : Int) := by omega
    have hle := HM.out.le
    by_cases hlt : k < ys.length
    · have k1 : (k : Int) < (ys.length : Int) := by omega
      have hro := Reads.only HR.out HM.out.mid.only HA.out
      obtain ⟨ad, rfl, hab, d0, d1, d2, d3, d4, d5⟩ := hro.op hlt
      obtain ⟨f1, f2, f3⟩ := HF.out _ (List.getElem_mem hlt)
      have f1' := Reads.only f1 HM.out.mid.only f3
      have hfar : 0 < ys[k].op.seen.length → ∀ g ∈ ob ys[k].at_, g ∉ S' := fun hn g hg hm => by
        rcases HM.out.mid.sub g hm with h4 | h4
        · exact f3 hn g hg h4
        · obtain ⟨ad', e, hb, _⟩ := f1.2 hn
          rw [e] at hg; simp [ob] at hg; omega
      have HAP : Hid (∀ o : Obj, Calls Tryz.prog 14 #[.pointer (some ⟨b, 0, none⟩), ys[k].op.val ys[k].at_ ys[k].cap] (wr.alloc o) (ApplyPost (wr.alloc o) B S' b (sk.applyB ys[k].op) (sk.applyE ys[k].op) (sk.apply ys[k].op))) := fun o =>
        apply_doc (wr.alloc o) B S' b sk D' (HM.out.mid.boxed o) HM.out.mid.ok ys[k].op ys[k].at_ ys[k].cap f2 ((f1'.alloc (Nat.le_refl _) o).more (by simp)) hfar
      have HNX : Hid (∀ (he : sk.applyE ys[k].op = 0) (o : Obj) (w' : World), DocTo (wr.alloc o) B S' b (sk.apply ys[k].op) w' → ∃ S2 D2, TkMid w B S b (some ad) ys st (k + 1) (nn + if sk.applyB ys[k].op = true then 1 else 0) w' S2 D2 (sk.apply ys[k].op)) := fun he o w' ht => HM.out.next hlt o he ht
      have HST : Hid (∀ (he : sk.applyE ys[k].op ≠ 0) (o : Obj) (w' : World), DocTo (wr.alloc o) B S' b sk w' → st.doE (ys.map OpAt.op) = sk.applyE ys[k].op ∧ DocTo w B S b (st.doR (ys.map OpAt.op)) w') := fun he o w' ht => HM.out.mid.stop hlt o he ht
      have HBAD := Lib.hid (fun he : sk.applyE ys[k].op ≠ 0 => LDoc.applyE_bad (d := sk) (o := ys[k].op) rfl he)
      clear f1 f1' f2 f3 hfar hro hab
      generalize ys[k] = y at *
      have HE0 : errV 0 = .nilIface := rfl
      have q1 : IntKind.i64.wrap (nn + 1) = nn + 1 := IntWalk.i64_in _ (by omega)
      by_cases he : sk.applyE y.op = 0
      · have HNY := Lib.hid (HNX.out he)
        rw [he] at HAP
        clear HST HBAD he HNX
        generalize sk.apply y.op = sk2 at *
        cases hbb : sk.applyB y.op with
        | true =>
          rw [hbb] at HAP HNY
          simp only [if_true] at HNY
          clear hbb
          obtain ⟨⟨⟨who, n⟩, what, p, letter, seen⟩, ya, yc⟩ := y
          unfold LOp.val at HAP
          simp only at d0 d1 d2 d3 d4 d5 HAP
          go_wp2_with fail
          refine (HAP.out _).mono ?_
          rintro e w2 ⟨rfl, ht⟩
          have HN2 := Lib.hid (HNY.out _ _ ht)
          rw [HE0]
          clear ht HNY HAP
          go_wp2_with fail
          go_roundw
          case rel =>
            obtain ⟨S2, D2, hfin⟩ := HN2.out
            exact ⟨k + 1, nn + 1, S2, D2, sk2, by omega, by go_num, by first | rfl | rw [q1], hfin⟩
          case measure => simp [intOf]; omega
        | false =>
          rw [hbb] at HAP HNY
          simp only [Bool.false_eq_true, if_false] at HNY
          clear hbb
          obtain ⟨⟨⟨who, n⟩, what, p, letter, seen⟩, ya, yc⟩ := y
          unfold LOp.val at HAP
          simp only at d0 d1 d2 d3 d4 d5 HAP
          go_wp2_with fail
          refine (HAP.out _).mono ?_
          rintro e w2 ⟨rfl, ht⟩
          have HN2 := Lib.hid (HNY.out _ _ ht)
          rw [HE0]
          clear ht HNY HAP
          go_wp2_with fail
          go_roundw
          case rel =>
            obtain ⟨S2, D2, hfin⟩ := HN2.out
            exact ⟨k + 1, nn, S2, D2, sk2, by omega, by go_num, rfl, by rw [Int.add_zero] at hfin; exact hfin⟩
          case measure => simp [intOf]; omega
      · obtain ⟨_, hb, hs⟩ := HBAD.out he
        have HSU := Lib.hid (HST.out he)
        have HV := Lib.hid (errV_ne he)
        have HE := Lib.hid he
        rw [hb, hs] at HAP
        clear HNX HBAD he hb hs HST
        generalize sk.applyE y.op = ke at *
        obtain ⟨⟨⟨who, n⟩, what, p, letter, seen⟩, ya, yc⟩ := y
        unfold LOp.val at HAP
        simp only at d0 d1 d2 d3 d4 d5 HAP
        go_wp2_with fail
        refine (HAP.out _).mono ?_
        rintro e w2 ⟨rfl, ht⟩
        have HN2 := Lib.hid (HSU.out _ _ ht)
        rw [HV.out]
        clear ht HSU HAP
        go_wp2_with fail
        go_ret2
        obtain ⟨n1, n2⟩ := HN2.out
        have n3 : st.tookN (ys.map OpAt.op) = 0 := by unfold LDoc.tookN; rw [if_neg]; rw [n1]; exact HE.out
        exact ⟨by rw [n3, n1, HV.out]; rfl, n2⟩
    · have k1 : ¬ (k : Int) < (ys.length : Int) := by omega
      obtain ⟨f1, f2⟩ := HM.out.mid.fin (by omega)
      have F1 := Lib.hid f1
      have F2 := Lib.hid f2
      have F3 : Hid (st.tookN (ys.map OpAt.op) = nn) := by
        show _ = _
        unfold LDoc.tookN
        rw [if_pos f1, HM.out.num, List.drop_eq_nil_of_le (by omega)]
        simp [LDoc.takeN]
      clear f1 f2
      go_wp2_with fail
      go_ret2
      exact ⟨by rw [F1.out, F3.out]; rfl, F2.out⟩
end Go.Proofs.YtmfbckpjemfkeaaGreatDoor
/- sync.Both, walked. Conditions: both documents are right. -/
namespace Go.Proofs.YtmfbckpjemfkeaaGreatDoor
open Go.RowKit
set_option linter.unusedVariables false
namespace LDoc
def bothE (a b : LDoc) : Int := if gaveE a b ≠ 0 then gaveE a b else gaveE (gave a b) a
def bothA (a b : LDoc) : LDoc := if gaveE a b ≠ 0 then a else gave (gave a b) a
def bothN (a b : LDoc) : Int := if bothE a b = 0 then gaveN a b else 0
def bothM (a b : LDoc) : Int := if bothE a b = 0 then gaveN (gave a b) a else 0
theorem both_one {a b : LDoc} (h : gaveE a b ≠ 0) : bothE a b = gaveE a b ∧ bothA a b = a ∧ bothN a b = 0 ∧ bothM a b = 0 := by
  have e1 : bothE a b = gaveE a b := if_pos h
  refine ⟨e1, if_pos h, ?_, ?_⟩
  · unfold bothN; rw [e1, if_neg h]
  · unfold bothM; rw [e1, if_neg h]
theorem both_two {a b : LDoc} (h : gaveE a b = 0) (h2 : gaveE (gave a b) a ≠ 0) : bothE a b = gaveE (gave a b) a ∧ bothA a b = gave (gave a b) a ∧ bothN a b = 0 ∧ bothM a b = 0 := by
  have e1 : bothE a b = gaveE (gave a b) a := if_neg (fun x => x h)
  refine ⟨e1, if_neg (fun x => x h), ?_, ?_⟩
  · unfold bothN; rw [e1, if_neg h2]
  · unfold bothM; rw [e1, if_neg h2]
theorem both_all {a b : LDoc} (h : gaveE a b = 0) (h2 : gaveE (gave a b) a = 0) : bothE a b = 0 ∧ bothA a b = gave (gave a b) a ∧ bothN a b = gaveN a b ∧ bothM a b = gaveN (gave a b) a := by
  have e1 : bothE a b = 0 := by unfold bothE; rw [if_neg (fun x => x h), h2]
  refine ⟨e1, if_neg (fun x => x h), ?_, ?_⟩
  · unfold bothN; rw [if_pos e1]
  · unfold bothM; rw [if_pos e1]
theorem ops_good {a : LDoc} (h : a.Ok) {zs : List OpAt} (hz : zs.map OpAt.op = a.ops) : ∀ y ∈ zs, dotErr y.op.dot = 0 := fun y hy => by
  have : y.op ∈ a.ops := by rw [← hz]; exact List.mem_map.2 ⟨y, hy, rfl⟩
  exact (op_ok (h.ops _ this).1).1
theorem ops_small {a : LDoc} (h : a.Ok) : ∀ o ∈ a.ops, o.place.size ≤ 12 := fun o ho => place_small (op_ok (h.ops _ ho).1).2.2.1
end LDoc
namespace Scene
variable {w wr w' : World} {B b1 b2 : Nat} {s1 s2 s : LDoc} {rows rows' : List (Option Addr × List OpAt)}
theorem sub (h : Scene w B b1 b2 s1 s2 rows wr) (hs : ∀ r ∈ rows', r ∈ rows) : Scene w B b1 b2 s1 s2 rows' wr := by
  obtain ⟨S1, S2, D1, D2, h1, h2⟩ := h
  exact ⟨S1, S2, D1, D2, h1, fun r hr => h2 r (hs r hr)⟩
theorem opsL (h : Scene w B b1 b2 s1 s2 rows wr) (ok : s1.Ok) : Calls Tryz.prog 23 #[.pointer (some ⟨b1, 0, none⟩)] wr (fun e w' => ∃ V c zs, e = .returned (.slice V zs.length c) ∧ zs.map OpAt.op = s1.ops ∧ zs.length ≤ 400 ∧ Below wr.heap.size wr w' ∧ Scene w B b1 b2 s1 s2 ((V, zs) :: rows) w') := by
  obtain ⟨S1, S2, D1, D2, h1, h2⟩ := h
  refine (ops_doc wr _ _ _ _ _ h1.one ok).mono ?_
  rintro e w' ⟨V, c, zs, rfl, z1, z2, hb⟩
  have hl : s1.ops.length = zs.length := by rw [← z1, List.length_map]
  have hfew := ok.few
  refine ⟨V, c, zs, by rw [hl], z1, by omega, hb, S1, S2, D1, D2, h1.step hb, fun r hr => ?_⟩
  rcases List.mem_cons.1 hr with rfl | hr
  · exact OpsBy.of_own z2 (by rw [z1]; exact LDoc.ops_small ok) (fun g hg => by
      rcases List.mem_append.1 hg with h | h
      · exact (h1.one.own g h).2
      · exact (h1.two.own g h).2)
  · exact (h2 r hr).below hb
theorem opsR (h : Scene w B b1 b2 s1 s2 rows wr) (ok : s2.Ok) : Calls Tryz.prog 23 #[.pointer (some ⟨b2, 0, none⟩)] wr (fun e w' => ∃ V c zs, e = .returned (.slice V zs.length c) ∧ zs.map OpAt.op = s2.ops ∧ zs.length ≤ 400 ∧ Below wr.heap.size wr w' ∧ Scene w B b1 b2 s1 s2 ((V, zs) :: rows) w') :=
  (h.swap.opsL ok).mono fun e w' ⟨V, c, zs, h1, h2, h3, h4, h5⟩ => ⟨V, c, zs, h1, h2, h3, h4, h5.swap⟩
theorem knownL (h : Scene w B b1 b2 s1 s2 rows wr) (ok : s1.Ok) : Calls Tryz.prog 21 #[.pointer (some ⟨b1, 0, none⟩)] wr (fun e w' => ∃ V c, e = .returned (.slice V s1.known.length c) ∧ Own w' wr.heap.size 3 1 V s1.known.length c (ints s1.known) ∧ Below wr.heap.size wr w' ∧ Scene w B b1 b2 s1 s2 rows w') := by
  obtain ⟨S1, D1, h1, h2, h3⟩ := h.left (Q := fun _ _ _ => True)
  exact (known_doc wr _ _ _ _ _ h1 ok).mono fun e w' ⟨V, c, g1, g2, g3⟩ => ⟨V, c, g1, g2, g3, h.step g3⟩
theorem knownR (h : Scene w B b1 b2 s1 s2 rows wr) (ok : s2.Ok) : Calls Tryz.prog 21 #[.pointer (some ⟨b2, 0, none⟩)] wr (fun e w' => ∃ V c, e = .returned (.slice V s2.known.length c) ∧ Own w' wr.heap.size 3 1 V s2.known.length c (ints s2.known) ∧ Below wr.heap.size wr w' ∧ Scene w B b1 b2 s1 s2 rows w') :=
  (h.swap.knownL ok).mono fun e w' ⟨V, c, h1, h2, h3, h4⟩ => ⟨V, c, h1, h2, h3, h4.swap⟩
theorem lacks (h : Scene w B b1 b2 s1 s2 rows wr) {V : Option Addr} {zs : List OpAt} (hr : (V, zs) ∈ rows) (hg : ∀ y ∈ zs, dotErr y.op.dot = 0) (hl : zs.length ≤ 100000) {K : Option Addr} {v : List Int} (hv : Reads wr wr.heap.size 1 K v.length (ints v)) (hv8 : v.length = 8) (c ck : Nat) :
    Calls Tryz.prog 97 #[.slice V zs.length c, .slice K v.length ck] wr (fun e w' => ∃ V' c', e = .returned (.slice V' (lacksO zs v).length c') ∧ Below wr.heap.size wr w' ∧ Scene w B b1 b2 s1 s2 ((V', lacksO zs v) :: rows) w') := by
  obtain ⟨S1, S2, D1, D2, h1, h2⟩ := h
  refine (slacks_any wr V c zs K ck v (h2 _ hr).row hg hl hv hv8).mono ?_
  rintro e w' ⟨V', c', rfl, hO, hb⟩
  refine ⟨V', c', rfl, hb, S1, S2, D1, D2, h1.step hb, fun r hr' => ?_⟩
  rcases List.mem_cons.1 hr' with rfl | hr'
  · refine ⟨hO.reads, fun _ g hg hm => ?_, fun y hy => ((h2 _ hr).below hb).each y (List.mem_filter.1 hy).1⟩
    have := (hO.lt g hg).1
    rcases List.mem_append.1 hm with h | h
    · have := (h1.one.own g h).2; omega
    · have := (h1.two.own g h).2; omega
  · exact (h2 r hr').below hb
theorem takeL (h : Scene w B b1 b2 s1 s2 rows wr) (ok : s1.Ok) {V : Option Addr} {zs : List OpAt} (hr : (V, zs) ∈ rows) (c : Nat) (hl : zs.length ≤ 1000000) :
    Calls Tryz.prog 101 #[.pointer (some ⟨b1, 0, none⟩), .slice V zs.length c] wr (fun e w' => e = .returned (.tuple #[.int .i64 (s1.tookN (zs.map OpAt.op)), errV (s1.doE (zs.map OpAt.op))]) ∧ Scene w B b1 b2 (s1.doR (zs.map OpAt.op)) s2 rows w') := by
  obtain ⟨S1, D1, h1, h2, h3⟩ := h.left (Q := fun _ _ _ => True)
  exact (take_any wr B S1 b1 s1 D1 h1 ok V c zs (h2 _ hr).row (h2 _ hr).far (h2 _ hr).each hl).mono fun e w' hh => ⟨hh.1, h3 _ _ hh.2⟩
theorem takeR (h : Scene w B b1 b2 s1 s2 rows wr) (ok : s2.Ok) {V : Option Addr} {zs : List OpAt} (hr : (V, zs) ∈ rows) (c : Nat) (hl : zs.length ≤ 1000000) :
    Calls Tryz.prog 101 #[.pointer (some ⟨b2, 0, none⟩), .slice V zs.length c] wr (fun e w' => e = .returned (.tuple #[.int .i64 (s2.tookN (zs.map OpAt.op)), errV (s2.doE (zs.map OpAt.op))]) ∧ Scene w B b1 b2 s1 (s2.doR (zs.map OpAt.op)) rows w') :=
  (h.swap.takeL ok hr c hl).mono fun e w' hh => ⟨hh.1, hh.2.swap⟩
set_option maxRecDepth 100000 in
set_option maxHeartbeats 4000000 in
theorem both (h : Scene w B b1 b2 s1 s2 rows wr) (ok1 : s1.Ok) (ok2 : s2.Ok) :
    Calls Tryz.prog 50 #[.pointer (some ⟨b1, 0, none⟩), .pointer (some ⟨b2, 0, none⟩)] wr (fun e w' => e = .returned (.tuple #[.int .i64 (LDoc.bothN s1 s2), .int .i64 (LDoc.bothM s1 s2), errV (LDoc.bothE s1 s2)]) ∧ Scene w B b1 b2 (LDoc.bothA s1 s2) (LDoc.gave s1 s2) rows w') := by
  have HS := Lib.hid h
  have OK1 := Lib.hid ok1
  have OK2 := Lib.hid ok2
  have OK3 : Hid ((LDoc.gave s1 s2).Ok) := LDoc.doR_ok _ ok2
  have HE0 : errV 0 = .nilIface := rfl
  have hk1 : s1.known.length = 8 := (vec_ok ok1.known).1
  have hk2 : s2.known.length = 8 := (vec_ok ok2.known).1
  have HK1 := Lib.hid hk1
  have HK2 := Lib.hid hk2
  have HC := Lib.hid (h.opsL ok1)
  clear h ok1 ok2 hk1 hk2
  go_enter Tryz.func50, Tryz.ntmps50
  go_wp2_with fail
  refine HC.out.mono ?_
  rintro e w1 ⟨V1, c1, z1, rfl, hz1, hzl1, hb, hs⟩
  have HS1 := Lib.hid hs
  have HZ1 := Lib.hid hz1
  have HC := Lib.hid (HS1.out.knownR OK2.out)
  clear hs hb hz1 HS
  go_wp2_with fail
  refine HC.out.mono ?_
  rintro e w2 ⟨K, ck, rfl, hO, hb, hs⟩
  have HC := Lib.hid (hs.lacks (V := V1) (zs := z1) (by simp) (LDoc.ops_good OK1.out HZ1.out) (by omega) hO.reads HK2.out c1 ck)
  clear hs hb hO HS1
  go_wp2_with fail
  refine HC.out.mono ?_
  rintro e w3 ⟨V3, c3, rfl, hb, hs⟩
  have hll : (lacksO z1 s2.known).length ≤ 400 := by have := List.length_filter_le (fun y : OpAt => lacksB s2.known y.op) z1; unfold lacksO; omega
  have hmap : (lacksO z1 s2.known).map OpAt.op = lacksR s1.ops s2.known := by rw [lacksO_map, HZ1.out]
  have HS3 := Lib.hid hs
  have HC : Hid (Calls Tryz.prog 101 #[.pointer (some ⟨b2, 0, none⟩), .slice V3 (lacksO z1 s2.known).length c3] w3 (fun e w' => e = .returned (.tuple #[.int .i64 (s2.tookN (lacksR s1.ops s2.known)), errV (LDoc.gaveE s1 s2)]) ∧ Scene w B b1 b2 s1 (LDoc.gave s1 s2) rows w')) := by
    have := hs.takeR OK2.out (V := V3) (zs := lacksO z1 s2.known) (by simp) c3 (by omega)
    rw [hmap] at this
    exact this.mono fun e w' hh => ⟨hh.1, hh.2.sub (fun r hr => by simp [hr])⟩
  have HNE : Hid (LDoc.gaveE s1 s2 = 0 → s2.tookN (lacksR s1.ops s2.known) = LDoc.gaveN s1 s2) := fun h => if_pos h
  clear hs hb hll hmap
  generalize lacksO z1 s2.known = L1 at *
  generalize s2.tookN (lacksR s1.ops s2.known) = n1 at *
  by_cases he : LDoc.gaveE s1 s2 = 0
  · have HE := Lib.hid he
    rw [he] at HC
    go_wp2_with fail
    refine HC.out.mono ?_
    rintro e w4 ⟨rfl, hs⟩
    rw [HE0]
    have HC := Lib.hid (hs.opsR OK3.out)
    clear hs HS3 he
    go_wp2_with fail
    refine HC.out.mono ?_
    rintro e w5 ⟨V5, c5, z5, rfl, hz5, hzl5, hb, hs⟩
    have HZ5 := Lib.hid hz5
    have HC := Lib.hid (hs.knownL OK1.out)
    clear hs hb hz5
    go_wp2_with fail
    refine HC.out.mono ?_
    rintro e w6 ⟨K6, ck6, rfl, hO, hb, hs⟩
    have HC := Lib.hid (hs.lacks (V := V5) (zs := z5) (by simp) (LDoc.ops_good OK3.out HZ5.out) (by omega) hO.reads HK1.out c5 ck6)
    clear hs hb hO
    go_wp2_with fail
    refine HC.out.mono ?_
    rintro e w7 ⟨V7, c7, rfl, hb, hs⟩
    have hll : (lacksO z5 s1.known).length ≤ 400 := by have := List.length_filter_le (fun y : OpAt => lacksB s1.known y.op) z5; unfold lacksO; omega
    have hmap : (lacksO z5 s1.known).map OpAt.op = lacksR (LDoc.gave s1 s2).ops s1.known := by rw [lacksO_map, HZ5.out]
    have HC : Hid (Calls Tryz.prog 101 #[.pointer (some ⟨b1, 0, none⟩), .slice V7 (lacksO z5 s1.known).length c7] w7 (fun e w' => e = .returned (.tuple #[.int .i64 (s1.tookN (lacksR (LDoc.gave s1 s2).ops s1.known)), errV (LDoc.gaveE (LDoc.gave s1 s2) s1)]) ∧ Scene w B b1 b2 (LDoc.gave (LDoc.gave s1 s2) s1) (LDoc.gave s1 s2) rows w')) := by
      have := hs.takeL OK1.out (V := V7) (zs := lacksO z5 s1.known) (by simp) c7 (by omega)
      rw [hmap] at this
      exact this.mono fun e w' hh => ⟨hh.1, hh.2.sub (fun r hr => by simp [hr])⟩
    have HNE2 : Hid (LDoc.gaveE (LDoc.gave s1 s2) s1 = 0 → s1.tookN (lacksR (LDoc.gave s1 s2).ops s1.known) = LDoc.gaveN (LDoc.gave s1 s2) s1) := fun h => if_pos h
    clear hs hb hll hmap
    generalize lacksO z5 s1.known = L2 at *
    generalize s1.tookN (lacksR (LDoc.gave s1 s2).ops s1.known) = n2 at *
    by_cases he2 : LDoc.gaveE (LDoc.gave s1 s2) s1 = 0
    · have HA := Lib.hid (LDoc.both_all HE.out he2)
      have H2 := Lib.hid (HNE2.out he2)
      rw [he2] at HC
      clear he2
      go_wp2_with fail
      refine HC.out.mono ?_
      rintro e w8 ⟨rfl, hs⟩
      rw [HE0]
      have HSF := Lib.hid hs
      clear hs HC
      go_wp2_with fail
      go_ret3
      obtain ⟨a1, a2, a3, a4⟩ := HA.out
      exact ⟨by rw [a1, a3, a4, ← HNE.out HE.out, ← H2.out]; rfl, by rw [a2]; exact HSF.out⟩
    · have HA := Lib.hid (LDoc.both_two HE.out he2)
      have HV := Lib.hid (errV_ne he2)
      clear he2
      go_wp2_with fail
      refine HC.out.mono ?_
      rintro e w8 ⟨rfl, hs⟩
      rw [HV.out]
      have HSF := Lib.hid hs
      clear hs HC
      go_wp2_with fail
      go_ret3
      obtain ⟨a1, a2, a3, a4⟩ := HA.out
      exact ⟨by rw [a1, a3, a4, HV.out]; rfl, by rw [a2]; exact HSF.out⟩
  · have HA := Lib.hid (LDoc.both_one he)
    have HV := Lib.hid (errV_ne he)
    clear he
    go_wp2_with fail
    refine HC.out.mono ?_
    rintro e w8 ⟨rfl, hs⟩
    rw [HV.out]
    have HSF := Lib.hid hs
    clear hs HC
    go_wp2_with fail
    go_ret3
    obtain ⟨a1, a2, a3, a4⟩ := HA.out
    exact ⟨by rw [a1, a3, a4, HV.out]; rfl, by rw [a2]; exact HSF.out⟩
end Scene
end Go.Proofs.YtmfbckpjemfkeaaGreatDoor
