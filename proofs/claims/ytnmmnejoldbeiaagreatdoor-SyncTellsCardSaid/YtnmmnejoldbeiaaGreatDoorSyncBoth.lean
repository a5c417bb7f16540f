/- sync.Both, walked. Conditions: both documents are right. -/
import Derived.Test.YtnmmnejoldbeiaaGreatDoorSyncTake
namespace Go.Proofs.YtnmmnejoldbeiaaGreatDoor
open Go.RowKit
set_option linter.unusedVariables false
namespace LDoc
def bothE (a b : LDoc) : Int := if gaveE a b ≠ 0 then gaveE a b else gaveE (gave a b) a
def bothA (a b : LDoc) : LDoc := if gaveE a b ≠ 0 then a else gave (gave a b) a
def bothN (a b : LDoc) : Int := if bothE a b = 0 then gaveN a b else 0
def bothM (a b : LDoc) : Int := if bothE a b = 0 then gaveN (gave a b) a else 0
theorem both_one {a b : LDoc} (h : gaveE a b ≠ 0) : bothE a b = gaveE a b ∧ bothA a b = a ∧ bothN a b = 0 ∧ bothM a b = 0 := by
  have e1 : bothE a b = gaveE a b := if_pos h
  refine ⟨e1, if_pos h, ?_, ?_⟩
  · unfold bothN; rw [e1, if_neg h]
  · unfold bothM; rw [e1, if_neg h]
theorem both_two {a b : LDoc} (h : gaveE a b = 0) (h2 : gaveE (gave a b) a ≠ 0) : bothE a b = gaveE (gave a b) a ∧ bothA a b = gave (gave a b) a ∧ bothN a b = 0 ∧ bothM a b = 0 := by
  have e1 : bothE a b = gaveE (gave a b) a := if_neg (fun x => x h)
  refine ⟨e1, if_neg (fun x => x h), ?_, ?_⟩
  · unfold bothN; rw [e1, if_neg h2]
  · unfold bothM; rw [e1, if_neg h2]
theorem both_all {a b : LDoc} (h : gaveE a b = 0) (h2 : gaveE (gave a b) a = 0) : bothE a b = 0 ∧ bothA a b = gave (gave a b) a ∧ bothN a b = gaveN a b ∧ bothM a b = gaveN (gave a b) a := by
  have e1 : bothE a b = 0 := by unfold bothE; rw [if_neg (fun x => x h), h2]
  refine ⟨e1, if_neg (fun x => x h), ?_, ?_⟩
  · unfold bothN; rw [if_pos e1]
  · unfold bothM; rw [if_pos e1]
theorem ops_good {a : LDoc} (h : a.Ok) {zs : List OpAt} (hz : zs.map OpAt.op = a.ops) : ∀ y ∈ zs, dotErr y.op.dot = 0 := fun y hy => by
  have : y.op ∈ a.ops := by rw [← hz]; exact List.mem_map.2 ⟨y, hy, rfl⟩
  exact (op_ok (h.ops _ this).1).1
theorem ops_small {a : LDoc} (h : a.Ok) : ∀ o ∈ a.ops, o.place.size ≤ 12 := fun o ho => place_small (op_ok (h.ops _ ho).1).2.2.1
end LDoc
namespace Scene
variable {w wr w' : World} {B b1 b2 : Nat} {s1 s2 s : LDoc} {rows rows' : List (Option Addr × List OpAt)}
theorem sub (h : Scene w B b1 b2 s1 s2 rows wr) (hs : ∀ r ∈ rows', r ∈ rows) : Scene w B b1 b2 s1 s2 rows' wr := by
  obtain ⟨S1, S2, D1, D2, h1, h2⟩ := h
  exact ⟨S1, S2, D1, D2, h1, fun r hr => h2 r (hs r hr)⟩
theorem opsL (h : Scene w B b1 b2 s1 s2 rows wr) (ok : s1.Ok) : Calls Tryz.prog 81 #[.pointer (some ⟨b1, 0, none⟩)] wr (fun e w' => ∃ V c zs, e = .returned (.slice V zs.length c) ∧ zs.map OpAt.op = s1.ops ∧ zs.length ≤ 400 ∧ Below wr.heap.size wr w' ∧ Scene w B b1 b2 s1 s2 ((V, zs) :: rows) w') := by
  obtain ⟨S1, S2, D1, D2, h1, h2⟩ := h
  refine (ops_doc wr _ _ _ _ _ h1.one ok).mono ?_
  rintro e w' ⟨V, c, zs, rfl, z1, z2, hb⟩
  have hl : s1.ops.length = zs.length := by rw [← z1, List.length_map]
  have hfew := ok.few
  refine ⟨V, c, zs, by rw [hl], z1, by omega, hb, S1, S2, D1, D2, h1.step hb, fun r hr => ?_⟩
  rcases List.mem_cons.1 hr with rfl | hr
  · exact OpsBy.of_own z2 (by rw [z1]; exact LDoc.ops_small ok) (fun g hg => by
      rcases List.mem_append.1 hg with h | h
      · exact (h1.one.own g h).2
      · exact (h1.two.own g h).2)
  · exact (h2 r hr).below hb
theorem opsR (h : Scene w B b1 b2 s1 s2 rows wr) (ok : s2.Ok) : Calls Tryz.prog 81 #[.pointer (some ⟨b2, 0, none⟩)] wr (fun e w' => ∃ V c zs, e = .returned (.slice V zs.length c) ∧ zs.map OpAt.op = s2.ops ∧ zs.length ≤ 400 ∧ Below wr.heap.size wr w' ∧ Scene w B b1 b2 s1 s2 ((V, zs) :: rows) w') :=
  (h.swap.opsL ok).mono fun e w' ⟨V, c, zs, h1, h2, h3, h4, h5⟩ => ⟨V, c, zs, h1, h2, h3, h4, h5.swap⟩
theorem knownL (h : Scene w B b1 b2 s1 s2 rows wr) (ok : s1.Ok) : Calls Tryz.prog 26 #[.pointer (some ⟨b1, 0, none⟩)] wr (fun e w' => ∃ V c, e = .returned (.slice V s1.known.length c) ∧ Own w' wr.heap.size 3 1 V s1.known.length c (ints s1.known) ∧ Below wr.heap.size wr w' ∧ Scene w B b1 b2 s1 s2 rows w') := by
  obtain ⟨S1, D1, h1, h2, h3⟩ := h.left (Q := fun _ _ _ => True)
  exact (known_doc wr _ _ _ _ _ h1 ok).mono fun e w' ⟨V, c, g1, g2, g3⟩ => ⟨V, c, g1, g2, g3, h.step g3⟩
theorem knownR (h : Scene w B b1 b2 s1 s2 rows wr) (ok : s2.Ok) : Calls Tryz.prog 26 #[.pointer (some ⟨b2, 0, none⟩)] wr (fun e w' => ∃ V c, e = .returned (.slice V s2.known.length c) ∧ Own w' wr.heap.size 3 1 V s2.known.length c (ints s2.known) ∧ Below wr.heap.size wr w' ∧ Scene w B b1 b2 s1 s2 rows w') :=
  (h.swap.knownL ok).mono fun e w' ⟨V, c, h1, h2, h3, h4⟩ => ⟨V, c, h1, h2, h3, h4.swap⟩
theorem lacks (h : Scene w B b1 b2 s1 s2 rows wr) {V : Option Addr} {zs : List OpAt} (hr : (V, zs) ∈ rows) (hg : ∀ y ∈ zs, dotErr y.op.dot = 0) (hl : zs.length ≤ 100000) {K : Option Addr} {v : List Int} (hv : Reads wr wr.heap.size 1 K v.length (ints v)) (hv8 : v.length = 8) (c ck : Nat) :
    Calls Tryz.prog 76 #[.slice V zs.length c, .slice K v.length ck] wr (fun e w' => ∃ V' c', e = .returned (.slice V' (lacksO zs v).length c') ∧ Below wr.heap.size wr w' ∧ Scene w B b1 b2 s1 s2 ((V', lacksO zs v) :: rows) w') := by
  obtain ⟨S1, S2, D1, D2, h1, h2⟩ := h
  refine (slacks_any wr V c zs K ck v (h2 _ hr).row hg hl hv hv8).mono ?_
  rintro e w' ⟨V', c', rfl, hO, hb⟩
  refine ⟨V', c', rfl, hb, S1, S2, D1, D2, h1.step hb, fun r hr' => ?_⟩
  rcases List.mem_cons.1 hr' with rfl | hr'
  · refine ⟨hO.reads, fun _ g hg hm => ?_, fun y hy => ((h2 _ hr).below hb).each y (List.mem_filter.1 hy).1⟩
    have := (hO.lt g hg).1
    rcases List.mem_append.1 hm with h | h
    · have := (h1.one.own g h).2; omega
    · have := (h1.two.own g h).2; omega
  · exact (h2 r hr').below hb
theorem takeL (h : Scene w B b1 b2 s1 s2 rows wr) (ok : s1.Ok) {V : Option Addr} {zs : List OpAt} (hr : (V, zs) ∈ rows) (c : Nat) (hl : zs.length ≤ 1000000) :
    Calls Tryz.prog 82 #[.pointer (some ⟨b1, 0, none⟩), .slice V zs.length c] wr (fun e w' => e = .returned (.tuple #[.int .i64 (s1.tookN (zs.map OpAt.op)), errV (s1.doE (zs.map OpAt.op))]) ∧ Scene w B b1 b2 (s1.doR (zs.map OpAt.op)) s2 rows w') := by
  obtain ⟨S1, D1, h1, h2, h3⟩ := h.left (Q := fun _ _ _ => True)
  exact (take_any wr B S1 b1 s1 D1 h1 ok V c zs (h2 _ hr).row (h2 _ hr).far (h2 _ hr).each hl).mono fun e w' hh => ⟨hh.1, h3 _ _ hh.2⟩
theorem takeR (h : Scene w B b1 b2 s1 s2 rows wr) (ok : s2.Ok) {V : Option Addr} {zs : List OpAt} (hr : (V, zs) ∈ rows) (c : Nat) (hl : zs.length ≤ 1000000) :
    Calls Tryz.prog 82 #[.pointer (some ⟨b2, 0, none⟩), .slice V zs.length c] wr (fun e w' => e = .returned (.tuple #[.int .i64 (s2.tookN (zs.map OpAt.op)), errV (s2.doE (zs.map OpAt.op))]) ∧ Scene w B b1 b2 s1 (s2.doR (zs.map OpAt.op)) rows w') :=
  (h.swap.takeL ok hr c hl).mono fun e w' hh => ⟨hh.1, hh.2.swap⟩
set_option maxRecDepth 100000 in
set_option maxHeartbeats 4000000 in
theorem both (h : Scene w B b1 b2 s1 s2 rows wr) (ok1 : s1.Ok) (ok2 : s2.Ok) :
    Calls Tryz.prog 36 #[.pointer (some ⟨b1, 0, none⟩), .pointer (some ⟨b2, 0, none⟩)] wr (fun e w' => e = .returned (.tuple #[.int .i64 (LDoc.bothN s1 s2), .int .i64 (LDoc.bothM s1 s2), errV (LDoc.bothE s1 s2)]) ∧ Scene w B b1 b2 (LDoc.bothA s1 s2) (LDoc.gave s1 s2) rows w') := by
  have HS := Lib.hid h
  have OK1 := Lib.hid ok1
  have OK2 := Lib.hid ok2
  have OK3 : Hid ((LDoc.gave s1 s2).Ok) := LDoc.doR_ok _ ok2
  have HE0 : errV 0 = .nilIface := rfl
  have hk1 : s1.known.length = 8 := (vec_ok ok1.known).1
  have hk2 : s2.known.length = 8 := (vec_ok ok2.known).1
  have HK1 := Lib.hid hk1
  have HK2 := Lib.hid hk2
  have HC := Lib.hid (h.opsL ok1)
  clear h ok1 ok2 hk1 hk2
  go_enter Tryz.func36, Tryz.ntmps36
  go_wp2_with fail
  refine HC.out.mono ?_
  rintro e w1 ⟨V1, c1, z1, rfl, hz1, hzl1, hb, hs⟩
  have HS1 := Lib.hid hs
  have HZ1 := Lib.hid hz1
  have HC := Lib.hid (HS1.out.knownR OK2.out)
  clear hs hb hz1 HS
  go_wp2_with fail
  refine HC.out.mono ?_
  rintro e w2 ⟨K, ck, rfl, hO, hb, hs⟩
  have HC := Lib.hid (hs.lacks (V := V1) (zs := z1) (by simp) (LDoc.ops_good OK1.out HZ1.out) (by omega) hO.reads HK2.out c1 ck)
  clear hs hb hO HS1
  go_wp2_with fail
  refine HC.out.mono ?_
  rintro e w3 ⟨V3, c3, rfl, hb, hs⟩
  have hll : (lacksO z1 s2.known).length ≤ 400 := by have := List.length_filter_le (fun y : OpAt => lacksB s2.known y.op) z1; unfold lacksO; omega
  have hmap : (lacksO z1 s2.known).map OpAt.op = lacksR s1.ops s2.known := by rw [lacksO_map, HZ1.out]
  have HS3 := Lib.hid hs
  have HC : Hid (Calls Tryz.prog 82 #[.pointer (some ⟨b2, 0, none⟩), .slice V3 (lacksO z1 s2.known).length c3] w3 (fun e w' => e = .returned (.tuple #[.int .i64 (s2.tookN (lacksR s1.ops s2.known)), errV (LDoc.gaveE s1 s2)]) ∧ Scene w B b1 b2 s1 (LDoc.gave s1 s2) rows w')) := by
    have := hs.takeR OK2.out (V := V3) (zs := lacksO z1 s2.known) (by simp) c3 (by omega)
    rw [hmap] at this
    exact this.mono fun e w' hh => ⟨hh.1, hh.2.sub (fun r hr => by simp [hr])⟩
  have HNE : Hid (LDoc.gaveE s1 s2 = 0 → s2.tookN (lacksR s1.ops s2.known) = LDoc.gaveN s1 s2) := fun h => if_pos h
  clear hs hb hll hmap
  generalize lacksO z1 s2.known = L1 at *
  generalize s2.tookN (lacksR s1.ops s2.known) = n1 at *
  by_cases he : LDoc.gaveE s1 s2 = 0
  · have HE := Lib.hid he
    rw [he] at HC
    go_wp2_with fail
    refine HC.out.mono ?_
    rintro e w4 ⟨rfl, hs⟩
    rw [HE0]
    have HC := Lib.hid (hs.opsR OK3.out)
    clear hs HS3 he
    go_wp2_with fail
    refine HC.out.mono ?_
    rintro e w5 ⟨V5, c5, z5, rfl, hz5, hzl5, hb, hs⟩
    have HZ5 := Lib.hid hz5
    have HC := Lib.hid (hs.knownL OK1.out)
    clear hs hb hz5
    go_wp2_with fail
    refine HC.out.mono ?_
    rintro e w6 ⟨K6, ck6, rfl, hO, hb, hs⟩
    have HC := Lib.hid (hs.lacks (V := V5) (zs := z5) (by simp) (LDoc.ops_good OK3.out HZ5.out) (by omega) hO.reads HK1.out c5 ck6)
    clear hs hb hO
    go_wp2_with fail
    refine HC.out.mono ?_
    rintro e w7 ⟨V7, c7, rfl, hb, hs⟩
    have hll : (lacksO z5 s1.known).length ≤ 400 := by have := List.length_filter_le (fun y : OpAt => lacksB s1.known y.op) z5; unfold lacksO; omega
    have hmap : (lacksO z5 s1.known).map OpAt.op = lacksR (LDoc.gave s1 s2).ops s1.known := by rw [lacksO_map, HZ5.out]
    have HC : Hid (Calls Tryz.prog 82 #[.pointer (some ⟨b1, 0, none⟩), .slice V7 (lacksO z5 s1.known).length c7] w7 (fun e w' => e = .returned (.tuple #[.int .i64 (s1.tookN (lacksR (LDoc.gave s1 s2).ops s1.known)), errV (LDoc.gaveE (LDoc.gave s1 s2) s1)]) ∧ Scene w B b1 b2 (LDoc.gave (LDoc.gave s1 s2) s1) (LDoc.gave s1 s2) rows w')) := by
      have := hs.takeL OK1.out (V := V7) (zs := lacksO z5 s1.known) (by simp) c7 (by omega)
      rw [hmap] at this
      exact this.mono fun e w' hh => ⟨hh.1, hh.2.sub (fun r hr => by simp [hr])⟩
    have HNE2 : Hid (LDoc.gaveE (LDoc.gave s1 s2) s1 = 0 → s1.tookN (lacksR (LDoc.gave s1 s2).ops s1.known) = LDoc.gaveN (LDoc.gave s1 s2) s1) := fun h => if_pos h
    clear hs hb hll hmap
    generalize lacksO z5 s1.known = L2 at *
    generalize s1.tookN (lacksR (LDoc.gave s1 s2).ops s1.known) = n2 at *
    by_cases he2 : LDoc.gaveE (LDoc.gave s1 s2) s1 = 0
    · have HA := Lib.hid (LDoc.both_all HE.out he2)
      have H2 := Lib.hid (HNE2.out he2)
      rw [he2] at HC
      clear he2
      go_wp2_with fail
      refine HC.out.mono ?_
      rintro e w8 ⟨rfl, hs⟩
      rw [HE0]
      have HSF := Lib.hid hs
      clear hs HC
      go_wp2_with fail
      go_ret3
      obtain ⟨a1, a2, a3, a4⟩ := HA.out
      exact ⟨by rw [a1, a3, a4, ← HNE.out HE.out, ← H2.out]; rfl, by rw [a2]; exact HSF.out⟩
    · have HA := Lib.hid (LDoc.both_two HE.out he2)
      have HV := Lib.hid (errV_ne he2)
      clear he2
      go_wp2_with fail
      refine HC.out.mono ?_
      rintro e w8 ⟨rfl, hs⟩
      rw [HV.out]
      have HSF := Lib.hid hs
      clear hs HC
      go_wp2_with fail
      go_ret3
      obtain ⟨a1, a2, a3, a4⟩ := HA.out
      exact ⟨by rw [a1, a3, a4, HV.out]; rfl, by rw [a2]; exact HSF.out⟩
  · have HA := Lib.hid (LDoc.both_one he)
    have HV := Lib.hid (errV_ne he)
    clear he
    go_wp2_with fail
    refine HC.out.mono ?_
    rintro e w8 ⟨rfl, hs⟩
    rw [HV.out]
    have HSF := Lib.hid hs
    clear hs HC
    go_wp2_with fail
    go_ret3
    obtain ⟨a1, a2, a3, a4⟩ := HA.out
    exact ⟨by rw [a1, a3, a4, HV.out]; rfl, by rw [a2]; exact HSF.out⟩
end Scene
end Go.Proofs.YtnmmnejoldbeiaaGreatDoor
