/- leaflaw2.CachePlays, proved: a cache tells what the document's tells. Conditions: the library's one variable holds what its text lays (the card ties it). -/
import Derived.Deep.CutBlock
import Derived.Deep.RegionHeld3
import Derived.Test.YtgjhkblnohcppaaDoorCacheTwo
import Derived.Test.YtgjhkblnohcppaaDoorCard
import Derived.Test.YtgjhkblnohcppaaDoorOpenStrs
import Derived.Test.YtgjhkblnohcppaaDoorRefPlace
import Derived.Test.YtgjhkblnohcppaaDoorSame
namespace Go.Proofs.YtgjhkblnohcppaaDoor
open Go.RowKit Go.WideShapes Go.ChangeShapes Go.ChangeAt
set_option linter.unusedVariables false
namespace lawCachePlays
theorem strs_at {A : Option Addr} {l : List ByteArray} {w : World} {B : Nat} (h : Reads w B 1 A l.length (strs l)) {k : Nat} (hk : k < l.length) : ∃ ad, A = some ad ∧ ad.block < B ∧ w.cell? (ad.add k) = some (.string l[k]) := by
  obtain ⟨ad, u, e, hb, hu, hc⟩ := h.at_ hk
  refine ⟨ad, e, hb, ?_⟩
  unfold strs at hu
  rw [List.getElem?_map, List.getElem?_eq_getElem hk] at hu
  rw [hc, ← hu]
  rfl
theorem ints_at {A : Option Addr} {l : List Int} {w : World} {B : Nat} (h : Reads w B 1 A l.length (l.map (Value.int .i64))) {k : Nat} (hk : k < l.length) : ∃ ad, A = some ad ∧ ad.block < B ∧ w.cell? (ad.add k) = some (.int .i64 l[k]) := by
  obtain ⟨ad, u, e, hb, hu, hc⟩ := h.at_ hk
  refine ⟨ad, e, hb, ?_⟩
  rw [List.getElem?_map, List.getElem?_eq_getElem hk] at hu
  rw [hc, ← hu]
  rfl
theorem texts_same (w : World) (A G : Option Addr) (ca cg : Nat) (l : List ByteArray) (h1 : Reads w w.heap.size 1 A l.length (strs l)) (h2 : Reads w w.heap.size 1 G l.length (strs l)) (hl : l.length ≤ 1000000) :
    Calls Tryd.prog 21 #[.slice A l.length ca, .slice G l.length cg] w (CheckPost w (.bool true)) := by
  have h := texts_any w A G ca cg l l h1 h2 hl hl
  rw [decide_eq_true rfl] at h
  exact h
theorem pick {A : Option Addr} {l : List ByteArray} {w wr : World} (h : Reads w w.heap.size 1 A l.length (strs l)) (hb : Below w.heap.size w wr) (hl : ∀ y ∈ l, y.size ≤ maxLen) (k : Nat) (hn : 0 < l.length) :
    ∃ (ad : Addr) (r : Nat) (x : ByteArray), A = some ad ∧ x.size ≤ 9223372036854775807 ∧ (0 : Int) ≤ (r : Int) ∧ (r : Int) < (l.length : Int) ∧ Int.tmod (k : Int) (l.length : Int) = (r : Int) ∧ (k : Int) % (l.length : Int) = (r : Int) ∧ wr.cell? (ad.add r) = some (.string x) := by
  have hr : k % l.length < l.length := Nat.mod_lt _ hn
  have hrc : (k : Int) % (l.length : Int) = ((k % l.length : Nat) : Int) := (Int.natCast_emod k l.length).symm
  obtain ⟨ad, e, _, hc⟩ := strs_at h hr
  obtain ⟨ad', e', hb', hc'⟩ := strs_at (h.below hb) hr
  rw [e] at e'
  injection e' with e'
  subst e'
  refine ⟨ad, k % l.length, l[k % l.length], e, ?_, by omega, by omega, ?_, hrc, hc'⟩
  · have := hl _ (List.getElem_mem hr); unfold maxLen at this; omega
  · rw [Int.tmod_eq_emod_of_nonneg (by omega)]; exact hrc
def PlayLoop (w : World) (b : Nat) (bud : Int) (v i : Value) (wr : World) : Prop := ∃ (k : Nat) (m : List Kept) (A : Option Addr) (c : Nat), k ≤ 80 ∧ v = .slice A m.length c ∧ i = .int .i64 k ∧ Hid (KScene w b bud m m A c wr) ∧ Hid (sumK m ≤ bud ∧ m.length ≤ k)
def PlayMid (w : World) (b : Nat) (bud : Int) (k : Nat) (t v : Value) (wr : World) : Prop := ∃ (m : List Kept) (A : Option Addr) (c : Nat), t = .bool true ∧ v = .slice A m.length c ∧ Hid (KScene w b bud m m A c wr) ∧ Hid (sumK m ≤ bud ∧ m.length ≤ k + 1)
def OrdLoop (w : World) (m : List Kept) (o i : Value) (wr : World) : Prop := ∃ (j : Nat) (V : Option Addr) (cv : Nat), j ≤ m.length ∧ o = .slice V j cv ∧ i = .int .i64 j ∧ Hid (Own wr w.heap.size 9 1 V j cv (strs ((m.take j).map Prod.fst))) ∧ Hid (Below w.heap.size w wr)
def PFit (bud : Int) (m : List Kept) (k : Nat) : Prop := sumK m ≤ bud ∧ m.length ≤ k + 1
def Arg (v u : Value) : Prop := ∃ p t : ByteArray, p.size ≤ 9223372036854775807 ∧ t.size ≤ 9223372036854775807 ∧ v = .string p ∧ u = .string t
set_option maxRecDepth 100000 in
set_option maxHeartbeats 16000000 in
theorem walk (w : World) (bud : Int) (A1 A2 A3 : Option Addr) (c1 c2 c3 : Nat) (steps : List Int) (ps ts : List ByteArray) (hg : Glob w)
    (h1 : Reads w w.heap.size 1 A1 steps.length (steps.map (Value.int .i64))) (h2 : Reads w w.heap.size 1 A2 ps.length (strs ps)) (h3 : Reads w w.heap.size 1 A3 ts.length (strs ts)) (hp : ∀ y ∈ ps, y.size ≤ maxLen) (ht : ∀ y ∈ ts, y.size ≤ maxLen) :
    Calls Tryd.prog 4 #[.int .i64 bud, .slice A1 steps.length c1, .slice A2 ps.length c2, .slice A3 ts.length c3] w (CheckPost w (.bool true)) := by
  have HG := Lib.hid hg
  have HER := Lib.hid (fun w (h : Glob w) k e => error_any w k e h)
  by_cases hbad : bud < 1 ∨ 10000 < bud
  · have HC := Lib.hid (cnew_none w bud hbad)
    by_cases hb1 : bud < 1
    · clear hbad
      go_enter Tryd.func4, Tryd.ntmps4
      go_wp2_with fail
      refine HC.out.mono ?_
      rintro e w1 ⟨rfl, hw⟩
      obtain rfl := hw.symm
      go_wp2_with fail
      refine (HER.out _ HG.out 1 1).mono ?_
      rintro e w2 ⟨rfl, hb2⟩
      rw [show ((1 : Int) == 1) = true from rfl]
      go_wp2_with fail
      go_ret
      exact ⟨rfl, hb2⟩
    · have hb2 : decide (bud > 10000) = true := decide_eq_true (by omega)
      clear hbad
      go_enter Tryd.func4, Tryd.ntmps4
      go_wp2_with fail
      refine HC.out.mono ?_
      rintro e w1 ⟨rfl, hw⟩
      obtain rfl := hw.symm
      go_wp2_with fail
      refine (HER.out _ HG.out 1 1).mono ?_
      rintro e w2 ⟨rfl, hb2⟩
      rw [show ((1 : Int) == 1) = true from rfl]
      go_wp2_with fail
      go_ret
      exact ⟨rfl, hb2⟩
  have hb0 : 1 ≤ bud := by omega
  have hb1 : bud ≤ 10000 := by omega
  have HC := Lib.hid (cnew_scene w w (Below.refl _ _) bud hb0 hb1)
  have HR1 := Lib.hid h1
  have HR2 := Lib.hid h2
  have HR3 := Lib.hid h3
  have HP := Lib.hid hp
  have HT := Lib.hid ht
  clear hbad h1 h2 h3 hp ht hg
  have HE0 : errV 0 = .nilIface := rfl
  have g0 : ¬ bud < 1 := by omega
  have g1 : decide (bud > 10000) = false := decide_eq_false (by omega)
  go_enter Tryd.func4, Tryd.ntmps4
  go_wp2_with fail
  refine HC.out.mono ?_
  rintro e w1 ⟨b, rfl, hs⟩
  have HS1 := Lib.hid hs
  clear hs
  go_wp2_with fail
  refine (HER.out _ (HG.out.below HS1.out.below (Nat.le_refl _)) 0 0).mono ?_
  rintro e w2 ⟨rfl, hb2⟩
  rw [show ((0 : Int) == 0) = true from rfl]
  have HS3 := Lib.hid ((KScene.start HS1.out).stay hb2)
  clear HS1 hb2 HC
  go_wp2_with fail
  go_loopw [13, 14] (fun v i wr => PlayLoop w b bud v i wr) (fun _ i _ => 80 - (intOf i).toNat)
  case atStart => exact ⟨0, [], none, 0, by omega, rfl, rfl, HS3.out, Lib.hid ⟨by show (0 : Int) ≤ bud; omega, by simp⟩⟩
  case round =>
    obtain ⟨k, m, A, c, hk, rfl, rfl, HK, HM⟩ := hrel
    have k0 : (0 : Int) ≤ (k : Int) := by omega
    by_cases h1 : k < steps.length
    · have k1 : (k : Int) < (steps.length : Int) := by omega
      by_cases h2 : k < 80
      · have k2 : (k : Int) < 80 := by omega
        obtain ⟨sa, rfl, hasb, cst0⟩ := ints_at HR1.out h1
        have HST := Lib.hid (fun W (hb : Below w.heap.size w W) => (hb.cell (p := sa.add k) (by rw [block_of_add]; exact hasb)).trans cst0)
        clear cst0 hasb
        go_upto_if 57 with (fail)
        go_cut [15] (fun v wx => ∃ p : ByteArray, p.size ≤ 9223372036854775807 ∧ v = .string p ∧ wx = wr)
        case first =>
          have HBW := Lib.hid HK.out.below
          have e1 : (⟨#[]⟩ : ByteArray).size ≤ 9223372036854775807 := by decide
          clear HK HM HST
          by_cases hn1 : 0 < ps.length
          · have m1 : decide (0 < ps.length) = true := decide_eq_true hn1
            have z1 : ¬ ((ps.length : Int) = 0) := by omega
            obtain ⟨ad1, r1, x1, rfl, hx1, p1, p2, p3, p4, p5⟩ := pick HR2.out HBW.out HP.out k hn1
            go_wp2_with fail
            go_meet
            case rel => exact ⟨x1, hx1, rfl, rfl⟩
          · have m1 : decide (0 < ps.length) = false := decide_eq_false hn1
            go_wp2_with fail
            go_meet
            case rel => exact ⟨⟨#[]⟩, e1, rfl, rfl⟩
        case rest =>
          obtain ⟨p, hp, rfl, hwc⟩ := hcut
          obtain rfl := hwc.symm
          go_upto_if 67 with (fail)
          go_cut [16] (fun v wx => ∃ p : ByteArray, p.size ≤ 9223372036854775807 ∧ v = .string p ∧ wx = wr)
          case first =>
            have HBW := Lib.hid HK.out.below
            have e1 : (⟨#[]⟩ : ByteArray).size ≤ 9223372036854775807 := by decide
            clear HK HM HST
            by_cases hn2 : 0 < ts.length
            · have m2 : decide (0 < ts.length) = true := decide_eq_true hn2
              have z2 : ¬ ((ts.length : Int) = 0) := by omega
              obtain ⟨ad2, r2, x2, rfl, hx2, q1, q2, q3, q4, q5⟩ := pick HR3.out HBW.out HT.out k hn2
              go_wp2_with fail
              go_meet
              case rel => exact ⟨x2, hx2, rfl, rfl⟩
            · have m2 : decide (0 < ts.length) = false := decide_eq_false hn2
              go_wp2_with fail
              go_meet
              case rel => exact ⟨⟨#[]⟩, e1, rfl, rfl⟩
          case rest =>
            obtain ⟨t, ht, rfl, hwc⟩ := hcut
            obtain rfl := hwc.symm
            obtain ⟨hm1, hm2⟩ := HM.out
            have HND := Lib.hid HK.out.nodup
            have HFD := Lib.hid (HK.out.rfind (by omega) p)
            have cst := HST.out _ HK.out.below
            have HGW := Lib.hid (fun W (h : Below w.heap.size w W) => HG.out.below h (Nat.le_refl _))
            clear HST
            generalize steps[k] = sk at *
            go_wp2_with fail
            refine HFD.out.mono ?_
            rintro e w4 ⟨rfl, hw4⟩
            obtain rfl := hw4.symm
            clear HFD
            generalize hfe : findV p m = fv
            have HFV := Lib.hid hfe
            clear hfe
            go_upto_block 2 with (fail)
            go_cut [12, 13] (fun u v wx => PlayMid w b bud k u v wx)
            case first =>
              by_cases s01 : sk = 0 ∨ sk = 1
              · go_upto_if 92 with (fail)
                go_cut [92] (fun v wx => v = .bool true ∧ wx = wr)
                case first =>
                  rcases s01 with s0 | s1
                  · have z0 : (sk == 0) = true := by rw [beq_iff_eq]; exact s0
                    clear s0
                    go_wp2_with fail
                    go_meet
                    case rel => exact ⟨by first | rfl | rw [z0], rfl⟩
                  · have z0 : (sk == 0) = false := by rw [beq_eq_false_iff_ne]; omega
                    have z1 : (sk == 1) = true := by rw [beq_iff_eq]; exact s1
                    clear s1
                    go_wp2_with fail
                    go_meet
                    case rel => exact ⟨by first | rfl | rw [z1], rfl⟩
                case rest =>
                  obtain ⟨rfl, hwc⟩ := hcut
                  obtain rfl := hwc.symm
                  clear s01
                  have HPL := Lib.hid (fun W => rplace_any W p hp)
                  have HLD := Lib.hid (HK.out.load hb0 hb1 (by omega) (by omega) p t hp ht)
                  have HLL := Lib.hid (load_len (bud := bud) (p := p) (t := t) (m := m))
                  have HLS := Lib.hid (load_sum (bud := bud) (p := p) (t := t) (m := m) (by omega) hm1)
                  by_cases h0 : p.size = 0
                  · have g2 := empty_of h0
                    by_cases hlong : bud < t.size
                    · have g4 : decide ((t.size : Int) > bud) = true := decide_eq_true hlong
                      have HLE : Hid (loadE bud p t = 4 ∧ loadR bud p t m = m) := by
                        have e1 : loadE bud p t = 4 := by unfold loadE; rw [if_neg (fun x => x.1 h0), if_pos hlong]
                        exact ⟨e1, by unfold loadR; rw [e1, if_neg (by decide)]⟩
                      rw [HLE.out.1, HLE.out.2] at HLD
                      go_wp2_with fail
                      refine HLD.out.mono ?_
                      rintro e w6 ⟨rfl, hs⟩
                      have HS6 := Lib.hid hs
                      have HG6 := Lib.hid (HGW.out _ hs.below)
                      clear hs
                      rw [errV_ne (by decide)]
                      go_wp2_with fail
                      refine (HER.out _ HG6.out 4 4).mono ?_
                      rintro e w7 ⟨rfl, hb7⟩
                      rw [show ((4 : Int) == 4) = true from rfl]
                      have HS7 := Lib.hid (HS6.out.stay hb7)
                      clear hb7
                      go_wp2_with fail
                      go_meet
                      case rel => exact ⟨m, A, c, rfl, rfl, HS7, Lib.hid ⟨hm1, by omega⟩⟩
                    · have g4 : decide ((t.size : Int) > bud) = false := decide_eq_false hlong
                      have g5 : ¬ bud < (t.size : Int) := hlong
                      have HLE : Hid (loadE bud p t = 0 ∧ loadR bud p t m = fitK bud (onK p t m)) := by
                        have e1 : loadE bud p t = 0 := by unfold loadE; rw [if_neg (fun x => x.1 h0), if_neg hlong]
                        exact ⟨e1, by unfold loadR; rw [if_pos e1]⟩
                      have HRL := Lib.hid (HK.out.rload HND.out (by omega) (by omega) (by omega) p t (by omega))
                      go_wp2_with fail
                      refine HRL.out.mono ?_
                      rintro e w6 ⟨A', c', rfl, hs⟩
                      have HLD2 := Lib.hid (hs.load hb0 hb1 (by omega) (by omega) p t hp ht)
                      rw [HLE.out.1, HE0, HLE.out.2] at HLD2
                      clear hs
                      go_wp2_with fail
                      refine HLD2.out.mono ?_
                      rintro e w7 ⟨rfl, hs⟩
                      have HS7 := Lib.hid hs
                      have HG7 := Lib.hid (HGW.out _ hs.below)
                      clear hs
                      go_wp2_with fail
                      refine (HER.out _ HG7.out 0 0).mono ?_
                      rintro e w8 ⟨rfl, hb8⟩
                      rw [show ((0 : Int) == 0) = true from rfl]
                      have HS8 := Lib.hid (HS7.out.stay hb8)
                      clear hb8
                      go_wp2_with fail
                      go_meet
                      case rel => exact ⟨fitK bud (onK p t m), A', c', rfl, rfl, HS8, Lib.hid ⟨by rw [← HLE.out.2]; exact HLS.out, by rw [← HLE.out.2]; have := HLL.out; omega⟩⟩
                  · have g2 := empty_not h0
                    by_cases h9 : placeErr p = 0
                    · have HPE := Lib.hid h9
                      by_cases hlong : bud < t.size
                      · have g4 : decide ((t.size : Int) > bud) = true := decide_eq_true hlong
                        have HLE : Hid (loadE bud p t = 4 ∧ loadR bud p t m = m) := by
                          have e1 : loadE bud p t = 4 := by unfold loadE; rw [if_neg (fun x => x.2 h9), if_pos hlong]
                          exact ⟨e1, by unfold loadR; rw [e1, if_neg (by decide)]⟩
                        rw [HLE.out.1, HLE.out.2] at HLD
                        go_wp2_with fail
                        refine (HPL.out _).mono ?_
                        rintro e w5 ⟨rfl, hw5⟩
                        obtain rfl := hw5.symm
                        rw [HPE.out]
                        go_wp2_with fail
                        refine HLD.out.mono ?_
                        rintro e w6 ⟨rfl, hs⟩
                        have HS6 := Lib.hid hs
                        have HG6 := Lib.hid (HGW.out _ hs.below)
                        clear hs
                        rw [errV_ne (by decide)]
                        go_wp2_with fail
                        refine (HER.out _ HG6.out 4 4).mono ?_
                        rintro e w7 ⟨rfl, hb7⟩
                        rw [show ((4 : Int) == 4) = true from rfl]
                        have HS7 := Lib.hid (HS6.out.stay hb7)
                        clear hb7
                        go_wp2_with fail
                        go_meet
                        case rel => exact ⟨m, A, c, rfl, rfl, HS7, Lib.hid ⟨hm1, by omega⟩⟩
                      · have g4 : decide ((t.size : Int) > bud) = false := decide_eq_false hlong
                        have g5 : ¬ bud < (t.size : Int) := hlong
                        have HLE : Hid (loadE bud p t = 0 ∧ loadR bud p t m = fitK bud (onK p t m)) := by
                          have e1 : loadE bud p t = 0 := by unfold loadE; rw [if_neg (fun x => x.2 h9), if_neg hlong]
                          exact ⟨e1, by unfold loadR; rw [if_pos e1]⟩
                        have HRL := Lib.hid (HK.out.rload HND.out (by omega) (by omega) (by omega) p t (by omega))
                        go_wp2_with fail
                        refine (HPL.out _).mono ?_
                        rintro e w5 ⟨rfl, hw5⟩
                        obtain rfl := hw5.symm
                        rw [HPE.out]
                        go_wp2_with fail
                        refine HRL.out.mono ?_
                        rintro e w6 ⟨A', c', rfl, hs⟩
                        have HLD2 := Lib.hid (hs.load hb0 hb1 (by omega) (by omega) p t hp ht)
                        rw [HLE.out.1, HE0, HLE.out.2] at HLD2
                        clear hs
                        go_wp2_with fail
                        refine HLD2.out.mono ?_
                        rintro e w7 ⟨rfl, hs⟩
                        have HS7 := Lib.hid hs
                        have HG7 := Lib.hid (HGW.out _ hs.below)
                        clear hs
                        go_wp2_with fail
                        refine (HER.out _ HG7.out 0 0).mono ?_
                        rintro e w8 ⟨rfl, hb8⟩
                        rw [show ((0 : Int) == 0) = true from rfl]
                        have HS8 := Lib.hid (HS7.out.stay hb8)
                        clear hb8
                        go_wp2_with fail
                        go_meet
                        case rel => exact ⟨fitK bud (onK p t m), A', c', rfl, rfl, HS8, Lib.hid ⟨by rw [← HLE.out.2]; exact HLS.out, by rw [← HLE.out.2]; have := HLL.out; omega⟩⟩
                    · have b9 : (placeErr p == 0) = false := by rw [beq_eq_false_iff_ne]; exact h9
                      have b8 : (placeErr p != 0) = true := by simpa using h9
                      have HLE : Hid (loadE bud p t = 2 ∧ loadR bud p t m = m) := by
                        have e1 : loadE bud p t = 2 := if_pos ⟨h0, h9⟩
                        exact ⟨e1, by unfold loadR; rw [e1, if_neg (by decide)]⟩
                      rw [HLE.out.1, HLE.out.2] at HLD
                      clear h9
                      go_wp2_with fail
                      refine (HPL.out _).mono ?_
                      rintro e w5 ⟨rfl, hw5⟩
                      obtain rfl := hw5.symm
                      go_wp2_with fail
                      refine HLD.out.mono ?_
                      rintro e w6 ⟨rfl, hs⟩
                      have HS6 := Lib.hid hs
                      have HG6 := Lib.hid (HGW.out _ hs.below)
                      clear hs
                      rw [errV_ne (by decide)]
                      go_wp2_with fail
                      refine (HER.out _ HG6.out 2 2).mono ?_
                      rintro e w7 ⟨rfl, hb7⟩
                      rw [show ((2 : Int) == 2) = true from rfl]
                      have HS7 := Lib.hid (HS6.out.stay hb7)
                      clear hb7
                      go_wp2_with fail
                      go_meet
                      case rel => exact ⟨m, A, c, rfl, rfl, HS7, Lib.hid ⟨hm1, by omega⟩⟩
              · have z0 : (sk == 0) = false := by rw [beq_eq_false_iff_ne]; omega
                have z1 : (sk == 1) = false := by rw [beq_eq_false_iff_ne]; omega
                have hpl := pos_le p m
                by_cases s2 : sk = 2
                · have z2 : (sk == 2) = true := by rw [beq_iff_eq]; exact s2
                  clear s2 s01
                  by_cases hpos : posK p m < m.length
                  · obtain rfl : fv = (posK p m : Int) := by rw [← HFV.out]; exact if_pos hpos
                    have HGT := Lib.hid (pos_get hpos)
                    obtain ⟨ad, rfl, dz0, dz1, d1⟩ := HK.out.row.kept hpos
                    have i0 : (0 : Int) ≤ (posK p m : Int) := by omega
                    have i1 : (posK p m : Int) < (m.length : Int) := by omega
                    have i2 : decide ((posK p m : Int) ≥ 0) = true := decide_eq_true i0
                    have hv := val_of HGT.out
                    have hvl := val_le (p := p) (m := m)
                    rw [hv] at hvl
                    generalize m[posK p m].2 = x at *
                    have HSN : Hid (sumK (onK p x m) = sumK m) := by
                      have := sumK_on (p := p) (t := x) HND.out
                      rw [hv] at this
                      show _ = _
                      omega
                    have HFI : Hid (fitK bud (onK p x m) = onK p x m) := fit_id (by have := HSN.out; omega)
                    have HLN : Hid ((onK p x m).length ≤ m.length + 1) := by have := off_len p m; unfold onK; show _ ≤ _; simp; omega
                    have HRL := Lib.hid (HK.out.rload HND.out (by omega) (by omega) (by omega) p x (by omega))
                    rw [HFI.out] at HRL
                    have bx : (x.toList == x.toList) = true := beq_self_eq_true _
                    clear hv hvl dz0 dz1 HFV hpos hpl
                    generalize posK p m = r at *
                    go_wp2_with fail
                    refine HRL.out.mono ?_
                    rintro e w6 ⟨A', c', rfl, hs⟩
                    have HFO := Lib.hid (hs.found (by omega) (by omega) HGT.out)
                    clear hs
                    go_wp2_with fail
                    refine HFO.out.mono ?_
                    rintro e w7 ⟨rfl, hs⟩
                    have HS7 := Lib.hid hs
                    have HG7 := Lib.hid (HGW.out _ hs.below)
                    clear hs
                    go_wp2_with fail
                    refine (HER.out _ HG7.out 0 0).mono ?_
                    rintro e w8 ⟨rfl, hb8⟩
                    rw [show ((0 : Int) == 0) = true from rfl]
                    have HS8 := Lib.hid (HS7.out.stay hb8)
                    clear hb8
                    go_wp2_with fail
                    go_meet
                    case rel => exact ⟨onK p x m, A', c', by first | rfl | rw [bx], rfl, HS8, Lib.hid ⟨by rw [HSN.out]; exact hm1, by have := HLN.out; omega⟩⟩
                  · obtain rfl : fv = -1 := by rw [← HFV.out]; exact if_neg hpos
                    have HGT := Lib.hid (pos_not (p := p) (l := m) (by omega)).1
                    have HLO := Lib.hid (HK.out.lost (by omega) (by omega) HGT.out)
                    have HGr := Lib.hid (HGW.out _ HK.out.below)
                    have i2 : decide ((-1 : Int) ≥ 0) = false := by decide
                    have bx : ((⟨#[]⟩ : ByteArray).toList == (⟨#[]⟩ : ByteArray).toList) = true := beq_self_eq_true _
                    clear HFV hpos hpl
                    go_wp2_with fail
                    refine HLO.out.mono ?_
                    rintro e w7 ⟨rfl, hw7⟩
                    obtain rfl := hw7.symm
                    rw [errV_ne (by decide)]
                    go_wp2_with fail
                    refine (HER.out _ HGr.out 5 5).mono ?_
                    rintro e w8 ⟨rfl, hb8⟩
                    rw [show ((5 : Int) == 5) = true from rfl]
                    have HS8 := Lib.hid (HK.out.stay hb8)
                    clear hb8
                    go_wp2_with fail
                    go_meet
                    case rel => exact ⟨m, A, c, by first | rfl | rw [bx], rfl, HS8, Lib.hid ⟨hm1, by omega⟩⟩
                · have z2 : (sk == 2) = false := by rw [beq_eq_false_iff_ne]; omega
                  clear s2 s01
                  by_cases hpos : posK p m < m.length
                  · obtain rfl : fv = (posK p m : Int) := by rw [← HFV.out]; exact if_pos hpos
                    have HGT := Lib.hid (pos_get hpos)
                    have i0 : (0 : Int) ≤ (posK p m : Int) := by omega
                    have i2 : decide ((posK p m : Int) ≥ 0) = true := decide_eq_true i0
                    have HOF := Lib.hid (HK.out.roff HND.out (by omega) hpos)
                    have HLN := Lib.hid (off_len p m)
                    have HSN : Hid (sumK (offK p m) ≤ sumK m) := by have := sumK_off (p := p) HND.out; show _ ≤ _; omega
                    generalize m[posK p m].2 = x at *
                    clear HFV hpos hpl
                    generalize posK p m = r at *
                    go_wp2_with fail
                    refine HOF.out.mono ?_
                    rintro e w6 ⟨A', c', rfl, hs⟩
                    have HFO := Lib.hid (hs.dropped (by omega) (by omega) HGT.out)
                    clear hs
                    go_wp2_with fail
                    refine HFO.out.mono ?_
                    rintro e w7 ⟨rfl, hs⟩
                    have HS7 := Lib.hid hs
                    have HG7 := Lib.hid (HGW.out _ hs.below)
                    clear hs
                    go_wp2_with fail
                    refine (HER.out _ HG7.out 0 0).mono ?_
                    rintro e w8 ⟨rfl, hb8⟩
                    rw [show ((0 : Int) == 0) = true from rfl]
                    have HS8 := Lib.hid (HS7.out.stay hb8)
                    clear hb8
                    go_wp2_with fail
                    go_meet
                    case rel => exact ⟨offK p m, A', c', rfl, rfl, HS8, Lib.hid ⟨by have := HSN.out; omega, by have := HLN.out; omega⟩⟩
                  · obtain rfl : fv = -1 := by rw [← HFV.out]; exact if_neg hpos
                    have HGT := Lib.hid (pos_not (p := p) (l := m) (by omega)).1
                    have HLO := Lib.hid (HK.out.undropped (by omega) (by omega) HGT.out)
                    have HGr := Lib.hid (HGW.out _ HK.out.below)
                    have i2 : decide ((-1 : Int) ≥ 0) = false := by decide
                    clear HFV hpos hpl
                    go_wp2_with fail
                    refine HLO.out.mono ?_
                    rintro e w7 ⟨rfl, hw7⟩
                    obtain rfl := hw7.symm
                    rw [errV_ne (by decide)]
                    go_wp2_with fail
                    refine (HER.out _ HGr.out 5 5).mono ?_
                    rintro e w8 ⟨rfl, hb8⟩
                    rw [show ((5 : Int) == 5) = true from rfl]
                    have HS8 := Lib.hid (HK.out.stay hb8)
                    clear hb8
                    go_wp2_with fail
                    go_meet
                    case rel => exact ⟨m, A, c, rfl, rfl, HS8, Lib.hid ⟨hm1, by omega⟩⟩
            case rest =>
              obtain ⟨m1, A1', cA, rfl, rfl, HS, HM1⟩ := hcut
              obtain ⟨hn1, hn2⟩ := HM1.out
              clear HK HM hm1 hm2 HND cst HGW HFV HP HT HR2 HR3 HER HG
              go_wp2_with fail
              go_loopw [21, 22] (fun o i wr => OrdLoop wc m1 o i wr) (fun _ i _ => m1.length - (intOf i).toNat)
              case atStart => exact ⟨0, none, 0, by omega, rfl, rfl, Own.nil _ _ _ _, Below.refl _ _⟩
              case round =>
                obtain ⟨j, V, cv, hj, rfl, rfl, HO, HB⟩ := hrel
                have j0 : (0 : Int) ≤ (j : Int) := by omega
                by_cases hjn : j < m1.length
                · have j1 : (j : Int) < (m1.length : Int) := by omega
                  obtain ⟨ad, rfl, had, d0, d1⟩ := HS.out.row.kept hjn
                  have d2 : wr.cell? (ad.add (j * 2)) = some (.string m1[j].1) := (HB.out.cell (by rw [block_of_add]; exact had)).trans d0
                  have hst : strs ((m1.take (j + 1)).map Prod.fst) = strs ((m1.take j).map Prod.fst) ++ [.string m1[j].1] := by
                    rw [List.take_succ_eq_append_getElem hjn, List.map_append]
                    unfold strs
                    rw [List.map_append]
                    rfl
                  have HST2 := Lib.hid hst
                  clear had d0 d1 hst
                  generalize m1[j].1 = q at *
                  have HRX := Lib.hid (Reads.row wr 9 #[.string q])
                  have h3 : OneCells [Value.string q] := by intro u hu; simp at hu; rcases hu with rfl; rfl
                  have hF : Fits (j + 1) 16 := Fits.of_small (by omega) (by decide)
                  have hbase : wc.heap.size ≤ (wr.alloc (.cells #[.string q] 9)).heap.size := by have := HB.out.size; simp; omega
                  go_wp2_with (at_builtin; go_loud (refine wpList_app _ (.tmp 152) (.tmp 158) rfl rfl elemS_ rfl rfl (HO.out.alloc _) HRX.out h3 hF hbase ?_; intro V2 c2 w2 hO2 hL2 hG2))
                  rw [← HST2.out] at hO2
                  have HO2 := Lib.hid hO2
                  have HB2 : Hid (Below wc.heap.size wc w2) := (HB.out.alloc HB.out.size _).trans (hL2.below hbase (fun g hg => (HO.out.lt g hg).1))
                  clear hO2 hL2 hG2
                  go_roundw
                  case rel => exact ⟨j + 1, V2, c2, by omega, rfl, by go_num, HO2, HB2⟩
                  case measure => simp [intOf]; omega
                · have j1 : ¬ (j : Int) < (m1.length : Int) := by omega
                  obtain rfl : j = m1.length := by omega
                  have HS2 := Lib.hid (HS.out.stay HB.out)
                  have HPL := Lib.hid (HS2.out.places (by omega))
                  have HM3 : Hid (PFit bud m1 k) := HM1
                  have HO3 : Hid (Own wr wc.heap.size 9 1 V m1.length cv (strs (m1.map Prod.fst))) := by have := HO.out; rw [List.take_length] at this; exact this
                  have HU := Lib.hid (fun W hb => ((HS2.out.stay (w' := W) hb).one).used)
                  have HRU := Lib.hid (fun W hb => (HS2.out.stay (w' := W) hb).rused (by omega) (by omega))
                  have HLM : Hid ((m1.map Prod.fst).length = m1.length) := List.length_map ..
                  have HTS := Lib.hid (fun W V1 V2 ca cb h1 h2 => texts_same W V1 V2 ca cb (m1.map Prod.fst) h1 h2 (by rw [List.length_map]; omega))
                  rw [HLM.out] at HTS
                  have hsb : (sumK m1 == sumK m1) = true := beq_self_eq_true _
                  clear HO
                  go_wp2_with fail
                  refine HPL.out.mono ?_
                  rintro e w5 ⟨V5, c5, rfl, hr5, hb5⟩
                  have hr6 := (HO3.out.below hb5).reads
                  have HTX := Lib.hid (HTS.out w5 V5 V c5 cv hr5 hr6)
                  have HB5 := Lib.hid hb5
                  clear hr5 hr6 hb5 HPL HTS
                  go_wp2_with fail
                  refine HTX.out.mono ?_
                  rintro e w6 ⟨rfl, hb6⟩
                  have HB6 := Lib.hid (HB5.out.trans (hb6.mono HB5.out.size))
                  have HU6 := Lib.hid (HU.out _ HB6.out)
                  have HRU6 := Lib.hid (HRU.out _ HB6.out)
                  have HS6 := Lib.hid (HS2.out.stay HB6.out)
                  clear hb6 HTX HU HRU
                  generalize sumK m1 = su at *
                  go_wp2_with fail
                  refine HU6.out.mono ?_
                  rintro e w7 ⟨rfl, hw7⟩
                  obtain rfl := hw7.symm
                  go_wp2_with fail
                  refine HRU6.out.mono ?_
                  rintro e w8 ⟨rfl, hw8⟩
                  obtain rfl := hw8.symm
                  go_wp2_with fail
                  go_roundw
                  case rel => exact ⟨k + 1, m1, A1', cA, by omega, rfl, by go_num, HS6, HM3⟩
                  case measure => simp [intOf]; omega
      · have k2 : ¬ (k : Int) < 80 := by omega
        have HBL := Lib.hid HK.out.below
        go_wp2_with fail
        go_ret
        exact ⟨rfl, HBL.out⟩
    · have k1 : ¬ (k : Int) < (steps.length : Int) := by omega
      have HBL := Lib.hid HK.out.below
      go_wp2_with fail
      go_ret
      exact ⟨rfl, HBL.out⟩
end lawCachePlays
end Go.Proofs.YtgjhkblnohcppaaDoor
