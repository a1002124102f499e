import Derived.Test.YtpknonebnipcgaaProg
import Derived.WalkKit
import Derived.KernelRfl
import Derived.Deep.LoopGhost
import Derived.Deep.QuietTactic
import Derived.BigQuiet
import Derived.Deep.DeepCutAuto
import Derived.Deep.CutBlock
import Derived.Deep.RegionHeld3
import Derived.WalkLawsBesides
import Derived.WalkSpells
import Derived.Outline
import Derived.Deep.DeepFit
import Derived.Lib.Hide
import Derived.Shelf.Abstract
import Derived.Lib.SliceRun
import Derived.Test.YtpknonebnipcgaaJ

namespace Go.Proofs.Ytpknonebnipcgaa.U
open Go.RowKit Go.Shelf Go.Proofs.Ytpknonebnipcgaa.V Go.Proofs.Ytpknonebnipcgaa.A Go.Proofs.Ytpknonebnipcgaa.B Go.Proofs.Ytpknonebnipcgaa.C Go.Proofs.Ytpknonebnipcgaa.P Go.Proofs.Ytpknonebnipcgaa.D Go.Proofs.Ytpknonebnipcgaa.E Go.Proofs.Ytpknonebnipcgaa.I Go.Proofs.Ytpknonebnipcgaa.J
set_option linter.unusedVariables false
set_option linter.unusedSimpArgs false

theorem getDi {xs : List Int} {j : Nat} (h : j < xs.length) : xs[j]? = some (xs.getD j 0) := by
  rw [List.getD_eq_getElem?_getD, List.getElem?_eq_getElem h]; rfl

set_option maxHeartbeats 1000000 in
theorem same22 (A B : Option Addr) (ca cb : Nat) (xs ys : List Int) (w : World) (hx : RdI w (.slice A xs.length ca) xs) (hy : RdI w (.slice B ys.length cb) ys) :
    Calls Try.prog 22 #[.slice A xs.length ca, .slice B ys.length cb] w fun e w' => e = .returned (.bool (decide (xs = ys))) ∧ Below w.heap.size w w' := by
  have h1 := (RdR.len hx).2
  have h2 := (RdR.len hy).2
  have HX := Lib.hid hx
  have HY := Lib.hid hy
  clear hx hy
  obtain ⟨r, hr⟩ : ∃ r, decide (xs = ys) = r := ⟨_, rfl⟩
  rw [hr]
  have HRR := Lib.hid hr
  clear hr
  by_cases hl : xs.length = ys.length
  · have hl1 : (((xs.length : Nat) : Int) != ((ys.length : Nat) : Int)) = false := by simp [hl]
    have HL := Lib.hid hl
    clear hl
    go_enter Try.func22, Try.ntmps22
    go_wp2_with fail
    go_loopg [5] xs.length (fun gg s5 wr => ∃ k : Nat, k ≤ xs.length ∧ xs.length - k ≤ gg ∧ s5 = .int .i64 k ∧ Hid (Below w.heap.size w wr) ∧ Hid (∀ j, j < k → xs[j]? = ys[j]?))
    case atStart => exact ⟨0, Nat.zero_le _, by omega, rfl, Lib.hid (Below.refl _ _), Lib.hid (fun j hj => by omega)⟩
    case round =>
      obtain ⟨k, hk, hgg, rfl, HB, HA⟩ := hrel
      by_cases hlt : k < xs.length
      · have hlt2 : k < ys.length := by rw [← HL.out]; exact hlt
        have hgx := getDi hlt
        have hgy := getDi hlt2
        obtain ⟨b, o, rfl, hb, hc⟩ := Rd.i HX.out k _ hgx
        obtain ⟨b', o', rfl, hb', hc'⟩ := Rd.i HY.out k _ hgy
        replace hc := (HB.out.cell (p := ⟨b, o + k, none⟩) hb).trans hc
        replace hc' := (HB.out.cell (p := ⟨b', o' + k, none⟩) hb').trans hc'
        have HGX := Lib.hid hgx
        have HGY := Lib.hid hgy
        clear hgx hgy
        generalize xs.getD k 0 = x at *
        generalize ys.getD k 0 = y at *
        cases hxy : (x != y)
        · go_wp2_with fail
          go_quiet (fail)
          go_wp2_with fail
          go_roundg (xs.length - (k + 1))
          case measure => omega
          case rel =>
            refine ⟨k + 1, by omega, by omega, by go_num, Lib.hid (below_drewN HB.out _), Lib.hid (fun j hj => ?_)⟩
            by_cases e : j = k
            · subst e
              have : x = y := by simpa using hxy
              rw [HGX.out, HGY.out, this]
            · exact HA.out j (by omega)
        · go_wp2_with fail
          go_quiet (fail)
          go_wp2_with fail
          go_ret
          refine ⟨?_, below_drewN HB.out _⟩
          rw [← HRR.out]
          have hne : xs ≠ ys := by
            rintro rfl
            have := HGX.out.symm.trans HGY.out
            injection this with this
            simp [this] at hxy
          simp [hne]
      · obtain rfl : k = xs.length := by omega
        go_wp2_with fail
        go_ret
        refine ⟨?_, HB.out⟩
        rw [← HRR.out]
        have he : xs = ys := by
          apply List.ext_getElem?
          intro j
          by_cases hj : j < xs.length
          · exact HA.out j hj
          · rw [List.getElem?_eq_none (by omega), List.getElem?_eq_none (by have := HL.out; omega)]
        simp [he]
  · have hl1 : (((xs.length : Nat) : Int) != ((ys.length : Nat) : Int)) = true := by simp; omega
    have HL := Lib.hid hl
    clear hl
    go_enter Try.func22, Try.ntmps22
    go_wp2_with fail
    go_ret
    refine ⟨?_, Below.refl _ _⟩
    rw [← HRR.out]
    have hne : xs ≠ ys := fun e => HL.out (by rw [e])
    simp [hne]

theorem net54 (w : World) : Calls Try.prog 54 #[] w fun e w' => e = .returned (.slice (some ⟨w.heap.size, 0, none⟩) 4 4) ∧ RdT w' (.slice (some ⟨w.heap.size, 0, none⟩) 4 4) [⟨0, 1, 5⟩, ⟨1, 2, 3⟩, ⟨0, 2, 6⟩, ⟨2, 1, -4⟩] ∧ Below w.heap.size w w' := by
  go_enter Try.func54, Try.ntmps54
  go_wp2
  go_ret
  exact ⟨rfl, rd_lit (e := 58) t3_len w [⟨0, 1, 5⟩, ⟨1, 2, 3⟩, ⟨0, 2, 6⟩, ⟨2, 1, -4⟩] _ rfl (by decide), (Below.refl _ _).alloc (Nat.le_refl _) _⟩

def exPlan : PlanT := ⟨3, 100, [⟨20, 30, 10, 2, false, 0, 0, [⟨60, 200, 70⟩]⟩, ⟨15, 0, 0, 2, true, 5, 30, []⟩]⟩

theorem example55 (w : World) : Calls Try.prog 55 #[] w fun e w' => ∃ A c, e = .returned (.agg #[.int .i64 3, .int .i64 100, .slice A 2 c]) ∧ RdW w' (.slice A 2 c) exPlan.roads ∧ Below w.heap.size w w' := by
  go_enter Try.func55, Try.ntmps55
  go_wp2
  have hB : Below w.heap.size w (((w.alloc (.cells #[.int .i64 3, .int .i64 100, .slice (some ⟨w.heap.size + 1 + 1, 0, none⟩) 2 2] 38)).alloc (.cells #[.int .i64 60, .int .i64 200, .int .i64 70] 43)).alloc (.cells #[.int .i64 20, .int .i64 30, .int .i64 10, .int .i64 2, .bool false, .int .i64 0, .int .i64 0, .slice (some ⟨w.heap.size + 1, 0, none⟩) 1 1, .int .i64 15, .int .i64 0, .int .i64 0, .int .i64 2, .bool true, .int .i64 5, .int .i64 30, .slice none 0 0] 41)) := ((((Below.refl _ w).alloc (Nat.le_refl _) _).alloc (by simp) _).alloc (by simp; omega) _)
  have hk : (((w.alloc (.cells #[.int .i64 3, .int .i64 100, .slice (some ⟨w.heap.size + 1 + 1, 0, none⟩) 2 2] 38)).alloc (.cells #[.int .i64 60, .int .i64 200, .int .i64 70] 43)).alloc (.cells #[.int .i64 20, .int .i64 30, .int .i64 10, .int .i64 2, .bool false, .int .i64 0, .int .i64 0, .slice (some ⟨w.heap.size + 1, 0, none⟩) 1 1, .int .i64 15, .int .i64 0, .int .i64 0, .int .i64 2, .bool true, .int .i64 5, .int .i64 30, .slice none 0 0] 41)).heap[w.heap.size + 1 + 1]? = some (.cells #[.int .i64 20, .int .i64 30, .int .i64 10, .int .i64 2, .bool false, .int .i64 0, .int .i64 0, .slice (some ⟨w.heap.size + 1, 0, none⟩) 1 1, .int .i64 15, .int .i64 0, .int .i64 0, .int .i64 2, .bool true, .int .i64 5, .int .i64 30, .slice none 0 0] 41 (0, 0)) := by
    have := blk_new ((w.alloc (.cells #[.int .i64 3, .int .i64 100, .slice (some ⟨w.heap.size + 1 + 1, 0, none⟩) 2 2] 38)).alloc (.cells #[.int .i64 60, .int .i64 200, .int .i64 70] 43)) (.cells #[.int .i64 20, .int .i64 30, .int .i64 10, .int .i64 2, .bool false, .int .i64 0, .int .i64 0, .slice (some ⟨w.heap.size + 1, 0, none⟩) 1 1, .int .i64 15, .int .i64 0, .int .i64 0, .int .i64 2, .bool true, .int .i64 5, .int .i64 30, .slice none 0 0] 41)
    rwa [World.size_alloc, World.size_alloc] at this
  have hh : RdT (((w.alloc (.cells #[.int .i64 3, .int .i64 100, .slice (some ⟨w.heap.size + 1 + 1, 0, none⟩) 2 2] 38)).alloc (.cells #[.int .i64 60, .int .i64 200, .int .i64 70] 43)).alloc (.cells #[.int .i64 20, .int .i64 30, .int .i64 10, .int .i64 2, .bool false, .int .i64 0, .int .i64 0, .slice (some ⟨w.heap.size + 1, 0, none⟩) 1 1, .int .i64 15, .int .i64 0, .int .i64 0, .int .i64 2, .bool true, .int .i64 5, .int .i64 30, .slice none 0 0] 41)) (.slice (some ⟨w.heap.size + 1, 0, none⟩) 1 1) [⟨60, 200, 70⟩] := by
    have h := rd_lit (e := 43) t3_len (w.alloc (.cells #[.int .i64 3, .int .i64 100, .slice (some ⟨w.heap.size + 1 + 1, 0, none⟩) 2 2] 38)) [⟨60, 200, 70⟩] #[.int .i64 60, .int .i64 200, .int .i64 70] rfl (by decide)
    rw [World.size_alloc] at h
    exact Rd.below h ((Below.refl _ _).alloc (Nat.le_refl _) _)
  have e0 : (((w.alloc (.cells #[.int .i64 3, .int .i64 100, .slice (some ⟨w.heap.size + 1 + 1, 0, none⟩) 2 2] 38)).alloc (.cells #[.int .i64 60, .int .i64 200, .int .i64 70] 43)).alloc (.cells #[.int .i64 20, .int .i64 30, .int .i64 10, .int .i64 2, .bool false, .int .i64 0, .int .i64 0, .slice (some ⟨w.heap.size + 1, 0, none⟩) 1 1, .int .i64 15, .int .i64 0, .int .i64 0, .int .i64 2, .bool true, .int .i64 5, .int .i64 30, .slice none 0 0] 41)).cell? ⟨w.heap.size, 0, none⟩ = some (.int .i64 3) := by go_simp
  have e1 : (((w.alloc (.cells #[.int .i64 3, .int .i64 100, .slice (some ⟨w.heap.size + 1 + 1, 0, none⟩) 2 2] 38)).alloc (.cells #[.int .i64 60, .int .i64 200, .int .i64 70] 43)).alloc (.cells #[.int .i64 20, .int .i64 30, .int .i64 10, .int .i64 2, .bool false, .int .i64 0, .int .i64 0, .slice (some ⟨w.heap.size + 1, 0, none⟩) 1 1, .int .i64 15, .int .i64 0, .int .i64 0, .int .i64 2, .bool true, .int .i64 5, .int .i64 30, .slice none 0 0] 41)).cell? ⟨w.heap.size, 1, none⟩ = some (.int .i64 100) := by go_simp
  have e2 : (((w.alloc (.cells #[.int .i64 3, .int .i64 100, .slice (some ⟨w.heap.size + 1 + 1, 0, none⟩) 2 2] 38)).alloc (.cells #[.int .i64 60, .int .i64 200, .int .i64 70] 43)).alloc (.cells #[.int .i64 20, .int .i64 30, .int .i64 10, .int .i64 2, .bool false, .int .i64 0, .int .i64 0, .slice (some ⟨w.heap.size + 1, 0, none⟩) 1 1, .int .i64 15, .int .i64 0, .int .i64 0, .int .i64 2, .bool true, .int .i64 5, .int .i64 30, .slice none 0 0] 41)).cell? ⟨w.heap.size, 2, none⟩ = some (.slice (some ⟨w.heap.size + 1 + 1, 0, none⟩) 2 2) := by go_simp
  generalize (((w.alloc (.cells #[.int .i64 3, .int .i64 100, .slice (some ⟨w.heap.size + 1 + 1, 0, none⟩) 2 2] 38)).alloc (.cells #[.int .i64 60, .int .i64 200, .int .i64 70] 43)).alloc (.cells #[.int .i64 20, .int .i64 30, .int .i64 10, .int .i64 2, .bool false, .int .i64 0, .int .i64 0, .slice (some ⟨w.heap.size + 1, 0, none⟩) 1 1, .int .i64 15, .int .i64 0, .int .i64 0, .int .i64 2, .bool true, .int .i64 5, .int .i64 30, .slice none 0 0] 41)) = wz at *
  have hres : ∀ tmps : Array Value, tmps[0]? = some (.pointer (some ⟨w.heap.size, 0, none⟩)) → (results Try.f55 tmps).run Try.prog wz = .ok (.agg #[.int .i64 3, .int .i64 100, .slice (some ⟨w.heap.size + 1 + 1, 0, none⟩) 2 2]) wz := by
    intro tmps ht
    simp [results, Try.results55, ht, e0, e1, e2, go_sem]
  refine bodyPost_ret (hres _ rfl) rfl ?_
  refine ⟨_, _, rfl, ⟨some ⟨w.heap.size + 1 + 1, 0, none⟩, 2, rfl, Nat.le_refl _, by decide, by simp, ?_⟩, hB⟩
  have hlt := blk_lt hk
  intro j x hx
  match j, hx with
  | 0, hx =>
    injection hx with hx
    subst hx
    refine ⟨_, 0, _, rfl, hlt, ⟨_, rfl, hh⟩, fun i u hu => ?_⟩
    rw [cell_of_blk hk]
    have hi : i < 8 := (List.getElem?_eq_some_iff.1 hu).1
    rw [← hu]
    match i, hi with
    | 0, _ => rfl
    | 1, _ => rfl
    | 2, _ => rfl
    | 3, _ => rfl
    | 4, _ => rfl
    | 5, _ => rfl
    | 6, _ => rfl
    | 7, _ => rfl
  | 1, hx =>
    injection hx with hx
    subst hx
    refine ⟨_, 0, _, rfl, hlt, ⟨_, rfl, RdR.nil _ _ _⟩, fun i u hu => ?_⟩
    rw [cell_of_blk hk]
    have hi : i < 8 := (List.getElem?_eq_some_iff.1 hu).1
    rw [← hu]
    match i, hi with
    | 0, _ => rfl
    | 1, _ => rfl
    | 2, _ => rfl
    | 3, _ => rfl
    | 4, _ => rfl
    | 5, _ => rfl
    | 6, _ => rfl
    | 7, _ => rfl
  | n + 2, hx => simp [exPlan] at hx

theorem sameTable44 (w : World) (A0 A1 A2 A3 B0 B1 B2 B3 : Option Addr) (c0 c1 c2 c3 d0 d1 d2 d3 : Nat) (x0 x1 x2 x3 y0 y1 y2 y3 : List Int)
    (h0 : RdI w (.slice A0 x0.length c0) x0) (h1 : RdI w (.slice A1 x1.length c1) x1) (h2 : RdI w (.slice A2 x2.length c2) x2) (h3 : RdI w (.slice A3 x3.length c3) x3)
    (k0 : RdI w (.slice B0 y0.length d0) y0) (k1 : RdI w (.slice B1 y1.length d1) y1) (k2 : RdI w (.slice B2 y2.length d2) y2) (k3 : RdI w (.slice B3 y3.length d3) y3) :
    Calls Try.prog 44 #[.agg #[.slice A0 x0.length c0, .slice A1 x1.length c1, .slice A2 x2.length c2, .slice A3 x3.length c3], .agg #[.slice B0 y0.length d0, .slice B1 y1.length d1, .slice B2 y2.length d2, .slice B3 y3.length d3]] w fun e w' =>
      e = .returned (.bool (decide (x0 = y0) && (decide (x1 = y1) && (decide (x2 = y2) && decide (x3 = y3))))) ∧ Below w.heap.size w w' := by
  have l0 := (RdR.len h0).2
  have H0 := Lib.hid (fun W hb => same22 A0 B0 c0 d0 x0 y0 W (Rd.below h0 hb) (Rd.below k0 hb))
  have H1 := Lib.hid (fun W hb => same22 A1 B1 c1 d1 x1 y1 W (Rd.below h1 hb) (Rd.below k1 hb))
  have H2 := Lib.hid (fun W hb => same22 A2 B2 c2 d2 x2 y2 W (Rd.below h2 hb) (Rd.below k2 hb))
  have H3 := Lib.hid (fun W hb => same22 A3 B3 c3 d3 x3 y3 W (Rd.below h3 hb) (Rd.below k3 hb))
  generalize decide (x0 = y0) = b0 at *
  generalize decide (x1 = y1) = b1 at *
  generalize decide (x2 = y2) = b2 at *
  generalize decide (x3 = y3) = b3 at *
  clear h0 h1 h2 h3 k0 k1 k2 k3 l0
  have hb0 : Below w.heap.size w ((w.alloc (.cells #[.slice A0 x0.length c0, .slice A1 x1.length c1, .slice A2 x2.length c2, .slice A3 x3.length c3] 45)).alloc (.cells #[.slice B0 y0.length d0, .slice B1 y1.length d1, .slice B2 y2.length d2, .slice B3 y3.length d3] 45)) := ((Below.refl _ w).alloc (Nat.le_refl _) _).alloc (by simp) _
  have HB0 := Lib.hid hb0
  clear hb0
  go_enter Try.func44, Try.ntmps44
  go_wp2_with fail
  have ka : ((w.alloc (.cells #[.slice A0 x0.length c0, .slice A1 x1.length c1, .slice A2 x2.length c2, .slice A3 x3.length c3] 45)).alloc (.cells #[.slice B0 y0.length d0, .slice B1 y1.length d1, .slice B2 y2.length d2, .slice B3 y3.length d3] 45)).heap[w.heap.size]? = some (.cells #[.slice A0 x0.length c0, .slice A1 x1.length c1, .slice A2 x2.length c2, .slice A3 x3.length c3] 45 (0, 0)) := blk_alloc (blk_new w _) _
  have kb : ((w.alloc (.cells #[.slice A0 x0.length c0, .slice A1 x1.length c1, .slice A2 x2.length c2, .slice A3 x3.length c3] 45)).alloc (.cells #[.slice B0 y0.length d0, .slice B1 y1.length d1, .slice B2 y2.length d2, .slice B3 y3.length d3] 45)).heap[w.heap.size + 1]? = some (.cells #[.slice B0 y0.length d0, .slice B1 y1.length d1, .slice B2 y2.length d2, .slice B3 y3.length d3] 45 (0, 0)) := by
    have := blk_new (w.alloc (.cells #[.slice A0 x0.length c0, .slice A1 x1.length c1, .slice A2 x2.length c2, .slice A3 x3.length c3] 45)) (.cells #[.slice B0 y0.length d0, .slice B1 y1.length d1, .slice B2 y2.length d2, .slice B3 y3.length d3] 45)
    rwa [World.size_alloc] at this
  generalize ((w.alloc (.cells #[.slice A0 x0.length c0, .slice A1 x1.length c1, .slice A2 x2.length c2, .slice A3 x3.length c3] 45)).alloc (.cells #[.slice B0 y0.length d0, .slice B1 y1.length d1, .slice B2 y2.length d2, .slice B3 y3.length d3] 45)) = w2 at *
  have KA0 := Lib.hid ka
  have KB0 := Lib.hid kb
  clear ka kb
  refine (H0.out _ HB0.out).mono ?_
  rintro e w3 ⟨rfl, hb⟩
  have HB1 := Lib.hid (below_then HB0.out HB0.out.size hb)
  have KA1 := Lib.hid (blk_below KA0.out hb)
  have KB1 := Lib.hid (blk_below KB0.out hb)
  clear hb
  cases b0
  · go_wp2_with fail
    go_ret
    exact ⟨rfl, HB1.out⟩
  have e := cell_of_blk KA1.out 1
  have f := cell_of_blk KB1.out 1
  simp only [List.getElem?_toArray, List.getElem?_cons_succ, List.getElem?_cons_zero] at e f
  go_wp2_with fail
  clear e f
  refine (H1.out _ HB1.out).mono ?_
  rintro e w4 ⟨rfl, hb⟩
  have HB2 := Lib.hid (below_then HB1.out HB1.out.size hb)
  have KA2 := Lib.hid (blk_below KA1.out hb)
  have KB2 := Lib.hid (blk_below KB1.out hb)
  clear hb
  cases b1
  · go_wp2_with fail
    go_ret
    exact ⟨rfl, HB2.out⟩
  have e := cell_of_blk KA2.out 2
  have f := cell_of_blk KB2.out 2
  simp only [List.getElem?_toArray, List.getElem?_cons_succ, List.getElem?_cons_zero] at e f
  go_wp2_with fail
  clear e f
  refine (H2.out _ HB2.out).mono ?_
  rintro e w5 ⟨rfl, hb⟩
  have HB3 := Lib.hid (below_then HB2.out HB2.out.size hb)
  have KA3 := Lib.hid (blk_below KA2.out hb)
  have KB3 := Lib.hid (blk_below KB2.out hb)
  clear hb
  cases b2
  · go_wp2_with fail
    go_ret
    exact ⟨rfl, HB3.out⟩
  have e := cell_of_blk KA3.out 3
  have f := cell_of_blk KB3.out 3
  simp only [List.getElem?_toArray, List.getElem?_cons_succ, List.getElem?_cons_zero] at e f
  go_wp2_with fail
  clear e f
  refine (H3.out _ HB3.out).mono ?_
  rintro e w6 ⟨rfl, hb⟩
  have HB4 := Lib.hid (below_then HB3.out HB3.out.size hb)
  have KA4 := Lib.hid (blk_below KA3.out hb)
  have KB4 := Lib.hid (blk_below KB3.out hb)
  clear hb
  cases b3
  · go_wp2_with fail
    go_ret
    exact ⟨rfl, HB4.out⟩
  go_wp2_with fail
  go_ret
  exact ⟨rfl, HB4.out⟩
end Go.Proofs.Ytpknonebnipcgaa.U
