import Derived.Test.YtpknonebnipcgaaProg
import Derived.WalkKit
import Derived.KernelRfl
import Derived.Deep.LoopGhost
import Derived.Deep.QuietTactic
import Derived.BigQuiet
import Derived.Deep.DeepCutAuto
import Derived.Deep.CutBlock
import Derived.Deep.RegionHeld3
import Derived.WalkLawsBesides
import Derived.WalkSpells
import Derived.Outline
import Derived.Deep.DeepFit
import Derived.Lib.Hide
import Derived.Shelf.Abstract
import Derived.Lib.SliceRun
import Derived.OwnWalk
import Derived.Test.YtpknonebnipcgaaN

namespace Go.Proofs.Ytpknonebnipcgaa.Fa
open Go.RowKit Go.Shelf Go.Proofs.Ytpknonebnipcgaa.V Go.Proofs.Ytpknonebnipcgaa.A Go.Proofs.Ytpknonebnipcgaa.B Go.Proofs.Ytpknonebnipcgaa.C Go.Proofs.Ytpknonebnipcgaa.P Go.Proofs.Ytpknonebnipcgaa.D Go.Proofs.Ytpknonebnipcgaa.E Go.Proofs.Ytpknonebnipcgaa.G Go.Proofs.Ytpknonebnipcgaa.H Go.Proofs.Ytpknonebnipcgaa.I Go.Proofs.Ytpknonebnipcgaa.J Go.Proofs.Ytpknonebnipcgaa.K Go.Proofs.Ytpknonebnipcgaa.L Go.Proofs.Ytpknonebnipcgaa.M Go.Proofs.Ytpknonebnipcgaa.N
set_option linter.unusedVariables false
set_option linter.unusedSimpArgs false

/-! ### small -/
def smallAt (p : PlanT) (j : Nat) : Bool := !(decide (12 < ((p.roads.getD j zw).hrs.length : Int)) || (decide (2 < (j : Int)) && decide (3 < ((p.roads.getD j zw).hrs.length : Int))))
def smallB (p : PlanT) : Bool := !decide (8 < (p.roads.length : Int)) && (List.range p.roads.length).all (smallAt p)

set_option maxRecDepth 100000 in
set_option maxHeartbeats 4000000 in
theorem small26 (p : PlanT) (Ar : Option Addr) (cr : Nat) (w : World) (hR : RdW w (.slice Ar p.roads.length cr) p.roads) :
    Calls Try.prog 26 #[.agg #[.int .i64 p.cars, .int .i64 p.first, .slice Ar p.roads.length cr]] w fun e w' => e = .returned (.bool (smallB p)) ∧ Below w.heap.size w w' := by
  have hll := (RdR.len hR).2
  have HR := Lib.hid hR
  unfold smallB
  clear hR
  obtain ⟨R, hRR⟩ : ∃ R, (List.range p.roads.length).all (smallAt p) = R := ⟨_, rfl⟩
  rw [hRR]
  have HRR := Lib.hid hRR
  clear hRR
  cases d1 : decide (8 < (p.roads.length : Int))
  case true =>
    go_enter Try.func26, Try.ntmps26
    go_wp2
    go_ret
    exact ⟨rfl, below_al (below_rf w) _⟩
  go_enter Try.func26, Try.ntmps26
  go_wp2_with fail
  go_loopg [3] p.roads.length (fun gg s3 wr => ∃ k : Nat, k ≤ p.roads.length ∧ p.roads.length - k ≤ gg ∧ s3 = .int .i64 k ∧ Hid (∀ j, j < k → smallAt p j = true) ∧ Hid (wr = w.alloc (.cells #[.int .i64 p.cars, .int .i64 p.first, .slice Ar p.roads.length cr] 38)))
  case atStart => exact ⟨0, Nat.zero_le _, by omega, rfl, Lib.hid (fun j hj => absurd hj (Nat.not_lt_zero _)), Lib.hid rfl⟩
  case round =>
    obtain ⟨k, hk, hgg, rfl, HAL, HW⟩ := hrel
    obtain rfl := HW.out.symm
    by_cases hlt : k < p.roads.length
    · obtain ⟨b, off, Ah, ch, rfl, hb, hh, c0, c1, c2, c3, c4, c5, c6, c7⟩ := Rd.way HR.out k _ (getD_w hlt)
      have hhl := (RdR.len hh).2
      replace c7 := ((below_al (below_rf w) (.cells #[.int .i64 p.cars, .int .i64 p.first, .slice (some ⟨b, off, none⟩) p.roads.length cr] 38)).cell (p := ⟨b, off + k * 8 + 7, none⟩) hb).trans c7
      have HFL : Hid (smallAt p k = false → R = false) := Lib.hid (fun h => by rw [← HRR.out]; exact all_range_false hlt h)
      have HTR := Lib.hid (fun h : smallAt p k = true => (fun j hj => by
        by_cases e : j = k
        · subst e; exact h
        · exact HAL.out j (by omega) : ∀ j, j < k + 1 → smallAt p j = true))
      have HAT : Hid (smallAt p k = !(decide (12 < ((p.roads.getD k zw).hrs.length : Int)) || (decide (2 < (k : Int)) && decide (3 < ((p.roads.getD k zw).hrs.length : Int))))) := Lib.hid rfl
      clear c0 c1 c2 c3 c4 c5 c6 hh HAL
      generalize (p.roads.getD k zw).hrs.length = h at *
      cases q1 : decide (12 < (h : Int))
      case true =>
        have hf : R = false := HFL.out (by rw [HAT.out, q1]; rfl)
        subst hf
        go_wp2
        go_ret
        exact ⟨rfl, below_al (below_rf w) _⟩
      cases q2 : decide (2 < (k : Int))
      case false =>
        have HT2 := Lib.hid (HTR.out (by rw [HAT.out, q1, q2]; rfl))
        go_wp2
        go_roundg (p.roads.length - (k + 1))
        case measure => omega
        case rel => exact ⟨k + 1, by omega, by omega, by go_num, HT2, Lib.hid rfl⟩
      cases q3 : decide (3 < (h : Int))
      case true =>
        have hf : R = false := HFL.out (by rw [HAT.out, q1, q2, q3]; rfl)
        subst hf
        go_wp2
        go_ret
        exact ⟨rfl, below_al (below_rf w) _⟩
      case false =>
        have HT2 := Lib.hid (HTR.out (by rw [HAT.out, q1, q2, q3]; rfl))
        go_wp2
        go_roundg (p.roads.length - (k + 1))
        case measure => omega
        case rel => exact ⟨k + 1, by omega, by omega, by go_num, HT2, Lib.hid rfl⟩
    · obtain rfl : k = p.roads.length := by omega
      have hf : R = true := by
        rw [← HRR.out, List.all_eq_true]
        intro j hj
        exact HAL.out j (List.mem_range.1 hj)
      subst hf
      go_wp2
      go_ret
      exact ⟨rfl, below_al (below_rf w) _⟩

/-! ### times, span -/
def timesB (l : List Int) (n : Int) : Bool := l.all (fun x => inB x 0 1000000000) && ((l.length : Int) == n)

set_option maxRecDepth 100000 in
set_option maxHeartbeats 4000000 in
theorem times68 (A : Option Addr) (c : Nat) (l : List Int) (n : Int) (w : World) (hr : RdI w (.slice A l.length c) l) :
    Calls Try.prog 68 #[.slice A l.length c, .int .i64 n] w fun e w' => e = .returned (.bool (timesB l n)) ∧ w' = w := by
  have hll := (RdR.len hr).2
  have HR := Lib.hid hr
  unfold timesB
  clear hr
  obtain ⟨R, hRR⟩ : ∃ R, l.all (fun x => inB x 0 1000000000) = R := ⟨_, rfl⟩
  rw [hRR]
  have HRR := Lib.hid hRR
  clear hRR
  go_enter Try.func68, Try.ntmps68
  go_wp2_with fail
  go_loopg [5] l.length (fun gg s5 wr => ∃ k : Nat, k ≤ l.length ∧ l.length - k ≤ gg ∧ s5 = .int .i64 k ∧ Hid (∀ j x, j < k → l[j]? = some x → inB x 0 1000000000 = true) ∧ Hid (wr = w))
  case atStart => exact ⟨0, Nat.zero_le _, by omega, rfl, Lib.hid (fun j x hj => absurd hj (Nat.not_lt_zero _)), Lib.hid rfl⟩
  case round =>
    obtain ⟨k, hk, hgg, rfl, HAL, HW⟩ := hrel
    obtain rfl := HW.out.symm
    by_cases hlt : k < l.length
    · have hx := getD_get hlt
      obtain ⟨b, off, rfl, hb, c0⟩ := Rd.i HR.out k _ hx
      have HX := Lib.hid hx
      clear hx
      generalize l.getD k 0 = x at *
      cases q1 : inB x 0 1000000000
      · have hf : R = false := by
          rw [← HRR.out, List.all_eq_false]
          exact ⟨x, List.mem_of_getElem? HX.out, by simp [q1]⟩
        subst hf
        go_wp2_with (go_at_call 63; refine (in63 _ _ _ _).mono ?_; rintro e w' ⟨rfl, rfl⟩)
        go_ret
        exact ⟨rfl, rfl⟩
      · have HT2 := Lib.hid (fun j y hj hy => by
          by_cases e : j = k
          · subst e
            rw [HX.out] at hy
            injection hy with hy
            subst hy
            exact q1
          · exact HAL.out j y (by omega) hy : ∀ j y, j < k + 1 → l[j]? = some y → inB y 0 1000000000 = true)
        go_wp2_with (go_at_call 63; refine (in63 _ _ _ _).mono ?_; rintro e w' ⟨rfl, rfl⟩)
        go_roundg (l.length - (k + 1))
        case measure => omega
        case rel => exact ⟨k + 1, by omega, by omega, by go_num, HT2, Lib.hid rfl⟩
    · obtain rfl : k = l.length := by omega
      have hf : R = true := by
        rw [← HRR.out, List.all_eq_true]
        intro x hx
        obtain ⟨j, hj, rfl⟩ := List.getElem_of_mem hx
        exact HAL.out j _ hj (List.getElem?_eq_getElem hj)
      subst hf
      cases q : ((l.length : Int) == n)
      all_goals
        go_wp2
        go_ret
        exact ⟨rfl, rfl⟩

def spanOf (p : PlanT) (x : WayT) : Int := (p.cars - 1) * x.gap
set_option maxHeartbeats 1000000 in
theorem span69 (p : PlanT) (hP : PBd p) (Ar : Option Addr) (cr : Nat) (w : World) (hR : RdW w (.slice Ar p.roads.length cr) p.roads) (j : Nat) (x : WayT) (hx : p.roads[j]? = some x) :
    Calls Try.prog 69 #[.agg #[.int .i64 p.cars, .int .i64 p.first, .slice Ar p.roads.length cr], .int .i64 j] w fun e w' => e = .returned (.int .i64 (spanOf p x)) ∧ Below w.heap.size w w' := by
  have hb := hP.road x (List.mem_of_getElem? hx)
  have hsp := hP.span hb
  obtain ⟨⟨a1, a2⟩, ⟨a3, a4⟩, ⟨a5, a6⟩, ⟨a7, a8⟩, _, _, _⟩ := hb
  obtain ⟨c1, c2⟩ := hP.cars
  obtain ⟨s1, s2⟩ := hsp
  have hj := (List.getElem?_eq_some_iff.1 hx).1
  obtain ⟨b, off, Ah, ch, rfl, hb, hh, d0, d1, d2, d3, d4, d5, d6, d7⟩ := Rd.way hR j _ hx
  have hlen := hP.len
  have hll := (RdR.len hR).2
  unfold spanOf
  obtain ⟨cars, first, roads⟩ := p
  simp only at *
  clear hR hx hP hh
  go_enter Try.func69, Try.ntmps69
  go_wp2_with fail
  go_quiet (fail)
  go_wp2
  go_ret
  exact ⟨rfl, below_drewN (below_al (below_rf w) _) _⟩

/-! ### the reference's Plan -/
theorem okHr_false {h : T3} (q : inB h.a 0 h.b = false ∨ 200000 < h.b ∨ inB h.c 0 200000 = false) : okHr h = false := by
  unfold okHr
  rcases q with q | q | q
  · simp [inB] at q
    by_cases e : h.a < 0
    · rw [decide_eq_true e]; rfl
    · rw [decide_eq_false e, decide_eq_true (show h.b < h.a by omega)]; rfl
  · rw [decide_eq_true q]; simp
  · rw [q]; simp
theorem okHr_true {h : T3} (q1 : inB h.a 0 h.b = true) (q2 : ¬ 200000 < h.b) (q3 : inB h.c 0 200000 = true) : okHr h = true := by
  unfold okHr
  simp [inB] at q1
  rw [decide_eq_false (show ¬ h.a < 0 by omega), decide_eq_false (show ¬ h.b < h.a by omega), decide_eq_false q2, q3]
  rfl

set_option maxRecDepth 100000 in
set_option maxHeartbeats 16000000 in
theorem plan27 (p : PlanT) (Ar : Option Addr) (cr : Nat) (w : World) (hR : RdW w (.slice Ar p.roads.length cr) p.roads) :
    Calls Try.prog 27 #[.agg #[.int .i64 p.cars, .int .i64 p.first, .slice Ar p.roads.length cr]] w fun e w' => e = .returned (.bool (okPlan p)) ∧ Below w.heap.size w w' := by
  have hll := (RdR.len hR).2
  have HR := Lib.hid hR
  unfold okPlan
  clear hR
  have HB0 := Lib.hid (below_al (below_rf w) (.cells #[.int .i64 p.cars, .int .i64 p.first, .slice Ar p.roads.length cr] 38))
  cases h1 : inB p.cars 1 200
  · go_enter Try.func27, Try.ntmps27
    go_wp2_with (go_at_call 63; refine (in63 _ _ _ _).mono ?_; rintro e w' ⟨rfl, rfl⟩)
    go_ret
    exact ⟨rfl, HB0.out⟩
  cases h2 : inB (p.roads.length : Int) 1 60
  · go_enter Try.func27, Try.ntmps27
    go_wp2_with (go_at_call 63; refine (in63 _ _ _ _).mono ?_; rintro e w' ⟨rfl, rfl⟩)
    go_ret
    exact ⟨rfl, HB0.out⟩
  cases h3 : inB p.first 0 100000
  · go_enter Try.func27, Try.ntmps27
    go_wp2_with (go_at_call 63; refine (in63 _ _ _ _).mono ?_; rintro e w' ⟨rfl, rfl⟩)
    go_ret
    exact ⟨rfl, HB0.out⟩
  obtain ⟨R, hRR⟩ : ∃ R, (List.range p.roads.length).all (okAt p.roads) = R := ⟨_, rfl⟩
  rw [hRR]
  have HRR := Lib.hid hRR
  clear hRR
  have hl60 : 1 ≤ p.roads.length ∧ p.roads.length ≤ 60 := by simp [inB] at h2; omega
  obtain ⟨hl1, hl2⟩ := hl60
  go_enter Try.func27, Try.ntmps27
  go_wp2_with (go_at_call 63; refine (in63 _ _ _ _).mono ?_; rintro e w' ⟨rfl, rfl⟩)
  clear h1 h2 h3
  go_loopg [3] p.roads.length (fun gg s3 wr => ∃ k : Nat, k ≤ p.roads.length ∧ p.roads.length - k ≤ gg ∧ s3 = .int .i64 k ∧ Hid (∀ j, j < k → okAt p.roads j = true) ∧ Hid (Below (w.alloc (.cells #[.int .i64 p.cars, .int .i64 p.first, .slice Ar p.roads.length cr] 38)).heap.size (w.alloc (.cells #[.int .i64 p.cars, .int .i64 p.first, .slice Ar p.roads.length cr] 38)) wr))
  case atStart => exact ⟨0, Nat.zero_le _, by omega, rfl, Lib.hid (fun j hj => absurd hj (Nat.not_lt_zero _)), Lib.hid (Below.refl _ _)⟩
  case round =>
    obtain ⟨wo, rfl⟩ : ∃ wo : World, wo = wr := ⟨_, rfl⟩
    obtain ⟨k, hk, hgg, rfl, HAL, HW⟩ := hrel
    have hbw := below_then HB0.out HB0.out.size HW.out
    have HBW := Lib.hid hbw
    have hs0 := HW.out.size
    rw [World.size_alloc] at hs0
    have p2 := cell_of_blk (blk_below (blk_new w (.cells #[.int .i64 p.cars, .int .i64 p.first, .slice Ar p.roads.length cr] 38)) HW.out) 2
    simp only [List.getElem?_toArray, List.getElem?_cons_succ, List.getElem?_cons_zero] at p2
    clear hbw
    by_cases hlt : k < p.roads.length
    · obtain ⟨b, off, Ah, ch, rfl, hb, hh, c0, c1, c2, c3, c4, c5, c6, c7⟩ := Rd.way (RdW.below HR.out HBW.out) k _ (getD_w hlt)
      have hhl := (RdR.len hh).2
      have HH := Lib.hid hh
      have HFL : Hid (okAt p.roads k = false → R = false) := Lib.hid (fun h => by rw [← HRR.out]; exact all_range_false hlt h)
      have HTR := Lib.hid (fun h : okAt p.roads k = true => (fun j hj => by
        by_cases e : j = k
        · subst e; exact h
        · exact HAL.out j (by omega) : ∀ j, j < k + 1 → okAt p.roads j = true))
      have HAT : Hid (okAt p.roads k = okWay (p.roads.getD k zw) (befG p.roads k)) := Lib.hid rfl
      -- the road before
      have HPV : Hid (1 ≤ k → befG p.roads k = some (p.roads.getD (k - 1) zw).gap ∧ wo.cell? ⟨b, off + (k - 1) * 8 + 3, none⟩ = some (.int .i64 (p.roads.getD (k - 1) zw).gap)) := Lib.hid (fun h1 => by
        obtain ⟨b', off', _, _, e', _, _, _, _, _, d3, _⟩ := Rd.way (RdW.below HR.out HBW.out) (k - 1) _ (getD_w (show k - 1 < p.roads.length by omega))
        injection e' with e'
        injection e' with e1 e2
        subst e1 e2
        refine ⟨?_, d3⟩
        obtain ⟨q, rfl⟩ : ∃ q, k = q + 1 := ⟨k - 1, by omega⟩
        rfl)
      have HB00 : Hid (k = 0 → befG p.roads k = none) := Lib.hid (fun e => by subst e; rfl)
      clear hh HAL
      obtain ⟨bg, hbg⟩ : ∃ bg, befG p.roads k = bg := ⟨_, rfl⟩
      rw [hbg] at HAT HPV HB00
      clear hbg
      generalize p.roads.getD k zw = x at *
      obtain ⟨tar, lead, lag, gap, grp, wait, most, hrs⟩ := x
      simp only at *
      have hall := below_al HBW.out (.cells #[.int .i64 tar, .int .i64 lead, .int .i64 lag, .int .i64 gap, .bool grp, .int .i64 wait, .int .i64 most, .slice Ah hrs.length ch] 41)
      have HALL := Lib.hid hall
      clear hall
      cases q1 : inB tar 1 1000
      case false =>
        have hf : R = false := HFL.out (by rw [HAT.out]; unfold okWay; simp [q1])
        subst hf
        go_wp2_with (go_at_call 63; refine (in63 _ _ _ _).mono ?_; rintro e w' ⟨rfl, rfl⟩)
        go_ret
        exact ⟨rfl, HALL.out⟩
      cases q2 : inB lead 0 600
      case false =>
        have hf : R = false := HFL.out (by rw [HAT.out]; unfold okWay; simp [q1, q2])
        subst hf
        go_wp2_with (go_at_call 63; refine (in63 _ _ _ _).mono ?_; rintro e w' ⟨rfl, rfl⟩)
        go_ret
        exact ⟨rfl, HALL.out⟩
      cases q3 : inB lag 0 600
      case false =>
        have hf : R = false := HFL.out (by rw [HAT.out]; unfold okWay; simp [q1, q2, q3])
        subst hf
        go_wp2_with (go_at_call 63; refine (in63 _ _ _ _).mono ?_; rintro e w' ⟨rfl, rfl⟩)
        go_ret
        exact ⟨rfl, HALL.out⟩
      cases q4 : inB gap 1 60
      case false =>
        have hf : R = false := HFL.out (by rw [HAT.out]; unfold okWay; simp [q1, q2, q3, q4])
        subst hf
        go_wp2_with (go_at_call 63; refine (in63 _ _ _ _).mono ?_; rintro e w' ⟨rfl, rfl⟩)
        go_ret
        exact ⟨rfl, HALL.out⟩
      cases q5 : decide (10 < (hrs.length : Int))
      case true =>
        have hf : R = false := HFL.out (by rw [HAT.out]; unfold okWay; simp only; rw [q5]; simp)
        subst hf
        go_wp2_with (go_at_call 63; refine (in63 _ _ _ _).mono ?_; rintro e w' ⟨rfl, rfl⟩)
        go_ret
        exact ⟨rfl, HALL.out⟩
      cases q6 : inB wait 0 most
      case false =>
        have hf : R = false := HFL.out (by
          rw [HAT.out]; unfold okWay; simp only
          have : inB wait 0 1000 = false ∨ inB most wait 1000 = false := by simp [inB] at q6 ⊢; omega
          rcases this with h | h <;> rw [h] <;> simp)
        subst hf
        go_wp2_with (go_at_call 63; refine (in63 _ _ _ _).mono ?_; rintro e w' ⟨rfl, rfl⟩)
        go_ret
        exact ⟨rfl, HALL.out⟩
      cases q7 : decide (1000 < most)
      case true =>
        have hf : R = false := HFL.out (by
          rw [HAT.out]; unfold okWay; simp only
          have : inB most wait 1000 = false := by have := of_decide_eq_true q7; simp [inB]; omega
          rw [this]; simp)
        subst hf
        go_wp2_with (go_at_call 63; refine (in63 _ _ _ _).mono ?_; rintro e w' ⟨rfl, rfl⟩)
        go_ret
        exact ⟨rfl, HALL.out⟩
      have HAT2 : Hid (okAt p.roads k = (midB ⟨tar, lead, lag, gap, grp, wait, most, hrs⟩ bg && hrs.all okHr)) := Lib.hid (by
        rw [HAT.out]; unfold okWay; simp only
        have h1 : inB wait 0 1000 = true := by have := of_decide_eq_false q7; simp [inB] at q6 ⊢; omega
        have h2 : inB most wait 1000 = true := by have := of_decide_eq_false q7; simp [inB] at q6 ⊢; omega
        rw [q1, q2, q3, q4, q5, h1, h2]; rfl)
      clear HAT
      obtain ⟨M, hM⟩ : ∃ M, midB ⟨tar, lead, lag, gap, grp, wait, most, hrs⟩ bg = M := ⟨_, rfl⟩
      rw [hM] at HAT2
      have HM := Lib.hid hM
      clear hM
      go_wp2_with (go_at_call 63; refine (in63 _ _ _ _).mono ?_; rintro e w' ⟨rfl, rfl⟩)
      go_cut [113] (fun s113 wz => s113 = .bool (!M) ∧ Hid (∃ nq, wz = (wo.alloc (.cells #[.int .i64 tar, .int .i64 lead, .int .i64 lag, .int .i64 gap, .bool grp, .int .i64 wait, .int .i64 most, .slice Ah hrs.length ch] 41)).drewN nq))
      case first =>
        have HMB : Hid (∀ B, midB ⟨tar, lead, lag, gap, grp, wait, most, hrs⟩ bg = B → M = B) := Lib.hid (fun B h => by rw [← HM.out, h])
        by_cases hk0 : k = 0
        · have hbg := HB00.out hk0
          subst hk0 hbg
          cases grp
          · cases e1 : (wait != 0)
            · cases e2 : (most != 0)
              · have hm : M = true := HMB.out _ (by simp [midB] at e1 e2 ⊢; exact ⟨e1, e2⟩)
                subst hm
                go_quiet (fail)
                go_wp2_with fail
                go_meet
                exact ⟨rfl, Lib.hid ⟨_, rfl⟩⟩
              · have hm : M = false := HMB.out _ (by simp [midB] at e1 e2 ⊢; exact fun _ => e2)
                subst hm
                go_quiet (fail)
                go_wp2_with fail
                go_meet
                exact ⟨rfl, Lib.hid ⟨_, rfl⟩⟩
            · have hm : M = false := HMB.out _ (by simp [midB] at e1 ⊢; exact fun h => absurd h e1)
              subst hm
              go_quiet (fail)
              go_wp2_with fail
              go_meet
              exact ⟨rfl, Lib.hid ⟨_, rfl⟩⟩
          · have hm : M = false := HMB.out _ rfl
            subst hm
            go_quiet (fail)
            go_wp2_with fail
            go_meet
            exact ⟨rfl, Lib.hid ⟨_, rfl⟩⟩
        · obtain ⟨q, rfl⟩ : ∃ q, k = q + 1 := ⟨k - 1, by omega⟩
          obtain ⟨hbg, hpc⟩ := HPV.out (by omega)
          simp only [Nat.add_sub_cancel] at hbg hpc
          have ek : (((q + 1 : Nat) : Int) == 0) = false := by rw [beq_eq_false_iff_ne]; omega
          have ek2 : (((q : Nat) : Int) + 1 == 0) = false := by rw [beq_eq_false_iff_ne]; omega
          generalize (p.roads.getD q zw).gap = g at *
          subst hbg
          have hp2 := (below_al (below_rf wo) (.cells #[.int .i64 tar, .int .i64 lead, .int .i64 lag, .int .i64 gap, .bool grp, .int .i64 wait, .int .i64 most, .slice Ah hrs.length ch] 41)).cell (p := ⟨w.heap.size, 2, none⟩) (by show w.heap.size < wo.heap.size; omega) |>.trans p2
          have hpc2 := (below_al (below_rf wo) (.cells #[.int .i64 tar, .int .i64 lead, .int .i64 lag, .int .i64 gap, .bool grp, .int .i64 wait, .int .i64 most, .slice Ah hrs.length ch] 41)).cell (p := ⟨b, off + q * 8 + 3, none⟩) hb |>.trans hpc
          cases grp
          · cases e1 : (wait != 0)
            · cases e2 : (most != 0)
              · cases e3 : (gap != g)
                · have hm : M = true := HMB.out _ (by simp [midB] at e1 e2 e3 ⊢; exact ⟨e1, e2, e3⟩)
                  subst hm
                  go_quiet (fail)
                  go_wp2_with fail
                  go_meet
                  exact ⟨rfl, Lib.hid ⟨_, rfl⟩⟩
                · have hm : M = false := HMB.out _ (by simp [midB] at e1 e2 e3 ⊢; exact fun _ _ => e3)
                  subst hm
                  go_quiet (fail)
                  go_wp2_with fail
                  go_meet
                  exact ⟨rfl, Lib.hid ⟨_, rfl⟩⟩
              · have hm : M = false := HMB.out _ (by simp [midB] at e1 e2 ⊢; exact fun _ h => absurd h e2)
                subst hm
                go_quiet (fail)
                go_wp2_with fail
                go_meet
                exact ⟨rfl, Lib.hid ⟨_, rfl⟩⟩
            · have hm : M = false := HMB.out _ (by simp [midB] at e1 ⊢; exact fun h => absurd h e1)
              subst hm
              go_quiet (fail)
              go_wp2_with fail
              go_meet
              exact ⟨rfl, Lib.hid ⟨_, rfl⟩⟩
          · have hm : M = true := HMB.out _ rfl
            subst hm
            go_quiet (fail)
            go_wp2_with fail
            go_meet
            exact ⟨rfl, Lib.hid ⟨_, rfl⟩⟩
      case rest =>
        obtain ⟨rfl, HWC⟩ := hcut
        have hbc : Below w.heap.size w wc ∧ wo.heap.size + 1 ≤ wc.heap.size ∧ wc.heap[wo.heap.size]? = some (.cells #[.int .i64 tar, .int .i64 lead, .int .i64 lag, .int .i64 gap, .bool grp, .int .i64 wait, .int .i64 most, .slice Ah hrs.length ch] 41 (0, 0)) ∧ Below (w.alloc (.cells #[.int .i64 p.cars, .int .i64 p.first, .slice (some ⟨b, off, none⟩) p.roads.length cr] 38)).heap.size (w.alloc (.cells #[.int .i64 p.cars, .int .i64 p.first, .slice (some ⟨b, off, none⟩) p.roads.length cr] 38)) wc ∧ RdT wc (.slice Ah hrs.length ch) hrs := by
          obtain ⟨nq, e⟩ := HWC.out
          rw [e]
          exact ⟨below_drewN HALL.out _, by simp [World.drewN], blk_new wo _, below_drewN (below_al HW.out _) _, Rd.below HH.out (below_drewN (below_al (below_rf wo) _) nq)⟩
        obtain ⟨k1, k2, k3, k4, k5⟩ := hbc
        have HK1 := Lib.hid k1
        have HK3 := Lib.hid k3
        have HK4 := Lib.hid k4
        have HK5 := Lib.hid k5
        clear k1 k3 k4 k5 HWC HALL HPV HB00 HM c0 c1 c2 c3 c4 c5 c6 c7
        cases M
        · have hf : R = false := HFL.out (by rw [HAT2.out]; rfl)
          subst hf
          go_wp2
          go_ret
          exact ⟨rfl, HK1.out⟩
        obtain ⟨ho, hho⟩ : ∃ ho, hrs.all okHr = ho := ⟨_, rfl⟩
        rw [hho] at HAT2
        have HHO := Lib.hid hho
        clear hho
        go_wp2_with fail
        go_loopg [5] hrs.length (fun gg s5 wr => ∃ i : Nat, i ≤ hrs.length ∧ hrs.length - i ≤ gg ∧ s5 = .int .i64 i ∧ Hid (∀ j h, j < i → hrs[j]? = some h → okHr h = true) ∧ Hid (Below wc.heap.size wc wr))
        case atStart => exact ⟨0, Nat.zero_le _, by omega, rfl, Lib.hid (fun j h hj => absurd hj (Nat.not_lt_zero _)), Lib.hid (Below.refl _ _)⟩
        case round =>
          obtain ⟨i, hi, hg2, rfl, HHA, HW2⟩ := hrel
          have b7 := cell_of_blk (blk_below HK3.out HW2.out) 7
          simp only [List.getElem?_toArray, List.getElem?_cons_succ, List.getElem?_cons_zero] at b7
          have hs2 := HW2.out.size
          have hbx := below_then HK1.out HK1.out.size HW2.out
          have HBX := Lib.hid (below_al hbx (.cells #[.int .i64 (hrs.getD i z3).a, .int .i64 (hrs.getD i z3).b, .int .i64 (hrs.getD i z3).c] 43))
          have HBX0 := Lib.hid hbx
          clear hbx
          by_cases hlt2 : i < hrs.length
          · have hx := getD_t3 hlt2
            obtain ⟨bh, oh, rfl, hbh, l0, l1, l2⟩ := Rd.t3 HK5.out i _ hx
            replace l0 := (HW2.out.cell (p := ⟨bh, oh + i * 3, none⟩) hbh).trans l0
            replace l1 := (HW2.out.cell (p := ⟨bh, oh + i * 3 + 1, none⟩) hbh).trans l1
            replace l2 := (HW2.out.cell (p := ⟨bh, oh + i * 3 + 2, none⟩) hbh).trans l2
            have hbh2 := Nat.lt_of_lt_of_le hbh HW2.out.size
            have HX := Lib.hid hx
            clear hx
            generalize hrs.getD i z3 = y at *
            have HBD : Hid (okHr y = false → R = false) := Lib.hid (fun h => HFL.out (by
              rw [HAT2.out, ← HHO.out]
              have : hrs.all okHr = false := by
                rw [List.all_eq_false]
                exact ⟨y, List.mem_of_getElem? HX.out, by simp [h]⟩
              rw [this]; rfl))
            cases r1 : inB y.a 0 y.b
            · have hf : R = false := HBD.out (okHr_false (.inl r1))
              subst hf
              go_wp2_with (go_at_call 63; refine (in63 _ _ _ _).mono ?_; rintro e w' ⟨rfl, rfl⟩)
              go_ret
              exact ⟨rfl, HBX.out⟩
            cases r2 : decide (200000 < y.b)
            case true =>
              have hf : R = false := HBD.out (okHr_false (.inr (.inl (of_decide_eq_true r2))))
              subst hf
              go_wp2_with (go_at_call 63; refine (in63 _ _ _ _).mono ?_; rintro e w' ⟨rfl, rfl⟩)
              go_ret
              exact ⟨rfl, HBX.out⟩
            cases r3 : inB y.c 0 200000
            · have hf : R = false := HBD.out (okHr_false (.inr (.inr r3)))
              subst hf
              go_wp2_with (go_at_call 63; refine (in63 _ _ _ _).mono ?_; rintro e w' ⟨rfl, rfl⟩)
              go_ret
              exact ⟨rfl, HBX.out⟩
            have hok := okHr_true r1 (of_decide_eq_false r2) r3
            have HT3 := Lib.hid (fun j h hj hh => by
              by_cases e : j = i
              · subst e
                rw [HX.out] at hh
                injection hh with hh
                subst hh
                exact hok
              · exact HHA.out j h (by omega) hh : ∀ j h, j < i + 1 → hrs[j]? = some h → okHr h = true)
            clear hok
            go_wp2_with (go_at_call 63; refine (in63 _ _ _ _).mono ?_; rintro e w' ⟨rfl, rfl⟩)
            go_roundg (hrs.length - (i + 1))
            case measure => omega
            case rel => exact ⟨i + 1, by omega, by omega, by go_num, HT3, Lib.hid (below_then HW2.out HW2.out.size (below_al (below_rf wr) _))⟩
          · obtain rfl : i = hrs.length := by omega
            have hh1 : ho = true := by
              rw [← HHO.out, List.all_eq_true]
              intro h hh
              obtain ⟨j, hj, rfl⟩ := List.getElem_of_mem hh
              exact HHA.out j _ hj (List.getElem?_eq_getElem hj)
            have HT4 := Lib.hid (HTR.out (by rw [HAT2.out, hh1]; rfl))
            go_wp2_with fail
            go_roundg (p.roads.length - (k + 1))
            case measure => omega
            case rel => exact ⟨k + 1, by omega, by omega, by go_num, HT4, Lib.hid (below_then HK4.out HK4.out.size HW2.out)⟩
    · obtain rfl : k = p.roads.length := by omega
      have hf : R = true := by
        rw [← HRR.out, List.all_eq_true]
        intro j hj
        exact HAL.out j (List.mem_range.1 hj)
      subst hf
      go_wp2
      go_ret
      exact ⟨rfl, HBW.out⟩
end Go.Proofs.Ytpknonebnipcgaa.Fa
