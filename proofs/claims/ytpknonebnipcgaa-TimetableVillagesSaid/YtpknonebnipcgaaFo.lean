import Derived.Test.YtpknonebnipcgaaProg
import Derived.WalkKit
import Derived.KernelRfl
import Derived.Deep.LoopGhost
import Derived.Deep.QuietTactic
import Derived.BigQuiet
import Derived.Deep.DeepCutAuto
import Derived.Deep.CutBlock
import Derived.Deep.RegionHeld3
import Derived.WalkLawsBesides
import Derived.WalkSpells
import Derived.Outline
import Derived.Deep.DeepFit
import Derived.Lib.Hide
import Derived.Shelf.Abstract
import Derived.Test.YtpknonebnipcgaaPm

namespace Go.Proofs.Ytpknonebnipcgaa.Fo
open Go.RowKit Go.Shelf Go.Proofs.Ytpknonebnipcgaa.V Go.Proofs.Ytpknonebnipcgaa.A Go.Proofs.Ytpknonebnipcgaa.B Go.Proofs.Ytpknonebnipcgaa.C Go.Proofs.Ytpknonebnipcgaa.P Go.Proofs.Ytpknonebnipcgaa.D Go.Proofs.Ytpknonebnipcgaa.E Go.Proofs.Ytpknonebnipcgaa.G Go.Proofs.Ytpknonebnipcgaa.H Go.Proofs.Ytpknonebnipcgaa.I Go.Proofs.Ytpknonebnipcgaa.J Go.Proofs.Ytpknonebnipcgaa.K Go.Proofs.Ytpknonebnipcgaa.L Go.Proofs.Ytpknonebnipcgaa.M Go.Proofs.Ytpknonebnipcgaa.N Go.Proofs.Ytpknonebnipcgaa.O Go.Proofs.Ytpknonebnipcgaa.Sp Go.Proofs.Ytpknonebnipcgaa.Nd Go.Proofs.Ytpknonebnipcgaa.T Go.Proofs.Ytpknonebnipcgaa.Tg Go.Proofs.Ytpknonebnipcgaa.Fa Go.Proofs.Ytpknonebnipcgaa.Fb Go.Proofs.Ytpknonebnipcgaa.Pm
set_option linter.unusedVariables false
set_option linter.unusedSimpArgs false

/-- what it is to keep a plan, number by number -/
structure FitsP (p : PlanT) (t : TabT) : Prop where
  l0 : t.dues.length = p.roads.length + 1
  l1 : t.closed.length = p.roads.length
  l2 : t.opened.length = p.roads.length
  l3 : t.choice.length = p.roads.length
  b0 : ∀ j, j < p.roads.length + 1 → 0 ≤ t.dues.getD j 0 ∧ t.dues.getD j 0 ≤ 1000000000
  b1 : ∀ j, j < p.roads.length → 0 ≤ t.closed.getD j 0 ∧ t.closed.getD j 0 ≤ 1000000000
  b2 : ∀ j, j < p.roads.length → 0 ≤ t.opened.getD j 0 ∧ t.opened.getD j 0 ≤ 1000000000
  first : p.first ≤ t.dues.getD 0 0
  step : ∀ j, j < p.roads.length → if j + 1 < p.roads.length ∧ (p.roads.getD (j + 1) zw).grp = true then
      t.dues.getD j 0 + (p.roads.getD j zw).tar + spanOf p (p.roads.getD j zw) + (p.roads.getD (j + 1) zw).wait ≤ t.dues.getD (j + 1) 0 ∧ t.dues.getD (j + 1) 0 ≤ t.dues.getD j 0 + (p.roads.getD j zw).tar + spanOf p (p.roads.getD j zw) + (p.roads.getD (j + 1) zw).most
    else t.dues.getD (j + 1) 0 = t.dues.getD j 0 + (p.roads.getD j zw).tar
  road : ∀ j, j < p.roads.length → t.closed.getD j 0 ≤ t.dues.getD j 0 - (p.roads.getD j zw).lead ∧ t.dues.getD j 0 + spanOf p (p.roads.getD j zw) + (p.roads.getD j zw).tar + (p.roads.getD j zw).lag ≤ t.opened.getD j 0
  none : ∀ j, j < p.roads.length → (p.roads.getD j zw).hrs.length = 0 → t.choice.getD j 0 = -1
  some : ∀ j, j < p.roads.length → (p.roads.getD j zw).hrs.length ≠ 0 → 0 ≤ t.choice.getD j 0 ∧ t.choice.getD j 0 < (p.roads.getD j zw).hrs.length ∧
    ((p.roads.getD j zw).hrs.getD (t.choice.getD j 0).toNat z3).a ≤ t.closed.getD j 0 ∧ t.opened.getD j 0 ≤ ((p.roads.getD j zw).hrs.getD (t.choice.getD j 0).toNat z3).b ∧ t.opened.getD j 0 - t.closed.getD j 0 ≤ ((p.roads.getD j zw).hrs.getD (t.choice.getD j 0).toNat z3).c

theorem getD_mem' {xs : List Int} {j : Nat} (h : j < xs.length) : xs.getD j 0 ∈ xs := by
  rw [List.getD_eq_getElem?_getD, List.getElem?_eq_getElem h]
  exact List.getElem_mem h

theorem fits_out {p : PlanT} {t : TabT} (h : fitsB p t = true) : FitsP p t := by
  unfold fitsB at h
  simp only [Bool.and_eq_true] at h
  obtain ⟨hh, hs, hr⟩ := h
  unfold headB at hh
  simp only [Bool.and_eq_true, Bool.not_eq_true', decide_eq_false_iff_not, beq_iff_eq] at hh
  obtain ⟨h0, h1, h2, h3, h4⟩ := hh
  obtain ⟨e0, d0⟩ := timesB_out h0
  obtain ⟨e1, d1⟩ := timesB_out h1
  obtain ⟨e2, d2⟩ := timesB_out h2
  rw [List.all_eq_true] at hs hr
  have road : ∀ j, j < p.roads.length → roadB p t j = true := fun j hj => hr j (List.mem_range.2 hj)
  refine ⟨by omega, by omega, by omega, by omega, fun j hj => d0 _ (getD_mem' (by omega)), fun j hj => d1 _ (getD_mem' (by omega)), fun j hj => d2 _ (getD_mem' (by omega)), by omega, fun j hj => ?_, fun j hj => ?_, fun j hj hz => ?_, fun j hj hz => ?_⟩
  · have := hs j (List.mem_range.2 hj)
    unfold stepB at this
    by_cases hg : j + 1 < p.roads.length ∧ (p.roads.getD (j + 1) zw).grp = true
    · rw [if_pos hg] at this ⊢
      simpa [inB] using this
    · rw [if_neg hg] at this ⊢
      exact beq_iff_eq.1 this
  · have := road j hj
    unfold roadB at this
    simp only [Bool.and_eq_true, Bool.not_eq_true', Bool.or_eq_false_iff, decide_eq_false_iff_not] at this
    omega
  · have := road j hj
    unfold roadB at this
    rw [if_pos hz] at this
    simp only [Bool.and_eq_true, beq_iff_eq] at this
    exact this.2
  · have := road j hj
    unfold roadB at this
    rw [if_neg hz] at this
    unfold winB inB at this
    simp only [Bool.and_eq_true, Bool.not_eq_true', Bool.or_eq_false_iff, decide_eq_false_iff_not, decide_eq_true_eq] at this
    omega

theorem FitsP.okC {p : PlanT} {t : TabT} (h : FitsP p t) : okC p t.choice := by
  refine ⟨h.l3, fun j hj => ?_⟩
  unfold nw
  by_cases hz : (p.roads.getD j zw).hrs.length = 0
  · exact .inl ⟨hz, h.none j hj hz⟩
  · have := h.some j hj hz
    exact .inr ⟨this.1, this.2.1⟩

theorem FitsP.keeps {p : PlanT} {t : TabT} (h : FitsP p t) : Keeps (netK p t.choice) (0 :: t.dues) := by
  have g0 : gt (0 :: t.dues) 0 = 0 := rfl
  have g1 : gt (0 :: t.dues) 1 = t.dues.getD 0 0 := gt_succ (0 :: t.dues) 0
  have gs : ∀ v : Nat, gt (0 :: t.dues) ((v : Int) + 1) = t.dues.getD v 0 := fun v => by rw [gt_succ]; rfl
  have gs2 : ∀ v : Nat, gt (0 :: t.dues) ((v : Int) + 2) = t.dues.getD (v + 1) 0 := fun v => by rw [gt_succ2]; rfl
  have aft : ∀ j, j < p.roads.length → ∀ l ∈ lkAfter p j, gt (0 :: t.dues) l.a + l.c ≤ gt (0 :: t.dues) l.b := by
    intro j hj l hl
    have hs := h.step j hj
    unfold lkAfter at hl
    by_cases hg : j + 1 < p.roads.length ∧ (p.roads.getD (j + 1) zw).grp = true
    · rw [if_pos hg] at hs
      simp only [hg, and_self, if_true, List.mem_cons, List.not_mem_nil, or_false] at hl
      unfold spanOf at hs
      rcases hl with rfl | rfl
      · simp only; rw [gs, gs2]; omega
      · simp only; rw [gs, gs2]; omega
    · rw [if_neg hg] at hs
      simp only [if_neg hg, List.mem_cons, List.not_mem_nil, or_false] at hl
      rcases hl with rfl | rfl
      · simp only; rw [gs, gs2]; omega
      · simp only; rw [gs, gs2]; omega
  have clo : ∀ j, j < p.roads.length → ∀ l ∈ lkClosed p j (winT p t.choice j), gt (0 :: t.dues) l.a + l.c ≤ gt (0 :: t.dues) l.b := by
    intro j hj l hl
    have hr := h.road j hj
    have hb := h.b1 j hj
    unfold winT at hl
    by_cases hz : (p.roads.getD j zw).hrs.length = 0
    · have hc := h.none j hj hz
      rw [if_pos (by omega)] at hl
      simp only [lkClosed, List.mem_singleton] at hl
      subst hl
      simp only
      rw [gs, g0]
      omega
    · have hc := h.some j hj hz
      rw [if_neg (by omega), getD_t3 (by omega)] at hl
      simp only [lkClosed, List.mem_cons, List.not_mem_nil, or_false] at hl
      rcases hl with rfl | rfl
      · simp only; rw [gs, g0]; omega
      · simp only; rw [gs, g0]; rw [busy_span]; omega
  have lks : ∀ n, n ≤ p.roads.length → ∀ l ∈ lksK p t.choice n, gt (0 :: t.dues) l.a + l.c ≤ gt (0 :: t.dues) l.b := by
    intro n
    induction n with
    | zero =>
      intro _ l hl
      simp only [lksK, lkBegin, List.mem_singleton] at hl
      subst hl
      simp only
      rw [g0, g1]
      have := h.first
      omega
    | succ n ih =>
      intro hn l hl
      simp only [lksK, List.mem_append] at hl
      rcases hl with hl | hl | hl
      · exact ih (by omega) l hl
      · exact aft n (by omega) l hl
      · exact clo n (by omega) l hl
  intro l hl
  unfold netK at hl
  rcases List.mem_append.1 hl with hl | hl
  · exact lks _ (Nat.le_refl _) l hl
  · unfold adds at hl
    obtain ⟨v, hv, rfl⟩ := List.mem_map.1 hl
    have hv := List.mem_range.1 hv
    show gt (0 :: t.dues) 0 + 0 ≤ gt (0 :: t.dues) (v : Int)
    rw [g0]
    cases v with
    | zero => exact Int.le_refl _
    | succ v =>
      have := (h.b0 v (by omega)).1
      rw [show ((v + 1 : Nat) : Int) = (v : Int) + 1 from rfl, gs]
      omega

/-- no table that keeps the plan with the same choice has a less due -/
theorem least_le {p : PlanT} (hP : PBd p) (h8 : p.roads.length ≤ 8) {ch : List Int} (hk : mk p = .ok ch) {t : TabT} (h : FitsP p t) (hc : t.choice = ch) (j : Nat) (hj : j ≤ p.roads.length) : (tabOf p ch).dues.getD j 0 ≤ t.dues.getD j 0 := by
  obtain ⟨_, _, hle⟩ := dues_ok hP h8 (mk_ok hk).2
  have hks := h.keeps
  rw [hc] at hks
  have := hle _ hks (fun v hv => by
    cases v with
    | zero => exact Int.le_refl _
    | succ v => exact (h.b0 v (by omega)).1) (j + 1) (by omega)
  show ((dueSt p ch).ts.drop 1).getD j 0 ≤ _
  rw [drop_get]
  exact this
end Go.Proofs.Ytpknonebnipcgaa.Fo
