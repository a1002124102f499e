import Derived.Test.YtpknonebnipcgaaProg
import Derived.WalkKit
import Derived.KernelRfl
import Derived.Deep.LoopGhost
import Derived.Deep.QuietTactic
import Derived.BigQuiet
import Derived.Deep.DeepCutAuto
import Derived.Deep.CutBlock
import Derived.Deep.RegionHeld3
import Derived.WalkLawsBesides
import Derived.WalkSpells
import Derived.Outline
import Derived.Deep.DeepFit
import Derived.Lib.Hide
import Derived.Shelf.Abstract
import Derived.Test.YtpknonebnipcgaaTg
import Derived.Test.YtpknonebnipcgaaPr
import Derived.Test.YtpknonebnipcgaaFb

namespace Go.Proofs.Ytpknonebnipcgaa.Pm
open Go.RowKit Go.Shelf Go.Proofs.Ytpknonebnipcgaa.V Go.Proofs.Ytpknonebnipcgaa.A Go.Proofs.Ytpknonebnipcgaa.B Go.Proofs.Ytpknonebnipcgaa.C Go.Proofs.Ytpknonebnipcgaa.P Go.Proofs.Ytpknonebnipcgaa.D Go.Proofs.Ytpknonebnipcgaa.E Go.Proofs.Ytpknonebnipcgaa.G Go.Proofs.Ytpknonebnipcgaa.I Go.Proofs.Ytpknonebnipcgaa.J Go.Proofs.Ytpknonebnipcgaa.K Go.Proofs.Ytpknonebnipcgaa.L Go.Proofs.Ytpknonebnipcgaa.M Go.Proofs.Ytpknonebnipcgaa.N Go.Proofs.Ytpknonebnipcgaa.O Go.Proofs.Ytpknonebnipcgaa.S Go.Proofs.Ytpknonebnipcgaa.Sp Go.Proofs.Ytpknonebnipcgaa.Nd Go.Proofs.Ytpknonebnipcgaa.Tg Go.Proofs.Ytpknonebnipcgaa.Pr Go.Proofs.Ytpknonebnipcgaa.Fa Go.Proofs.Ytpknonebnipcgaa.Fb
set_option linter.unusedVariables false
set_option linter.unusedSimpArgs false

theorem makeF_ok {p : PlanT} {good : List Int → Bool} {c : List Int} : ∀ (f : Nat) (ch : List Int), okC p ch → makeF p good f ch = .ok c → okC p c ∧ good c = true
  | 0, ch, _, h => by cases h
  | f + 1, ch, ho, h => by
    simp only [makeF] at h
    by_cases hg : good ch = true
    · rw [if_pos hg] at h
      injection h with h
      subst h
      exact ⟨ho, hg⟩
    · rw [if_neg hg] at h
      cases hn : nextC p ch with
      | none => rw [hn] at h; cases h
      | some ch' =>
        rw [hn] at h
        exact makeF_ok f ch' (next_ok ho hn) h
theorem mk_ok {p : PlanT} {c : List Int} (h : mk p = .ok c) : okC p c ∧ goodC p c = true := makeF_ok _ _ (first_ok p) h

theorem goodC_out {p : PlanT} {ch : List Int} (h : goodC p ch = true) : (∀ k, k < p.roads.length → badW p ch k = false) ∧ (dueSt p ch).raised < 0 ∧ (dueSt p ch).ts.getD 0 0 = 0 := by
  unfold goodC at h
  simp only [Bool.and_eq_true, List.all_eq_true, decide_eq_true_eq, beq_iff_eq, List.mem_range, Bool.not_eq_true'] at h
  exact ⟨h.1, h.2.1, h.2.2⟩

theorem lks_mem_after {p : PlanT} {ch : List Int} {l : T3} {j : Nat} (h : l ∈ lkAfter p j) : ∀ n, j < n → l ∈ lksK p ch n
  | 0, hj => by omega
  | n + 1, hj => by
    simp only [lksK, List.mem_append]
    by_cases e : j = n
    · subst e; exact .inr (.inl h)
    · exact .inl (lks_mem_after h n (by omega))
theorem lks_mem_closed {p : PlanT} {ch : List Int} {l : T3} {j : Nat} (h : l ∈ lkClosed p j (winT p ch j)) : ∀ n, j < n → l ∈ lksK p ch n
  | 0, hj => by omega
  | n + 1, hj => by
    simp only [lksK, List.mem_append]
    by_cases e : j = n
    · subst e; exact .inr (.inr h)
    · exact .inl (lks_mem_closed h n (by omega))
theorem lks_mem_begin {p : PlanT} {ch : List Int} {l : T3} (h : l ∈ lkBegin p) : ∀ n, l ∈ lksK p ch n
  | 0 => h
  | n + 1 => by
    simp only [lksK, List.mem_append]
    exact .inl (lks_mem_begin h n)
theorem net_lks {p : PlanT} {ch : List Int} {l : T3} (h : l ∈ lksK p ch p.roads.length) : l ∈ netK p ch := by
  unfold netK
  exact List.mem_append.2 (.inl h)
theorem net_adds {p : PlanT} {ch : List Int} {v : Nat} (h : v < p.roads.length + 2) : (⟨0, (v : Int), 0⟩ : T3) ∈ netK p ch := by
  unfold netK
  refine List.mem_append.2 (.inr ?_)
  unfold adds
  exact List.mem_map.2 ⟨v, List.mem_range.2 h, rfl⟩

/-- what a choice that serves says of the dues -/
structure DuesOk (p : PlanT) (ch : List Int) (D : Nat → Int) : Prop where
  pos : ∀ j, j ≤ p.roads.length → 0 ≤ D j ∧ D j ≤ 10000000
  first : p.first ≤ D 0
  step : ∀ j, j < p.roads.length → if j + 1 < p.roads.length ∧ (p.roads.getD (j + 1) zw).grp = true then
      D j + (p.roads.getD j zw).tar + spanOf p (p.roads.getD j zw) + (p.roads.getD (j + 1) zw).wait ≤ D (j + 1) ∧ D (j + 1) ≤ D j + (p.roads.getD j zw).tar + spanOf p (p.roads.getD j zw) + (p.roads.getD (j + 1) zw).most
    else D (j + 1) = D j + (p.roads.getD j zw).tar
  win : ∀ j, j < p.roads.length → match winT p ch j with
    | none => (p.roads.getD j zw).lead ≤ D j
    | some h => (p.roads.getD j zw).lead + h.a ≤ D j ∧ D j + busyOf p (p.roads.getD j zw) ≤ h.b ∧ (p.roads.getD j zw).lead + busyOf p (p.roads.getD j zw) ≤ h.c

theorem gt_nat (xs : List Int) (v : Nat) : gt xs (v : Int) = xs.getD v 0 := by
  show xs.getD ((v : Int)).toNat 0 = _
  rw [Int.toNat_natCast]
theorem gt_succ (xs : List Int) (v : Nat) : gt xs ((v : Int) + 1) = xs.getD (v + 1) 0 := gt_nat xs (v + 1)
theorem gt_succ2 (xs : List Int) (v : Nat) : gt xs ((v : Int) + 2) = xs.getD (v + 2) 0 := gt_nat xs (v + 2)

theorem dues_ok {p : PlanT} (hP : PBd p) (h8 : p.roads.length ≤ 8) {ch : List Int} (hg : goodC p ch = true) :
    (dueSt p ch).ts.length = p.roads.length + 2 ∧ DuesOk p ch (fun j => (dueSt p ch).ts.getD (j + 1) 0) ∧
    ∀ y : List Int, Keeps (netK p ch) y → (∀ v : Nat, v < p.roads.length + 2 → 0 ≤ y.getD v 0) → ∀ v : Nat, v < p.roads.length + 2 → (dueSt p ch).ts.getD v 0 ≤ y.getD v 0 := by
  obtain ⟨hbad, hr, hz⟩ := goodC_out hg
  have hV := netK_valid p hP h8 ch
  have hal : p.roads.length + 2 ≤ (netK p ch).length := by
    unfold netK
    rw [List.length_append, adds_length]
    omega
  have hends := push_ends hV (by omega) hal (List.replicate (p.roads.length + 2) 0) (by simp)
  change ((dueSt p ch).raised < 0 ∧ (dueSt p ch).ts.length = _ ∧ Keeps _ (dueSt p ch).ts ∧ LeAt _ _ (dueSt p ch).ts ∧ ∀ y, Keeps _ y → LeAt _ _ y → LeAt _ (dueSt p ch).ts y) ∨ (0 ≤ (dueSt p ch).raised ∧ _) at hends
  rcases hends with ⟨_, hl, hk, hge, hle⟩ | ⟨h, _⟩
  rotate_left
  · omega
  have hleast : ∀ y : List Int, Keeps (netK p ch) y → (∀ v : Nat, v < p.roads.length + 2 → 0 ≤ y.getD v 0) → ∀ v : Nat, v < p.roads.length + 2 → (dueSt p ch).ts.getD v 0 ≤ y.getD v 0 := fun y hy hp v hv => by
    have := hle y hy (fun u u0 u1 => by
      rw [zero_get]
      have := hp u.toNat (by omega)
      exact this) (v : Int) (by omega) (by omega)
    rw [gt_nat, gt_nat] at this
    exact this
  refine ⟨hl, ?_, hleast⟩
  generalize (dueSt p ch).ts = ts at *
  have hpos : ∀ v : Nat, v < p.roads.length + 2 → 0 ≤ ts.getD v 0 := fun v hv => by
    have := hk _ (net_adds (p := p) (ch := ch) hv)
    simp only at this
    rw [gt_nat] at this
    have h0 : gt ts 0 = ts.getD 0 0 := rfl
    omega
  have hE : Ear (p.roads.length + 2) (netK p ch) ts := ⟨hV, by omega, hl, hz, fun l hl' => hk l hl', hpos⟩
  have hup : ∀ v : Nat, v < p.roads.length + 2 → ts.getD v 0 ≤ 10000000 := fun v hv => by
    obtain ⟨K, hK, hin, _⟩ := in_layer hE (fun u hu => net_adds hu) (fun y _ hy hp u hu => hleast y (fun l hl' => hy l hl') hp u hu) v hv
    obtain ⟨_, _, h3⟩ := rea_weight hE K (v : Int) (by omega) (by omega) (by rw [Int.toNat_natCast]; exact hin)
    rw [Int.toNat_natCast] at h3
    have := (sumTo_bd (all := netK p ch) (ch := reaF (p.roads.length + 2) (netK p ch) ts K (v : Int)) (fun l hl' => by have := okLk_out (hV l hl'); omega) K).2
    rw [h3] at this
    omega
  refine ⟨fun j hj => ⟨hpos _ (by omega), hup _ (by omega)⟩, ?_, fun j hj => ?_, fun j hj => ?_⟩
  · have := hk ⟨0, 1, p.first⟩ (net_lks (lks_mem_begin (by simp [lkBegin]) _))
    have h0 : gt ts 0 = ts.getD 0 0 := rfl
    have h1 : gt ts 1 = ts.getD 1 0 := rfl
    simp only at this
    rw [h0, h1] at this
    show p.first ≤ ts.getD 1 0
    omega
  · have hx := fun l (hl' : l ∈ lkAfter p j) => hk l (net_lks (lks_mem_after hl' _ hj))
    unfold lkAfter at hx
    dsimp only at hx
    show if _ then ts.getD (j + 1) 0 + _ + _ + _ ≤ ts.getD (j + 2) 0 ∧ ts.getD (j + 2) 0 ≤ ts.getD (j + 1) 0 + _ + _ + _ else ts.getD (j + 2) 0 = ts.getD (j + 1) 0 + _
    by_cases hg : j + 1 < p.roads.length ∧ (p.roads.getD (j + 1) zw).grp = true
    · rw [if_pos hg] at hx ⊢
      have a := hx _ (List.mem_cons_self ..)
      have b := hx _ (List.mem_cons_of_mem _ (List.mem_cons_self ..))
      simp only at a b
      rw [gt_succ, gt_succ2] at a b
      unfold spanOf
      omega
    · rw [if_neg hg] at hx ⊢
      have a := hx _ (List.mem_cons_self ..)
      have b := hx _ (List.mem_cons_of_mem _ (List.mem_cons_self ..))
      simp only at a b
      rw [gt_succ, gt_succ2] at a b
      omega
  · have hx := fun l (hl' : l ∈ lkClosed p j (winT p ch j)) => hk l (net_lks (lks_mem_closed hl' _ hj))
    have hb := hbad j hj
    unfold badW at hb
    have h0 : gt ts 0 = ts.getD 0 0 := rfl
    cases hw : winT p ch j with
    | none =>
      rw [hw] at hx
      have a := hx _ (List.mem_cons_self ..)
      rw [gt_succ, h0] at a
      simp only at a ⊢
      omega
    | some h =>
      rw [hw] at hx hb
      have a := hx _ (List.mem_cons_self ..)
      have b := hx _ (List.mem_cons_of_mem _ (List.mem_cons_self ..))
      simp only at a b hb ⊢
      rw [gt_succ, h0] at a b
      have := of_decide_eq_false hb
      omega

def tabOf (p : PlanT) (ch : List Int) : TabT := ⟨(dueSt p ch).ts.drop 1, closedL p ((dueSt p ch).ts.drop 1) p.roads.length, openedL p ((dueSt p ch).ts.drop 1) p.roads.length, ch⟩

theorem drop_get (ts : List Int) (j : Nat) : (ts.drop 1).getD j 0 = ts.getD (j + 1) 0 := by
  rw [List.getD_eq_getElem?_getD, List.getD_eq_getElem?_getD, List.getElem?_drop, Nat.add_comm]
theorem map_get (f : Nat → Int) {n j : Nat} (hj : j < n) : ((List.range n).map f).getD j 0 = f j := by
  rw [List.getD_eq_getElem?_getD, List.getElem?_map, List.getElem?_range hj]
  rfl
theorem timesB_mk {l : List Int} {n : Nat} (hl : l.length = n) (h : ∀ j, j < n → 0 ≤ l.getD j 0 ∧ l.getD j 0 ≤ 1000000000) : timesB l (n : Int) = true := by
  unfold timesB
  rw [Bool.and_eq_true, List.all_eq_true, beq_iff_eq]
  refine ⟨fun x hx => ?_, by rw [hl]⟩
  obtain ⟨j, hj, rfl⟩ := List.getElem_of_mem hx
  have := h j (by omega)
  rw [List.getD_eq_getElem?_getD, List.getElem?_eq_getElem hj] at this
  simpa [inB] using this

theorem busy_span (p : PlanT) (x : WayT) : busyOf p x = spanOf p x + x.tar + x.lag := rfl

/-- a table with dues as they should be, closed and opened as late and as early as can be, keeps the plan -/
theorem fits_of {p : PlanT} (hP : PBd p) {ch : List Int} (hc : okC p ch) {ds : List Int} (hl : ds.length = p.roads.length + 1) (hD : DuesOk p ch (fun j => ds.getD j 0)) : fitsB p ⟨ds, closedL p ds p.roads.length, openedL p ds p.roads.length, ch⟩ = true := by
  have hcl : ∀ j, j < p.roads.length → (closedL p ds p.roads.length).getD j 0 = ds.getD j 0 - (p.roads.getD j zw).lead := fun j hj => map_get _ hj
  have hop : ∀ j, j < p.roads.length → (openedL p ds p.roads.length).getD j 0 = ds.getD j 0 + busyOf p (p.roads.getD j zw) := fun j hj => map_get _ hj
  have hwb := fun j (hj : j < p.roads.length) => hP.road _ (List.mem_of_getElem? (getD_w hj))
  have hsp := fun j (hj : j < p.roads.length) => hP.span (hwb j hj)
  have hlead : ∀ j, j < p.roads.length → (p.roads.getD j zw).lead ≤ ds.getD j 0 := fun j hj => by
    have h := hD.win j hj
    have hk := hwb j hj
    cases hw : winT p ch j with
    | none => rw [hw] at h; exact h
    | some x =>
      rw [hw] at h
      simp only at h
      have hx : x ∈ (p.roads.getD j zw).hrs := by
        unfold winT at hw
        split at hw
        · cases hw
        · exact List.mem_of_getElem? hw
      have := hk.hok x hx
      omega
  have hhead : headB p ⟨ds, closedL p ds p.roads.length, openedL p ds p.roads.length, ch⟩ = true := by
    unfold headB
    simp only
    have h1 : timesB ds ((p.roads.length : Int) + 1) = true := timesB_mk (n := p.roads.length + 1) hl (fun j hj => by have := hD.pos j (by omega); omega)
    have h2 : timesB (closedL p ds p.roads.length) (p.roads.length : Int) = true := timesB_mk (by simp [closedL]) (fun j hj => by
      rw [hcl j hj]
      have a := hD.pos j (by omega)
      have b := hlead j hj
      have c := (hwb j hj).lead
      omega)
    have h3 : timesB (openedL p ds p.roads.length) (p.roads.length : Int) = true := timesB_mk (by simp [openedL]) (fun j hj => by
      rw [hop j hj]
      have a := hD.pos j (by omega)
      have c := hsp j hj
      have d := (hwb j hj).tar
      have e := (hwb j hj).lag
      unfold busyOf
      omega)
    have h4 : ((ch.length : Int) == (p.roads.length : Int)) = true := by rw [hc.1]; simp
    have h5 : decide (ds.getD 0 0 < p.first) = false := decide_eq_false (by have := hD.first; omega)
    rw [h1, h2, h3, h4, h5]
    rfl
  have hstep : (List.range p.roads.length).all (stepB p ⟨ds, closedL p ds p.roads.length, openedL p ds p.roads.length, ch⟩) = true := by
    rw [List.all_eq_true]
    intro j hj
    have hj := List.mem_range.1 hj
    have h := hD.step j hj
    unfold stepB
    by_cases hg : j + 1 < p.roads.length ∧ (p.roads.getD (j + 1) zw).grp = true
    · rw [if_pos hg] at h ⊢
      simp only [inB, Bool.and_eq_true, decide_eq_true_eq]
      exact h
    · rw [if_neg hg] at h ⊢
      rw [beq_iff_eq]
      exact h
  have hroad : (List.range p.roads.length).all (roadB p ⟨ds, closedL p ds p.roads.length, openedL p ds p.roads.length, ch⟩) = true := by
    rw [List.all_eq_true]
    intro j hj
    have hj := List.mem_range.1 hj
    have h := hD.win j hj
    unfold roadB
    simp only
    rw [hcl j hj, hop j hj, busy_span]
    rw [decide_eq_false (by omega), decide_eq_false (by omega)]
    rcases hc.2 j hj with ⟨e1, e2⟩ | ⟨e1, e2⟩
    · unfold nw at e1
      rw [if_pos e1, e2]
      rfl
    · unfold nw at e2
      rw [if_neg (by omega)]
      have hw : winT p ch j = (p.roads.getD j zw).hrs[(ch.getD j 0).toNat]? := by
        unfold winT
        rw [if_neg (by omega)]
      rw [hw, getD_t3 (by omega)] at h
      simp only at h
      rw [busy_span] at h
      have hi : inB (ch.getD j 0) 0 (((p.roads.getD j zw).hrs.length : Int) - 1) = true := by simp only [inB, Bool.and_eq_true, decide_eq_true_eq]; omega
      rw [hi]
      unfold winB
      rw [decide_eq_false (by omega), decide_eq_false (by omega), decide_eq_false (by omega)]
      rfl
  unfold fitsB
  rw [hhead, hstep, hroad]
  rfl

theorem mk_fits {p : PlanT} (hP : PBd p) (h8 : p.roads.length ≤ 8) {ch : List Int} (h : mk p = .ok ch) : fitsB p (tabOf p ch) = true := by
  obtain ⟨hc, hg⟩ := mk_ok h
  obtain ⟨hl, hD, _⟩ := dues_ok hP h8 hg
  refine fits_of hP hc (by rw [List.length_drop, hl]; omega) ⟨fun j hj => ?_, ?_, fun j hj => ?_, fun j hj => ?_⟩
  · rw [drop_get]; exact hD.pos j hj
  · rw [drop_get]; exact hD.first
  · rw [drop_get, drop_get]; exact hD.step j hj
  · rw [drop_get]; exact hD.win j hj

/-- a plan that begins later -/
def later (p : PlanT) (more : Int) : PlanT := ⟨p.cars, p.first + more, p.roads⟩
theorem later_keeps {p : PlanT} {more : Int} (hm : 0 ≤ more) {ch : List Int} {y : List Int} (h : Keeps (netK (later p more) ch) y) : Keeps (netK p ch) y := by
  intro l hl
  have hw : ∀ j, winT (later p more) ch j = winT p ch j := fun j => rfl
  have ha : ∀ j, lkAfter (later p more) j = lkAfter p j := fun j => rfl
  have hc : ∀ j o, lkClosed (later p more) j o = lkClosed p j o := fun j o => by cases o <;> rfl
  have key : ∀ n, (∀ l ∈ lksK (later p more) ch n, gt y l.a + l.c ≤ gt y l.b) → ∀ l ∈ lksK p ch n, gt y l.a + l.c ≤ gt y l.b := by
    intro n
    induction n with
    | zero =>
      intro hk l hl
      simp only [lksK, lkBegin, List.mem_singleton] at hl
      subst hl
      have := hk ⟨0, 1, p.first + more⟩ (by simp [lksK, lkBegin, later])
      simp only at this ⊢
      omega
    | succ n ih =>
      intro hk l hl
      simp only [lksK, List.mem_append] at hl
      rcases hl with hl | hl | hl
      · exact ih (fun l hl => hk l (by simp only [lksK, List.mem_append]; exact .inl hl)) l hl
      · exact hk l (by simp only [lksK, List.mem_append]; exact .inr (.inl (by rw [ha]; exact hl)))
      · exact hk l (by simp only [lksK, List.mem_append]; exact .inr (.inr (by rw [hc, hw]; exact hl)))
  unfold netK at hl
  rcases List.mem_append.1 hl with hl | hl
  · exact key _ (fun l hl => h l (net_lks hl)) l hl
  · exact h l (by unfold netK; exact List.mem_append.2 (.inr hl))

theorem later_le {p : PlanT} (hP : PBd p) (h8 : p.roads.length ≤ 8) {more : Int} (hm : 0 ≤ more) (hP' : PBd (later p more)) {ch : List Int} (hg : goodC p ch = true) (hg' : goodC (later p more) ch = true) (j : Nat) (hj : j ≤ p.roads.length) :
    (tabOf p ch).dues.getD j 0 ≤ (tabOf (later p more) ch).dues.getD j 0 := by
  obtain ⟨_, _, hle⟩ := dues_ok hP h8 hg
  obtain ⟨hl', hD', _⟩ := dues_ok hP' h8 hg'
  have hk' : Keeps (netK (later p more) ch) (dueSt (later p more) ch).ts := by
    obtain ⟨_, hr, _⟩ := goodC_out hg'
    exact rounds_stable (netK_valid (later p more) hP' h8 ch) _ (by omega) hr
  have hr' : (later p more).roads.length = p.roads.length := rfl
  have := hle _ (later_keeps hm hk') (fun v hv => by
    cases v with
    | zero => rw [(goodC_out hg').2.2]; exact Int.le_refl _
    | succ v => exact (hD'.pos v (by rw [hr']; omega)).1) (j + 1) (by omega)
  show ((dueSt p ch).ts.drop 1).getD j 0 ≤ ((dueSt (later p more) ch).ts.drop 1).getD j 0
  rw [drop_get, drop_get]
  exact this
end Go.Proofs.Ytpknonebnipcgaa.Pm
