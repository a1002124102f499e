import Derived.Test.YtpknonebnipcgaaS

namespace Go.Proofs.Ytpknonebnipcgaa.Sp
open Go.RowKit Go.Shelf Go.Proofs.Ytpknonebnipcgaa.V Go.Proofs.Ytpknonebnipcgaa.A Go.Proofs.Ytpknonebnipcgaa.B Go.Proofs.Ytpknonebnipcgaa.C Go.Proofs.Ytpknonebnipcgaa.P Go.Proofs.Ytpknonebnipcgaa.D Go.Proofs.Ytpknonebnipcgaa.E Go.Proofs.Ytpknonebnipcgaa.G Go.Proofs.Ytpknonebnipcgaa.H Go.Proofs.Ytpknonebnipcgaa.I Go.Proofs.Ytpknonebnipcgaa.J Go.Proofs.Ytpknonebnipcgaa.K Go.Proofs.Ytpknonebnipcgaa.L Go.Proofs.Ytpknonebnipcgaa.M Go.Proofs.Ytpknonebnipcgaa.N Go.Proofs.Ytpknonebnipcgaa.S
set_option linter.unusedVariables false
set_option linter.unusedSimpArgs false

/-- the windows of the road j -/
def nw (p : PlanT) (j : Nat) : Nat := (p.roads.getD j zw).hrs.length
/-- the road k of a choice goes back -/
def backC (ch : List Int) (k : Nat) : List Int := if 0 < ch.getD k 0 then ch.set k 0 else ch
/-- the next choice, when the roads from k on have gone back -/
def advC (p : PlanT) : Nat → List Int → Option (List Int)
  | 0, _ => none
  | k + 1, ch => if (nw p k : Int) - 1 ≤ ch.getD k 0 then advC p k (backC ch k) else some (ch.set k (ch.getD k 0 + 1))
def nextC (p : PlanT) (ch : List Int) : Option (List Int) := advC p p.roads.length ch
def nthC (p : PlanT) : Nat → Option (List Int)
  | 0 => some (firstK p p.roads.length)
  | i + 1 => (nthC p i).bind (nextC p)

/-- a choice as it should be -/
def okC (p : PlanT) (ch : List Int) : Prop := ch.length = p.roads.length ∧ ∀ j, j < p.roads.length → (nw p j = 0 ∧ ch.getD j 0 = -1) ∨ (0 ≤ ch.getD j 0 ∧ ch.getD j 0 < nw p j)

theorem getD_setI {xs : List Int} {i j : Nat} (hi : i < xs.length) (x : Int) : (xs.set i x).getD j 0 = if j = i then x else xs.getD j 0 := by
  rw [List.getD_eq_getElem?_getD, List.getElem?_set]
  by_cases h : i = j
  · subst h
    rw [if_pos rfl, if_pos rfl, if_pos hi]
    rfl
  · rw [if_neg h, if_neg (fun e => h e.symm), List.getD_eq_getElem?_getD]

theorem okC.ch {p : PlanT} {ch : List Int} (h : okC p ch) : chOk p ch := ⟨h.1, fun j hj => by
  rcases h.2 j hj with ⟨e, e2⟩ | ⟨_, e⟩
  · have : ((p.roads.getD j zw).hrs.length : Int) = 0 := by unfold nw at e; omega
    omega
  · exact e⟩

theorem backC_len (ch : List Int) (k : Nat) : (backC ch k).length = ch.length := by unfold backC; split <;> simp
theorem backC_get {ch : List Int} {k : Nat} (hk : k < ch.length) (j : Nat) : (backC ch k).getD j 0 = if j = k ∧ 0 < ch.getD k 0 then 0 else ch.getD j 0 := by
  unfold backC
  by_cases h : 0 < ch.getD k 0
  · rw [if_pos h, getD_setI hk]
    by_cases e : j = k
    · rw [if_pos e, if_pos ⟨e, h⟩]
    · rw [if_neg e, if_neg (fun x => e x.1)]
  · rw [if_neg h, if_neg (fun x => h x.2)]

theorem firstK_get (p : PlanT) : ∀ k, k ≤ p.roads.length → ∀ j, j < p.roads.length → (firstK p k).getD j 0 = if j < k ∧ nw p j = 0 then -1 else 0
  | 0, _, j, hj => by
    simp only [firstK]
    rw [List.getD_eq_getElem?_getD, List.getElem?_replicate, if_pos hj, if_neg (by omega)]
    rfl
  | k + 1, hk, j, hj => by
    have ih := firstK_get p k (by omega) j hj
    have hl := firstK_len p k
    simp only [firstK]
    by_cases e : (p.roads.getD k zw).hrs.length = 0
    · rw [if_pos e, getD_setI (by omega)]
      by_cases ej : j = k
      · subst ej
        rw [if_pos rfl, if_pos ⟨by omega, e⟩]
      · rw [if_neg ej, ih]
        by_cases h : j < k ∧ nw p j = 0
        · rw [if_pos h, if_pos ⟨by omega, h.2⟩]
        · rw [if_neg h, if_neg (fun x => h ⟨by omega, x.2⟩)]
    · rw [if_neg e, ih]
      by_cases h : j < k ∧ nw p j = 0
      · rw [if_pos h, if_pos ⟨by omega, h.2⟩]
      · rw [if_neg h, if_neg (fun x => by
          obtain ⟨x1, x2⟩ := x
          by_cases ej : j = k
          · subst ej; exact e x2
          · exact h ⟨by omega, x2⟩)]

theorem first_ok (p : PlanT) : okC p (firstK p p.roads.length) := by
  refine ⟨firstK_len p _, fun j hj => ?_⟩
  rw [firstK_get p _ (Nat.le_refl _) j hj]
  by_cases h : nw p j = 0
  · rw [if_pos ⟨hj, h⟩]; exact .inl ⟨h, rfl⟩
  · rw [if_neg (fun x => h x.2)]; exact .inr ⟨by omega, by omega⟩

theorem back_ok {p : PlanT} {ch : List Int} (h : okC p ch) {k : Nat} (hk : k < p.roads.length) : okC p (backC ch k) := by
  refine ⟨(backC_len _ _).trans h.1, fun j hj => ?_⟩
  rw [backC_get (by rw [h.1]; exact hk)]
  split
  · rename_i e
    obtain ⟨rfl, e2⟩ := e
    rcases h.2 j hj with ⟨a, b⟩ | ⟨a, b⟩
    · omega
    · exact .inr ⟨by omega, by omega⟩
  · exact h.2 j hj

theorem adv_ok {p : PlanT} : ∀ k, k ≤ p.roads.length → ∀ {ch ch' : List Int}, okC p ch → advC p k ch = some ch' → okC p ch'
  | 0, _, _, _, _, e => by cases e
  | k + 1, hk, ch, ch', h, e => by
    simp only [advC] at e
    split at e
    · exact adv_ok k (by omega) (back_ok h (by omega)) e
    · rename_i hlt
      injection e with e
      subst e
      refine ⟨by rw [List.length_set]; exact h.1, fun j hj => ?_⟩
      rw [getD_setI (by rw [h.1]; omega)]
      split
      · rename_i e
        subst e
        rcases h.2 j hj with ⟨a, b⟩ | ⟨a, b⟩
        · omega
        · exact .inr ⟨by omega, by omega⟩
      · exact h.2 j hj
theorem next_ok {p : PlanT} {ch ch' : List Int} (h : okC p ch) (e : nextC p ch = some ch') : okC p ch' := adv_ok _ (Nat.le_refl _) h e
theorem nth_ok {p : PlanT} : ∀ {i : Nat} {ch : List Int}, nthC p i = some ch → okC p ch
  | 0, ch, e => by injection e with e; subst e; exact first_ok p
  | i + 1, ch, e => by
    simp only [nthC] at e
    cases h : nthC p i with
    | none => rw [h] at e; cases e
    | some c => rw [h] at e; exact next_ok (nth_ok h) e
/-- if there is one then there are those before -/
theorem nth_before {p : PlanT} {i : Nat} (h : nthC p i = none) : ∀ d, nthC p (i + d) = none
  | 0 => h
  | d + 1 => by
    show (nthC p (i + d)).bind (nextC p) = none
    rw [nth_before h d]
    rfl

/-! ### what Make finds -/
inductive MakeR where
  | ok (ch : List Int)
  | none
  | opened
/-- so many tries are left -/
def makeF (p : PlanT) (good : List Int → Bool) : Nat → List Int → MakeR
  | 0, _ => .opened
  | f + 1, ch => if good ch = true then .ok ch else match nextC p ch with | none => .none | some ch' => makeF p good f ch'

/-- how many choices come behind a choice: as a number whose digits are the windows -/
def cnt (p : PlanT) (j : Nat) : Nat := max 1 (nw p j)
def prodC (p : PlanT) : Nat → Nat
  | 0 => 1
  | k + 1 => prodC p k * cnt p k
/-- the place of a choice among all, by the first k roads -/
def rankC (p : PlanT) (ch : List Int) : Nat → Nat
  | 0 => 0
  | k + 1 => rankC p ch k * cnt p k + (ch.getD k 0).toNat

theorem prod_pos (p : PlanT) : ∀ k, 1 ≤ prodC p k
  | 0 => Nat.le_refl _
  | k + 1 => by
    have := prod_pos p k
    have h2 : 1 ≤ cnt p k := Nat.le_max_left _ _
    simp only [prodC]
    exact Nat.mul_le_mul this h2

theorem rank_congr {p : PlanT} {a b : List Int} : ∀ k, (∀ j, j < k → a.getD j 0 = b.getD j 0) → rankC p a k = rankC p b k
  | 0, _ => rfl
  | k + 1, h => by
    simp only [rankC]
    rw [rank_congr k (fun j hj => h j (by omega)), h k (by omega)]

theorem adv_rank {p : PlanT} : ∀ k, k ≤ p.roads.length → ∀ {ch : List Int}, okC p ch →
    (advC p k ch = none ∧ rankC p ch k + 1 = prodC p k) ∨ (∃ ch', advC p k ch = some ch' ∧ rankC p ch' k = rankC p ch k + 1 ∧ (∀ j, k ≤ j → ch'.getD j 0 = ch.getD j 0))
  | 0, _, ch, _ => .inl ⟨rfl, rfl⟩
  | k + 1, hk, ch, h => by
    have hkl : k < ch.length := by rw [h.1]; omega
    simp only [advC, rankC, prodC]
    by_cases e : (nw p k : Int) - 1 ≤ ch.getD k 0
    · rw [if_pos e]
      have hd : (ch.getD k 0).toNat + 1 = cnt p k := by
        unfold cnt
        rcases h.2 k (by omega) with ⟨a, b⟩ | ⟨a, b⟩ <;> omega
      have hr : rankC p (backC ch k) k = rankC p ch k := rank_congr k (fun j hj => by
        rw [backC_get hkl, if_neg (by omega)])
      rcases adv_rank (p := p) k (show k ≤ p.roads.length by omega) (back_ok (p := p) h (show k < p.roads.length by omega)) with ⟨h1, h2⟩ | ⟨ch', h1, h2, h3⟩
      · refine .inl ⟨h1, ?_⟩
        rw [hr] at h2
        rw [← h2, Nat.add_mul]
        omega
      · refine .inr ⟨ch', h1, ?_, fun j hj => ?_⟩
        · have hz : ((backC ch k).getD k 0).toNat = 0 := by
            rw [backC_get hkl]
            split <;> omega
          rw [h3 k (Nat.le_refl _), hz, h2, hr, Nat.add_mul]
          omega
        · rw [h3 j (by omega), backC_get hkl, if_neg (by omega)]
    · rw [if_neg e]
      refine .inr ⟨_, rfl, ?_, fun j hj => ?_⟩
      · have hr : rankC p (ch.set k (ch.getD k 0 + 1)) k = rankC p ch k := rank_congr k (fun j hj => by rw [getD_setI hkl, if_neg (show ¬ j = k by omega)])
        rw [hr, getD_setI hkl, if_pos rfl]
        rcases h.2 k (by omega) with ⟨a, b⟩ | ⟨a, b⟩
        · omega
        · omega
      · rw [getD_setI hkl, if_neg (by omega)]

theorem rank_first (p : PlanT) : ∀ k, k ≤ p.roads.length → rankC p (firstK p p.roads.length) k = 0
  | 0, _ => rfl
  | k + 1, hk => by
    simp only [rankC]
    rw [rank_first p k (by omega), firstK_get p _ (Nat.le_refl _) k (by omega), Nat.zero_mul, Nat.zero_add]
    split <;> rfl

/-- where nothing is good -/
theorem make_bad {p : PlanT} {good : List Int → Bool} (hb : ∀ ch, okC p ch → good ch = false) : ∀ (f : Nat) (ch : List Int), okC p ch →
    makeF p good f ch = if rankC p ch p.roads.length + f < prodC p p.roads.length then .opened else if f = 0 then .opened else .none
  | 0, ch, h => by
    simp only [makeF]
    split <;> rfl
  | f + 1, ch, h => by
    simp only [makeF]
    rw [hb ch h, if_neg (by simp)]
    rcases adv_rank _ (Nat.le_refl _) h with ⟨h1, h2⟩ | ⟨ch', h1, h2, _⟩
    · rw [show nextC p ch = none from h1, if_neg (by omega), if_neg (by omega)]
    · rw [show nextC p ch = some ch' from h1]
      simp only
      rw [make_bad hb f ch' (next_ok h h1), h2]
      by_cases e : rankC p ch p.roads.length + (f + 1) < prodC p p.roads.length
      · rw [if_pos e, if_pos (by omega)]
      · rw [if_neg e, if_neg (by omega)]
        by_cases hf : f = 0
        · subst hf
          exfalso
          have hrl := adv_rank (p := p) _ (Nat.le_refl _) (next_ok h h1)
          have : rankC p ch' p.roads.length + 1 ≤ prodC p p.roads.length := by
            have hall : ∀ (k : Nat), k ≤ p.roads.length → ∀ c, okC p c → rankC p c k + 1 ≤ prodC p k := by
              intro k
              induction k with
              | zero => intro _ c _; exact Nat.le_refl _
              | succ k ih =>
                intro hk c hc
                have h1 := ih (by omega) c hc
                have h2 : (c.getD k 0).toNat + 1 ≤ cnt p k := by
                  unfold cnt
                  rcases hc.2 k (by omega) with ⟨a, b⟩ | ⟨a, b⟩ <;> omega
                simp only [rankC, prodC]
                have := Nat.mul_le_mul_right (cnt p k) h1
                rw [Nat.add_mul] at this
                omega
            exact hall _ (Nat.le_refl _) ch' (next_ok h h1)
          omega
        · rw [if_neg hf, if_neg (by omega)]
end Go.Proofs.Ytpknonebnipcgaa.Sp
