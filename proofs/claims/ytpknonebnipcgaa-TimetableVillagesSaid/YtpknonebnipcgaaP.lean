/- Plain law of pushing: what the rounds come to; the circle that proves that there is no timetable. No memory in sight. -/
import Derived.Test.YtpknonebnipcgaaC
namespace Go.Proofs.Ytpknonebnipcgaa.P
open Go.Proofs.Ytpknonebnipcgaa.V Go.Proofs.Ytpknonebnipcgaa.A Go.Proofs.Ytpknonebnipcgaa.B Go.Proofs.Ytpknonebnipcgaa.C
set_option linter.unusedVariables false
set_option linter.unusedSimpArgs false

abbrev gt (xs : List Int) (v : Int) : Int := xs.getD v.toNat 0

theorem gt_set {xs : List Int} {v u x : Int} (hv : 0 ≤ v) (hv2 : v < xs.length) (hu : 0 ≤ u) : gt (xs.set v.toNat x) u = if u = v then x else gt xs u := by
  unfold gt
  rw [List.getD_eq_getElem?_getD, List.getElem?_set]
  by_cases h : u = v
  · subst h
    rw [if_pos rfl, if_pos rfl, if_pos (by omega)]
    rfl
  · rw [if_neg (by omega), if_neg h, List.getD_eq_getElem?_getD]

/-- all links lie in the net -/
def Valid (n : Nat) (all : List T3) : Prop := ∀ l ∈ all, okLk n l = true

/-- what holds in round r behind its first k links -/
structure Inv (n : Nat) (all : List T3) (r k : Nat) (st : St) (L T : Int → Nat) (c : Nat) : Prop where
  lt : st.ts.length = n
  lb : st.by_.length = n
  tc : ∀ v : Int, T v ≤ c
  lr : ∀ v : Int, L v ≤ r
  bys : ∀ v : Int, 0 ≤ v → v < n → (gt st.by_ v < 0 ∧ L v = 0) ∨ (1 ≤ L v ∧ 0 ≤ gt st.by_ v ∧ ∃ l, all[(gt st.by_ v).toNat]? = some l ∧ l.b = v ∧ gt st.ts v ≤ gt st.ts l.a + l.c ∧ (T v ≤ T l.a → gt st.ts v < gt st.ts l.a + l.c) ∧ L v ≤ L l.a + 1)
  kept : ∀ j l, all[j]? = some l → (j < k → gt st.ts l.a + l.c ≤ gt st.ts l.b ∨ r ≤ L l.a) ∧ (2 ≤ r → gt st.ts l.a + l.c ≤ gt st.ts l.b ∨ r ≤ L l.a + 1)
  rais : st.raised < 0 ∨ (0 ≤ st.raised ∧ st.raised < n ∧ L st.raised = r)

theorem inv_step {n : Nat} {all : List T3} (hV : Valid n all) {r k : Nat} (hr : 1 ≤ r) {st : St} {L T : Int → Nat} {c : Nat} (h : Inv n all r k st L T c) {l : T3} (hl : all[k]? = some l) :
    ∃ L' T' c', Inv n all r (k + 1) (relax st k l) L' T' c' := by
  obtain ⟨a1, a2, b1, b2, c1, c2⟩ := okLk_out (hV l (List.mem_of_getElem? hl))
  by_cases hlt : gt st.ts l.b < gt st.ts l.a + l.c
  · have e : relax st k l = ⟨st.ts.set l.b.toNat (gt st.ts l.a + l.c), st.by_.set l.b.toNat k, l.b⟩ := by unfold relax; rw [if_pos hlt]
    rw [e]
    refine ⟨fun v => if v = l.b then r else L v, fun v => if v = l.b then c + 1 else T v, c + 1, ?_⟩
    have hla : r ≤ L l.a + 1 := by
      rcases Nat.lt_or_ge r 2 with h2 | h2
      · omega
      · rcases (h.kept k l hl).2 h2 with h3 | h3
        · omega
        · exact h3
    have hlt' := h.lt
    have hlb' := h.lb
    have gs : ∀ u, 0 ≤ u → gt (st.ts.set l.b.toNat (gt st.ts l.a + l.c)) u = if u = l.b then gt st.ts l.a + l.c else gt st.ts u := fun u hu => gt_set b1 (by omega) hu
    have gb : ∀ u, 0 ≤ u → gt (st.by_.set l.b.toNat k) u = if u = l.b then (k : Int) else gt st.by_ u := fun u hu => gt_set b1 (by omega) hu
    refine ⟨by simpa using h.lt, by simpa using h.lb, ?_, ?_, ?_, ?_, ?_⟩
    · intro v
      show (if v = l.b then c + 1 else T v) ≤ c + 1
      have := h.tc v
      split <;> omega
    · intro v
      show (if v = l.b then r else L v) ≤ r
      have := h.lr v
      split <;> omega
    · intro v hv0 hv1
      simp only []
      rw [gb v hv0, gs v hv0]
      by_cases hvb : v = l.b
      · subst hvb
        right
        refine ⟨by rw [if_pos rfl]; exact hr, by rw [if_pos rfl]; omega, l, by rw [if_pos rfl]; simpa using hl, rfl, ?_, ?_, ?_⟩
        · rw [if_pos rfl, gs l.a a1]
          split
          · rename_i e; rw [e] at hlt; omega
          · omega
        · rw [if_pos rfl, if_pos rfl, gs l.a a1]
          intro ht
          by_cases hab : l.a = l.b
          · rw [if_pos hab]
            rw [hab] at hlt ⊢
            omega
          · rw [if_neg hab] at ht
            have := h.tc l.a
            omega
        · rw [if_pos rfl]
          by_cases hab : l.a = l.b
          · rw [if_pos hab]; omega
          · rw [if_neg hab]; exact hla
      · rw [if_neg hvb, if_neg hvb, if_neg hvb, if_neg hvb]
        rcases h.bys v hv0 hv1 with ⟨q1, q2⟩ | ⟨q1, q2, l', q3, q4, q5, q6, q7⟩
        · exact .inl ⟨q1, q2⟩
        · right
          have h0 := (okLk_out (hV l' (List.mem_of_getElem? q3))).1
          refine ⟨q1, q2, l', q3, q4, ?_, ?_, ?_⟩
          · rw [gs l'.a h0]
            split
            · rename_i e; rw [e] at q5; omega
            · exact q5
          · rw [gs l'.a h0]
            intro ht
            by_cases e : l'.a = l.b
            · rw [if_pos e]
              rw [e] at q5
              omega
            · rw [if_neg e] at ht ⊢
              exact q6 ht
          · by_cases e : l'.a = l.b
            · rw [if_pos e]
              have := h.lr v
              omega
            · rw [if_neg e]; exact q7
    · intro j l' hj
      have hv' := okLk_out (hV l' (List.mem_of_getElem? hj))
      have key : ∀ q, q ≤ r → (gt st.ts l'.a + l'.c ≤ gt st.ts l'.b ∨ q ≤ L l'.a) → (gt (st.ts.set l.b.toNat (gt st.ts l.a + l.c)) l'.a + l'.c ≤ gt (st.ts.set l.b.toNat (gt st.ts l.a + l.c)) l'.b ∨ q ≤ if l'.a = l.b then r else L l'.a) := by
        intro q hq hh
        rw [gs _ hv'.1, gs _ hv'.2.2.1]
        by_cases e : l'.a = l.b
        · rw [if_pos e, if_pos e]; right; exact hq
        · rw [if_neg e, if_neg e]
          rcases hh with hh | hh
          · left
            split
            · rename_i e2; rw [e2] at hh; omega
            · exact hh
          · exact .inr hh
      constructor
      · intro hjk
        by_cases e : j = k
        · subst e
          rw [hl] at hj
          cases hj
          show _ ∨ r ≤ if l.a = l.b then r else L l.a
          rw [gs _ a1, gs _ b1, if_pos rfl]
          by_cases e : l.a = l.b
          · rw [if_pos e, if_pos e]; exact .inr (Nat.le_refl _)
          · rw [if_neg e]; left; omega
        · exact key r (Nat.le_refl _) ((h.kept j l' hj).1 (by omega))
      · intro h2
        have := key (r - 1) (by omega) (by rcases (h.kept j l' hj).2 h2 with h3 | h3; exact .inl h3; exact .inr (by omega))
        rcases this with h3 | h3
        · exact .inl h3
        · refine .inr ?_
          show r ≤ (if l'.a = l.b then r else L l'.a) + 1
          omega
    · right
      exact ⟨b1, b2, by show (if l.b = l.b then r else L l.b) = r; rw [if_pos rfl]⟩
  · have e : relax st k l = st := by unfold relax; rw [if_neg hlt]
    rw [e]
    refine ⟨L, T, c, h.lt, h.lb, h.tc, h.lr, h.bys, fun j l' hj => ⟨fun hjk => ?_, (h.kept j l' hj).2⟩, h.rais⟩
    by_cases e : j = k
    · subst e
      rw [hl] at hj
      cases hj
      exact .inl (by omega)
    · exact (h.kept j l' hj).1 (by omega)

theorem inv_part {n : Nat} {all : List T3} (hV : Valid n all) {r : Nat} (hr : 1 ≤ r) {st : St} {L T : Int → Nat} {c : Nat} (h : Inv n all r 0 st L T c) : ∀ k, k ≤ all.length → ∃ L' T' c', Inv n all r k (B.part all k st) L' T' c'
  | 0, _ => ⟨L, T, c, h⟩
  | k + 1, hk => by
    obtain ⟨L', T', c', h'⟩ := inv_part hV hr h k (by omega)
    have hl : all[k]? = some all[k] := List.getElem?_eq_getElem (by omega)
    rw [part_succ _ _ _ _ hl]
    exact inv_step hV hr h' hl

/-- the next round -/
theorem inv_next {n : Nat} {all : List T3} {r : Nat} {st : St} {L T : Int → Nat} {c : Nat} (h : Inv n all r all.length st L T c) : Inv n all (r + 1) 0 ⟨st.ts, st.by_, -1⟩ L T c :=
  ⟨h.lt, h.lb, h.tc, fun v => by have := h.lr v; omega, h.bys, fun j l hj => ⟨fun h0 => by omega, fun _ => by
    rcases (h.kept j l hj).1 (List.getElem?_eq_some_iff.1 hj).1 with h1 | h1
    · exact .inl h1
    · exact .inr (by omega)⟩, .inl (by show (-1 : Int) < 0; omega)⟩

theorem inv_rounds {n : Nat} {all : List T3} (hV : Valid n all) : ∀ (m r : Nat) (st : St) (L T : Int → Nat) (c : Nat), Inv n all (r + 1) 0 ⟨st.ts, st.by_, -1⟩ L T c → 1 ≤ m → 0 ≤ (rounds all m st).raised → ∃ L' T' c', Inv n all (r + m) all.length (rounds all m st) L' T' c' := by
  intro m
  induction m with
  | zero => intro r st L T c h hm; omega
  | succ m ih =>
    intro r st L T c h _ hr
    obtain ⟨L', T', c', h'⟩ := inv_part hV (by omega) h all.length (Nat.le_refl _)
    have hrd : round all st = B.part all all.length ⟨st.ts, st.by_, -1⟩ := rfl
    simp only [rounds] at hr ⊢
    by_cases hneg : (round all st).raised < 0
    · rw [if_pos hneg] at hr
      omega
    · rw [if_neg hneg] at hr ⊢
      cases m with
      | zero =>
        simp only [rounds] at hr ⊢
        rw [hrd]
        exact ⟨L', T', c', h'⟩
      | succ m =>
        have := ih (r + 1) (round all st) L' T' c' (by rw [hrd]; exact inv_next h') (by omega) hr
        rw [show r + (m + 1 + 1) = r + 1 + (m + 1) by omega]
        exact this

theorem inv_start (n : Nat) (all : List T3) (ts : List Int) (hl : ts.length = n) : Inv n all 1 0 ⟨ts, List.replicate n (-1), -1⟩ (fun _ => 0) (fun _ => 0) 0 := by
  refine ⟨hl, by simp, fun _ => Nat.le_refl _, fun _ => by omega, fun v h0 h1 => .inl ⟨?_, rfl⟩, fun j l _ => ⟨fun h => by omega, fun h => by omega⟩, .inl (by show (-1 : Int) < 0; omega)⟩
  show (List.replicate n (-1 : Int)).getD v.toNat 0 < 0
  rw [List.getD_eq_getElem?_getD, List.getElem?_replicate, if_pos (by omega)]
  decide


theorem pigeon : ∀ (n : Nat) (f : Nat → Nat), (∀ i, i ≤ n → f i < n) → ∃ i j, i < j ∧ j ≤ n ∧ f i = f j
  | 0, f, h => absurd (h 0 (Nat.le_refl _)) (Nat.not_lt_zero _)
  | n + 1, f, h => by
    by_cases hx : ∃ i, i ≤ n ∧ f i = f (n + 1)
    · obtain ⟨i, h1, h2⟩ := hx
      exact ⟨i, n + 1, by omega, Nat.le_refl _, h2⟩
    · have hx' : ∀ i, i ≤ n → f i ≠ f (n + 1) := fun i hi e => hx ⟨i, hi, e⟩
      obtain ⟨i, j, h1, h2, h3⟩ := pigeon n (fun i => if f i = n then f (n + 1) else f i) (fun i hi => by
        have := h i (by omega)
        have h4 := h (n + 1) (Nat.le_refl _)
        have h5 := hx' i hi
        show (if f i = n then f (n + 1) else f i) < n
        split <;> omega)
      refine ⟨i, j, h1, by omega, ?_⟩
      (try simp only [] at h3)
      have h5 := hx' i (by omega)
      have h6 := hx' j h2
      split at h3 <;> split at h3 <;> omega

theorem iter_add (n : Nat) (all : List T3) (by_ : List Int) (a b : Nat) (x : Int) : iterF n all by_ (a + b) x = iterF n all by_ a (iterF n all by_ b x) := by
  induction a with
  | zero => rw [Nat.zero_add]; rfl
  | succ a ih => rw [Nat.succ_add]; simp only [iterF]; rw [ih]

def lk (all : List T3) (c : Int) : T3 := all.getD c.toNat z3

/-- a proof that there is no timetable -/
structure ProofOk (n : Nat) (all : List T3) (p : List Int) : Prop where
  len1 : 1 ≤ p.length
  len2 : p.length ≤ n
  rng : ∀ c ∈ p, 0 ≤ c ∧ c < all.length
  chain : ∀ j, j + 1 < p.length → (lk all (p.getD j 0)).b = (lk all (p.getD (j + 1) 0)).a
  closed : (lk all (p.getD (p.length - 1) 0)).b = (lk all (p.getD 0 0)).a
  sum : 0 < (p.map fun c => (lk all c).c).sum

theorem sum_rev (l : List Int) : l.reverse.sum = l.sum := by
  induction l with
  | nil => rfl
  | cons x l ih => rw [List.reverse_cons, List.sum_append, ih, List.sum_cons, List.sum_cons, List.sum_nil]; omega

theorem push_cyc {n : Nat} {all : List T3} (hV : Valid n all) (hn : 1 ≤ n) (hal : n ≤ all.length) (ts : List Int) (hts : ts.length = n) (F : St) (hF : pushF n all ts = F) (hr : 0 ≤ F.raised) :
    F.raised < n ∧ F.by_.length = n ∧ (∀ a : Int, 0 ≤ a → a < n → 0 ≤ backF n all F.by_ a ∧ backF n all F.by_ a < all.length) ∧
    (∃ m, 1 ≤ m ∧ m ≤ n ∧ iterF n all F.by_ m (iterF n all F.by_ (n + 1) F.raised) = iterF n all F.by_ (n + 1) F.raised) ∧
    ∀ m, 1 ≤ m → m ≤ n → iterF n all F.by_ m (iterF n all F.by_ (n + 1) F.raised) = iterF n all F.by_ (n + 1) F.raised → ProofOk n all ((List.range m).map fun i => backF n all F.by_ (iterF n all F.by_ i (iterF n all F.by_ (n + 1) F.raised))).reverse := by
  obtain ⟨L, T, c, h⟩ := inv_rounds hV (n + 1) 0 ⟨ts, List.replicate n (-1), -1⟩ (fun _ => 0) (fun _ => 0) 0 (inv_start n all ts hts) (by omega) (by
    have : rounds all (n + 1) ⟨ts, List.replicate n (-1), -1⟩ = F := hF
    rw [this]; exact hr)
  have e : rounds all (n + 1) ⟨ts, List.replicate n (-1), -1⟩ = F := hF
  rw [e] at h
  obtain ⟨r0, r1, rL⟩ : 0 ≤ F.raised ∧ F.raised < n ∧ L F.raised = 0 + (n + 1) := by rcases h.rais with h1 | h1; omega; exact h1
  -- what one step does where the moment has been raised
  have one : ∀ v : Int, 0 ≤ v → v < n → 1 ≤ L v → ∃ l, 0 ≤ backF n all F.by_ v ∧ backF n all F.by_ v < all.length ∧ lk all (backF n all F.by_ v) = l ∧ l.b = v ∧ l.a = stepF n all F.by_ v ∧ 0 ≤ stepF n all F.by_ v ∧ stepF n all F.by_ v < n ∧
      gt F.ts v ≤ gt F.ts (stepF n all F.by_ v) + l.c ∧ (T v ≤ T (stepF n all F.by_ v) → gt F.ts v < gt F.ts (stepF n all F.by_ v) + l.c) ∧ L v ≤ L (stepF n all F.by_ v) + 1 := by
    intro v hv0 hv1 hL
    rcases h.bys v hv0 hv1 with ⟨_, q⟩ | ⟨q1, q2, l, q3, q4, q5, q6, q7⟩
    · omega
    · have hb : backF n all F.by_ v = gt F.by_ v := by unfold backF; rw [if_neg]; show ¬ gt F.by_ v < 0; omega
      have hlen := (List.getElem?_eq_some_iff.1 q3).1
      have hlk : lk all (backF n all F.by_ v) = l := by rw [hb]; unfold lk; rw [List.getD_eq_getElem?_getD, q3]; rfl
      have hst : stepF n all F.by_ v = l.a := by
        show (lk all (backF n all F.by_ v)).a = l.a
        rw [hlk]
      have hok := okLk_out (hV l (List.mem_of_getElem? q3))
      rw [hst]
      exact ⟨l, by rw [hb]; exact q2, by rw [hb]; omega, hlk, q4, rfl, hok.1, hok.2.1, q5, q6, q7⟩
  -- the chain from the moment that was raised last
  have chain : ∀ i, i ≤ n + 1 → 0 ≤ iterF n all F.by_ i F.raised ∧ iterF n all F.by_ i F.raised < n ∧ n + 1 ≤ L (iterF n all F.by_ i F.raised) + i := by
    intro i
    induction i with
    | zero => intro _; exact ⟨r0, r1, by show n + 1 ≤ L F.raised + 0; omega⟩
    | succ i ih =>
      intro hi
      obtain ⟨i0, i1, iL⟩ := ih (by omega)
      obtain ⟨l, _, _, _, _, _, s0, s1, _, _, sL⟩ := one _ i0 i1 (by omega)
      exact ⟨s0, s1, by show n + 1 ≤ L (stepF n all F.by_ (iterF n all F.by_ i F.raised)) + (i + 1); omega⟩
  obtain ⟨p, q, hpq, hq, hv⟩ := pigeon n (fun i => (iterF n all F.by_ i F.raised).toNat) (fun i hi => by have := chain i (by omega); show (iterF n all F.by_ i F.raised).toNat < n; omega)
  have hv' : iterF n all F.by_ p F.raised = iterF n all F.by_ q F.raised := by
    have h1 := chain p (by omega)
    have h2 := chain q (by omega)
    (try simp only [] at hv)
    omega
  have per : ∀ k, p ≤ k → iterF n all F.by_ (k + (q - p)) F.raised = iterF n all F.by_ k F.raised := by
    intro k hk
    have e1 : k + (q - p) = (k - p) + q := by omega
    have e2 : k = (k - p) + p := by omega
    rw [e1, iter_add, ← hv', ← iter_add, ← e2]
  have allL : ∀ k, 0 ≤ iterF n all F.by_ k F.raised ∧ iterF n all F.by_ k F.raised < n ∧ 1 ≤ L (iterF n all F.by_ k F.raised) := by
    intro k
    induction k using Nat.strongRecOn with
    | _ k ih =>
      by_cases hk : k ≤ n
      · obtain ⟨c0, c1, c2⟩ := chain k (by omega)
        exact ⟨c0, c1, by omega⟩
      · have := per (k - (q - p)) (by omega)
        rw [show k - (q - p) + (q - p) = k by omega] at this
        rw [this]
        exact ih _ (by omega)
  refine ⟨r1, h.lb, ?_, ⟨q - p, by omega, by omega, ?_⟩, ?_⟩
  · intro a ha0 ha1
    rcases h.bys a ha0 ha1 with ⟨q1, _⟩ | ⟨q1, q2, l, q3, _⟩
    · have hb : backF n all F.by_ a = all.length - n + a := by unfold backF; rw [if_pos q1]
      rw [hb]; omega
    · have hb : backF n all F.by_ a = gt F.by_ a := by unfold backF; rw [if_neg]; show ¬ gt F.by_ a < 0; omega
      have hlen := (List.getElem?_eq_some_iff.1 q3).1
      rw [hb]; omega
  · rw [← iter_add, Nat.add_comm (q - p) (n + 1)]
    exact per (n + 1) (by omega)
  · intro m hm1 hm2 hm3
    generalize he : iterF n all F.by_ (n + 1) F.raised = e0 at hm3
    have eL : ∀ k, 0 ≤ iterF n all F.by_ k e0 ∧ iterF n all F.by_ k e0 < n ∧ 1 ≤ L (iterF n all F.by_ k e0) := by
      intro k
      rw [← he, ← iter_add]
      exact allL _
    have len : ((List.range m).map fun i => backF n all F.by_ (iterF n all F.by_ i e0)).reverse.length = m := by simp
    have getp : ∀ j, j < m → ((List.range m).map fun i => backF n all F.by_ (iterF n all F.by_ i e0)).reverse.getD j 0 = backF n all F.by_ (iterF n all F.by_ (m - 1 - j) e0) := by
      intro j hj
      rw [List.getD_eq_getElem?_getD, List.getElem?_reverse (by simpa using hj)]
      simp [List.getElem?_range (show m - 1 - j < m by omega)]
    have sums : ∀ k, (gt F.ts e0 ≤ gt F.ts (iterF n all F.by_ k e0) + (((List.range k).map fun i => (lk all (backF n all F.by_ (iterF n all F.by_ i e0))).c).sum)) ∧
        (gt F.ts e0 < gt F.ts (iterF n all F.by_ k e0) + (((List.range k).map fun i => (lk all (backF n all F.by_ (iterF n all F.by_ i e0))).c).sum) ∨ T (iterF n all F.by_ k e0) + k ≤ T e0) := by
      intro k
      induction k with
      | zero => simp [iterF]
      | succ k ih =>
        obtain ⟨k0, k1, kL⟩ := eL k
        obtain ⟨l, _, _, s1, _, _, _, _, s2, s3, _⟩ := one _ k0 k1 kL
        rw [List.range_succ, List.map_append, List.sum_append]
        simp only [List.map_cons, List.map_nil, List.sum_cons, List.sum_nil, iterF]
        rw [s1]
        obtain ⟨ih1, ih2⟩ := ih
        refine ⟨by omega, ?_⟩
        rcases Nat.lt_or_ge (T (stepF n all F.by_ (iterF n all F.by_ k e0))) (T (iterF n all F.by_ k e0)) with h1 | h1
        · rcases ih2 with ih2 | ih2
          · left; omega
          · right; omega
        · left
          have := s3 h1
          omega
    refine ⟨by rw [len]; exact hm1, by rw [len]; exact hm2, ?_, ?_, ?_, ?_⟩
    · intro c hc
      rw [List.mem_reverse, List.mem_map] at hc
      obtain ⟨i, _, rfl⟩ := hc
      obtain ⟨k0, k1, kL⟩ := eL i
      obtain ⟨l, s0, s1, _⟩ := one _ k0 k1 kL
      exact ⟨s0, s1⟩
    · intro j hj
      rw [len] at hj
      rw [getp j (by omega), getp (j + 1) hj]
      obtain ⟨k0, k1, kL⟩ := eL (m - 1 - j)
      obtain ⟨l, _, _, s1, s2, _⟩ := one _ k0 k1 kL
      obtain ⟨k0', k1', kL'⟩ := eL (m - 1 - (j + 1))
      obtain ⟨l', _, _, s1', _, s3', _⟩ := one _ k0' k1' kL'
      rw [s1, s2, s1', s3']
      show iterF n all F.by_ (m - 1 - j) e0 = iterF n all F.by_ (m - 1 - (j + 1) + 1) e0
      rw [show m - 1 - (j + 1) + 1 = m - 1 - j by omega]
    · rw [len, getp (m - 1) (by omega), getp 0 (by omega)]
      obtain ⟨k0, k1, kL⟩ := eL (m - 1 - (m - 1))
      obtain ⟨l, _, _, s1, s2, _⟩ := one _ k0 k1 kL
      obtain ⟨k0', k1', kL'⟩ := eL (m - 1 - 0)
      obtain ⟨l', _, _, s1', _, s3', _⟩ := one _ k0' k1' kL'
      rw [s1, s2, s1', s3']
      rw [show m - 1 - (m - 1) = 0 by omega]
      show e0 = iterF n all F.by_ (m - 1 - 0 + 1) e0
      rw [show m - 1 - 0 + 1 = m by omega, hm3]
    · rw [List.map_reverse, sum_rev, List.map_map]
      have := sums m
      rw [hm3] at this
      have h2 : 0 < ((List.range m).map fun i => (lk all (backF n all F.by_ (iterF n all F.by_ i e0))).c).sum := by
        rcases this.2 with h3 | h3
        · omega
        · omega
      exact h2

/-- all links are kept -/
def Keeps (all : List T3) (y : List Int) : Prop := ∀ l ∈ all, gt y l.a + l.c ≤ gt y l.b
/-- nowhere later -/
def LeAt (n : Nat) (x y : List Int) : Prop := ∀ v : Int, 0 ≤ v → v < n → gt x v ≤ gt y v

theorem LeAt.refl (n : Nat) (x : List Int) : LeAt n x x := fun _ _ _ => Int.le_refl _
theorem LeAt.trans {n : Nat} {x y z : List Int} (h : LeAt n x y) (k : LeAt n y z) : LeAt n x z := fun v h0 h1 => Int.le_trans (h v h0 h1) (k v h0 h1)

theorem relax_len {n : Nat} {st : St} {k : Nat} {l : T3} (h : st.ts.length = n) : (relax st k l).ts.length = n := by
  unfold relax; split <;> simpa using h

theorem relax_ts {n : Nat} {st : St} {k : Nat} {l : T3} (h : st.ts.length = n) (hl : okLk n l = true) (v : Int) (hv : 0 ≤ v) :
    gt (relax st k l).ts v = if v = l.b ∧ gt st.ts l.b < gt st.ts l.a + l.c then gt st.ts l.a + l.c else gt st.ts v := by
  obtain ⟨a1, a2, b1, b2, _⟩ := okLk_out hl
  unfold relax
  by_cases hlt : gt st.ts l.b < gt st.ts l.a + l.c
  · rw [if_pos hlt]
    show gt (st.ts.set l.b.toNat (gt st.ts l.a + l.c)) v = _
    rw [gt_set b1 (by omega) hv]
    by_cases e : v = l.b
    · rw [if_pos e, if_pos ⟨e, hlt⟩]
    · rw [if_neg e, if_neg (fun h => e h.1)]
  · rw [if_neg hlt, if_neg (fun h => hlt h.2)]

theorem part_len {n : Nat} {all : List T3} {st : St} (h : st.ts.length = n) : ∀ k, (B.part all k st).ts.length = n
  | 0 => h
  | k + 1 => by
    simp only [B.part]
    split
    · exact relax_len (part_len h k)
    · exact part_len h k

theorem part_le {n : Nat} {all : List T3} (hV : Valid n all) {y : List Int} (hk : Keeps all y) {st : St} (hl : st.ts.length = n) (h : LeAt n st.ts y) : ∀ k, LeAt n (B.part all k st).ts y
  | 0 => h
  | k + 1 => by
    have ih := part_le hV hk hl h k
    simp only [B.part]
    split
    · rename_i l he
      have hm := List.mem_of_getElem? he
      obtain ⟨a1, a2, b1, b2, _⟩ := okLk_out (hV l hm)
      intro v h0 h1
      rw [relax_ts (part_len hl k) (hV l hm) v h0]
      split
      · rename_i e
        rw [e.1]
        have := hk l hm
        have := ih l.a a1 a2
        omega
      · exact ih v h0 h1
    · exact ih

theorem part_ge {n : Nat} {all : List T3} (hV : Valid n all) {st : St} (hl : st.ts.length = n) : ∀ k, LeAt n st.ts (B.part all k st).ts
  | 0 => LeAt.refl _ _
  | k + 1 => by
    have ih := part_ge hV hl k
    simp only [B.part]
    split
    · rename_i l he
      have hm := List.mem_of_getElem? he
      intro v h0 h1
      rw [relax_ts (part_len hl k) (hV l hm) v h0]
      split
      · rename_i e
        have := ih v h0 h1
        rw [e.1] at this ⊢
        omega
      · exact ih v h0 h1
    · exact ih

theorem part_stable {n : Nat} {all : List T3} (hV : Valid n all) (ts by_ : List Int) : ∀ k, k ≤ all.length → (0 ≤ (B.part all k ⟨ts, by_, -1⟩).raised) ∨ (B.part all k ⟨ts, by_, -1⟩ = ⟨ts, by_, -1⟩ ∧ ∀ j l, j < k → all[j]? = some l → gt ts l.a + l.c ≤ gt ts l.b)
  | 0, _ => .inr ⟨rfl, fun j l h => absurd h (Nat.not_lt_zero _)⟩
  | k + 1, hk => by
    have he : all[k]? = some all[k] := List.getElem?_eq_getElem (by omega)
    have hm := List.mem_of_getElem? he
    rw [part_succ _ _ _ _ he]
    generalize all[k] = x at he hm
    obtain ⟨a1, a2, b1, b2, _⟩ := okLk_out (hV _ hm)
    rcases part_stable hV ts by_ k (by omega) with h | ⟨h1, h2⟩
    · left
      unfold relax
      split
      · exact b1
      · exact h
    · rw [h1]
      unfold relax
      split
      · left; exact b1
      · rename_i hn
        right
        refine ⟨rfl, fun j l hj hl => ?_⟩
        by_cases e : j = k
        · subst e
          rw [he] at hl
          cases hl
          show ts.getD x.a.toNat 0 + x.c ≤ ts.getD x.b.toNat 0
          simp only at hn
          omega
        · exact h2 j l (by omega) hl

theorem round_stable {n : Nat} {all : List T3} (hV : Valid n all) {st : St} (h : (round all st).raised < 0) : (round all st).ts = st.ts ∧ Keeps all st.ts := by
  have hrd : round all st = B.part all all.length ⟨st.ts, st.by_, -1⟩ := rfl
  rw [hrd] at h ⊢
  rcases part_stable hV st.ts st.by_ all.length (Nat.le_refl _) with h1 | ⟨h1, h2⟩
  · omega
  · rw [h1]
    refine ⟨rfl, fun l hl => ?_⟩
    obtain ⟨j, hj⟩ := List.getElem?_of_mem hl
    exact h2 j l (List.getElem?_eq_some_iff.1 hj).1 hj

theorem rounds_len {n : Nat} {all : List T3} : ∀ (m : Nat) {st : St}, st.ts.length = n → (rounds all m st).ts.length = n
  | 0, st, h => h
  | m + 1, st, h => by
    simp only [rounds]
    have h1 : (round all st).ts.length = n := part_len (st := ⟨st.ts, st.by_, -1⟩) h _
    split
    · exact h1
    · exact rounds_len m h1

theorem rounds_stable {n : Nat} {all : List T3} (hV : Valid n all) : ∀ (m : Nat) {st : St}, 1 ≤ m → (rounds all m st).raised < 0 → Keeps all (rounds all m st).ts
  | 0, st, h, _ => by omega
  | m + 1, st, _, hr => by
    simp only [rounds] at hr ⊢
    by_cases h : (round all st).raised < 0
    · rw [if_pos h] at hr ⊢
      obtain ⟨h1, h2⟩ := round_stable hV h
      rw [h1]; exact h2
    · rw [if_neg h] at hr ⊢
      cases m with
      | zero => simp only [rounds] at hr; omega
      | succ m => exact rounds_stable hV (m + 1) (by omega) hr

theorem rounds_le {n : Nat} {all : List T3} (hV : Valid n all) {y : List Int} (hk : Keeps all y) : ∀ (m : Nat) {st : St}, st.ts.length = n → LeAt n st.ts y → LeAt n (rounds all m st).ts y
  | 0, st, _, h => h
  | m + 1, st, hl, h => by
    simp only [rounds]
    have h1 : LeAt n (round all st).ts y := part_le hV hk (st := ⟨st.ts, st.by_, -1⟩) hl h _
    have hl1 : (round all st).ts.length = n := part_len (st := ⟨st.ts, st.by_, -1⟩) hl _
    split
    · exact h1
    · exact rounds_le hV hk m hl1 h1

theorem rounds_ge {n : Nat} {all : List T3} (hV : Valid n all) : ∀ (m : Nat) {st : St}, st.ts.length = n → LeAt n st.ts (rounds all m st).ts
  | 0, st, _ => LeAt.refl _ _
  | m + 1, st, hl => by
    simp only [rounds]
    have h1 : LeAt n st.ts (round all st).ts := part_ge hV (st := ⟨st.ts, st.by_, -1⟩) hl _
    have hl1 : (round all st).ts.length = n := part_len (st := ⟨st.ts, st.by_, -1⟩) hl _
    split
    · exact h1
    · exact h1.trans (rounds_ge hV m hl1)

/-- no net has both a timetable and a proof that there is none -/
theorem proof_no {n : Nat} {all : List T3} {p : List Int} (h : ProofOk n all p) {y : List Int} (hk : Keeps all y) : False := by
  have hmem : ∀ c, c ∈ p → lk all c ∈ all := fun c hc => by
    obtain ⟨h0, h1⟩ := h.rng c hc
    unfold lk
    rw [List.getD_eq_getElem?_getD, List.getElem?_eq_getElem (show c.toNat < all.length by omega)]
    exact List.getElem_mem _
  have key : ∀ k, k < p.length → ((p.take (k + 1)).map fun c => (lk all c).c).sum ≤ gt y (lk all (p.getD k 0)).b - gt y (lk all (p.getD 0 0)).a := by
    intro k
    induction k with
    | zero =>
      intro hk0
      have hp : p[0]? = some (p.getD 0 0) := getD_get hk0
      have : p.take (0 + 1) = [p.getD 0 0] := by
        rw [List.take_add_one, hp]; rfl
      rw [this]
      have := hk _ (hmem _ (List.mem_of_getElem? hp))
      simp only [List.map_cons, List.map_nil, List.sum_cons, List.sum_nil]
      omega
    | succ k ih =>
      intro hk0
      have hp : p[k + 1]? = some (p.getD (k + 1) 0) := getD_get hk0
      have e : p.take (k + 1 + 1) = p.take (k + 1) ++ [p.getD (k + 1) 0] := by
        rw [List.take_add_one (i := k + 1), hp]; rfl
      rw [e, List.map_append, List.sum_append]
      have h1 := ih (by omega)
      have h2 := hk _ (hmem _ (List.mem_of_getElem? hp))
      have h3 := h.chain k hk0
      rw [h3] at h1
      simp only [List.map_cons, List.map_nil, List.sum_cons, List.sum_nil]
      omega
  have h1 := h.len1
  have h2 := key (p.length - 1) (by omega)
  rw [show p.length - 1 + 1 = p.length by omega, List.take_length, h.closed] at h2
  have := h.sum
  omega

/-- pushing ends at the least times that keep all links and are not earlier; or there is a proof that no times keep all -/
theorem push_ends {n : Nat} {all : List T3} (hV : Valid n all) (hn : 1 ≤ n) (hal : n ≤ all.length) (ts : List Int) (hts : ts.length = n) :
    ((pushF n all ts).raised < 0 ∧ (pushF n all ts).ts.length = n ∧ Keeps all (pushF n all ts).ts ∧ LeAt n ts (pushF n all ts).ts ∧ ∀ y, Keeps all y → LeAt n ts y → LeAt n (pushF n all ts).ts y) ∨
    (0 ≤ (pushF n all ts).raised ∧ (∃ p, ProofOk n all p) ∧ ∀ y, ¬ Keeps all y) := by
  by_cases h : (pushF n all ts).raised < 0
  · exact .inl ⟨h, rounds_len _ hts, rounds_stable hV _ (by omega) h, rounds_ge hV _ hts, fun y hk hy => rounds_le hV hk _ hts hy⟩
  · obtain ⟨_, _, _, ⟨m, m1, m2, m3⟩, hp⟩ := push_cyc hV hn hal ts hts _ rfl (by omega)
    exact .inr ⟨by omega, ⟨_, hp m m1 m2 m3⟩, fun y hy => proof_no (hp m m1 m2 m3) hy⟩
end Go.Proofs.Ytpknonebnipcgaa.P
