/- Plain law of the latest timetable: lowering is raising in the mirror. The moment 0 stays at 0. -/
import Derived.Test.YtpknonebnipcgaaD
namespace Go.Proofs.Ytpknonebnipcgaa.P
open Go.Proofs.Ytpknonebnipcgaa.V Go.Proofs.Ytpknonebnipcgaa.A Go.Proofs.Ytpknonebnipcgaa.B Go.Proofs.Ytpknonebnipcgaa.C Go.Proofs.Ytpknonebnipcgaa.D
set_option linter.unusedVariables false
set_option linter.unusedSimpArgs false

/-! ### lowering is raising in the mirror -/
def mir (all : List T3) : List T3 := all.map fun l => ⟨l.b, l.a, l.c⟩
def neg (xs : List Int) : List Int := xs.map fun x => -x

theorem gt_neg (xs : List Int) (v : Int) : gt (neg xs) v = - gt xs v := by
  unfold gt neg
  rw [List.getD_eq_getElem?_getD, List.getD_eq_getElem?_getD, List.getElem?_map]
  cases xs[v.toNat]? <;> simp

theorem mir_get (all : List T3) (k : Nat) : (mir all)[k]? = (all[k]?).map fun l => (⟨l.b, l.a, l.c⟩ : T3) := by simp [mir]

theorem mir_valid {n : Nat} {all : List T3} (h : Valid n all) : Valid n (mir all) := by
  intro l hl
  obtain ⟨l', h', rfl⟩ := List.mem_map.1 hl
  have := okLk_out (h l' h')
  simp [okLk, inB]
  omega

theorem neg_set (xs : List Int) (j : Nat) (x : Int) : neg (xs.set j x) = (neg xs).set j (-x) := by simp [neg, List.map_set]

theorem mir_part {n : Nat} {all : List T3} (hV : Valid n all) (xs by_ : List Int) : ∀ k, (B.part (mir all) k ⟨neg xs, by_, -1⟩).ts = neg (partL all k ⟨xs, false⟩).xs ∧ (((B.part (mir all) k ⟨neg xs, by_, -1⟩).raised < 0) ↔ (partL all k ⟨xs, false⟩).ch = false)
  | 0 => ⟨rfl, by simp [B.part, partL]⟩
  | k + 1 => by
    obtain ⟨h1, h2⟩ := mir_part hV xs by_ k
    simp only [B.part, partL]
    rw [mir_get]
    cases he : all[k]? with
    | none => exact ⟨h1, h2⟩
    | some l =>
      simp only [Option.map_some]
      obtain ⟨a1, a2, b1, b2, _⟩ := okLk_out (hV l (List.mem_of_getElem? he))
      generalize B.part (mir all) k ⟨neg xs, by_, -1⟩ = P at h1 h2
      generalize partL all k ⟨xs, false⟩ = Q at h1 h2
      unfold relax lower
      have ga : P.ts.getD l.a.toNat 0 = - Q.xs.getD l.a.toNat 0 := by rw [h1]; exact gt_neg Q.xs l.a
      have gb : P.ts.getD l.b.toNat 0 = - Q.xs.getD l.b.toNat 0 := by rw [h1]; exact gt_neg Q.xs l.b
      simp only [ga, gb]
      by_cases hlt : Q.xs.getD l.b.toNat 0 - l.c < Q.xs.getD l.a.toNat 0
      · rw [if_pos hlt, if_pos (by omega)]
        refine ⟨?_, ?_⟩
        · show P.ts.set l.a.toNat (- Q.xs.getD l.b.toNat 0 + l.c) = neg (Q.xs.set l.a.toNat (Q.xs.getD l.b.toNat 0 - l.c))
          rw [neg_set, ← h1]
          congr 1
          omega
        · constructor
          · intro h; simp only at h; omega
          · intro h; cases h
      · rw [if_neg hlt, if_neg (by omega)]
        exact ⟨h1, h2⟩

theorem mir_len (all : List T3) : (mir all).length = all.length := by simp [mir]

theorem mir_round {n : Nat} {all : List T3} (hV : Valid n all) (xs by_ : List Int) (r : Int) : (round (mir all) ⟨neg xs, by_, r⟩).ts = neg (roundL all xs).xs ∧ ((round (mir all) ⟨neg xs, by_, r⟩).raised < 0 ↔ (roundL all xs).ch = false) := by
  have h1 : round (mir all) ⟨neg xs, by_, r⟩ = B.part (mir all) (mir all).length ⟨neg xs, by_, -1⟩ := rfl
  have h2 : roundL all xs = partL all all.length ⟨xs, false⟩ := rfl
  rw [h1, h2, mir_len]
  exact mir_part hV xs by_ all.length

theorem iterL_next (all : List T3) : ∀ (r : Nat) (xs : List Int), iterL all (r + 1) xs = iterL all r (roundL all xs).xs
  | 0, xs => rfl
  | r + 1, xs => by
    show (roundL all (iterL all (r + 1) xs)).xs = (roundL all (iterL all r (roundL all xs).xs)).xs
    rw [iterL_next all r xs]

/-- if raising in the mirror ends, lowering ends -/
theorem mir_rounds {n : Nat} {all : List T3} (hV : Valid n all) : ∀ (m : Nat) (xs by_ : List Int) (r : Int), 1 ≤ m → (rounds (mir all) m ⟨neg xs, by_, r⟩).raised < 0 → ∃ K, K < m ∧ (roundL all (iterL all K xs)).ch = false
  | 0, _, _, _, h, _ => by omega
  | m + 1, xs, by_, r, _, hr => by
    obtain ⟨h1, h2⟩ := mir_round hV xs by_ r
    simp only [rounds] at hr
    by_cases h : (round (mir all) ⟨neg xs, by_, r⟩).raised < 0
    · exact ⟨0, by omega, h2.1 h⟩
    · rw [if_neg h] at hr
      cases m with
      | zero => simp only [rounds] at hr; omega
      | succ m =>
        generalize round (mir all) ⟨neg xs, by_, r⟩ = R at h1 hr
        obtain ⟨rt, rb, rr⟩ := R
        simp only at h1
        subst h1
        obtain ⟨K, hK, hc⟩ := mir_rounds hV (m + 1) _ rb rr (by omega) hr
        exact ⟨K + 1, by omega, by rw [iterL_next]; exact hc⟩

theorem mir_keeps {all : List T3} {y : List Int} (h : Keeps all y) : Keeps (mir all) (neg y) := by
  intro l hl
  obtain ⟨l', h', rfl⟩ := List.mem_map.1 hl
  have := h l' h'
  rw [gt_neg, gt_neg]
  show - gt y l'.b + l'.c ≤ - gt y l'.a
  omega

theorem low_ends {n : Nat} {all : List T3} (hV : Valid n all) (hn : 1 ≤ n) (hal : n ≤ all.length) {y : List Int} (hk : Keeps all y) (xs : List Int) (hx : xs.length = n) : ∃ K, K ≤ n ∧ (roundL all (iterL all K xs)).ch = false := by
  rcases push_ends (mir_valid hV) hn (by rw [mir_len]; exact hal) (neg xs) (by simpa [neg] using hx) with h | h
  · obtain ⟨K, h1, h2⟩ := mir_rounds hV (n + 1) xs (List.replicate n (-1)) (-1) (by omega) h.1
    exact ⟨K, by omega, h2⟩
  · exact absurd (mir_keeps hk) (h.2.2 _)

theorem iterL_stop {all : List T3} {xs : List Int} {r : Nat} (h : (roundL all (iterL all r xs)).ch = false) : ∀ d, iterL all (r + d) xs = iterL all r xs
  | 0 => rfl
  | d + 1 => by
    show (roundL all (iterL all (r + d) xs)).xs = _
    rw [iterL_stop h d, (roundL_same h).1]

theorem iterL_one {all : List T3} {xs : List Int} {r r' : Nat} (h : (roundL all (iterL all r xs)).ch = false) (h' : (roundL all (iterL all r' xs)).ch = false) : iterL all r xs = iterL all r' xs := by
  rcases Nat.le_total r r' with hle | hle
  · rw [show r' = r + (r' - r) by omega]; exact (iterL_stop h _).symm
  · rw [show r = r' + (r - r') by omega]; exact iterL_stop h' _

theorem lower_xs {n : Nat} {s : Lo} {l : T3} (h : s.xs.length = n) (hl : okLk n l = true) (v : Int) (hv : 0 ≤ v) :
    gt (lower s l).xs v = if v = l.a ∧ gt s.xs l.b - l.c < gt s.xs l.a then gt s.xs l.b - l.c else gt s.xs v := by
  obtain ⟨a1, a2, b1, b2, _⟩ := okLk_out hl
  unfold lower
  by_cases hlt : gt s.xs l.b - l.c < gt s.xs l.a
  · rw [if_pos hlt]
    show gt (s.xs.set l.a.toNat (gt s.xs l.b - l.c)) v = _
    rw [gt_set a1 (by omega) hv]
    by_cases e : v = l.a
    · rw [if_pos e, if_pos ⟨e, hlt⟩]
    · rw [if_neg e, if_neg (fun h => e h.1)]
  · rw [if_neg hlt, if_neg (fun h => hlt h.2)]

theorem partL_ge {n : Nat} {all : List T3} (hV : Valid n all) {y : List Int} (hk : Keeps all y) {s : Lo} (hl : s.xs.length = n) (h : LeAt n y s.xs) : ∀ k, LeAt n y (partL all k s).xs
  | 0 => h
  | k + 1 => by
    have ih := partL_ge hV hk hl h k
    simp only [partL]
    split
    · rename_i l he
      have hm := List.mem_of_getElem? he
      obtain ⟨a1, a2, b1, b2, _⟩ := okLk_out (hV l hm)
      intro v h0 h1
      rw [lower_xs (partL_len hl k) (hV l hm) v h0]
      split
      · rename_i e
        rw [e.1]
        have := hk l hm
        have := ih l.b b1 b2
        omega
      · exact ih v h0 h1
    · exact ih

theorem partL_le {n : Nat} {all : List T3} (hV : Valid n all) {s : Lo} (hl : s.xs.length = n) : ∀ k, LeAt n (partL all k s).xs s.xs
  | 0 => LeAt.refl _ _
  | k + 1 => by
    have ih := partL_le hV hl k
    simp only [partL]
    split
    · rename_i l he
      have hm := List.mem_of_getElem? he
      intro v h0 h1
      rw [lower_xs (partL_len hl k) (hV l hm) v h0]
      split
      · rename_i e
        have := ih v h0 h1
        rw [e.1] at this ⊢
        omega
      · exact ih v h0 h1
    · exact ih

theorem iterL_ge {n : Nat} {all : List T3} (hV : Valid n all) {y : List Int} (hk : Keeps all y) {xs : List Int} (hl : xs.length = n) (h : LeAt n y xs) : ∀ r, LeAt n y (iterL all r xs)
  | 0 => h
  | r + 1 => partL_ge hV hk (s := ⟨_, false⟩) (iterL_len hl r) (iterL_ge hV hk hl h r) _

theorem iterL_le {n : Nat} {all : List T3} (hV : Valid n all) {xs : List Int} (hl : xs.length = n) : ∀ r, LeAt n (iterL all r xs) xs
  | 0 => LeAt.refl _ _
  | r + 1 => (partL_le hV (s := ⟨_, false⟩) (iterL_len hl r) _).trans (iterL_le hV hl r)

theorem low_keeps {all : List T3} {xs : List Int} (h : (roundL all xs).ch = false) : Keeps all xs := fun l hl => by
  have := (roundL_same h).2 l hl
  show xs.getD l.a.toNat 0 + l.c ≤ xs.getD l.b.toNat 0
  omega

theorem start_get (n : Nat) (last : Int) (v : Int) (h0 : 0 ≤ v) (h1 : v < n) : gt (startL n last) v = if v = 0 then 0 else last := by
  unfold startL gt
  rw [List.getD_eq_getElem?_getD, List.getElem?_set]
  by_cases e : v = 0
  · subst e
    rw [if_pos rfl, if_pos (show 0 = Int.toNat 0 from rfl), if_pos (by simp; omega)]
    rfl
  · rw [if_neg (by omega), if_neg e, List.getElem?_replicate, if_pos (by omega)]
    rfl

/-- the latest timetable up to a time -/
def lat (n : Int) (ls : List T3) (last : Int) : List Int := iterL (allOf n ls) n.toNat (startL n.toNat last)

/-- lowering from a time on: it ends within n rounds at the greatest times that keep all links, if any times keep them -/
theorem lat_ends {n : Nat} {all : List T3} (hV : Valid n all) (hn : 1 ≤ n) (hal : n ≤ all.length) (last : Int) {y : List Int} (hk : Keeps all y) :
    (roundL all (iterL all n (startL n last))).ch = false ∧ (∀ r, (roundL all (iterL all r (startL n last))).ch = false → iterL all r (startL n last) = iterL all n (startL n last)) ∧
    Keeps all (iterL all n (startL n last)) ∧ LeAt n (iterL all n (startL n last)) (startL n last) ∧ (∀ z, Keeps all z → LeAt n z (startL n last) → LeAt n z (iterL all n (startL n last))) := by
  obtain ⟨K, h1, h2⟩ := low_ends hV hn hal hk (startL n last) (startL_len n last)
  have e : iterL all n (startL n last) = iterL all K (startL n last) := by
    have := iterL_stop h2 (n - K)
    rwa [show K + (n - K) = n by omega] at this
  have h3 : (roundL all (iterL all n (startL n last))).ch = false := by rw [e]; exact h2
  exact ⟨h3, fun r hr => iterL_one hr h3, low_keeps h3, iterL_le hV (startL_len n last) _, fun z hz hzl => iterL_ge hV hz (startL_len n last) hzl _⟩

theorem low_bounds {n : Nat} {all : List T3} (hV : Valid n all) (last : Int) (h0 : 0 ≤ last) (hb : last ≤ 1000000000) {y : List Int} (hk : Keeps all y) (hy : ∀ v : Int, 0 ≤ v → v < n → 0 ≤ gt y v) (hl : LeAt n y (startL n last)) :
    ∀ r k, ∀ x ∈ (partL all k ⟨iterL all r (startL n last), false⟩).xs, 0 ≤ x ∧ x ≤ 1000000000 := by
  intro r k x hx
  have hlen : (iterL all r (startL n last)).length = n := iterL_len (startL_len n last) r
  have hlen2 : (partL all k ⟨iterL all r (startL n last), false⟩).xs.length = n := partL_len (s := ⟨_, false⟩) hlen k
  have g1 : LeAt n y (partL all k ⟨iterL all r (startL n last), false⟩).xs := partL_ge hV hk (s := ⟨_, false⟩) hlen (iterL_ge hV hk (startL_len n last) hl r) k
  have g2 : LeAt n (partL all k ⟨iterL all r (startL n last), false⟩).xs (startL n last) := (partL_le hV (s := ⟨_, false⟩) hlen k).trans (iterL_le hV (startL_len n last) r)
  obtain ⟨j, hj⟩ := List.getElem?_of_mem hx
  have hjl := (List.getElem?_eq_some_iff.1 hj).1
  have e : gt (partL all k ⟨iterL all r (startL n last), false⟩).xs (j : Int) = x := by
    unfold gt
    rw [Int.toNat_natCast, List.getD_eq_getElem?_getD, hj]
    rfl
  have q1 := g1 j (by omega) (by omega)
  have q2 := g2 j (by omega) (by omega)
  rw [e] at q1 q2
  rw [start_get n last j (by omega) (by omega)] at q2
  have q3 := hy j (by omega) (by omega)
  split at q2 <;> omega

/-! ### the earliest timetable -/
theorem keeps_adds {n : Nat} {ls : List T3} {y : List Int} (h : Keeps (ls ++ adds n) y) (v : Int) (h0 : 0 ≤ v) (h1 : v < n) : gt y 0 ≤ gt y v := by
  have hm : (⟨0, v, 0⟩ : T3) ∈ ls ++ adds n := by
    refine List.mem_append.2 (.inr ?_)
    simp only [adds, List.mem_map, List.mem_range]
    exact ⟨v.toNat, by omega, by congr 1; show ((v.toNat : Nat) : Int) = v; omega⟩
  have := h _ hm
  simpa using this

theorem zero_get (n : Nat) (v : Int) : gt (List.replicate n (0 : Int)) v = 0 := by
  unfold gt
  rw [List.getD_eq_getElem?_getD, List.getElem?_replicate]
  split <;> rfl

def shift (c : Int) (y : List Int) : List Int := y.map fun x => x - c
theorem shift_get (c : Int) (y : List Int) (v : Int) (h1 : v.toNat < y.length) : gt (shift c y) v = gt y v - c := by
  unfold gt shift
  rw [List.getD_eq_getElem?_getD, List.getD_eq_getElem?_getD, List.getElem?_map, List.getElem?_eq_getElem h1]
  rfl

/-- pushing from the beginning: the moment 0 stays at 0 -/
theorem earl_zero {n : Int} {ls : List T3} (h : rightB n ls = true) (hf : (earl n ls).raised < 0) :
    (earl n ls).ts.length = n.toNat ∧ gt (earl n ls).ts 0 = 0 ∧ Keeps (allOf n ls) (earl n ls).ts ∧ (∀ v : Int, 0 ≤ v → v < n.toNat → 0 ≤ gt (earl n ls).ts v) ∧
    ∀ y, Keeps (allOf n ls) y → (∀ v : Int, 0 ≤ v → v < n.toNat → 0 ≤ gt y v) → LeAt n.toNat (earl n ls).ts y := by
  obtain ⟨h1, h2, h3, h4⟩ := right_out h
  have hV := valid_all h
  rcases push_ends hV (by omega) (by rw [all_len]; omega) (List.replicate n.toNat 0) (by simp) with ⟨q1, q2, q3, q4, q5⟩ | ⟨q1, _⟩
  · have e : pushF n.toNat (allOf n ls) (List.replicate n.toNat 0) = earl n ls := rfl
    rw [e] at q1 q2 q3 q4 q5
    have pos : ∀ v : Int, 0 ≤ v → v < n.toNat → 0 ≤ gt (earl n ls).ts v := fun v a b => by
      have := q4 v a b
      rwa [zero_get] at this
    have least : ∀ y, Keeps (allOf n ls) y → (∀ v : Int, 0 ≤ v → v < n.toNat → 0 ≤ gt y v) → LeAt n.toNat (earl n ls).ts y := fun y hy hp => q5 y hy (fun v a b => by rw [zero_get]; exact hp v a b)
    refine ⟨q2, ?_, q3, pos, least⟩
    have hk : Keeps (allOf n ls) (shift (gt (earl n ls).ts 0) (earl n ls).ts) := by
      intro l hl
      obtain ⟨a1, a2, b1, b2, _⟩ := okLk_out (hV l hl)
      rw [shift_get _ _ _ (by omega), shift_get _ _ _ (by omega)]
      have := q3 l hl
      omega
    have := least _ hk (fun v a b => by
      rw [shift_get _ _ _ (by omega)]
      have := keeps_adds (n := n.toNat) q3 v a b
      omega) 0 (Int.le_refl _) (by omega)
    rw [shift_get _ _ _ (by omega)] at this
    have := pos 0 (Int.le_refl _) (by omega)
    omega
  · have e : pushF n.toNat (allOf n ls) (List.replicate n.toNat 0) = earl n ls := rfl
    rw [e] at q1
    omega
end Go.Proofs.Ytpknonebnipcgaa.P
