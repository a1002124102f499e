import Derived.Test.YtpknonebnipcgaaProg
import Derived.WalkKit
import Derived.KernelRfl
import Derived.Deep.LoopGhost
import Derived.Deep.QuietTactic
import Derived.BigQuiet
import Derived.Deep.DeepCutAuto
import Derived.Deep.CutBlock
import Derived.Deep.RegionHeld3
import Derived.WalkLawsBesides
import Derived.WalkSpells
import Derived.Outline
import Derived.Deep.DeepFit
import Derived.Lib.Hide
import Derived.Shelf.Abstract
import Derived.Test.YtpknonebnipcgaaZl

namespace Go.Proofs.Ytpknonebnipcgaa.Pr
open Go.RowKit Go.Shelf Go.Proofs.Ytpknonebnipcgaa.V Go.Proofs.Ytpknonebnipcgaa.A Go.Proofs.Ytpknonebnipcgaa.B Go.Proofs.Ytpknonebnipcgaa.C Go.Proofs.Ytpknonebnipcgaa.P Go.Proofs.Ytpknonebnipcgaa.D Go.Proofs.Ytpknonebnipcgaa.E Go.Proofs.Ytpknonebnipcgaa.F Go.Proofs.Ytpknonebnipcgaa.G Go.Proofs.Ytpknonebnipcgaa.U Go.Proofs.Ytpknonebnipcgaa.Y Go.Proofs.Ytpknonebnipcgaa.Z Go.Proofs.Ytpknonebnipcgaa.Zl
set_option linter.unusedVariables false
set_option linter.unusedSimpArgs false

/-! ### the reference's layers -/
def tight (last : List Bool) (ts : List Int) (l : T3) : Bool := last.getD l.a.toNat false && (ts.getD l.a.toNat 0 + l.c == ts.getD l.b.toNat 0)
def updB (last : List Bool) (ts : List Int) (now : List Bool) (l : T3) : List Bool := if tight last ts l = true then now.set l.b.toNat true else now
def partB (all : List T3) (ts : List Int) (last : List Bool) : Nat → List Bool → List Bool
  | 0, now => now
  | k + 1, now => match all[k]? with | some l => updB last ts (partB all ts last k now) l | none => partB all ts last k now
theorem partB_succ (all : List T3) (ts : List Int) (last : List Bool) (k : Nat) (now : List Bool) (l : T3) (h : all[k]? = some l) : partB all ts last (k + 1) now = updB last ts (partB all ts last k now) l := by simp only [partB]; rw [h]
def layF (n : Nat) (all : List T3) (ts : List Int) : Nat → List Bool
  | 0 => (List.replicate n false).set 0 true
  | k + 1 => partB all ts (layF n all ts k) all.length (List.replicate n false)
theorem updB_len {n : Nat} {last now : List Bool} {ts : List Int} {l : T3} (h : now.length = n) : (updB last ts now l).length = n := by unfold updB; split <;> simpa using h
theorem partB_len {n : Nat} {all : List T3} {ts : List Int} {last now : List Bool} (h : now.length = n) : ∀ k, (partB all ts last k now).length = n
  | 0 => h
  | k + 1 => by
    simp only [partB]
    split
    · exact updB_len (partB_len h k)
    · exact partB_len h k
theorem layF_len (n : Nat) (all : List T3) (ts : List Int) : ∀ k, (layF n all ts k).length = n
  | 0 => by simp [layF]
  | k + 1 => partB_len (by simp) _

theorem getD_setB {xs : List Bool} {i j : Nat} (hi : i < xs.length) (x : Bool) : (xs.set i x).getD j false = if j = i then x else xs.getD j false := by
  rw [List.getD_eq_getElem?_getD, List.getElem?_set]
  by_cases h : i = j
  · subst h
    rw [if_pos rfl, if_pos rfl, if_pos hi]
    rfl
  · rw [if_neg h, if_neg (fun e => h e.symm), List.getD_eq_getElem?_getD]

theorem getD_setI {xs : List Int} {i j : Nat} (hi : i < xs.length) (x : Int) : (xs.set i x).getD j 0 = if j = i then x else xs.getD j 0 := by
  rw [List.getD_eq_getElem?_getD, List.getElem?_set]
  by_cases h : i = j
  · subst h
    rw [if_pos rfl, if_pos rfl, if_pos hi]
    rfl
  · rw [if_neg h, if_neg (fun e => h e.symm), List.getD_eq_getElem?_getD]

theorem getD_rep (n v : Nat) (x : Bool) : (List.replicate n x).getD v false = (decide (v < n) && x) := by
  rw [List.getD_eq_getElem?_getD, List.getElem?_replicate]
  by_cases h : v < n
  · rw [if_pos h, decide_eq_true h]; rfl
  · rw [if_neg h, decide_eq_false h]; rfl
theorem getD_repI (n v : Nat) (x : Int) (h : v < n) : (List.replicate n x).getD v 0 = x := by
  rw [List.getD_eq_getElem?_getD, List.getElem?_replicate, if_pos h]; rfl

theorem okN {n : Nat} {l : T3} (h : okLk n l = true) : l.a.toNat < n ∧ l.b.toNat < n := by
  obtain ⟨a1, a2, b1, b2, _⟩ := okLk_out h
  omega

theorem partB_get {n : Nat} {all : List T3} (hV : Valid n all) {ts : List Int} {last : List Bool} (v : Nat) : ∀ k, k ≤ all.length →
    ((partB all ts last k (List.replicate n false)).getD v false = true ↔ ∃ l ∈ all.take k, l.b.toNat = v ∧ tight last ts l = true)
  | 0, _ => by
    show (List.replicate n false).getD v false = true ↔ _
    rw [getD_rep]
    simp
  | k + 1, hk => by
    have he : all[k]? = some all[k] := List.getElem?_eq_getElem (by omega)
    have hok := okN (hV _ (List.mem_of_getElem? he))
    rw [partB_succ _ _ _ _ _ _ he]
    have ih := partB_get hV (ts := ts) (last := last) v k (by omega)
    rw [List.take_add_one, he]
    generalize all[k] = x at *
    unfold updB
    by_cases ht : tight last ts x = true
    · rw [if_pos ht, getD_setB (by rw [partB_len (n := n) (by simp)]; exact hok.2)]
      constructor
      · intro h
        split at h
        · rename_i e
          exact ⟨x, by simp, e.symm, ht⟩
        · obtain ⟨l, hl, h1, h2⟩ := ih.1 h
          exact ⟨l, by simp [hl], h1, h2⟩
      · rintro ⟨l, hl, h1, h2⟩
        split
        · rfl
        · rename_i e
          rcases List.mem_append.1 hl with hl | hl
          · exact ih.2 ⟨l, hl, h1, h2⟩
          · simp at hl
            subst hl
            exact absurd h1.symm e
    · rw [if_neg ht, ih]
      constructor
      · rintro ⟨l, hl, h1, h2⟩
        exact ⟨l, by simp [hl], h1, h2⟩
      · rintro ⟨l, hl, h1, h2⟩
        rcases List.mem_append.1 hl with hl | hl
        · exact ⟨l, hl, h1, h2⟩
        · simp at hl
          subst hl
          exact absurd h2 ht

theorem layF_succ {n : Nat} {all : List T3} (hV : Valid n all) (ts : List Int) (k v : Nat) : (layF n all ts (k + 1)).getD v false = true ↔ ∃ l ∈ all, l.b.toNat = v ∧ tight (layF n all ts k) ts l = true := by
  show (partB all ts (layF n all ts k) all.length (List.replicate n false)).getD v false = true ↔ _
  rw [partB_get hV v all.length (Nat.le_refl _), List.take_length]

/-! ### the program's rows -/
theorem partR_get {n : Nat} {all : List T3} (hV : Valid n all) {last : List Int} (v : Nat) (hv : v < n) : ∀ k, k ≤ all.length →
    (∀ l ∈ all.take k, l.b.toNat = v → NO < last.getD l.a.toNat 0 → last.getD l.a.toNat 0 + l.c ≤ (partR all last k (List.replicate n NO)).getD v 0) ∧
    ((partR all last k (List.replicate n NO)).getD v 0 = NO ∨ ∃ l ∈ all.take k, l.b.toNat = v ∧ NO < last.getD l.a.toNat 0 ∧ (partR all last k (List.replicate n NO)).getD v 0 = last.getD l.a.toNat 0 + l.c)
  | 0, _ => by
    refine ⟨fun l hl => by simp at hl, .inl ?_⟩
    exact getD_repI n v NO hv
  | k + 1, hk => by
    have he : all[k]? = some all[k] := List.getElem?_eq_getElem (by omega)
    have hok := okN (hV _ (List.mem_of_getElem? he))
    rw [partR_succ _ _ _ _ _ he]
    obtain ⟨i1, i2⟩ := partR_get hV (last := last) v hv k (by omega)
    rw [List.take_add_one, he]
    generalize all[k] = x at *
    have hlen : (partR all last k (List.replicate n NO)).length = n := partR_len (by simp) k
    generalize partR all last k (List.replicate n NO) = now at *
    unfold upd
    by_cases ht : NO < last.getD x.a.toNat 0
    · rw [if_pos ht, getD_setI (by omega)]
      by_cases e : v = x.b.toNat
      · rw [if_pos e]
        rw [e] at i1 i2
        refine ⟨fun l hl h1 h2 => ?_, ?_⟩
        · rcases List.mem_append.1 hl with hl | hl
          · have := i1 l hl (by omega) h2
            omega
          · simp at hl
            subst hl
            omega
        · rcases Int.le_total (now.getD x.b.toNat 0) (last.getD x.a.toNat 0 + x.c) with h | h
          · right
            exact ⟨x, by simp, e.symm, ht, by omega⟩
          · rw [show max (now.getD x.b.toNat 0) (last.getD x.a.toNat 0 + x.c) = now.getD x.b.toNat 0 by omega]
            rcases i2 with i2 | ⟨l, hl, h1, h2, h3⟩
            · exact .inl i2
            · exact .inr ⟨l, by simp [hl], by omega, h2, h3⟩
      · rw [if_neg e]
        refine ⟨fun l hl h1 h2 => ?_, ?_⟩
        · rcases List.mem_append.1 hl with hl | hl
          · exact i1 l hl h1 h2
          · simp at hl
            subst hl
            exact absurd h1.symm e
        · rcases i2 with i2 | ⟨l, hl, h1, h2, h3⟩
          · exact .inl i2
          · exact .inr ⟨l, by simp [hl], h1, h2, h3⟩
    · rw [if_neg ht]
      refine ⟨fun l hl h1 h2 => ?_, ?_⟩
      · rcases List.mem_append.1 hl with hl | hl
        · exact i1 l hl h1 h2
        · simp at hl
          subst hl
          exact absurd h2 ht
      · rcases i2 with i2 | ⟨l, hl, h1, h2, h3⟩
        · exact .inl i2
        · exact .inr ⟨l, by simp [hl], h1, h2, h3⟩

theorem rowR_succ {n : Nat} {all : List T3} (hV : Valid n all) (k v : Nat) (hv : v < n) :
    (∀ l ∈ all, l.b.toNat = v → NO < (rowR n all k).getD l.a.toNat 0 → (rowR n all k).getD l.a.toNat 0 + l.c ≤ (rowR n all (k + 1)).getD v 0) ∧
    ((rowR n all (k + 1)).getD v 0 = NO ∨ ∃ l ∈ all, l.b.toNat = v ∧ NO < (rowR n all k).getD l.a.toNat 0 ∧ (rowR n all (k + 1)).getD v 0 = (rowR n all k).getD l.a.toNat 0 + l.c) := by
  have := partR_get hV (last := rowR n all k) v hv all.length (Nat.le_refl _)
  rw [List.take_length] at this
  exact this

/-- what holds of the earliest times -/
structure Ear (n : Nat) (all : List T3) (ts : List Int) : Prop where
  val : Valid n all
  one : 1 ≤ n
  len : ts.length = n
  zero : ts.getD 0 0 = 0
  keeps : ∀ l ∈ all, ts.getD l.a.toNat 0 + l.c ≤ ts.getD l.b.toNat 0
  pos : ∀ v, v < n → 0 ≤ ts.getD v 0

theorem row_tight {n : Nat} {all : List T3} {ts : List Int} (h : Ear n all ts) : ∀ k v, v < n → (rowR n all k).getD v 0 ≤ ts.getD v 0 ∧ ((rowR n all k).getD v 0 = ts.getD v 0 ↔ (layF n all ts k).getD v false = true)
  | 0, v, hv => by
    have hp := h.pos v hv
    have h1 := h.one
    have hNO : NO < 0 := by unfold NO; omega
    simp only [rowR, layF]
    rw [getD_setI (by simp; omega), getD_setB (by simp; omega)]
    by_cases e : v = 0
    · subst e
      rw [if_pos rfl, if_pos rfl, h.zero]
      simp
    · rw [if_neg e, if_neg e, getD_repI _ _ _ hv, getD_rep]
      refine ⟨by omega, ?_⟩
      constructor
      · intro e; omega
      · intro e; simp at e
  | k + 1, v, hv => by
    obtain ⟨r1, r2⟩ := rowR_succ h.val k v hv
    have ih := row_tight h k
    have hp := h.pos v hv
    have hNO : NO < 0 := by unfold NO; omega
    rw [layF_succ h.val]
    constructor
    · rcases r2 with r2 | ⟨l, hl, e1, e2, e3⟩
      · omega
      · have hok := okN (h.val l hl)
        have a := (ih l.a.toNat hok.1).1
        have b := h.keeps l hl
        rw [e1] at b
        omega
    · constructor
      · intro e
        rcases r2 with r2 | ⟨l, hl, e1, e2, e3⟩
        · omega
        · have hok := okN (h.val l hl)
          have a := ih l.a.toNat hok.1
          have b := h.keeps l hl
          rw [e1] at b
          refine ⟨l, hl, e1, ?_⟩
          unfold tight
          rw [Bool.and_eq_true, beq_iff_eq, e1]
          exact ⟨a.2.1 (by omega), by omega⟩
      · rintro ⟨l, hl, e1, e2⟩
        have hok := okN (h.val l hl)
        have a := ih l.a.toNat hok.1
        unfold tight at e2
        rw [Bool.and_eq_true, beq_iff_eq, e1] at e2
        have a2 := a.2.2 e2.1
        have hpa := h.pos _ hok.1
        have := r1 l hl e1 (by omega)
        rcases r2 with r2 | ⟨l', hl', e1', e2', e3'⟩
        · omega
        · have hok' := okN (h.val l' hl')
          have a' := (ih l'.a.toNat hok'.1).1
          have b' := h.keeps l' hl'
          rw [e1'] at b'
          omega

/-! ### each moment is in a layer -/
theorem count_more {p q : Nat → Bool} : ∀ (xs : List Nat), (∀ x ∈ xs, p x = true → q x = true) → (∃ x ∈ xs, p x = false ∧ q x = true) → xs.countP p + 1 ≤ xs.countP q
  | [], _, ⟨x, hx, _⟩ => by simp at hx
  | y :: ys, hm, ⟨x, hx, h1, h2⟩ => by
    have hms : ∀ x ∈ ys, p x = true → q x = true := fun x h => hm x (List.mem_cons_of_mem _ h)
    rw [List.countP_cons, List.countP_cons]
    rcases List.mem_cons.1 hx with rfl | hx
    · have := List.countP_mono_left hms
      rw [h1, h2]
      simp
      exact this
    · have := count_more ys hms ⟨x, hx, h1, h2⟩
      have hy := hm y (List.mem_cons_self ..)
      cases hpy : p y
      · simp only [Bool.false_eq_true, if_false]
        split <;> omega
      · rw [hy hpy]
        simp
        omega

/-- in one of the layers up to k -/
def upTo (n : Nat) (all : List T3) (ts : List Int) (k v : Nat) : Bool := (List.range (k + 1)).any fun j => (layF n all ts j).getD v false
theorem upTo_iff {n : Nat} {all : List T3} {ts : List Int} {k v : Nat} : upTo n all ts k v = true ↔ ∃ j, j ≤ k ∧ (layF n all ts j).getD v false = true := by
  unfold upTo
  rw [List.any_eq_true]
  constructor
  · rintro ⟨j, hj, h⟩
    exact ⟨j, by have := List.mem_range.1 hj; omega, h⟩
  · rintro ⟨j, hj, h⟩
    exact ⟨j, List.mem_range.2 (by omega), h⟩

theorem stable_at {n : Nat} {all : List T3} {ts : List Int} : ∃ k, k < n + 1 ∧ ∀ v, v < n → upTo n all ts (k + 1) v = true → upTo n all ts k v = true := by
  have key : ∀ k, (∀ i, i < k → ¬ ∀ v, v < n → upTo n all ts (i + 1) v = true → upTo n all ts i v = true) → k ≤ (List.range n).countP (upTo n all ts k) := by
    intro k
    induction k with
    | zero => intro _; omega
    | succ k ih =>
      intro h
      have h1 := ih (fun i hi => h i (by omega))
      have h2 := h k (by omega)
      have h3 := count_more (p := upTo n all ts k) (q := upTo n all ts (k + 1)) (List.range n) (fun x _ hx => by
        rw [upTo_iff] at hx ⊢
        obtain ⟨j, hj, e⟩ := hx
        exact ⟨j, by omega, e⟩) (by
        apply Classical.byContradiction
        intro hc
        apply h2
        intro v hv hu
        cases e : upTo n all ts k v
        · exact absurd ⟨v, List.mem_range.2 hv, e, hu⟩ hc
        · rfl)
      omega
  apply Classical.byContradiction
  intro hc
  have := key (n + 1) (fun i hi hs => hc ⟨i, hi, hs⟩)
  have h2 := List.countP_le_length (p := upTo n all ts (n + 1)) (l := List.range n)
  rw [List.length_range] at h2
  omega

theorem in_layer {n : Nat} {all : List T3} {ts : List Int} (h : Ear n all ts) (hadd : ∀ v, v < n → (⟨0, (v : Int), 0⟩ : T3) ∈ all)
    (hleast : ∀ y : List Int, y.length = n → (∀ l ∈ all, y.getD l.a.toNat 0 + l.c ≤ y.getD l.b.toNat 0) → (∀ v, v < n → 0 ≤ y.getD v 0) → ∀ v, v < n → ts.getD v 0 ≤ y.getD v 0) (m : Nat) (hm : m < n) :
    ∃ K, K ≤ n ∧ (layF n all ts K).getD m false = true ∧ ∀ j, j < K → (layF n all ts j).getD m false = false := by
  have hex : ∃ K, K ≤ n ∧ (layF n all ts K).getD m false = true := by
    obtain ⟨k, hk, hst⟩ := stable_at (n := n) (all := all) (ts := ts)
    cases hu : upTo n all ts k m
    · exfalso
      have hone := h.one
      have h0 : upTo n all ts k 0 = true := by
        rw [upTo_iff]
        refine ⟨0, by omega, ?_⟩
        simp only [layF]
        rw [getD_setB (by simp; omega), if_pos rfl]
      have hy : ∀ v, v < n → ((List.range n).map fun v => if upTo n all ts k v = true then ts.getD v 0 else ts.getD v 0 - 1).getD v 0 = if upTo n all ts k v = true then ts.getD v 0 else ts.getD v 0 - 1 := fun v hv => by
        rw [List.getD_eq_getElem?_getD, List.getElem?_map, List.getElem?_range hv]
        rfl
      have := hleast ((List.range n).map fun v => if upTo n all ts k v = true then ts.getD v 0 else ts.getD v 0 - 1) (by simp) (fun l hl => by
        obtain ⟨ha, hb⟩ := okN (h.val l hl)
        rw [hy _ ha, hy _ hb]
        have hkl := h.keeps l hl
        by_cases ea : upTo n all ts k l.a.toNat = true
        · rw [if_pos ea]
          by_cases eb : upTo n all ts k l.b.toNat = true
          · rw [if_pos eb]; exact hkl
          · rw [if_neg eb]
            by_cases et : ts.getD l.a.toNat 0 + l.c = ts.getD l.b.toNat 0
            · exfalso
              apply eb
              apply hst _ hb
              rw [upTo_iff] at ea ⊢
              obtain ⟨j, hj, e⟩ := ea
              refine ⟨j + 1, by omega, (layF_succ h.val ts j _).2 ⟨l, hl, rfl, ?_⟩⟩
              unfold tight
              rw [e, et]
              simp
            · omega
        · rw [if_neg ea]
          split <;> omega) (fun v hv => by
        rw [hy v hv]
        have hp := h.pos v hv
        split
        · exact hp
        · rename_i ev
          by_cases ez : ts.getD v 0 = 0
          · exfalso
            apply ev
            apply hst _ hv
            rw [upTo_iff] at h0 ⊢
            obtain ⟨j, hj, e⟩ := h0
            refine ⟨j + 1, by omega, (layF_succ h.val ts j _).2 ⟨_, hadd v hv, by simp, ?_⟩⟩
            unfold tight
            simp only [Int.toNat_zero, Int.toNat_natCast]
            rw [e, h.zero, ez]
            simp
          · omega) m hm
      rw [hy m hm, if_neg (by rw [hu]; simp)] at this
      omega
    · rw [upTo_iff] at hu
      obtain ⟨j, hj, e⟩ := hu
      exact ⟨j, by omega, e⟩
  obtain ⟨K0, hK0, e0⟩ := hex
  have : ∀ d K, K ≤ d → (layF n all ts K).getD m false = true → ∃ K', K' ≤ K ∧ (layF n all ts K').getD m false = true ∧ ∀ j, j < K' → (layF n all ts j).getD m false = false := by
    intro d
    induction d with
    | zero =>
      intro K hK e
      exact ⟨K, Nat.le_refl _, e, fun j hj => by omega⟩
    | succ d ih =>
      intro K hK e
      by_cases hx : ∃ j, j < K ∧ (layF n all ts j).getD m false = true
      · obtain ⟨j, hj, ej⟩ := hx
        obtain ⟨K', h1, h2, h3⟩ := ih j (by omega) ej
        exact ⟨K', by omega, h2, h3⟩
      · refine ⟨K, Nat.le_refl _, e, fun j hj => ?_⟩
        cases ej : (layF n all ts j).getD m false
        · rfl
        · exact absurd ⟨j, hj, ej⟩ hx
  obtain ⟨K', h1, h2, h3⟩ := this K0 K0 (Nat.le_refl _) e0
  exact ⟨K', by omega, h2, h3⟩

/-! ### the picks -/
theorem idx_congr {α : Type} {p q : α → Bool} : ∀ (xs : List α), (∀ x ∈ xs, p x = q x) → xs.findIdx? p = xs.findIdx? q
  | [], _ => rfl
  | y :: ys, h => by
    rw [List.findIdx?_cons, List.findIdx?_cons, h y (List.mem_cons_self ..), idx_congr ys (fun x hx => h x (List.mem_cons_of_mem _ hx))]
theorem idx_same {α : Type} {p q : α → Bool} {xs : List α} (h : ∀ x ∈ xs, p x = q x) : idx p xs = idx q xs := by
  unfold idx
  rw [idx_congr xs h]
theorem idx_spec {p : T3 → Bool} {xs : List T3} (h : 0 ≤ idx p xs) : idx p xs < xs.length ∧ p (xs.getD (idx p xs).toNat z3) = true ∧ ∀ j : Nat, (j : Int) < idx p xs → p (xs.getD j z3) = false := by
  unfold idx at h ⊢
  split
  · rename_i i hi
    obtain ⟨h1, h2, h3⟩ := List.findIdx?_eq_some_iff_getElem.1 hi
    refine ⟨by omega, ?_, fun j hj => ?_⟩
    · rw [Int.toNat_natCast, List.getD_eq_getElem?_getD, List.getElem?_eq_getElem h1]
      exact h2
    · have hj' : j < i := by omega
      have := h3 j hj'
      rw [List.getD_eq_getElem?_getD, List.getElem?_eq_getElem (by omega)]
      simpa using this
  · rename_i hi
    rw [hi] at h
    simp only at h
    omega

def pkF (m : Int) (last : List Bool) (ts : List Int) (l : T3) : Bool := l.b == m && tight last ts l
def pickF (n : Nat) (all : List T3) (ts : List Int) (k : Nat) (m : Int) : Int := idx (pkF m (layF n all ts k) ts) all
/-- the moments that the reference's reason goes back through -/
def momF (n : Nat) (all : List T3) (ts : List Int) (K : Nat) (m : Int) : Nat → Int
  | 0 => m
  | j + 1 => (all.getD (pickF n all ts (K - 1 - j) (momF n all ts K m j)).toNat z3).a
def reaF (n : Nat) (all : List T3) (ts : List Int) (K : Nat) (m : Int) : List Int := ((List.range K).map fun j => pickF n all ts (K - 1 - j) (momF n all ts K m j)).reverse

theorem pick_same {n : Nat} {all : List T3} {ts : List Int} (h : Ear n all ts) (k : Nat) (m : Int) (h0 : 0 ≤ m) (h1 : m < n) (ht : (layF n all ts (k + 1)).getD m.toNat false = true) :
    pickR n all k m = pickF n all ts k m ∧ 0 ≤ pickF n all ts k m := by
  have hw := ((row_tight h (k + 1) m.toNat (by omega)).2).2 ht
  have hNO : NO < 0 := by unfold NO; omega
  constructor
  · unfold pickR pickF
    refine idx_same fun l hl => ?_
    have hok := okLk_out (h.val l hl)
    have hokn := okN (h.val l hl)
    have hr := row_tight h k l.a.toNat hokn.1
    have hk := h.keeps l hl
    have hp := h.pos _ hokn.1
    unfold pk pkF
    by_cases e : l.b = m
    · rw [e, beq_self_eq_true, Bool.true_and, Bool.true_and, hw]
      unfold tight
      rw [e] at hk ⊢
      apply Bool.eq_iff_iff.2
      simp only [Bool.and_eq_true, decide_eq_true_eq, beq_iff_eq]
      constructor
      · rintro ⟨_, e2⟩
        exact ⟨hr.2.1 (by omega), by omega⟩
      · rintro ⟨e1, e2⟩
        have := hr.2.2 e1
        exact ⟨by omega, by omega⟩
    · rw [beq_eq_false_iff_ne.2 e]
      rfl
  · have := (layF_succ h.val ts k m.toNat).1 ht
    obtain ⟨l, hl, e1, e2⟩ := this
    have hok := okLk_out (h.val l hl)
    have : all.any (pkF m (layF n all ts k) ts) = true := List.any_eq_true.2 ⟨l, hl, by unfold pkF; rw [e2, show l.b = m by omega]; simp⟩
    unfold pickF
    rw [← idx_nonneg] at this
    exact of_decide_eq_true this

/-- step j of going back: the moment is in the layer K - j -/
theorem mom_same {n : Nat} {all : List T3} {ts : List Int} (h : Ear n all ts) (K : Nat) (m : Int) (h0 : 0 ≤ m) (h1 : m < n) (ht : (layF n all ts K).getD m.toNat false = true) :
    ∀ j, j ≤ K → momR n all K m j = momF n all ts K m j ∧ 0 ≤ momF n all ts K m j ∧ momF n all ts K m j < n ∧ (layF n all ts (K - j)).getD (momF n all ts K m j).toNat false = true
  | 0, _ => ⟨rfl, h0, h1, ht⟩
  | j + 1, hj => by
    obtain ⟨i1, i2, i3, i4⟩ := mom_same h K m h0 h1 ht j (by omega)
    have e : K - j = (K - 1 - j) + 1 := by omega
    rw [e] at i4
    obtain ⟨p1, p2⟩ := pick_same h (K - 1 - j) _ i2 i3 i4
    have hs := idx_spec p2
    change pickF n all ts (K - 1 - j) (momF n all ts K m j) < _ ∧ pkF _ _ _ (all.getD (pickF n all ts (K - 1 - j) (momF n all ts K m j)).toNat z3) = true ∧ _ at hs
    obtain ⟨s1, s2, _⟩ := hs
    simp only [momR, momF]
    rw [i1, p1]
    have hl := h.val _ (List.mem_of_getElem? (getD_t3 (xs := all) (j := (pickF n all ts (K - 1 - j) (momF n all ts K m j)).toNat) (by omega)))
    generalize all.getD (pickF n all ts (K - 1 - j) (momF n all ts K m j)).toNat z3 = l at *
    obtain ⟨a1, a2, _⟩ := okLk_out hl
    refine ⟨rfl, a1, a2, ?_⟩
    unfold pkF tight at s2
    simp only [Bool.and_eq_true] at s2
    rw [show K - (j + 1) = K - 1 - j by omega]
    exact s2.2.1

theorem pick_at {n : Nat} {all : List T3} {ts : List Int} (h : Ear n all ts) (K : Nat) (m : Int) (h0 : 0 ≤ m) (h1 : m < n) (ht : (layF n all ts K).getD m.toNat false = true) (j : Nat) (hj : j < K) :
    pickR n all (K - 1 - j) (momR n all K m j) = pickF n all ts (K - 1 - j) (momF n all ts K m j) ∧ 0 ≤ pickF n all ts (K - 1 - j) (momF n all ts K m j) ∧ pickF n all ts (K - 1 - j) (momF n all ts K m j) < all.length ∧
    (all.getD (pickF n all ts (K - 1 - j) (momF n all ts K m j)).toNat z3).b = momF n all ts K m j ∧ ts.getD (momF n all ts K m (j + 1)).toNat 0 + (all.getD (pickF n all ts (K - 1 - j) (momF n all ts K m j)).toNat z3).c = ts.getD (momF n all ts K m j).toNat 0 := by
  obtain ⟨i1, i2, i3, i4⟩ := mom_same h K m h0 h1 ht j (by omega)
  have e : K - j = (K - 1 - j) + 1 := by omega
  rw [e] at i4
  obtain ⟨p1, p2⟩ := pick_same h (K - 1 - j) _ i2 i3 i4
  have hs := idx_spec p2
  change pickF n all ts (K - 1 - j) (momF n all ts K m j) < _ ∧ pkF _ _ _ (all.getD (pickF n all ts (K - 1 - j) (momF n all ts K m j)).toNat z3) = true ∧ _ at hs
  obtain ⟨s1, s2, _⟩ := hs
  rw [i1]
  unfold pkF tight at s2
  simp only [Bool.and_eq_true, beq_iff_eq] at s2
  refine ⟨p1, p2, s1, s2.1, ?_⟩
  have := s2.2.2
  rw [s2.1] at this
  exact this

theorem rea_same {n : Nat} {all : List T3} {ts : List Int} (h : Ear n all ts) (K : Nat) (m : Int) (h0 : 0 ≤ m) (h1 : m < n) (ht : (layF n all ts K).getD m.toNat false = true) : reaR n all K m = reaF n all ts K m := by
  unfold reaR reaF
  congr 1
  apply List.map_congr_left
  intro j hj
  exact (pick_at h K m h0 h1 ht j (List.mem_range.1 hj)).1

theorem reaF_len (n : Nat) (all : List T3) (ts : List Int) (K : Nat) (m : Int) : (reaF n all ts K m).length = K := by simp [reaF]
theorem reaF_get (n : Nat) (all : List T3) (ts : List Int) (K : Nat) (m : Int) (i : Nat) (hi : i < K) : (reaF n all ts K m).getD i 0 = pickF n all ts i (momF n all ts K m (K - 1 - i)) := by
  unfold reaF
  rw [List.getD_eq_getElem?_getD, List.getElem?_reverse (by simpa using hi)]
  simp only [List.length_map, List.length_range]
  rw [List.getElem?_map, List.getElem?_range (by omega)]
  simp only [Option.map_some, Option.getD_some]
  rw [show K - 1 - (K - 1 - i) = i by omega]

/-- the reason weighs what the moment's time is -/
theorem rea_weight {n : Nat} {all : List T3} {ts : List Int} (h : Ear n all ts) (K : Nat) (m : Int) (h0 : 0 ≤ m) (h1 : m < n) (ht : (layF n all ts K).getD m.toNat false = true) :
    wOk all (reaF n all ts K m) 0 = true ∧ wEnd all (reaF n all ts K m) 0 K = m ∧ sumTo all (reaF n all ts K m) K = ts.getD m.toNat 0 := by
  have hend : ∀ i, i ≤ K → wEnd all (reaF n all ts K m) 0 i = momF n all ts K m (K - i) := fun i hi => by
    cases i with
    | zero =>
      simp only [wEnd, Nat.sub_zero]
      obtain ⟨_, q1, q2, q3⟩ := mom_same h K m h0 h1 ht K (Nat.le_refl _)
      rw [Nat.sub_self] at q3
      simp only [layF] at q3
      have := h.one
      rw [getD_setB (by simp; omega)] at q3
      split at q3
      · omega
      · rw [getD_rep] at q3
        simp at q3
    | succ i =>
      simp only [wEnd]
      rw [reaF_get _ _ _ _ _ _ (by omega)]
      have := (pick_at h K m h0 h1 ht (K - 1 - i) (by omega)).2.2.2.1
      rw [show K - 1 - (K - 1 - i) = i by omega] at this
      rw [this, show K - (i + 1) = K - 1 - i by omega]
  have hmom : momF n all ts K m K = 0 := by
    have := hend 0 (by omega)
    simpa [wEnd] using this.symm
  refine ⟨?_, ?_, ?_⟩
  · unfold wOk
    rw [reaF_len]
    refine all_range_true fun i hi => ?_
    unfold wStep
    rw [hend i (by omega), reaF_get _ _ _ _ _ _ hi]
    obtain ⟨_, p2, p3, _⟩ := pick_at h K m h0 h1 ht (K - 1 - i) (by omega)
    rw [show K - 1 - (K - 1 - i) = i by omega] at p2 p3
    have e : momF n all ts K m (K - i) = (all.getD (pickF n all ts i (momF n all ts K m (K - 1 - i))).toNat z3).a := by
      rw [show K - i = (K - 1 - i) + 1 by omega]
      simp only [momF]
      rw [show K - 1 - (K - 1 - i) = i by omega]
    rw [e]
    simp [inB]
    omega
  · rw [hend K (Nat.le_refl _), Nat.sub_self]
    rfl
  · have hs : ∀ i, i ≤ K → sumTo all (reaF n all ts K m) i = ts.getD (momF n all ts K m (K - i)).toNat 0 := by
      intro i
      induction i with
      | zero =>
        intro _
        rw [Nat.sub_zero, hmom]
        simp only [sumTo]
        exact h.zero.symm
      | succ i ih =>
        intro hi
        simp only [sumTo]
        rw [ih (by omega), reaF_get _ _ _ _ _ _ (by omega)]
        have := (pick_at h K m h0 h1 ht (K - 1 - i) (by omega)).2.2.2.2
        rw [show K - 1 - (K - 1 - i) = i by omega, show K - 1 - i + 1 = K - i by omega] at this
        rw [this, show K - (i + 1) = K - 1 - i by omega]
    have := hs K (Nat.le_refl _)
    rw [Nat.sub_self] at this
    exact this

/-- what a net with an earliest timetable has to say of a moment's reason -/
theorem reason_law {n : Nat} {ls : List T3} (h : rightB n ls = true) (hf : (earl n ls).raised < 0) (m : Int) (h0 : 0 ≤ m) (h1 : m < n) :
    Ear n (allOf n ls) (earl n ls).ts ∧ ∃ K, K ≤ n ∧ (layF n (allOf n ls) (earl n ls).ts K).getD m.toNat false = true ∧ ∀ j, j < K → (layF n (allOf n ls) (earl n ls).ts j).getD m.toNat false = false := by
  obtain ⟨r1, r2, r3, r4⟩ := right_out h
  have hV := valid_all h
  obtain ⟨z1, z2, z3', z4, z5⟩ := earl_zero h hf
  simp only [Int.toNat_natCast] at z1 hV z4 z5
  have hE : Ear n (allOf n ls) (earl n ls).ts := ⟨hV, by omega, z1, z2, z3', fun v hv => by
    have := z4 (v : Int) (by omega) (by omega)
    unfold gt at this
    simpa using this⟩
  refine ⟨hE, in_layer hE (fun v hv => ?_) (fun y hl hk hp v hv => ?_) m.toNat (by omega) |>.imp fun K hK => ⟨hK.1, hK.2.1, hK.2.2⟩⟩
  · unfold allOf adds
    refine List.mem_append.2 (.inr (List.mem_map.2 ⟨v, List.mem_range.2 (by simpa using hv), rfl⟩))
  · have := z5 y hk (fun v a b => hp v.toNat (by omega)) (v : Int) (by omega) (by omega)
    unfold gt at this
    simpa using this
end Go.Proofs.Ytpknonebnipcgaa.Pr
