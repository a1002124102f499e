import Derived.Test.YtpknonebnipcgaaProg
import Derived.WalkKit
import Derived.KernelRfl
import Derived.Deep.LoopGhost
import Derived.Deep.QuietTactic
import Derived.BigQuiet
import Derived.Deep.DeepCutAuto
import Derived.Deep.CutBlock
import Derived.Deep.RegionHeld3
import Derived.WalkLawsBesides
import Derived.WalkSpells
import Derived.Outline
import Derived.Deep.DeepFit
import Derived.Lib.Hide
import Derived.Shelf.Abstract
import Derived.Lib.SliceRun
import Derived.OwnWalk
import Derived.Test.YtpknonebnipcgaaPr
import Derived.Test.YtpknonebnipcgaaRf

namespace Go.Proofs.Ytpknonebnipcgaa.Rr
open Go.RowKit Go.Shelf Go.Proofs.Ytpknonebnipcgaa.V Go.Proofs.Ytpknonebnipcgaa.A Go.Proofs.Ytpknonebnipcgaa.B Go.Proofs.Ytpknonebnipcgaa.C Go.Proofs.Ytpknonebnipcgaa.P Go.Proofs.Ytpknonebnipcgaa.D Go.Proofs.Ytpknonebnipcgaa.E Go.Proofs.Ytpknonebnipcgaa.G Go.Proofs.Ytpknonebnipcgaa.K Go.Proofs.Ytpknonebnipcgaa.N Go.Proofs.Ytpknonebnipcgaa.U Go.Proofs.Ytpknonebnipcgaa.W Go.Proofs.Ytpknonebnipcgaa.Y Go.Proofs.Ytpknonebnipcgaa.Rf Go.Proofs.Ytpknonebnipcgaa.Zl Go.Proofs.Ytpknonebnipcgaa.Pr
set_option linter.unusedVariables false
set_option linter.unusedSimpArgs false

theorem info94 : (Try.prog.info? 94).map (fun i => (i.zero, i.size, i.bytes)) = some (some (.slice none 0 0), 1, 24) := by kernel_rfl
theorem info4 : (Try.prog.info? 4).map (fun i => (i.zero, i.size, i.bytes)) = some (some (.bool false), 1, 1) := by kernel_rfl

/-- a row of bools: block g -/
def RowB (W : World) (g n : Nat) (xs : List Bool) : Prop := W.heap[g]? = some (.cells (xs.map Value.bool).toArray 4 (0, 0)) ∧ xs.length = n
theorem RowB.at {W : World} {g n : Nat} {xs : List Bool} (h : RowB W g n xs) {j : Nat} (hj : j < n) : W.cell? ⟨g, j, none⟩ = some (.bool (xs.getD j false)) ∧ W.frozen? ⟨g, j, none⟩ = false := by
  refine ⟨(cell_of_blk h.1 j).trans ?_, frozen_of_blk h.1 j⟩
  have hl := h.2
  rw [List.getElem?_toArray, List.getElem?_map, List.getElem?_eq_getElem (by omega), List.getD_eq_getElem?_getD, List.getElem?_eq_getElem (by omega)]
  rfl
theorem RowB.set {W : World} {g n : Nat} {xs : List Bool} (h : RowB W g n xs) (j : Nat) (x : Bool) : RowB (W.setCell ⟨g, j, none⟩ (.bool x)) g n (xs.set j x) := by
  refine ⟨(blk_set h.1 j _).trans ?_, by rw [List.length_set]; exact h.2⟩
  simp [List.map_set]
theorem RowB.lt {W : World} {g n : Nat} {xs : List Bool} (h : RowB W g n xs) : g < W.heap.size := blk_lt h.1
theorem RowB.below {W W' : World} {g n : Nat} {xs : List Bool} (h : RowB W g n xs) (hb : Below W.heap.size W W') : RowB W' g n xs := ⟨blk_below h.1 hb, h.2⟩
theorem RowB.grown {W W' : World} {g n : Nat} {xs : List Bool} (h : RowB W g n xs) {row : Option Nat} (hg : W.grownBy W' row) (hne : some g ≠ row) : RowB W' g n xs := ⟨blk_grown h.1 hg hne, h.2⟩
theorem RowB.alloc {W : World} {g n : Nat} {xs : List Bool} (h : RowB W g n xs) (o : Obj) : RowB (W.alloc o) g n xs := ⟨blk_alloc h.1 o, h.2⟩
theorem RowB.drewN {W : World} {g n : Nat} {xs : List Bool} (h : RowB W g n xs) (k : Nat) : RowB (W.drewN k) g n xs := h

section
variable {P : Program} {ops : Array Oper} {rest : List Oper} {o : Oper} {a : Act} {Q : Exit → Act → World → Prop}
/-- make([]bool, n) -/
theorem wp_make_bools (w : World) (hg : o.guard = none) (l c : Operand) (t : TypeId) (hop : o.op = Op.makeSlice t l c) (h1 : P.underlying t = some (.slice 4))
    (hinfo : (P.info? 4).map (fun i => (i.zero, i.size, i.bytes)) = some (some (.bool false), 1, 1)) (n : Nat) (hl : a.eval l = .int .i64 n) (hc : a.eval c = .int .i64 n) (hn : n ≤ 1000000000)
    (hK : ∀ w', RowB w' w.heap.size n (List.replicate n false) → Below w.heap.size w w' → wpList P ops Q rest (a.put o.dst (.slice (some ⟨w.heap.size, 0, none⟩) n n)) w') : wpList P ops Q (o :: rest) a w := by
  obtain ⟨i, hi, hz0, hz1, hz2⟩ := info_parts hinfo
  refine wpList_make_full w hg l c t hop w.heap.size 4 i (.bool false) 1 h1 hi hz0 hz1 .i64 .i64 n n n hl hc rfl rfl (by rw [hz2]; omega) (by unfold maxLen; omega) (Nat.le_refl _) ?_
  intro w' h2 h3
  refine hK w' ⟨?_, by simp⟩ (below_of h3)
  have hml : (madeCells #[Value.bool false] (n * 1)).toList = (List.replicate n false).map Value.bool := by
    apply List.ext_getElem
    · simp [madeCells]
    · intro i h1 h2
      simp [madeCells, Nat.mod_one]
  rcases h2.2 with ⟨h', _⟩ | ⟨g', cap', cur, h', hb, hh, h1, h2', h3', h4⟩
  · cases h'
  · injection h' with e1 e2 e3
    injection e1 with e1
    injection e1 with e1
    subst e1 e3
    rw [hh]
    have : cur = ((List.replicate n false).map Value.bool).toArray := by
      apply Array.ext'
      rw [← hml]
      rw [show (madeCells (Value.bool false).cells (n * 1)).toList = (madeCells #[Value.bool false] (n * 1)).toList from rfl] at h4
      rw [← h4, List.take_of_length_le (by simp [Array.length_toList]; omega)]
    rw [this]
end

def encG (n : Nat) (g : Nat) : List Value := [.slice (some ⟨g, 0, none⟩) n n]
theorem encG_len (n g : Nat) : (encG n g).length = 1 := rfl
theorem encG_one (n g : Nat) : ∀ u ∈ encG n g, u.oneCell' = true := by
  intro u hu
  simp [encG] at hu
  subst hu
  rfl

/-- the layers: a row of rows of bools -/
structure Lay (W : World) (base n A c : Nat) (gs : List Nat) (L : List (List Bool)) : Prop where
  own : W.ownsRow base 94 1 (.slice (some ⟨A, 0, none⟩) L.length c) L.length (gs.flatMap (encG n))
  len : gs.length = L.length
  row : ∀ (j g : Nat) (r : List Bool), gs[j]? = some g → L[j]? = some r → RowB W g n r

theorem Lay.below {W W' : World} {base n A c : Nat} {gs : List Nat} {L : List (List Bool)} (h : Lay W base n A c gs L) (hb : Below W.heap.size W W') : Lay W' base n A c gs L :=
  ⟨h.own.kept (grown_of hb none) (.inr (by simp [Value.ownBlock])), h.len, fun j g r a b => (h.row j g r a b).below hb⟩

theorem Lay.lt {W : World} {base n A c : Nat} {gs : List Nat} {L : List (List Bool)} (h : Lay W base n A c gs L) : base ≤ A ∧ A < W.heap.size := World.ownsRow.lt h.own A rfl

theorem Lay.at {W : World} {base n A c : Nat} {gs : List Nat} {L : List (List Bool)} (h : Lay W base n A c gs L) {j : Nat} {r : List Bool} (hj : L[j]? = some r) :
    ∃ g, W.cell? ⟨A, j, none⟩ = some (.slice (some ⟨g, 0, none⟩) n n) ∧ RowB W g n r ∧ L.length ≤ c ∧ c ≤ 9223372036854775807 := by
  have hl := (List.getElem?_eq_some_iff.1 hj).1
  have hg := h.len
  have hv : gs[j]? = some gs[j] := List.getElem?_eq_getElem (by omega)
  have hrd : Rd 1 (encG n) W (.slice (some ⟨A, 0, none⟩) L.length c) gs := by
    have := h.own
    rw [← hg] at this ⊢
    exact rd_of_owns (encG_len n) this
  obtain ⟨b, off, cs, e, hb, rfl, hc⟩ := RdR.at hrd j _ hv
  injection e with e
  injection e with e1 e2
  subst e1 e2
  have hcj := hc 0 _ rfl
  rw [Nat.zero_add, Nat.mul_one, Nat.add_zero] at hcj
  have hll := (RdR.len hrd).2
  exact ⟨gs[j], hcj, h.row j _ r hv hj, hll.1, hll.2⟩

theorem Lay.push {W W' : World} {base n A c A' c' gn : Nat} {gs : List Nat} {L : List (List Bool)} {r : List Bool} (h : Lay W base n A c gs L) (hg : W.grownBy W' (some A)) (hr : RowB W gn n r)
    (ho : W'.ownsRow base 94 1 (.slice (some ⟨A', 0, none⟩) (L.length + 1) c') (L.length + 1) (gs.flatMap (encG n) ++ encG n gn)) : Lay W' base n A' c' (gs ++ [gn]) (L ++ [r]) := by
  have hA : ∀ g r, RowB W g n r → RowB W' g n r := fun g r hr => hr.grown hg (fun e => by
    have := owns_ne_blk h.own hr.1 (by decide)
    exact this e)
  refine ⟨?_, by simp [h.len], fun j g r' hv hr' => ?_⟩
  · rw [List.length_append, List.flatMap_append]
    simpa [List.flatMap_cons] using ho
  · by_cases hj : j < gs.length
    · rw [List.getElem?_append_left hj] at hv
      rw [List.getElem?_append_left (by rw [← h.len]; exact hj)] at hr'
      exact hA _ _ (h.row j g r' hv hr')
    · have hl := h.len
      rw [List.getElem?_append_right (by omega)] at hv
      rw [List.getElem?_append_right (by omega)] at hr'
      have hj0 : j - gs.length = 0 := by
        rcases Nat.eq_zero_or_pos (j - gs.length) with h | h
        · exact h
        · rw [List.getElem?_eq_none (by simp; omega)] at hv
          cases hv
      rw [hj0] at hv
      rw [show j - L.length = 0 by omega] at hr'
      simp at hv hr'
      subst hv hr'
      exact hA _ _ hr
end Go.Proofs.Ytpknonebnipcgaa.Rr
