/- The net of the program: slices.Reverse, earliest. -/
import Derived.Test.YtpknonebnipcgaaProg
import Derived.WalkKit
import Derived.KernelRfl
import Derived.Deep.LoopGhost
import Derived.Deep.QuietTactic
import Derived.BigQuiet
import Derived.Deep.DeepCutAuto
import Derived.Deep.CutBlock
import Derived.Deep.RegionHeld3
import Derived.WalkLawsBesides
import Derived.WalkSpells
import Derived.Outline
import Derived.Deep.DeepFit
import Derived.Lib.Hide
import Derived.Shelf.Abstract
import Derived.Lib.SliceRun
import Derived.Test.YtpknonebnipcgaaB
namespace Go.Proofs.Ytpknonebnipcgaa.C
open Go.RowKit Go.Shelf Go.Proofs.Ytpknonebnipcgaa.V Go.Proofs.Ytpknonebnipcgaa.A Go.Proofs.Ytpknonebnipcgaa.B
set_option linter.unusedVariables false
set_option linter.unusedSimpArgs false

/-- what a reversal has done when the first i and the last i have changed places -/
def RevTo (xs ys : List Int) (i : Nat) : Prop := ys.length = xs.length ∧ ∀ k, k < xs.length → ys[k]? = if k < i ∨ xs.length - 1 - i < k then xs[xs.length - 1 - k]? else xs[k]?

theorem revTo_end {xs ys : List Int} {i : Nat} (h : RevTo xs ys i) (hi : xs.length ≤ 2 * i + 1) : ys = xs.reverse := by
  apply List.ext_getElem?
  intro k
  by_cases hk : k < xs.length
  · rw [h.2 k hk, List.getElem?_reverse hk]
    split
    · rfl
    · rename_i hn
      have : k = xs.length - 1 - k := by omega
      rw [← this]
  · rw [List.getElem?_eq_none (by rw [h.1]; omega), List.getElem?_eq_none (by simp; omega)]

set_option maxRecDepth 100000 in
set_option maxHeartbeats 1000000 in
theorem reverse62 (base g cap : Nat) (xs : List Int) (w : World) (hO : Own w base g cap xs) (hn : xs.length ≤ 1000000) :
    Calls Try.prog 62 #[.slice (some ⟨g, 0, none⟩) xs.length cap] w fun e w' => e = .returned (.tuple #[]) ∧ Own w' base g cap xs.reverse ∧ w.grownBy w' (some g) := by
  have HO := Lib.hid hO
  clear hO
  go_enter Try.func62, Try.ntmps62
  go_wp2
  go_loopg [2, 3] (xs.length) (fun gg s2 s3 wr => ∃ (i : Nat) (ys : List Int), 2 * i ≤ xs.length ∧ xs.length - i ≤ gg ∧ s2 = .int .i64 i ∧ s3 = .int .i64 ((xs.length : Int) - 1 - i) ∧ Hid (RevTo xs ys i) ∧ Hid (Own wr base g cap ys) ∧ Hid (w.grownBy wr (some g)))
  case atStart => exact ⟨0, xs, by omega, by omega, rfl, by simp, Lib.hid ⟨rfl, fun k hk => by rw [if_neg (by omega)]⟩, HO, Lib.hid (gb_refl _ _)⟩
  case round =>
    obtain ⟨i, ys, hi, hg, rfl, rfl, HRV, HO2, HG⟩ := hrel
    have hl := HRV.out.1
    by_cases hlt : (i : Int) < (xs.length : Int) - 1 - i
    · have hlt' : decide ((i : Int) < (xs.length : Int) - 1 - i) = true := decide_eq_true hlt
      have e1 : ((xs.length : Int) - 1 - i).toNat = xs.length - 1 - i := by omega
      have hgi := getD_get (xs := ys) (j := i) (by omega)
      have hgj := getD_get (xs := ys) (j := xs.length - 1 - i) (by omega)
      generalize ys.getD i 0 = va at hgi
      generalize ys.getD (xs.length - 1 - i) 0 = vb at hgj
      have ⟨ca, fa⟩ := Own.at HO2.out hgi
      have ⟨cb, fb⟩ := Own.at HO2.out hgj
      have b0 : 0 ≤ (xs.length : Int) - 1 - i := by omega
      have b1 : (xs.length : Int) - 1 - i < (xs.length : Int) := by omega
      have b2 : (i : Int) < (xs.length : Int) := by omega
      have b3 : (i : Int) ≤ (xs.length : Int) - 1 := by omega
      have hne : ¬ xs.length - 1 - i = i := by omega
      have hne2 : ¬ i = xs.length - 1 - i := by omega
      have HI := Lib.hid (And.intro hgi hgj)
      have HE := Lib.hid e1
      clear hgi hgj e1
      go_wp2_with fail
      go_region
      go_wp2
      go_roundg (xs.length - (i + 1))
      case measure => omega
      case rel =>
        refine ⟨i + 1, (ys.set i vb).set (xs.length - 1 - i) va, by omega, by omega, by go_num, ?_, Lib.hid ?_, Lib.hid ?_, Lib.hid ?_⟩
        · congr 1
          omega
        · obtain ⟨r1, r2⟩ := HRV.out
          obtain ⟨g1, g2⟩ := HI.out
          refine ⟨by simpa using r1, fun k hk => ?_⟩
          have q1 := r2 i (by omega)
          rw [if_neg (by omega), g1] at q1
          have q2 := r2 (xs.length - 1 - i) (by omega)
          rw [if_neg (by omega), g2] at q2
          by_cases k1 : k = xs.length - 1 - i
          · subst k1
            rw [List.getElem?_set_self (by simp; omega), if_pos (by omega), q1]
            congr 1
            omega
          · rw [List.getElem?_set_ne (by omega)]
            by_cases k2 : k = i
            · subst k2
              rw [List.getElem?_set_self (by omega), if_pos (by omega), q2]
            · rw [List.getElem?_set_ne (by omega), r2 k hk]
              by_cases k3 : k < i ∨ xs.length - 1 - i < k
              · rw [if_pos k3, if_pos (by omega)]
              · rw [if_neg k3, if_neg (by omega)]
        · exact ((HO2.out.drew).set _ _).set _ _
        · exact gb_set (gb_set (gb_drew HG.out) _ (.inl rfl) _) _ (.inl rfl) _
    · have he := revTo_end HRV.out (by omega)
      have HE := Lib.hid he
      clear he
      have hlt' : decide ((i : Int) < (xs.length : Int) - 1 - i) = false := decide_eq_false hlt
      go_wp2
      go_end0
      rw [← HE.out]
      exact ⟨rfl, HO2.out, HG.out⟩

/-! ### earliest -/
def backF (n : Nat) (all : List T3) (by_ : List Int) (at_ : Int) : Int := if by_.getD at_.toNat 0 < 0 then (all.length : Int) - n + at_ else by_.getD at_.toNat 0
def z3 : T3 := ⟨0, 0, 0⟩
def stepF (n : Nat) (all : List T3) (by_ : List Int) (at_ : Int) : Int := (all.getD (backF n all by_ at_).toNat z3).a

/-- the closure of earliest: the link by which one comes to a moment -/
theorem back95 (n : Nat) (all : List T3) (g : Nat) (S : Nat → Prop) (w : World) (hN : NetAt w g n all S) (B1 B2 : Nat) (Ab : Option Addr) (cb : Nat) (by_ : List Int) (at_ : Int)
    (hb1 : w.cell? ⟨B1, 0, none⟩ = some (.slice Ab by_.length cb)) (hb2 : w.cell? ⟨B2, 0, none⟩ = some (.pointer (some ⟨g, 0, none⟩))) (hR : RdI w (.slice Ab by_.length cb) by_)
    (hn : n ≤ 500) (hall : all.length ≤ 6000) (h0 : 0 ≤ at_) (h1 : at_ < by_.length) (h2 : at_ ≤ 500) :
    Calls Try.prog 95 #[.int .i64 at_, .pointer (some ⟨B1, 0, none⟩), .pointer (some ⟨B2, 0, none⟩)] w fun e w' => e = .returned (.int .i64 (backF n all by_ at_)) ∧ ∃ q, w' = w.drewN q := by
  obtain ⟨v, hG, hRl, hvg, hvS⟩ := hN
  obtain ⟨Av, cv, rfl, hlc, hcm, hn0⟩ := RdR.form hRl
  have hG0 : w.cell? ⟨g, 0, none⟩ = some (.int .i64 n) := (cell_of_blk hG 0).trans rfl
  have hG1 : w.cell? ⟨g, 1, none⟩ = some (.slice Av all.length cv) := (cell_of_blk hG 1).trans rfl
  have hx := getD_get (xs := by_) (j := at_.toNat) (by omega)
  obtain ⟨b, off, rfl, hb, hc⟩ := Rd.i hR at_.toNat _ hx
  unfold backF
  have hlb := (RdR.len hR).2.2
  generalize by_.getD at_.toNat 0 = x at hc
  clear hx hR hG hRl hvS hvg
  by_cases hneg : x < 0
  · have hd : decide (x < 0) = true := decide_eq_true hneg
    rw [if_pos hneg]
    go_enter Try.func95, Try.ntmps95
    go_wp2_with fail
    go_quiet (fail)
    go_wp2
    go_ret
    exact ⟨rfl, _, rfl⟩
  · have hd : decide (x < 0) = false := decide_eq_false hneg
    rw [if_neg hneg]
    go_enter Try.func95, Try.ntmps95
    go_wp2
    go_ret
    exact ⟨rfl, 0, rfl⟩

theorem net_n {w : World} {g : Nat} {n : Int} {all : List T3} {S : Nat → Prop} (h : NetAt w g n all S) : w.cell? ⟨g, 0, none⟩ = some (.int .i64 n) := by
  obtain ⟨v, h1, _⟩ := h
  exact (cell_of_blk h1 0).trans rfl
theorem net_links {w : World} {g : Nat} {n : Int} {all : List T3} {S : Nat → Prop} (h : NetAt w g n all S) : ∃ Av cv, w.cell? ⟨g, 1, none⟩ = some (.slice Av all.length cv) ∧ RdT w (.slice Av all.length cv) all ∧ all.length ≤ cv ∧ cv ≤ 9223372036854775807 := by
  obtain ⟨v, h1, h2, _⟩ := h
  obtain ⟨Av, cv, rfl, h3, h4, _⟩ := RdR.form h2
  exact ⟨Av, cv, (cell_of_blk h1 1).trans rfl, h2, h3, h4⟩
theorem net_lt {w : World} {g : Nat} {n : Int} {all : List T3} {S : Nat → Prop} (h : NetAt w g n all S) : g < w.heap.size := by
  obtain ⟨v, h1, _⟩ := h
  exact blk_lt h1

theorem getD_t3 {xs : List T3} {j : Nat} (h : j < xs.length) : xs[j]? = some (xs.getD j z3) := by
  rw [List.getD_eq_getElem?_getD, List.getElem?_eq_getElem h]
  rfl

def iterF (n : Nat) (all : List T3) (by_ : List Int) : Nat → Int → Int
  | 0, x => x
  | k + 1, x => stepF n all by_ (iterF n all by_ k x)

/-- what the search for a circle reads -/
structure EInv (w : World) (g n : Nat) (all : List T3) (S : Nat → Prop) (B1 B2 : Nat) (Ab : Option Addr) (cb : Nat) (by_ : List Int) (wr : World) : Prop where
  net : NetAt wr g n all S
  c1 : wr.cell? ⟨B1, 0, none⟩ = some (.slice Ab n cb)
  c2 : wr.cell? ⟨B2, 0, none⟩ = some (.pointer (some ⟨g, 0, none⟩))
  rd : RdI wr (.slice Ab n cb) by_
  bel : Below w.heap.size w wr

theorem EInv.below {w : World} {g n : Nat} {all : List T3} {S : Nat → Prop} {B1 B2 : Nat} {Ab : Option Addr} {cb : Nat} {by_ : List Int} {wr w2 : World} (h : EInv w g n all S B1 B2 Ab cb by_ wr) (hb : Below wr.heap.size wr w2) : EInv w g n all S B1 B2 Ab cb by_ w2 :=
  ⟨h.net.below hb, (hb.cell (World.block_lt_of_cell? wr _ h.c1)).trans h.c1, (hb.cell (World.block_lt_of_cell? wr _ h.c2)).trans h.c2, Rd.below h.rd hb, h.bel.trans (hb.mono h.bel.size)⟩

theorem EInv.grown {w : World} {g n : Nat} {all : List T3} {S : Nat → Prop} {B1 B2 : Nat} {gb : Nat} {cb : Nat} {by_ : List Int} {wr w2 : World} (h : EInv w g n all S B1 B2 (some ⟨gb, 0, none⟩) cb by_ wr) {row : Option Nat} (hg : wr.grownBy w2 row) (N : Nat) (hrow : ∀ k, row = some k → N ≤ k)
    (h1 : g < N) (h2 : ∀ q, S q → q < N) (h3 : B1 < N) (h4 : B2 < N) (h5 : gb < N) (h6 : w.heap.size ≤ N) : EInv w g n all S B1 B2 (some ⟨gb, 0, none⟩) cb by_ w2 := by
  have hne : ∀ q, q < N → some q ≠ row := fun q hq e => by have := hrow q e.symm; omega
  refine ⟨h.net.grown hg (hne g h1) (fun q hq => hne q (h2 q hq)), ?_, ?_, Rd.grown h.rd hg (fun q hq => by simp [Value.ownBlock] at hq; subst hq; exact hne _ h5), h.bel.grown hg h.bel.size (fun k hk => by have := hrow k hk; omega)⟩
  · exact (World.cell?_of_block (w := wr) (a := ⟨B1, 0, none⟩) (hg.block B1 (World.block_lt_of_cell? wr _ h.c1) (hne B1 h3))).trans h.c1
  · exact (World.cell?_of_block (w := wr) (a := ⟨B2, 0, none⟩) (hg.block B2 (World.block_lt_of_cell? wr _ h.c2) (hne B2 h4))).trans h.c2

set_option maxRecDepth 100000 in
set_option maxHeartbeats 2000000 in
theorem earliest59 (n : Nat) (all : List T3) (g : Nat) (S : Nat → Prop) (w : World) (hN : NetAt w g n all S) (hS : ∀ q, S q → q < w.heap.size) (h1 : 1 ≤ n) (h2 : n ≤ 20) (h3 : all.length ≤ 100) (hl : ∀ l ∈ all, okLk n l = true)
    (F : St) (hF : pushF n all (List.replicate n 0) = F) (hr : F.raised < 0) :
    Calls Try.prog 59 #[.pointer (some ⟨g, 0, none⟩)] w fun e w' => ∃ gt ct, e = .returned (.tuple #[.slice (some ⟨gt, 0, none⟩) n ct, .slice none 0 0]) ∧ Own w' w.heap.size gt ct F.ts ∧ Below w.heap.size w w' := by
  have hN' := hN
  obtain ⟨v, hG, hRl, hvg, hvS⟩ := hN'
  have hgs : g < w.heap.size := blk_lt hG
  have hG0 : w.cell? ⟨g, 0, none⟩ = some (.int .i64 n) := (cell_of_blk hG 0).trans rfl
  have HN := Lib.hid hN
  have HR := Lib.hid hr
  have HS := Lib.hid hS
  have HL := Lib.hid hl
  clear hN hG hRl hvg hvS hr hS hl
  go_enter Try.func59, Try.ntmps59
  go_wp2_with (at_make; refine wp_make_ints _ rfl _ _ 25 rfl w.heap.size Try.underlying25 info3 n rfl rfl ?q1 ?q2 ?_)
  case q1 => omega
  case q2 => simp
  intro w1 HO1' HG1'
  have hs1 := HG1'.size
  simp at hs1
  have c2 : w1.cell? ⟨w.heap.size, 0, none⟩ = some (.pointer (some ⟨g, 0, none⟩)) := (World.cell?_of_block (w := w.alloc (.cells #[.pointer (some ⟨g, 0, none⟩)] 83)) (a := ⟨w.heap.size, 0, none⟩) (HG1'.block _ (by simp) (by simp))).trans (by simp)
  have hN1 : NetAt w1 g n all S := NetAt.below HN.out (((Below.refl _ _).alloc (Nat.le_refl _) _).trans ((below_of HG1').mono (by simp)))
  have hpush := push77 n all g w1 S hN1 w.heap.size (w.heap.size + 1) n (fun q hq => by have := HS.out q hq; omega) (List.replicate n 0) (by simpa using HO1') h1 h2 h3 HL.out (by simp) (fun x hx => by have := List.eq_of_mem_replicate hx; omega)
  rw [hF] at hpush
  have HO1 := Lib.hid HO1'
  have HG1 := Lib.hid HG1'
  clear HO1' HG1' hN1 hF
  have hrb : decide (F.raised < 0) = true := decide_eq_true HR.out
  go_wp2_with (go_at_call 77; refine hpush.mono ?_; rintro e w2 ⟨gb, cb, rfl, hOt, hOb, hgb⟩)
  go_ret2
  refine ⟨_, _, rfl, hOt.alloc _, ?_⟩
  have hb1 : Below w.heap.size w w1 := ((Below.refl _ w).alloc (Nat.le_refl _) _).trans ((below_of HG1.out).mono (by simp))
  exact (hb1.grown hgb hb1.size (by intro k hk; injection hk with hk; omega)).alloc (by have := hgb.size; omega) _

set_option maxRecDepth 100000 in
set_option maxHeartbeats 4000000 in
theorem earliest59c (n : Nat) (all : List T3) (g : Nat) (S : Nat → Prop) (w : World) (hN : NetAt w g n all S) (hS : ∀ q, S q → q < w.heap.size) (h1 : 1 ≤ n) (h2 : n ≤ 20) (h3 : all.length ≤ 100) (hl : ∀ l ∈ all, okLk n l = true)
    (F : St) (hF : pushF n all (List.replicate n 0) = F) (hr : 0 ≤ F.raised ∧ F.raised < n) (hbl : F.by_.length = n) (hback : ∀ a : Int, 0 ≤ a → a < n → 0 ≤ backF n all F.by_ a ∧ backF n all F.by_ a < all.length)
    (hcyc : ∃ m, 1 ≤ m ∧ m ≤ n ∧ iterF n all F.by_ m (iterF n all F.by_ (n + 1) F.raised) = iterF n all F.by_ (n + 1) F.raised) :
    Calls Try.prog 59 #[.pointer (some ⟨g, 0, none⟩)] w fun e w' => ∃ gp cp m, e = .returned (.tuple #[.slice none 0 0, .slice (some ⟨gp, 0, none⟩) m cp]) ∧ 1 ≤ m ∧ m ≤ n ∧ iterF n all F.by_ m (iterF n all F.by_ (n + 1) F.raised) = iterF n all F.by_ (n + 1) F.raised ∧
      Own w' w.heap.size gp cp ((List.range m).map fun i => backF n all F.by_ (iterF n all F.by_ i (iterF n all F.by_ (n + 1) F.raised))).reverse ∧ Below w.heap.size w w' := by
  have hstep : ∀ a : Int, 0 ≤ a → a < n → 0 ≤ stepF n all F.by_ a ∧ stepF n all F.by_ a < n := fun a ha hb => by
    obtain ⟨q1, q2⟩ := hback a ha hb
    unfold stepF
    have : (all.getD (backF n all F.by_ a).toNat z3) ∈ all := by
      rw [List.getD_eq_getElem?_getD, List.getElem?_eq_getElem (show (backF n all F.by_ a).toNat < all.length by omega)]
      exact List.getElem_mem _
    have := okLk_out (hl _ this)
    omega
  have hiter : ∀ (k : Nat) (a : Int), 0 ≤ a → a < n → 0 ≤ iterF n all F.by_ k a ∧ iterF n all F.by_ k a < n := fun k a ha hb => by
    induction k with
    | zero => exact ⟨ha, hb⟩
    | succ k ih => exact hstep _ ih.1 ih.2
  have hN' := hN
  obtain ⟨v, hG, hRl, hvg, hvS⟩ := hN'
  have hgs : g < w.heap.size := blk_lt hG
  have hG0 : w.cell? ⟨g, 0, none⟩ = some (.int .i64 n) := (cell_of_blk hG 0).trans rfl
  have HN := Lib.hid hN
  have HR := Lib.hid hr
  have HS := Lib.hid hS
  have HL := Lib.hid hl
  have HBL := Lib.hid hbl
  have HBA := Lib.hid hback
  have HCY := Lib.hid hcyc
  have HIT := Lib.hid hiter
  clear hN hG hRl hvg hvS hr hS hl hbl hback hcyc hiter hstep
  go_enter Try.func59, Try.ntmps59
  go_wp2_with (at_make; refine wp_make_ints _ rfl _ _ 25 rfl w.heap.size Try.underlying25 info3 n rfl rfl ?q1 ?q2 ?_)
  case q1 => omega
  case q2 => simp
  intro w1 HO1' HG1'
  have hs1 := HG1'.size
  simp at hs1
  have c2 : w1.cell? ⟨w.heap.size, 0, none⟩ = some (.pointer (some ⟨g, 0, none⟩)) := (World.cell?_of_block (w := w.alloc (.cells #[.pointer (some ⟨g, 0, none⟩)] 83)) (a := ⟨w.heap.size, 0, none⟩) (HG1'.block _ (by simp) (by simp))).trans (by simp)
  have hN1 : NetAt w1 g n all S := NetAt.below HN.out (((Below.refl _ _).alloc (Nat.le_refl _) _).trans ((below_of HG1').mono (by simp)))
  have hpush := push77 n all g w1 S hN1 w.heap.size (w.heap.size + 1) n (fun q hq => by have := HS.out q hq; omega) (List.replicate n 0) (by simpa using HO1') h1 h2 h3 HL.out (by simp) (fun x hx => by have := List.eq_of_mem_replicate hx; omega)
  rw [hF] at hpush
  have HO1 := Lib.hid HO1'
  have HG1 := Lib.hid HG1'
  have HN1 := Lib.hid hN1
  have HHF := Lib.hid hF
  clear HO1' HG1' hN1 hF
  have hrb : decide (F.raised < 0) = false := decide_eq_false (by have := HR.out.1; omega)
  go_wp2_with fail
  refine hpush.mono ?_
  rintro e w2 ⟨gb, cb, rfl, hOt, hOb, hgb⟩
  have hE0 : EInv w g n all S (w2.heap.size) (w.heap.size) (some ⟨gb, 0, none⟩) cb F.by_ (w2.alloc (.cells #[.slice (some ⟨gb, 0, none⟩) n cb] 25)) := by
    have hs2 := hgb.size
    have hb2 : some w.heap.size ≠ some (w.heap.size + 1) := by simp
    refine ⟨?_, by simp, ?_, ?_, ?_⟩
    · exact (HN1.out.grown hgb (by simp; omega) (fun q hq => by have := HS.out q hq; simp; omega)).below ((Below.refl _ _).alloc (Nat.le_refl _) _)
    · have := (World.cell?_of_block (w := w1) (a := ⟨w.heap.size, 0, none⟩) (hgb.block w.heap.size (by omega) hb2)).trans c2
      exact (((Below.refl _ w2).alloc (Nat.le_refl _) _).cell (p := ⟨w.heap.size, 0, none⟩) (by simp; omega)).trans this
    · have := Rd.below hOb.rd ((Below.refl _ w2).alloc (Nat.le_refl _) (.cells #[.slice (some ⟨gb, 0, none⟩) n cb] 25))
      rw [HBL.out] at this
      exact this
    · have hb1 : Below w.heap.size w w1 := ((Below.refl _ w).alloc (Nat.le_refl _) _).trans ((below_of HG1.out).mono (by simp))
      exact (hb1.grown hgb hb1.size (by intro k hk; injection hk with hk; omega)).alloc (by omega) _
  have HE0 := Lib.hid hE0
  have hs2 := hgb.size
  have hgs2 : g < w2.heap.size := by omega
  have hws2 : w.heap.size < w2.heap.size := by omega
  have g0 : w2.cell? ⟨g, 0, none⟩ = some (.int .i64 n) := (World.cell?_of_block (w := w1) (a := ⟨g, 0, none⟩) (hgb.block g (by omega) (by simp; omega))).trans (net_n HN1.out)
  have b2 : w2.cell? ⟨w.heap.size, 0, none⟩ = some (.pointer (some ⟨g, 0, none⟩)) := (World.cell?_of_block (w := w1) (a := ⟨w.heap.size, 0, none⟩) (hgb.block w.heap.size (by omega) (by simp))).trans c2
  have hgb2 : gb < w2.heap.size := by
    obtain ⟨_, _, h, _⟩ := hOb.blk
    exact h
  clear hE0 hOt hOb hpush c2 hG0
  go_wp2_with fail
  go_loopg [6, 30] (n + 1) (fun gg s6 s30 wr => ∃ k : Nat, k ≤ n + 1 ∧ n + 1 - k ≤ gg ∧ s6 = .int .i64 (iterF n all F.by_ k F.raised) ∧ s30 = .int .i64 k ∧ Hid (EInv w g n all S (w2.heap.size) (w.heap.size) (some ⟨gb, 0, none⟩) cb F.by_ wr))
  case atStart => exact ⟨0, Nat.zero_le _, by omega, rfl, rfl, HE0⟩
  case round =>
    obtain ⟨k, hk, hg, rfl, rfl, HE⟩ := hrel
    clear g0 b2 HE0
    by_cases hlt : k < n + 1
    · have hlt' : decide ((k : Int) < (n : Int) + 1) = true := decide_eq_true (by omega)
      have hsucc : iterF n all F.by_ (k + 1) F.raised = stepF n all F.by_ (iterF n all F.by_ k F.raised) := rfl
      have ha := HIT.out k F.raised HR.out.1 HR.out.2
      generalize iterF n all F.by_ k F.raised = a at ha hsucc
      obtain ⟨ha1, ha2⟩ := ha
      obtain ⟨i1, i2⟩ := HBA.out a ha1 ha2
      have hcall : ∀ q, Calls Try.prog 95 #[.int .i64 a, .pointer (some ⟨w2.heap.size, 0, none⟩), .pointer (some ⟨w.heap.size, 0, none⟩)] (wr.drewN q) fun e w' => e = .returned (.int .i64 (backF n all F.by_ a)) ∧ ∃ m, w' = (wr.drewN q).drewN m := fun q => by
        have := back95 n all g S (wr.drewN q) HE.out.net w2.heap.size w.heap.size (some ⟨gb, 0, none⟩) cb F.by_ a (by rw [HBL.out]; exact HE.out.c1) HE.out.c2 (by rw [HBL.out]; exact HE.out.rd) (by omega) (by omega) ha1 (by rw [HBL.out]; omega) (by omega)
        exact this
      have hgl := getD_t3 (xs := all) (j := (backF n all F.by_ a).toNat) (by omega)
      simp only [stepF] at hsucc
      generalize backF n all F.by_ a = i at i1 i2 hcall hgl hsucc
      generalize all.getD i.toNat z3 = x at hgl hsucc
      have HSU := Lib.hid hsucc
      obtain ⟨Av, cv, g1, hrl, hlv1, hlv2⟩ := net_links HE.out.net
      obtain ⟨bl, ol, rfl, hbl, l0, _, _⟩ := Rd.t3 hrl i.toNat x hgl
      have b1 := HE.out.c1
      have b2 := HE.out.c2
      clear hsucc hrl hgl
      go_wp2_with fail
      go_quiet ((go_at_call 95; exact Calls.quiet_of (hcall _)))
      go_wp2
      go_roundg (n + 1 - (k + 1))
      case measure => omega
      case rel => exact ⟨k + 1, by omega, by omega, by rw [HSU.out], by go_num, Lib.hid (HE.out.below (below_drewN (Below.refl _ _) _))⟩
    · obtain rfl : k = n + 1 := by omega
      have hlt' : decide (((n + 1 : Nat) : Int) < (n : Int) + 1) = false := decide_eq_false (by omega)
      have he := HIT.out (n + 1) F.raised HR.out.1 HR.out.2
      obtain ⟨e0, he0⟩ : ∃ e0, iterF n all F.by_ (n + 1) F.raised = e0 := ⟨_, rfl⟩
      obtain ⟨m, hm1, hm2, hm3⟩ := HCY.out
      rw [he0] at he hm3 ⊢
      have HM := Lib.hid hm3
      have HE0' := Lib.hid he0
      have hitr := fun j => HIT.out j e0 he.1 he.2
      have HIT2 := Lib.hid hitr
      obtain ⟨he1, he2⟩ := he
      clear hm3 he0 hitr hg hk
      go_wp2_with fail
      go_loopg [6, 8] (m) (fun gg s6 s8 wr => ∃ (k : Nat) (Ap : Option Addr) (cp : Nat), k ≤ m ∧ m - k ≤ gg ∧ s6 = .int .i64 (iterF n all F.by_ k e0) ∧ s8 = .slice Ap k cp ∧ Hid (EInv w g n all S (w2.heap.size) (w.heap.size) (some ⟨gb, 0, none⟩) cb F.by_ wr) ∧
          Hid (wr.ownsRow (w2.heap.size + 1) 3 1 (.slice Ap k cp) k (ints ((List.range k).map fun i => backF n all F.by_ (iterF n all F.by_ i e0)))) ∧ w2.heap.size + 1 ≤ wr.heap.size)
      case atStart => exact ⟨0, none, 0, Nat.zero_le _, by omega, rfl, rfl, HE, Lib.hid (World.ownsRow_nil _ _ _ _), (World.block_lt_of_cell? _ _ HE.out.c1)⟩
      case round =>
        obtain ⟨k, Ap, cp, hk, hg, rfl, rfl, HE2, HOP, hsz⟩ := hrel
        clear HE
        by_cases hgo : k = 0 ∨ iterF n all F.by_ k e0 ≠ e0
        · have hkm : k < m := by
            rcases hgo with h | h
            · omega
            · rcases Nat.lt_or_ge k m with h' | h'
              · exact h'
              · exact absurd (by rw [show k = m by omega]; exact HM.out) h
          have hsucc : iterF n all F.by_ (k + 1) e0 = stepF n all F.by_ (iterF n all F.by_ k e0) := rfl
          have ha := HIT2.out k
          have HPK : Hid (∀ x, x = backF n all F.by_ (iterF n all F.by_ k e0) → ((List.range (k + 1)).map fun i => backF n all F.by_ (iterF n all F.by_ i e0)) = ((List.range k).map fun i => backF n all F.by_ (iterF n all F.by_ i e0)) ++ [x]) := Lib.hid (fun x hx => by rw [List.range_succ, List.map_append, hx]; rfl)
          have htest : ((k : Int) == 0) = true ∨ (((k : Int) == 0) = false ∧ (iterF n all F.by_ k e0 != e0) = true) := by
            rcases Nat.eq_zero_or_pos k with h | h
            · left; subst h; rfl
            · right
              refine ⟨by rw [beq_eq_false_iff_ne]; omega, ?_⟩
              rcases hgo with h' | h'
              · omega
              · exact bne_iff_ne.2 h'
          generalize iterF n all F.by_ k e0 = a at ha hsucc htest HPK
          obtain ⟨ha1, ha2⟩ := ha
          obtain ⟨i1, i2⟩ := HBA.out a ha1 ha2
          have hcallN : ∀ W, EInv w g n all S (w2.heap.size) (w.heap.size) (some ⟨gb, 0, none⟩) cb F.by_ W → Calls Try.prog 95 #[.int .i64 a, .pointer (some ⟨w2.heap.size, 0, none⟩), .pointer (some ⟨w.heap.size, 0, none⟩)] W fun e w' => e = .returned (.int .i64 (backF n all F.by_ a)) ∧ ∃ m, w' = W.drewN m := fun W hE => by
            exact back95 n all g S W hE.net w2.heap.size w.heap.size (some ⟨gb, 0, none⟩) cb F.by_ a (by rw [HBL.out]; exact hE.c1) hE.c2 (by rw [HBL.out]; exact hE.rd) (by omega) (by omega) ha1 (by rw [HBL.out]; omega) (by omega)
          have hgl := getD_t3 (xs := all) (j := (backF n all F.by_ a).toNat) (by omega)
          simp only [stepF] at hsucc
          have hpk := HPK.out _ rfl
          generalize backF n all F.by_ a = i at i1 i2 hcallN hgl hsucc hpk
          generalize all.getD i.toNat z3 = x at hgl hsucc
          have HSU := Lib.hid hsucc
          have HGL := Lib.hid hgl
          have HPP := Lib.hid hpk
          have HCN := Lib.hid hcallN
          clear hsucc hgl hpk HPK hcallN hgo
          rcases htest with ht | ⟨ht, ht2⟩
          all_goals
            go_wp2_with fail
            refine (HCN.out _ HE2.out).mono ?_
            rintro e w3 ⟨rfl, q, rfl⟩
            go_wp2_with (at_builtin; refine wp_append_one (wr.drewN q) rfl _ _ 25 rfl (w2.heap.size + 1) 3 _ 1 8 Try.underlying25 info3 rfl (by decide) (.slice Ap k cp) k _ rfl HOP.out encI i _ rfl rfl i_len i_one ?_ (by decide) ?_ ?_)
            · omega
            · exact hsz
            intro g' c' w3 hown' hgrow hb' hl' _
            have hrow : ∀ k', (Value.slice Ap k cp).ownBlock = some k' → w2.heap.size + 1 ≤ k' := fun k' hk' => (World.ownsRow.lt HOP.out k' hk').1
            have hE3 : EInv w g n all S (w2.heap.size) (w.heap.size) (some ⟨gb, 0, none⟩) cb F.by_ w3 := (HE2.out.below (below_drewN (Below.refl _ _) q)).grown hgrow (w2.heap.size + 1) hrow (by omega) (fun q hq => by have := HS.out q hq; omega) (by omega) (by omega) (by omega) (by omega)
            obtain ⟨Av, cv, g1, hrl, hlv1, hlv2⟩ := net_links hE3.net
            obtain ⟨bl, ol, rfl, hbl, l0, _, _⟩ := Rd.t3 hrl i.toNat x HGL.out
            have b1 := hE3.c1
            have b2 := hE3.c2
            have g0 := net_n hE3.net
            have hs3 := hgrow.size
            have hcall : ∀ q, Calls Try.prog 95 #[.int .i64 a, .pointer (some ⟨w2.heap.size, 0, none⟩), .pointer (some ⟨w.heap.size, 0, none⟩)] (w3.drewN q) fun e w' => e = .returned (.int .i64 i) ∧ ∃ m, w' = (w3.drewN q).drewN m := fun q => HCN.out _ (hE3.below (below_drewN (Below.refl _ _) q))
            have HE3 := Lib.hid hE3
            have HOW := Lib.hid hown'
            clear hrl hgrow hE3 hown' hrow
            go_wp2_with fail
            go_quiet ((go_at_call 95; exact Calls.quiet_of (hcall _)))
            go_wp2
            go_roundg (m - (k + 1))
            case measure => omega
            case rel =>
              refine ⟨k + 1, some ⟨g', 0, none⟩, c', by omega, by omega, by rw [HSU.out], rfl, Lib.hid (HE3.out.below (below_drewN (Below.refl _ _) _)), Lib.hid ?_, ?_⟩
              · rw [HPP.out, ints_append]
                exact HOW.out
              · have : (wr.drewN q).heap.size ≤ w3.heap.size := hs3
                have e : (wr.drewN q).heap.size = wr.heap.size := rfl
                show w2.heap.size + 1 ≤ w3.heap.size
                omega
        · have hk1 : k ≠ 0 ∧ iterF n all F.by_ k e0 = e0 := by
            refine ⟨fun h => hgo (.inl h), ?_⟩
            exact Classical.byContradiction fun h => hgo (.inr h)
          obtain ⟨hk0, hke⟩ := hk1
          have t1 : ((k : Int) == 0) = false := by rw [beq_eq_false_iff_ne]; omega
          have t2 : (iterF n all F.by_ k e0 != e0) = false := by rw [bne_eq_false_iff_eq]; exact hke
          have HKE := Lib.hid hke
          obtain ⟨gp, cp', hv, hgp1, hgp2, hcp⟩ := owns_pos HOP.out (by omega)
          injection hv with hv1 hv2 hv3
          subst hv1 hv3
          have hlen : ((List.range k).map fun i => backF n all F.by_ (iterF n all F.by_ i e0)).length = k := by simp
          have hOwn : Own wr (w2.heap.size + 1) gp cp ((List.range k).map fun i => backF n all F.by_ (iterF n all F.by_ i e0)) := by
            unfold Own
            rw [hlen]
            exact HOP.out
          have hrev := reverse62 _ _ _ _ wr hOwn (by rw [hlen]; omega)
          rw [hlen] at hrev
          clear hlen hOwn hke hgo hg
          generalize iterF n all F.by_ k e0 = a at t2
          go_wp2_with (go_at_call 62; refine hrev.mono ?_; rintro e w3 ⟨rfl, hO3, hg3⟩)
          go_ret2
          rw [HE0'.out]
          refine ⟨gp, cp, k, rfl, by omega, by omega, HKE.out, ?_, ?_⟩
          · exact ⟨hO3.1, by
              rcases hO3.2 with h | ⟨g1, c1, cur, h1, h2, h3⟩
              · exact .inl h
              · exact .inr ⟨g1, c1, cur, h1, by omega, h3⟩⟩
          · exact HE2.out.bel.grown hg3 HE2.out.bel.size (by intro k' hk'; injection hk' with hk'; omega)
end Go.Proofs.Ytpknonebnipcgaa.C
