import Derived.Test.YtpknonebnipcgaaProg
import Derived.WalkKit
import Derived.KernelRfl
import Derived.Deep.LoopGhost
import Derived.Deep.QuietTactic
import Derived.BigQuiet
import Derived.Deep.DeepCutAuto
import Derived.Deep.CutBlock
import Derived.Deep.RegionHeld3
import Derived.WalkLawsBesides
import Derived.WalkSpells
import Derived.Outline
import Derived.Deep.DeepFit
import Derived.Lib.Hide
import Derived.Shelf.Abstract
import Derived.Lib.SliceRun
import Derived.Test.YtpknonebnipcgaaE
namespace Go.Proofs.Ytpknonebnipcgaa.F
open Go.RowKit Go.Shelf Go.Proofs.Ytpknonebnipcgaa.V Go.Proofs.Ytpknonebnipcgaa.A Go.Proofs.Ytpknonebnipcgaa.B Go.Proofs.Ytpknonebnipcgaa.C Go.Proofs.Ytpknonebnipcgaa.P Go.Proofs.Ytpknonebnipcgaa.D Go.Proofs.Ytpknonebnipcgaa.E
set_option linter.unusedVariables false
set_option linter.unusedSimpArgs false
attribute [local go_sem] max2_i max_2

/-- less than any weight -/
def NO : Int := -4611686018427387904

def pk (m want : Int) (row : List Int) (l : T3) : Bool := l.b == m && (decide (NO < row.getD l.a.toNat 0) && (row.getD l.a.toNat 0 + l.c == want))

set_option maxHeartbeats 1000000 in
theorem reason61 (l : T3) (m want : Int) (k : Nat) (row : List Int) (W : World) (B5 B11 B19 B20 : Nat) (Ar : Addr) (nr cr : Nat) (Aw : Option Addr) (cw : Nat)
    (h5 : W.cell? ⟨B5, 0, none⟩ = some (.int .i64 m)) (h11 : W.cell? ⟨B11, 0, none⟩ = some (.slice (some ⟨Ar.block, 0, none⟩) nr cr)) (h19 : W.cell? ⟨B19, 0, none⟩ = some (.int .i64 k)) (h20 : W.cell? ⟨B20, 0, none⟩ = some (.int .i64 want))
    (hk : k < nr) (hnr : nr ≤ 1000000) (hrow : W.cell? ⟨Ar.block, k, none⟩ = some (.slice Aw row.length cw)) (hR : RdI W (.slice Aw row.length cw) row)
    (ha : 0 ≤ l.a) (hb : l.a < row.length) (hc1 : -1000000 ≤ l.c) (hc2 : l.c ≤ 1000000) (hrb : row.getD l.a.toNat 0 ≤ 1000000000) (hrl : NO ≤ row.getD l.a.toNat 0) :
    Calls Try.prog 61 #[.agg l.enc.toArray, .pointer (some ⟨B5, 0, none⟩), .pointer (some ⟨B11, 0, none⟩), .pointer (some ⟨B19, 0, none⟩), .pointer (some ⟨B20, 0, none⟩)] W fun e w' => e = .returned (.bool (pk m want row l)) ∧ Below W.heap.size W w' := by
  obtain ⟨la, lb, lc⟩ := l
  simp only at ha hb hc1 hc2 hrb hrl
  show Calls Try.prog 61 #[.agg #[.int .i64 la, .int .i64 lb, .int .i64 lc], .pointer (some ⟨B5, 0, none⟩), .pointer (some ⟨B11, 0, none⟩), .pointer (some ⟨B19, 0, none⟩), .pointer (some ⟨B20, 0, none⟩)] W _
  obtain ⟨br, off, rfl, hbr, hcr⟩ := Rd.i hR la.toNat _ (getD_get (by omega))
  have hlen := (RdR.len hR).2
  have b5 := World.block_lt_of_cell? W _ h5
  have b11 := World.block_lt_of_cell? W _ h11
  have b19 := World.block_lt_of_cell? W _ h19
  have b20 := World.block_lt_of_cell? W _ h20
  have bAr := World.block_lt_of_cell? W _ hrow
  simp only at b5 b11 b19 b20 bAr
  unfold pk
  simp only
  clear hR
  generalize row.getD la.toNat 0 = x at hcr hrb hrl ⊢
  have hNO : NO = -4611686018427387904 := rfl
  by_cases t1 : lb = m
  · have d1 : (lb == m) = true := beq_iff_eq.2 t1
    rw [d1]
    by_cases t2 : NO < x
    · have d2 : decide (NO < x) = true := decide_eq_true t2
      rw [d2]
      have d2' : decide ((-4611686018427387904 : Int) < x) = true := decide_eq_true t2
      have x0 : (-4611686018427387904 : Int) < x := t2
      cases d3 : (x + lc == want)
      all_goals
        clear t1 t2 d2 hNO hrl
        go_enter Try.func61, Try.ntmps61
        go_wp2_with fail
        go_quiet (fail)
        go_wp2
        go_ret
        exact ⟨rfl, below_drewN ((Below.refl _ _).alloc (Nat.le_refl _) _) _⟩
    · have d2 : decide (NO < x) = false := decide_eq_false t2
      rw [d2]
      have d2' : decide ((-4611686018427387904 : Int) < x) = false := decide_eq_false t2
      clear t1 t2 d2 hNO hrl
      go_enter Try.func61, Try.ntmps61
      go_wp2_with fail
      go_quiet (fail)
      go_wp2
      go_ret
      exact ⟨rfl, below_drewN ((Below.refl _ _).alloc (Nat.le_refl _) _) _⟩
  · have d1 : (lb == m) = false := beq_eq_false_iff_ne.2 t1
    rw [d1]
    clear t1 hNO hrl
    go_enter Try.func61, Try.ntmps61
    go_wp2_with fail
    go_quiet (fail)
    go_wp2
    go_ret
    exact ⟨rfl, below_drewN ((Below.refl _ _).alloc (Nat.le_refl _) _) _⟩

/-! ### the rows of weights -/
def upd (last now : List Int) (l : T3) : List Int := if NO < last.getD l.a.toNat 0 then now.set l.b.toNat (max (now.getD l.b.toNat 0) (last.getD l.a.toNat 0 + l.c)) else now
def partR (all : List T3) (last : List Int) : Nat → List Int → List Int
  | 0, now => now
  | k + 1, now => match all[k]? with | some l => upd last (partR all last k now) l | none => partR all last k now
theorem partR_succ (all : List T3) (last : List Int) (k : Nat) (now : List Int) (l : T3) (h : all[k]? = some l) : partR all last (k + 1) now = upd last (partR all last k now) l := by simp only [partR]; rw [h]
def rowR (n : Nat) (all : List T3) : Nat → List Int
  | 0 => (List.replicate n NO).set 0 0
  | k + 1 => partR all (rowR n all k) all.length (List.replicate n NO)

theorem upd_len {n : Nat} {last now : List Int} {l : T3} (h : now.length = n) : (upd last now l).length = n := by unfold upd; split <;> simpa using h
theorem partR_len {n : Nat} {all : List T3} {last now : List Int} (h : now.length = n) : ∀ k, (partR all last k now).length = n
  | 0 => h
  | k + 1 => by
    simp only [partR]
    split
    · exact upd_len (partR_len h k)
    · exact partR_len h k
theorem rowR_len (n : Nat) (all : List T3) : ∀ k, (rowR n all k).length = n
  | 0 => by simp [rowR]
  | k + 1 => partR_len (by simp) _

/-- bounds of weights -/
def Wb (M : Int) (xs : List Int) : Prop := ∀ x ∈ xs, NO ≤ x ∧ x ≤ M
theorem upd_wb {n : Nat} {last now : List Int} {l : T3} {M : Int} (hM : NO ≤ M) (hl : okLk n l = true) (h1 : last.length = n) (h2 : now.length = n) (hw : Wb M last) (hn : Wb (M + 1000000) now) : Wb (M + 1000000) (upd last now l) := by
  obtain ⟨a1, a2, b1, b2, c1, c2⟩ := okLk_out hl
  unfold upd
  split
  · intro x hx
    rcases List.mem_or_eq_of_mem_set hx with hx | rfl
    · exact hn x hx
    · have ha := hw _ (getD_mem (xs := last) (j := l.a.toNat) (by omega))
      have hb := hn _ (getD_mem (xs := now) (j := l.b.toNat) (by omega))
      constructor
      · omega
      · omega
  · exact hn
theorem partR_wb {n : Nat} {all : List T3} (hV : Valid n all) {last now : List Int} {M : Int} (hM : NO ≤ M) (h1 : last.length = n) (h2 : now.length = n) (hw : Wb M last) (hn : Wb (M + 1000000) now) : ∀ k, Wb (M + 1000000) (partR all last k now)
  | 0 => hn
  | k + 1 => by
    simp only [partR]
    split
    · rename_i l he
      exact upd_wb hM (hV l (List.mem_of_getElem? he)) h1 (partR_len h2 k) hw (partR_wb hV hM h1 h2 hw hn k)
    · exact partR_wb hV hM h1 h2 hw hn k
theorem rep_wb (n : Nat) (M : Int) (hM : NO ≤ M) : Wb M (List.replicate n NO) := fun x hx => by
  have := List.eq_of_mem_replicate hx
  subst this
  exact ⟨Int.le_refl _, hM⟩
theorem rowR_wb {n : Nat} {all : List T3} (hV : Valid n all) : ∀ k : Nat, Wb (1000000 * k) (rowR n all k)
  | 0 => fun x hx => by
    simp only [rowR] at hx
    have : NO ≤ 0 := by unfold NO; omega
    rcases List.mem_or_eq_of_mem_set hx with hx | rfl
    · have := List.eq_of_mem_replicate hx
      subst this
      exact ⟨Int.le_refl _, by unfold NO; omega⟩
    · exact ⟨by unfold NO; omega, by omega⟩
  | k + 1 => by
    have hM : NO ≤ 1000000 * (k : Int) := by unfold NO; omega
    have := partR_wb hV hM (rowR_len n all k) (now := List.replicate n NO) (by simp) (rowR_wb hV k) (rep_wb n _ (by omega)) all.length
    have e : (1000000 * ((k + 1 : Nat) : Int)) = 1000000 * (k : Int) + 1000000 := by omega
    rw [e]
    exact this

def encS (n : Nat) (p : Nat × Nat) : List Value := [.slice (some ⟨p.1, 0, none⟩) n p.2]
theorem encS_len (n : Nat) (p : Nat × Nat) : (encS n p).length = 1 := rfl
theorem encS_one (n : Nat) (p : Nat × Nat) : ∀ u ∈ encS n p, u.oneCell' = true := by
  intro u hu
  simp [encS] at hu
  subst hu
  rfl

/-- the rows in memory: all in blocks below N -/
def Rows (W : World) (base B n : Nat) (R : List (List Int)) (N : Nat) : Prop := ∃ (Ar cr : Nat) (vs : List (Nat × Nat)), W.heap[B]? = some (.cells #[.slice (some ⟨Ar, 0, none⟩) R.length cr] 87 (0, 0)) ∧ W.ownsRow base 25 1 (.slice (some ⟨Ar, 0, none⟩) R.length cr) R.length (vs.flatMap (encS n)) ∧ vs.length = R.length ∧ B < N ∧ Ar < N ∧ N ≤ W.heap.size ∧
  ∀ (j g c : Nat) (r : List Int), vs[j]? = some (g, c) → R[j]? = some r → g < N ∧ r.length = n ∧ Own W base g c r

theorem Rows.grown {W W' : World} {base B n N : Nat} {R : List (List Int)} (h : Rows W base B n R N) {row : Option Nat} (hg : W.grownBy W' row) (hr : ∀ q, row = some q → N ≤ q) : Rows W' base B n R N := by
  obtain ⟨Ar, cr, vs, h1, h2, h3, h4, h5, h6, h7⟩ := h
  have hne : ∀ q, q < N → some q ≠ row := fun q hq e => by have := hr q e.symm; omega
  refine ⟨Ar, cr, vs, blk_grown h1 hg (hne _ h4), h2.kept hg (.inr (by simpa [Value.ownBlock] using hne _ h5)), h3, h4, h5, Nat.le_trans h6 hg.size, fun j g c r a b => ?_⟩
  obtain ⟨q1, q2, q3⟩ := h7 j g c r a b
  exact ⟨q1, q2, q3.kept hg (hne _ q1)⟩
theorem Rows.below {W W' : World} {base B n N : Nat} {R : List (List Int)} (h : Rows W base B n R N) (hb : Below W.heap.size W W') : Rows W' base B n R N := h.grown (grown_of hb none) (fun q e => by cases e)

/-- what one reads at row j -/
theorem Rows.at {W : World} {base B n N : Nat} {R : List (List Int)} (h : Rows W base B n R N) {j : Nat} {r : List Int} (hj : R[j]? = some r) : ∃ Ar cr g c, W.cell? ⟨B, 0, none⟩ = some (.slice (some ⟨Ar, 0, none⟩) R.length cr) ∧ W.frozen? ⟨B, 0, none⟩ = false ∧ R.length ≤ cr ∧ cr ≤ 9223372036854775807 ∧
    W.cell? ⟨Ar, j, none⟩ = some (.slice (some ⟨g, 0, none⟩) n c) ∧ g < N ∧ r.length = n ∧ Own W base g c r ∧ B < N ∧ Ar < N := by
  obtain ⟨Ar, cr, vs, h1, h2, h3, h4, h5, h6, h7⟩ := h
  have hl := (List.getElem?_eq_some_iff.1 hj).1
  have hv : vs[j]? = some vs[j] := List.getElem?_eq_getElem (by omega)
  obtain ⟨q1, q2, q3⟩ := h7 j vs[j].1 vs[j].2 r hv hj
  have hrd : Rd 1 (encS n) W (.slice (some ⟨Ar, 0, none⟩) R.length cr) vs := by rw [← h3] at h2 ⊢; exact rd_of_owns (encS_len n) h2
  obtain ⟨b, off, cs, e, hb, rfl, hc⟩ := RdR.at hrd j _ hv
  injection e with e
  injection e with e1 e2
  subst e1 e2
  have hcj := hc 0 _ rfl
  rw [Nat.zero_add, Nat.mul_one, Nat.add_zero] at hcj
  have hll := (RdR.len hrd).2
  exact ⟨Ar, cr, vs[j].1, vs[j].2, (cell_of_blk h1 0).trans rfl, frozen_of_blk h1 0, hll.1, hll.2, hcj, q1, q2, q3, h4, h5⟩

theorem Rows.push {W W' : World} {base B n N : Nat} {R : List (List Int)} {r : List Int} {vs : List (Nat × Nat)} {Ar' cr' gn cn : Nat} (hvs : vs.length = R.length) (hold : ∀ (j g c : Nat) (r : List Int), vs[j]? = some (g, c) → R[j]? = some r → g < N ∧ r.length = n ∧ Own W' base g c r)
    (h1 : W'.heap[B]? = some (.cells #[.slice (some ⟨Ar', 0, none⟩) (R.length + 1) cr'] 87 (0, 0))) (h2 : W'.ownsRow base 25 1 (.slice (some ⟨Ar', 0, none⟩) (R.length + 1) cr') (R.length + 1) (vs.flatMap (encS n) ++ encS n (gn, cn)))
    (hN : N ≤ W'.heap.size) (hB : B < W'.heap.size) (hA : Ar' < W'.heap.size) (hr : r.length = n) (hO : Own W' base gn cn r) : Rows W' base B n (R ++ [r]) W'.heap.size := by
  refine ⟨Ar', cr', vs ++ [(gn, cn)], ?_, ?_, by simp [hvs], hB, hA, Nat.le_refl _, ?_⟩
  · rw [List.length_append]; exact h1
  · rw [List.length_append, List.flatMap_append]
    simpa [List.flatMap_cons] using h2
  · intro j g c r' hv hr'
    by_cases hj : j < vs.length
    · rw [List.getElem?_append_left hj] at hv
      rw [List.getElem?_append_left (by omega)] at hr'
      obtain ⟨q1, q2, q3⟩ := hold j g c r' hv hr'
      exact ⟨by omega, q2, q3⟩
    · rw [List.getElem?_append_right (by omega)] at hv
      rw [List.getElem?_append_right (by omega)] at hr'
      have hj0 : j - vs.length = 0 := by
        rcases Nat.eq_zero_or_pos (j - vs.length) with h | h
        · exact h
        · rw [List.getElem?_eq_none (by simp; omega)] at hv
          cases hv
      rw [hj0] at hv
      rw [show j - R.length = 0 by omega] at hr'
      simp at hv hr'
      obtain ⟨rfl, rfl⟩ := hv
      subst hr'
      obtain ⟨_, _, q, _⟩ := hO.blk
      exact ⟨q, hr, hO⟩

/-- what stays while the rows grow: the net, the times, what lay there before, the moment's box -/
structure CI (w : World) (g n : Nat) (all : List T3) (S : Nat → Prop) (g9 ct : Nat) (ts : List Int) (B5 : Nat) (m : Int) (N : Nat) (W : World) : Prop where
  net : NetAt W g n all S
  tim : RdI W (.slice (some ⟨g9, 0, none⟩) n ct) ts
  bel : Below w.heap.size w W
  mom : W.heap[B5]? = some (.cells #[.int .i64 m] 3 (0, 0))
  bnd : g < N ∧ (∀ q, S q → q < N) ∧ g9 < N ∧ B5 < N ∧ w.heap.size ≤ N ∧ N ≤ W.heap.size

theorem CI.grown {w : World} {g n : Nat} {all : List T3} {S : Nat → Prop} {g9 ct : Nat} {ts : List Int} {B5 : Nat} {m : Int} {N : Nat} {W W' : World} (h : CI w g n all S g9 ct ts B5 m N W) {row : Option Nat} (hg : W.grownBy W' row) (hr : ∀ q, row = some q → N ≤ q) : CI w g n all S g9 ct ts B5 m N W' := by
  obtain ⟨b1, b2, b3, b4, b5, b6⟩ := h.bnd
  have hne : ∀ q, q < N → some q ≠ row := fun q hq e => by have := hr q e.symm; omega
  exact ⟨h.net.grown hg (hne _ b1) (fun q hq => hne q (b2 q hq)), Rd.grown h.tim hg (fun q hq => by simp [Value.ownBlock] at hq; subst hq; exact hne _ b3), h.bel.grown hg h.bel.size (fun k hk => by have := hr k hk; omega), blk_grown h.mom hg (hne _ b4), ⟨b1, b2, b3, b4, b5, Nat.le_trans b6 hg.size⟩⟩
theorem CI.below {w : World} {g n : Nat} {all : List T3} {S : Nat → Prop} {g9 ct : Nat} {ts : List Int} {B5 : Nat} {m : Int} {N : Nat} {W W' : World} (h : CI w g n all S g9 ct ts B5 m N W) (hb : Below W.heap.size W W') : CI w g n all S g9 ct ts B5 m N W' := h.grown (grown_of hb none) (fun q e => by cases e)

theorem below_drew {B : Nat} {w W : World} (h : Below B w W) : Below B w W.drew := ⟨h.os, h.tape, h.output, h.size, h.block⟩
theorem net_and {w : World} {g : Nat} {n : Int} {all : List T3} {S T : Nat → Prop} (h : NetAt w g n all S) (h' : NetAt w g n all T) : NetAt w g n all (fun q => S q ∧ T q) := by
  obtain ⟨v, a1, a2, a3, a4⟩ := h
  obtain ⟨v', b1, b2, b3, b4⟩ := h'
  rw [a1] at b1
  injection b1 with b1
  injection b1 with b1
  have e : v = v' := by
    have := congrArg (fun (x : Array Value) => x[1]?) b1
    simpa using this
  subst e
  exact ⟨v, a1, a2, a3, fun q hq => ⟨⟨(a4 q hq).1, (b4 q hq).1⟩, (a4 q hq).2⟩⟩

theorem Rows.grown2 {W W' : World} {base B n N : Nat} {R : List (List Int)} (h : Rows W base B n R N) {row : Option Nat} (hg : W.grownBy W' row) (hr : ∀ q, row = some q → N ≤ q ∨ (q < base ∧ q ≠ B)) : Rows W' base B n R N := by
  obtain ⟨Ar, cr, vs, h1, h2, h3, h4, h5, h6, h7⟩ := h
  have hA : base ≤ Ar := (World.ownsRow.lt h2 Ar rfl).1
  have hne : ∀ q, q < N → base ≤ q ∨ q = B → some q ≠ row := fun q hq hb e => by
    rcases hr q e.symm with h | ⟨h, h'⟩
    · omega
    · rcases hb with hb | hb
      · omega
      · exact h' hb
  refine ⟨Ar, cr, vs, blk_grown h1 hg (hne _ h4 (.inr rfl)), h2.kept hg (.inr (by simpa [Value.ownBlock] using hne _ h5 (.inl hA))), h3, h4, h5, Nat.le_trans h6 hg.size, fun j g c r a b => ?_⟩
  obtain ⟨q1, q2, q3⟩ := h7 j g c r a b
  have hb : base ≤ g := by obtain ⟨_, q, _⟩ := q3.blk; exact q
  exact ⟨q1, q2, q3.kept hg (hne _ q1 (.inl hb))⟩

/-- what stays while the reason is gone back -/
structure Back (w : World) (g n : Nat) (all : List T3) (S : Nat → Prop) (B5 base B N : Nat) (R : List (List Int)) (m : Int) (W : World) : Prop where
  net : NetAt W g n all S
  bel : Below w.heap.size w W
  mom : W.heap[B5]? = some (.cells #[.int .i64 m] 3 (0, 0))
  rows : Rows W base B n R N
  bnd : g < N ∧ (∀ q, S q → q < N ∧ q ≠ B5) ∧ B5 < base ∧ w.heap.size ≤ B5 ∧ base ≤ N ∧ g ≠ B5 ∧ B5 ≠ B

theorem Back.grown {w : World} {g n : Nat} {all : List T3} {S : Nat → Prop} {B5 base B N : Nat} {R : List (List Int)} {m : Int} {W W' : World} (h : Back w g n all S B5 base B N R m W) {row : Option Nat} (hg : W.grownBy W' row) (hr : ∀ q, row = some q → N ≤ q) : Back w g n all S B5 base B N R m W' := by
  obtain ⟨b1, b2, b3, b4, b5, b6, b7⟩ := h.bnd
  have hne : ∀ q, q < N → some q ≠ row := fun q hq e => by have := hr q e.symm; omega
  exact ⟨h.net.grown hg (hne _ b1) (fun q hq => hne q (b2 q hq).1), h.bel.grown hg h.bel.size (fun k hk => by have := hr k hk; omega), blk_grown h.mom hg (hne _ (by omega)), h.rows.grown hg hr, h.bnd⟩
theorem Back.below {w : World} {g n : Nat} {all : List T3} {S : Nat → Prop} {B5 base B N : Nat} {R : List (List Int)} {m : Int} {W W' : World} (h : Back w g n all S B5 base B N R m W) (hb : Below W.heap.size W W') : Back w g n all S B5 base B N R m W' := h.grown (grown_of hb none) (fun q e => by cases e)
theorem Back.store {w : World} {g n : Nat} {all : List T3} {S : Nat → Prop} {B5 base B N : Nat} {R : List (List Int)} {m : Int} {W : World} (h : Back w g n all S B5 base B N R m W) (m' : Int) : Back w g n all S B5 base B N R m' (W.setCell ⟨B5, 0, none⟩ (.int .i64 m')) := by
  obtain ⟨b1, b2, b3, b4, b5, b6, b7⟩ := h.bnd
  have hg := grown_set W B5 0 (.int .i64 m')
  refine ⟨h.net.grown hg (fun e => by injection e; omega) (fun q hq e => by injection e with e; exact (b2 q hq).2 e), h.bel.grown hg h.bel.size (fun k hk => by injection hk; omega), (blk_set h.mom 0 _).trans rfl, h.rows.grown2 hg (fun q e => by injection e with e; omega), h.bnd⟩

theorem reverse62_nil (w : World) : Calls Try.prog 62 #[.slice none 0 0] w fun e w' => e = .returned (.tuple #[]) ∧ w' = w := by
  go_enter Try.func62, Try.ntmps62
  go_wp2_with fail
  go_loopg [2, 3] (0) (fun gg s2 s3 wr => s2 = .int .i64 0 ∧ s3 = .int .i64 (-1) ∧ wr = w)
  case atStart => exact ⟨rfl, rfl, rfl⟩
  case round =>
    obtain ⟨rfl, rfl, rfl⟩ := hrel
    go_wp2
    go_end0
    exact ⟨rfl, rfl⟩

def pickR (n : Nat) (all : List T3) (k : Nat) (m : Int) : Int := idx (pk m ((rowR n all (k + 1)).getD m.toNat 0) (rowR n all k)) all
/-- the moments that the reason goes back through -/
def momR (n : Nat) (all : List T3) (K : Nat) (m : Int) : Nat → Int
  | 0 => m
  | j + 1 => ((all.getD (pickR n all (K - 1 - j) (momR n all K m j)).toNat z3)).a
def reaR (n : Nat) (all : List T3) (K : Nat) (m : Int) : List Int := ((List.range K).map fun j => pickR n all (K - 1 - j) (momR n all K m j)).reverse


theorem pick_lt {n : Nat} {all : List T3} {k : Nat} {m : Int} : pickR n all k m < all.length ∨ pickR n all k m = -1 := by
  unfold pickR idx
  split
  · rename_i i h
    left
    have := (List.findIdx?_eq_some_iff_getElem.1 h).1
    omega
  · right; rfl
theorem mom_range {n : Nat} {all : List T3} (hV : Valid n all) {K : Nat} {m : Int} (h0 : 0 ≤ m) (h1 : m < n) (hp : ∀ j, j < K → 0 ≤ pickR n all (K - 1 - j) (momR n all K m j)) : ∀ j, j ≤ K → 0 ≤ momR n all K m j ∧ momR n all K m j < n
  | 0, _ => ⟨h0, h1⟩
  | j + 1, hj => by
    have hp' := hp j (by omega)
    have hlt := pick_lt (n := n) (all := all) (k := K - 1 - j) (m := momR n all K m j)
    simp only [momR]
    generalize pickR n all (K - 1 - j) (momR n all K m j) = i at hp' hlt
    have hl := hV _ (List.mem_of_getElem? (getD_t3 (xs := all) (j := i.toNat) (by omega)))
    obtain ⟨a1, a2, _⟩ := okLk_out hl
    exact ⟨a1, a2⟩

theorem q25' : ∀ (w : World) (a : Option Addr) (n c n' c' : Nat), (binOp .eql 25 (.slice a n c) (.slice none n' c')).run Try.prog w = .ok (.bool a.isNone) w := q25
theorem info25 : (Try.prog.info? 25).map (fun i => (i.zero, i.size, i.bytes)) = some (some (.slice none 0 0), 1, 24) := by kernel_rfl

set_option maxRecDepth 100000 in
set_option maxHeartbeats 8000000 in
theorem reason18_ok (n : Nat) (A : Option Addr) (c : Nat) (ls : List T3) (mo : Int) (w : World) (hr : RdT w (.slice A ls.length c) ls) (h : rightB n ls = true) (hs : Small n ls) (hm : inB mo 0 (n - 1) = true) (hf : (earl n ls).raised < 0)
    (K : Nat) (hK : (rowR n (allOf n ls) K).getD mo.toNat 0 = gt (earl n ls).ts mo) (hKm : ∀ j, j < K → (rowR n (allOf n ls) j).getD mo.toNat 0 ≠ gt (earl n ls).ts mo) (hKn : K ≤ 100)
    (hpick : ∀ j, j < K → 0 ≤ pickR n (allOf n ls) (K - 1 - j) (momR n (allOf n ls) K mo j)) :
    Calls Try.prog 18 #[.int .i64 n, .slice A ls.length c, .int .i64 mo] w fun e w' => ∃ Ao co, e = .returned (.tuple #[.slice Ao K co, .int .i64 0]) ∧ RdI w' (.slice Ao K co) (reaR n (allOf n ls) K mo) ∧ Below w.heap.size w w' := by
  obtain ⟨h1, h2, h3, h4⟩ := right_out h
  obtain ⟨z1, z2, z3', z4, z5⟩ := earl_zero h hf
  have hV := valid_all h
  have hal := all_len n ls
  have hs1 := hs.1
  have hs2 := hs.2
  have hmo : 0 ≤ mo ∧ mo < n := by have := (show 0 ≤ mo ∧ mo ≤ (n : Int) - 1 by simpa [inB] using hm); omega
  have hc := fun W (hb : Below w.heap.size w W) => right56 n A c ls W (Rd.below hr hb)
  rw [h] at hc
  have HC := Lib.hid hc
  have HOP := Lib.hid (opens n A c ls w hr h hs)
  have HEA := Lib.hid (ear_ok n ls h hs hf)
  have HV := Lib.hid hV
  simp only [Int.toNat_natCast] at z1 hal
  have HAL := Lib.hid hal
  generalize allOf (n : Int) ls = all at *
  generalize (earl (n : Int) ls).ts = ts at *
  have HK := Lib.hid hK
  have HKM := Lib.hid hKm
  have HPI := Lib.hid hpick
  have HTL := Lib.hid z1
  rw [z1] at HEA
  obtain ⟨hmo0, hmo1⟩ := hmo
  have hq := q25'
  have hn1 : 1 ≤ n := by omega
  have hn2 : n ≤ 20 := by omega
  have hal2 : all.length ≤ 100 := by rw [HAL.out]; omega
  clear hr h hs hf hK hKm hpick z1 z2 z3' z4 z5 hV hal hs1 hs2 h1 h2 h3 h4 hc
  go_enter Try.func18, Try.ntmps18
  go_wp2_with fail
  refine (HC.out _ ((Below.refl _ _).alloc (Nat.le_refl _) _)).mono ?_
  rintro e w1 ⟨rfl, hb1'⟩
  have hsz1 := hb1'.size
  simp at hsz1
  have m1 : w1.cell? ⟨w.heap.size, 0, none⟩ = some (.int .i64 mo) := (hb1'.cell (p := ⟨w.heap.size, 0, none⟩) (by simp)).trans (by simp)
  have hM1 := blk_below (blk_new w (.cells #[.int .i64 mo] 3)) hb1'
  have HM1 := Lib.hid hM1
  clear hM1
  have hb1 : Below w.heap.size w w1 := ((Below.refl _ _).alloc (Nat.le_refl _) _).trans (hb1'.mono (by simp))
  have HB1 := Lib.hid hb1
  clear hb1 hb1'
  go_wp2_with (go_at_call 57; refine (within57 _ _ _ _).mono ?_; rintro e w' ⟨rfl, rfl⟩)
  refine (HOP.out w1 HB1.out).mono ?_
  rintro e w2 ⟨g, rfl, hN1, hN2, hg1, hb2⟩
  have hN := net_and hN1 hN2
  have HN := Lib.hid hN
  clear hN1 hN2
  have HB2 := Lib.hid hb2
  clear hN hb2
  go_wp2_with fail
  refine (HEA.out w2 g _ HN.out (fun q hq => hq.2)).mono ?_
  rintro e w3 ⟨gt_, ct, rfl, hO, hb3⟩
  have HB3 := Lib.hid hb3
  have HO := Lib.hid hO
  clear hb3 hO
  go_wp2_with (at_make; refine wp_make_ints w3 rfl _ _ 25 rfl w3.heap.size Try.underlying25 info3 n rfl rfl ?q1 ?q2 ?_)
  case q1 => omega
  case q2 => exact Nat.le_refl _
  intro w4 HO1' HG1'
  have HOr := Lib.hid HO1'
  have HG4 := Lib.hid HG1'
  clear HO1' HG1'
  have hs2 := HB2.out.size
  have hs3 := HB3.out.size
  have hs4 := HG4.out.size
  have hg9 : gt_ < w3.heap.size := by obtain ⟨_, _, q, _⟩ := HO.out.blk; exact q
  have hg2 : g < w2.heap.size := net_lt HN.out
  have hw43 : w3.heap.size < w4.heap.size := by obtain ⟨_, _, q, _⟩ := HOr.out.blk; exact q
  have hci : CI w g n all (fun q => w1.heap.size ≤ q ∧ q < w2.heap.size) gt_ ct ts w.heap.size mo w3.heap.size w4 := by
    have hb4 : Below w3.heap.size w3 w4 := below_of HG4.out
    refine ⟨(HN.out.below HB3.out).below hb4, ?_, ?_, ?_, ⟨by omega, fun q hq => by show q < _; have : q < w2.heap.size := hq.2; omega, hg9, by omega, by omega, hs4⟩⟩
    · have := Rd.below HO.out.rd hb4
      rw [HTL.out] at this
      exact this
    · exact below_then (below_then (below_then HB1.out (by omega) HB2.out) (by omega) HB3.out) (by omega) hb4
    · exact blk_below (blk_below (blk_below HM1.out HB2.out) HB3.out) hb4
  have HCI := Lib.hid hci
  clear hci m1
  go_wp2_with fail
  go_loopg [12] n (fun gg s12 wr => ∃ kk : Nat, 1 ≤ kk ∧ kk ≤ n ∧ n - kk ≤ gg ∧ s12 = .int .i64 kk ∧ Hid (wr.heap[w4.heap.size + 1]? = some (.cells #[.slice (some ⟨w4.heap.size, 0, none⟩) 1 1] 87 (0, 0))) ∧ Hid (wr.heap[w4.heap.size]? = some (.cells #[.slice (some ⟨w3.heap.size, 0, none⟩) n n] 25 (0, 0))) ∧ Hid (Own wr w3.heap.size w3.heap.size n ((List.replicate kk NO ++ List.replicate (n - kk) 0).set 0 0)) ∧ Hid (CI w g n all (fun q => w1.heap.size ≤ q ∧ q < w2.heap.size) gt_ ct ts w.heap.size mo w3.heap.size wr) ∧ w4.heap.size + 2 ≤ wr.heap.size)
  case atStart =>
    refine ⟨1, by omega, by omega, by omega, rfl, Lib.hid ?_, Lib.hid ?_, Lib.hid ?_, Lib.hid ?_, by simp⟩
    · have := blk_new (w4.alloc (.cells #[.slice (some ⟨w3.heap.size, 0, none⟩) n n] 25)) (.cells #[.slice (some ⟨w4.heap.size, 0, none⟩) 1 1] 87)
      rwa [World.size_alloc] at this
    · exact blk_alloc (blk_new w4 _) _
    · have e : (List.replicate 1 NO ++ List.replicate (n - 1) 0).set 0 0 = List.replicate n 0 := by
        obtain ⟨m, rfl⟩ : ∃ m, n = m + 1 := ⟨n - 1, by omega⟩
        simp [List.replicate_succ]
      rw [e]; exact (HOr.out.alloc _).alloc _
    · exact HCI.out.below (((Below.refl _ _).alloc (Nat.le_refl _) _).alloc (by simp) _)
  case round =>
    obtain ⟨kk, hk1, hkk, hg, rfl, HA1, HA2, HA3, HCI2, hsz⟩ := hrel
    clear HCI HOr
    by_cases hlt : kk < n
    · have r1 := (cell_of_blk HA1.out 0).trans rfl
      have r2 : wr.cell? ⟨w4.heap.size, 0, none⟩ = some (.slice (some ⟨w3.heap.size, 0, none⟩) n n) := (cell_of_blk HA2.out 0).trans rfl
      have hget : ((List.replicate kk NO ++ List.replicate (n - kk) 0).set 0 0)[kk]? = some 0 := by
        rw [List.getElem?_set_ne (by omega), List.getElem?_append_right (by simp), List.length_replicate, Nat.sub_self, List.getElem?_replicate, if_pos (by omega)]
      have ⟨c1, f1⟩ := Own.at HA3.out hget
      clear hget
      go_wp2
      go_roundg (n - (kk + 1))
      case measure => omega
      case rel =>
        refine ⟨kk + 1, by omega, by omega, by omega, by go_num, Lib.hid ?_, Lib.hid ?_, Lib.hid ?_, Lib.hid ?_, ?_⟩
        · exact blk_grown HA1.out (grown_set wr _ _ _) (by simp; omega)
        · exact blk_grown HA2.out (grown_set wr _ _ _) (by simp; omega)
        · have := Own.set HA3.out kk NO
          rw [List.set_comm _ _ (by omega), List.set_append_right _ _ (by simp), List.length_replicate, Nat.sub_self, show n - kk = (n - (kk + 1)) + 1 by omega, List.replicate_succ, List.set_cons_zero] at this
          rw [List.replicate_succ', List.append_assoc]
          exact this
        · exact HCI2.out.grown (grown_set wr _ _ _) (by intro q hq; injection hq with hq; omega)
        · simp [World.setCell]; omega
    · obtain rfl : n = kk := by omega
      have hrows : Rows wr w3.heap.size (w4.heap.size + 1) n ((List.range 1).map (rowR n all)) wr.heap.size := by
        refine ⟨w4.heap.size, 1, [(w3.heap.size, n)], HA1.out, ?_, rfl, by omega, by omega, Nat.le_refl _, ?_⟩
        · exact ⟨rfl, .inr ⟨w4.heap.size, 1, _, rfl, by omega, HA2.out, Nat.le_refl _, by unfold maxLen; show 1 ≤ 9223372036854775807; omega, rfl, rfl⟩⟩
        · intro j g' c' r hv hr'
          cases j with
          | succ j => simp at hv
          | zero =>
            simp at hv hr'
            obtain ⟨rfl, rfl⟩ := hv
            subst hr'
            refine ⟨by omega, rowR_len _ _ _, ?_⟩
            have := HA3.out
            rw [Nat.sub_self] at this
            simpa [rowR] using this
      have HRO := Lib.hid hrows
      clear hrows HA1 HA2 HA3 hlt hkk hk1 hg hsz
      go_wp2_with fail
      go_loopg [13] K (fun gg s13 wr => ∃ k : Nat, k ≤ K ∧ K - k ≤ gg ∧ Hid (Rows wr w3.heap.size (w4.heap.size + 1) n ((List.range (k + 1)).map (rowR n all)) wr.heap.size) ∧ Hid (CI w g n all (fun q => w1.heap.size ≤ q ∧ q < w2.heap.size) gt_ ct ts w.heap.size mo w3.heap.size wr))
      case atStart => exact ⟨0, Nat.zero_le _, by omega, HRO, HCI2⟩
      case round =>
        obtain ⟨wo, rfl⟩ : ∃ wo : World, wo = wr := ⟨_, rfl⟩
        obtain ⟨k, hk, hg, HRW, HCI3⟩ := hrel
        clear HRO HCI2
        have hgetk : ((List.range (k + 1)).map (rowR n all))[k]? = some (rowR n all k) := by simp
        obtain ⟨Ar, cr, gk', ck, r1, rf, r2, r3, r4, r5, r6, r7, r8, r9⟩ := Rows.at HRW.out hgetk
        rw [show ((List.range (k + 1)).map (rowR n all)).length = k + 1 by simp] at r1 r2
        have hx := getD_get (xs := rowR n all k) (j := mo.toNat) (by omega)
        have ⟨rc, _⟩ := Own.at r7 hx
        obtain ⟨b9, o9, e9, hb9, t9⟩ := Rd.i HCI3.out.tim mo.toNat _ (getD_get (by rw [HTL.out]; omega))
        obtain ⟨rfl, rfl⟩ : gt_ = b9 ∧ 0 = o9 := by injection e9 with e9; injection e9 with e1 e2; exact ⟨e1, e2⟩
        rw [Nat.zero_add] at t9
        have m5 : wo.cell? ⟨w.heap.size, 0, none⟩ = some (.int .i64 mo) := (cell_of_blk HCI3.out.mom 0).trans rfl
        have hlast := HKM.out k
        have hend : k = K → (rowR n all k).getD mo.toNat 0 = ts.getD mo.toNat 0 := fun e => by rw [e]; exact HK.out
        change k < K → (rowR n all k).getD mo.toNat 0 ≠ ts.getD mo.toNat 0 at hlast
        have kk1 : k < k + 1 := Nat.lt_succ_self k
        have R7 := Lib.hid r7
        clear hx e9 hgetk r7
        by_cases hkK : k < K
        · have hne := bne_iff_ne.2 (hlast hkK)
          generalize ts.getD mo.toNat 0 = y at t9 hne hend hlast
          generalize (rowR n all k).getD mo.toNat 0 = x at rc hne hend hlast
          clear hlast hend
          go_wp2_with fail
          go_quiet (fail)
          go_wp2_with (at_make; refine wp_make_ints _ rfl _ _ 25 rfl w3.heap.size Try.underlying25 info3 n rfl rfl ?q1 ?q2 ?_)
          case q1 => omega
          case q2 => have := HRW.out; obtain ⟨_, _, _, _, _, _, _, _, q, _⟩ := this; obtain ⟨_, _, _, _, _, q⟩ := HCI3.out.bnd; exact q
          intro w6 HO6' HG6'
          have HO6 := Lib.hid HO6'
          have HG6 : Hid (wo.grownBy w6 none) := Lib.hid ⟨HG6'.os, HG6'.tape, HG6'.output, HG6'.size, HG6'.block⟩
          clear HO6' HG6' t9 rc hne
          go_wp2_with fail
          go_loopg [14, 74] n (fun gg s14 s74 wr => ∃ kk : Nat, kk ≤ n ∧ n - kk ≤ gg ∧ s74 = .int .i64 kk ∧ Hid (Own wr w3.heap.size wo.heap.size n (List.replicate kk NO ++ List.replicate (n - kk) 0)) ∧ Hid (wo.grownBy wr none))
          case atStart => exact ⟨0, Nat.zero_le _, by omega, rfl, Lib.hid (by simpa using HO6.out), HG6⟩
          case round =>
            obtain ⟨kk, hkk, hg', rfl, HO7, HG7⟩ := hrel
            by_cases hlt : kk < n
            · have ⟨c1, f1⟩ := Own.at HO7.out (j := kk) (x := 0) (by rw [List.getElem?_append_right (by simp), List.length_replicate, Nat.sub_self, List.getElem?_replicate, if_pos (by omega)])
              go_wp2
              go_roundg (n - (kk + 1))
              case measure => omega
              case rel =>
                refine ⟨kk + 1, by omega, by omega, by go_num, Lib.hid ?_, Lib.hid (gb_set HG7.out _ (.inr (Nat.le_refl _)) _)⟩
                have := Own.set HO7.out kk NO
                rw [List.set_append_right _ _ (by simp), List.length_replicate, Nat.sub_self, show n - kk = (n - (kk + 1)) + 1 by omega, List.replicate_succ, List.set_cons_zero] at this
                rw [List.replicate_succ', List.append_assoc]
                exact this
            · obtain rfl : n = kk := by omega
              have HO8 : Hid (Own wr w3.heap.size wo.heap.size n (List.replicate n NO)) := Lib.hid (by have := HO7.out; rwa [Nat.sub_self, List.replicate_zero, List.append_nil] at this)
              have r1' : wr.cell? ⟨w4.heap.size + 1, 0, none⟩ = some (.slice (some ⟨Ar, 0, none⟩) (k + 1) cr) := ((below_of HG7.out).cell (p := ⟨w4.heap.size + 1, 0, none⟩) r8).trans r1
              have r4' : wr.cell? ⟨Ar, k, none⟩ = some (.slice (some ⟨gk', 0, none⟩) n ck) := ((below_of HG7.out).cell (p := ⟨Ar, k, none⟩) r9).trans r4
              obtain ⟨Av, cv, g1', hrl, hlv1, hlv2⟩ := net_links HCI3.out.net
              have g1 : wr.cell? ⟨g, 1, none⟩ = some (.slice Av all.length cv) := ((below_of HG7.out).cell (p := ⟨g, 1, none⟩) (net_lt HCI3.out.net)).trans g1'
              clear g1'
              have HRL := Lib.hid hrl
              clear r1 r4 hlt hg' hkk HO7 hrl
              go_wp2_with fail
              go_loopg [17, 92] (all.length) (fun gg s17 s92 wr => ∃ kk : Nat, kk ≤ all.length ∧ all.length - kk ≤ gg ∧ s92 = .int .i64 kk ∧ Hid (Own wr w3.heap.size wo.heap.size n (partR all (rowR n all k) kk (List.replicate n NO))) ∧ Hid (wo.grownBy wr none))
              case atStart => exact ⟨0, Nat.zero_le _, by omega, rfl, HO8, HG7⟩
              case round =>
                obtain ⟨wp, rfl⟩ : ∃ wp : World, wp = wr := ⟨_, rfl⟩
                obtain ⟨kk, hkk, hg', rfl, HO9, HG9⟩ := hrel
                clear r1' r4' g1
                by_cases hlt2 : kk < all.length
                · have hx : all[kk]? = some all[kk] := List.getElem?_eq_getElem hlt2
                  have hok := HV.out _ (List.getElem_mem hlt2)
                  rw [Int.toNat_natCast] at hok
                  have hstep := partR_succ all (rowR n all k) kk (List.replicate n NO) _ hx
                  have hlenN : (partR all (rowR n all k) kk (List.replicate n NO)).length = n := partR_len (by simp) kk
                  have hM : NO ≤ 1000000 * (k : Int) := by unfold NO; omega
                  have hV' := HV.out
                  rw [Int.toNat_natCast] at hV'
                  have hwL := rowR_wb hV' k
                  have hwN := partR_wb hV' hM (rowR_len n all k) (now := List.replicate n NO) (by simp) hwL (rep_wb n _ (by omega)) kk
                  generalize all[kk] = x at hx hok hstep
                  obtain ⟨a1, a2, b1, b2, c1, c2⟩ := okLk_out hok
                  obtain ⟨b, off, rfl, hb, h0, h1', h2'⟩ := Rd.t3 HRL.out kk x hx
                  have hRR := R7.out.kept HG9.out (by simp)
                  generalize partR all (rowR n all k) kk (List.replicate n NO) = P at HO9 hstep hlenN hwN
                  have hll := rowR_len n all k
                  obtain ⟨L, hL⟩ : ∃ L, rowR n all k = L := ⟨_, rfl⟩
                  rw [hL] at hRR hstep hwL hll r6
                  have HLQ := Lib.hid hL
                  clear hL
                  have hga := getD_get (xs := L) (j := x.a.toNat) (by omega)
                  have hgb := getD_get (xs := P) (j := x.b.toNat) (by omega)
                  have hba := hwL _ (getD_mem (xs := L) (j := x.a.toNat) (by omega))
                  have hbb := hwN _ (getD_mem (xs := P) (j := x.b.toNat) (by omega))
                  simp only [upd] at hstep
                  generalize L.getD x.a.toNat 0 = va at hga hba hstep
                  generalize P.getD x.b.toNat 0 = vb at hgb hbb hstep
                  have HST := Lib.hid hstep
                  have ⟨ca, fa⟩ := Own.at hRR hga
                  have ⟨cb, fb⟩ := Own.at HO9.out hgb
                  have l0 := ((below_of HG9.out).cell (p := ⟨b, off + kk * 3, none⟩) hb).trans h0
                  have l1 := ((below_of HG9.out).cell (p := ⟨b, off + kk * 3 + 1, none⟩) hb).trans h1'
                  have l2 := ((below_of HG9.out).cell (p := ⟨b, off + kk * 3 + 2, none⟩) hb).trans h2'
                  have hsp := HG9.out.size
                  have hgk2 : gk' < wp.heap.size := by omega
                  have hbq : wo.heap.size < wp.heap.size := by obtain ⟨_, _, h, _⟩ := HO9.out.blk; exact h
                  have hbb2 : b < wp.heap.size := Nat.lt_of_lt_of_le hb hsp
                  obtain ⟨ba1, ba2⟩ := hba
                  obtain ⟨bb1, bb2⟩ := hbb
                  unfold NO at ba1 bb1
                  clear h0 h1' h2' hga hgb hx hok hstep hwL hwN hV' hM hRR hsp
                  have hu := Try.underlying58
                  by_cases hlt3 : NO < va
                  · rw [if_pos hlt3] at HST
                    have hlt4 : (-4611686018427387904 : Int) < va := hlt3
                    clear hlt3
                    go_wp2_with fail
                    go_region
                    go_wp2
                    go_roundg (all.length - (kk + 1))
                    case measure => omega
                    case rel =>
                      refine ⟨kk + 1, by omega, by omega, by go_num, Lib.hid ?_, Lib.hid ?_⟩
                      · rw [HLQ.out, HST.out]
                        exact ((HO9.out.set _ _).alloc _).drew
                      · exact gb_drew (gb_alloc (gb_set HG9.out _ (.inr (Nat.le_refl _)) _) _)
                  · rw [if_neg hlt3] at HST
                    have hlt4 : ¬ (-4611686018427387904 : Int) < va := hlt3
                    clear hlt3
                    go_wp2_with fail
                    go_roundg (all.length - (kk + 1))
                    case measure => omega
                    case rel =>
                      refine ⟨kk + 1, by omega, by omega, by go_num, Lib.hid ?_, Lib.hid ?_⟩
                      · rw [HLQ.out, HST.out]
                        exact HO9.out.alloc _
                      · exact gb_alloc HG9.out _
                · obtain rfl : kk = all.length := by omega
                  have hRl : ((List.range (k + 1)).map (rowR n all)).length = k + 1 := by simp
                  obtain ⟨Ar2, cr2, vs, q1, q2, q3, q4, q5, q6, q7⟩ := HRW.out.grown (gb_wide HG9.out none) (fun q e => by cases e)
                  rw [hRl] at q1 q2 q3
                  have c1 : wp.cell? ⟨w4.heap.size + 1, 0, none⟩ = some (.slice (some ⟨Ar2, 0, none⟩) (k + 1) cr2) := (cell_of_blk q1 0).trans rfl
                  have hnb := owns_ne_blk q2 q1 (by decide)
                  have hbase : w3.heap.size ≤ wp.heap.size := by have := HCI3.out.bnd; have := HG9.out.size; omega
                  have HQ1 := Lib.hid q1
                  have HQ2 := Lib.hid q2
                  have HQ7 := Lib.hid q7
                  have HNB := Lib.hid hnb
                  clear q1 q2 q7 hnb
                  go_wp2_with (at_builtin; refine wp_append_one wp rfl _ _ 87 rfl w3.heap.size 25 _ 1 24 Try.underlying87 info25 rfl (by decide) (.slice (some ⟨Ar2, 0, none⟩) (k + 1) cr2) (k + 1) _ rfl HQ2.out (encS n) (wo.heap.size, n) _ rfl rfl (encS_len n) (encS_one n) ?q1 (by decide) ?q2 ?_)
                  case q1 => omega
                  case q2 => exact hbase
                  intro g2 c2 w7 hown' hgrow' hb2' hl2' hat'
                  have hg7 := blk_grown HQ1.out hgrow' HNB.out
                  have c3 : w7.cell? ⟨w4.heap.size + 1, 0, none⟩ = some (.slice (some ⟨Ar2, 0, none⟩) (k + 1) cr2) := (cell_of_blk hg7 0).trans rfl
                  have f3 := frozen_of_blk hg7 0
                  have HG7' := Lib.hid hg7
                  have HOW := Lib.hid hown'
                  have HGR := Lib.hid hgrow'
                  have hs7 := hgrow'.size
                  clear c1 hg7 hown' hgrow' hat'
                  go_wp2
                  go_roundg (K - (k + 1))
                  case measure => omega
                  case rel =>
                    have hAr : w3.heap.size ≤ Ar2 := (World.ownsRow.lt HQ2.out Ar2 rfl).1
                    have hne2 : g2 ≠ w4.heap.size + 1 := fun e => owns_ne_blk HOW.out HG7'.out (by decide) (by rw [e]; rfl)
                    have hkeep : ∀ g' c' r, Own wp w3.heap.size g' c' r → Own (w7.setCell ⟨w4.heap.size + 1, 0, none⟩ (.slice (some ⟨g2, 0, none⟩) (k + 1 + 1) c2)) w3.heap.size g' c' r := by
                      intro g' c' r hOr
                      obtain ⟨cur, _, hlt', hblk, _⟩ := hOr.blk
                      have n1 : some g' ≠ (Value.slice (some ⟨Ar2, 0, none⟩) (k + 1) cr2).ownBlock := owns_ne_blk HQ2.out hblk (by decide)
                      have hO7 := hOr.kept HGR.out n1
                      refine hO7.other ?_ _
                      obtain ⟨cur', _, _, hblk', _⟩ := hO7.blk
                      exact blk_ne hblk' HG7'.out (by decide)
                    refine ⟨k + 1, by omega, by omega, Lib.hid ?_, Lib.hid ?_⟩
                    · rw [List.range_succ, List.map_append]
                      have hsz8 : (w7.setCell ⟨w4.heap.size + 1, 0, none⟩ (.slice (some ⟨g2, 0, none⟩) (k + 1 + 1) c2)).heap.size = w7.heap.size := by simp [World.setCell]
                      have := Rows.push (W := w7) (W' := w7.setCell ⟨w4.heap.size + 1, 0, none⟩ (.slice (some ⟨g2, 0, none⟩) (k + 1 + 1) c2)) (base := w3.heap.size) (B := w4.heap.size + 1) (n := n) (N := wo.heap.size) (R := (List.range (k + 1)).map (rowR n all)) (r := rowR n all (k + 1)) (vs := vs) (Ar' := g2) (cr' := c2) (gn := wo.heap.size) (cn := n)
                        (by rw [hRl]; exact q3) (fun j g' c' r hv hr' => by obtain ⟨a1, a2, a3⟩ := HQ7.out j g' c' r hv hr'; exact ⟨a1, a2, hkeep _ _ _ a3⟩) (by rw [hRl]; exact (blk_set HG7'.out 0 _).trans rfl)
                        (by
                          rw [hRl]
                          exact World.ownsRow.kept HOW.out (grown_set w7 _ 0 _) (.inr (by simpa [Value.ownBlock] using hne2)))
                        (by rw [hsz8]; have := HG9.out.size; omega) (by rw [hsz8]; have := HG9.out.size; omega) (by rw [hsz8]; exact hl2') (rowR_len _ _ _) (hkeep _ _ _ HO9.out)
                      exact this
                    · refine ((HCI3.out.grown (gb_wide HG9.out none) (fun q e => by cases e)).grown HGR.out (fun q e => ?_)).grown (grown_set w7 _ 0 _) (fun q e => by injection e with e; omega)
                      simp [Value.ownBlock] at e
                      omega
        · obtain rfl : k = K := by omega
          have hne : ((rowR n all k).getD mo.toNat 0 != ts.getD mo.toNat 0) = false := by rw [bne_eq_false_iff_eq]; exact hend rfl
          generalize ts.getD mo.toNat 0 = y at t9 hne hend hlast
          generalize (rowR n all k).getD mo.toNat 0 = x at rc hne hend hlast
          have hb0 : Back w g n all (fun q => w1.heap.size ≤ q ∧ q < w2.heap.size) w.heap.size w3.heap.size (w4.heap.size + 1) wo.heap.size ((List.range (k + 1)).map (rowR n all)) mo wo :=
            ⟨HCI3.out.net, HCI3.out.bel, HCI3.out.mom, HRW.out, by
              obtain ⟨q1, q2, q3, q4, q5, q6⟩ := HCI3.out.bnd
              exact ⟨by omega, fun q hq => ⟨by have := q2 q hq; omega, by have := hq.1; omega⟩, by omega, Nat.le_refl _, by omega, by omega, by omega⟩⟩
          have HB0 := Lib.hid hb0
          have HMR := Lib.hid (mom_range (n := n) (m := mo) HV.out hmo0 hmo1 HPI.out)
          clear hb0 hlast hend hkK hk hg HCI3 HRW
          go_wp2_with fail
          go_quiet (fail)
          rename_i nq
          have HB1' : Hid (Back w g n all (fun q => w1.heap.size ≤ q ∧ q < w2.heap.size) w.heap.size w3.heap.size (w4.heap.size + 1) wo.heap.size ((List.range (k + 1)).map (rowR n all)) mo (wo.drewN nq)) := Lib.hid (HB0.out.below (below_drewN (Below.refl _ _) nq))
          have s1 : (wo.drewN nq).cell? ⟨w4.heap.size + 1, 0, none⟩ = some (Value.slice (some ⟨Ar, 0, none⟩) (k + 1) cr) := r1
          have hsq : (wo.drewN nq).heap.size = wo.heap.size := rfl
          clear HB0 r1 rc t9 rf r4 m5
          generalize wo.drewN nq = wq at *
          go_wp2_with fail
          go_loopg [18, 19] k (fun gg s18 s19 wr => ∃ (j : Nat) (Ap : Option Addr) (cp B19 : Nat), j ≤ k ∧ k - j ≤ gg ∧ s18 = .slice Ap j cp ∧ s19 = .pointer (some ⟨B19, 0, none⟩) ∧
            Hid (Back w g n all (fun q => w1.heap.size ≤ q ∧ q < w2.heap.size) w.heap.size w3.heap.size (w4.heap.size + 1) wo.heap.size ((List.range (k + 1)).map (rowR n all)) (momR n all k mo j) wr) ∧
            Hid (wr.heap[B19]? = some (.cells #[.int .i64 ((k : Int) - 1 - j)] 3 (0, 0))) ∧ wo.heap.size ≤ B19 ∧ Hid (∀ q, (Value.slice Ap j cp).ownBlock = some q → q < B19) ∧
            Hid (wr.ownsRow wo.heap.size 3 1 (.slice Ap j cp) j (ints ((List.range j).map fun i => pickR n all (k - 1 - i) (momR n all k mo i)))))
          case atStart =>
            refine ⟨0, none, 0, wo.heap.size, Nat.zero_le _, by omega, rfl, rfl, Lib.hid (HB1'.out.below ((Below.refl _ _).alloc (Nat.le_refl _) _)), Lib.hid ?_, by omega, Lib.hid (fun q e => by cases e), Lib.hid (World.ownsRow_nil _ _ _ _)⟩
            have := blk_new wq (.cells #[.int .i64 ((k : Int) + 1 - 2)] 3)
            rw [hsq] at this
            rw [show ((k : Int) - 1 - ((0 : Nat) : Int)) = (k : Int) + 1 - 2 by omega]
            exact this
          case round =>
            obtain ⟨j, Ap, cp, B19, hj, hg, rfl, rfl, HBK, HB19, hB19, HAP, HOW⟩ := hrel
            by_cases hlt : j < k
            · obtain ⟨kk, rfl⟩ : ∃ kk, k = j + kk + 1 := ⟨k - 1 - j, by omega⟩
              have b19 : wr.cell? ⟨B19, 0, none⟩ = some (.int .i64 kk) := (cell_of_blk HB19.out 0).trans (by show some (Value.int .i64 _) = _; rw [show (((j + kk + 1 : Nat) : Int) - 1 - j) = kk by omega])
              have m5 : wr.cell? ⟨w.heap.size, 0, none⟩ = some (.int .i64 (momR n all (j + kk + 1) mo j)) := (cell_of_blk HBK.out.mom 0).trans rfl
              have hgetn : ((List.range (j + kk + 1 + 1)).map (rowR n all))[kk + 1]? = some (rowR n all (kk + 1)) := by rw [List.getElem?_map, List.getElem?_range (by omega)]; rfl
              have hgetk : ((List.range (j + kk + 1 + 1)).map (rowR n all))[kk]? = some (rowR n all kk) := by rw [List.getElem?_map, List.getElem?_range (by omega)]; rfl
              obtain ⟨Ar2, cr2, gn2, cn2, q1, qf, q2, q3, q4, q5, q6, q7, q8, q9⟩ := Rows.at HBK.out.rows hgetn
              have hm := HMR.out j (by omega)
              have hpi := HPI.out j hlt
              have hpl := pick_lt (n := n) (all := all) (k := kk) (m := momR n all (j + kk + 1) mo j)
              rw [show j + kk + 1 - 1 - j = kk by omega] at hpi
              rw [show ((List.range (j + kk + 1 + 1)).map (rowR n all)).length = j + kk + 1 + 1 by simp] at q1 q2
              have hx := getD_get (xs := rowR n all (kk + 1)) (j := (momR n all (j + kk + 1) mo j).toNat) (by rw [q6]; omega)
              have ⟨rc, _⟩ := Own.at q7 hx
              have hmom : momR n all (j + kk + 1) mo (j + 1) = (all.getD (pickR n all kk (momR n all (j + kk + 1) mo j)).toNat z3).a := by
                show (all.getD (pickR n all (j + kk + 1 - 1 - j) (momR n all (j + kk + 1) mo j)).toNat z3).a = _
                rw [show j + kk + 1 - 1 - j = kk by omega]
              have HMOM := Lib.hid hmom
              have hrange : ((List.range (j + 1)).map fun i => pickR n all (j + kk + 1 - 1 - i) (momR n all (j + kk + 1) mo i)) = ((List.range j).map fun i => pickR n all (j + kk + 1 - 1 - i) (momR n all (j + kk + 1) mo i)) ++ [pickR n all kk (momR n all (j + kk + 1) mo j)] := by
                rw [List.range_succ, List.map_append]
                simp only [List.map_cons, List.map_nil]
                rw [show j + kk + 1 - 1 - j = kk by omega]
              have HRG := Lib.hid hrange
              have hpk : pickR n all kk (momR n all (j + kk + 1) mo j) = idx (pk (momR n all (j + kk + 1) mo j) ((rowR n all (kk + 1)).getD (momR n all (j + kk + 1) mo j).toNat 0) (rowR n all kk)) all := rfl
              have hwb := rowR_wb (n := n) HV.out kk
              have hrl := rowR_len n all kk
              have hsw : wo.heap.size ≤ wr.heap.size := by obtain ⟨_, _, _, _, _, _, _, _, h, _⟩ := HBK.out.rows; exact h
              have hw5 : w.heap.size < wr.heap.size := by omega
              have hw6 : w4.heap.size + 1 < wr.heap.size := by omega
              have hw7 : Ar2 < wr.heap.size := by omega
              have hw8 : gn2 < wr.heap.size := by omega
              have hw9 : B19 < wr.heap.size := blk_lt HB19.out
              clear hmom hrange q7 hx
              generalize pickR n all kk (momR n all (j + kk + 1) mo j) = pi at *
              generalize hmj : momR n all (j + kk + 1) mo j = mj at *
              generalize (rowR n all (kk + 1)).getD mj.toNat 0 = want at rc hpk
              clear hmj
              go_wp2_with fail
              go_region
              have hbl : Below wr.heap.size wr (wr.alloc (Obj.cells #[Value.int IntKind.i64 want] 3)).drew := below_drew ((Below.refl _ _).alloc (Nat.le_refl _) _)
              have c20 : (wr.alloc (Obj.cells #[Value.int IntKind.i64 want] 3)).drew.heap[wr.heap.size]? = some (.cells #[.int .i64 want] 3 (0, 0)) := blk_new wr _
              generalize (wr.alloc (Obj.cells #[Value.int IntKind.i64 want] 3)).drew = wa at *
              have HBA := Lib.hid (HBK.out.below hbl)
              have HB19a := Lib.hid (blk_below HB19.out hbl)
              have HOWa : Hid (wa.ownsRow wo.heap.size 3 1 (.slice Ap j cp) j (ints ((List.range j).map fun i => pickR n all (j + kk + 1 - 1 - i) (momR n all (j + kk + 1) mo i)))) := Lib.hid (HOW.out.kept (grown_of hbl (some wr.heap.size)) (.inr (by intro e; have := HAP.out _ e; omega)))
              have HC20 := Lib.hid c20
              have hsa := hbl.size
              clear q1 qf q2 q3 q4 rc m5 b19 hbl c20 HBK HB19 HOW q6
              obtain ⟨Av, cv, n1, hnl, hlv1, hlv2⟩ := net_links HBA.out.net
              obtain ⟨Ar3, cr3, gk3, ck3, p1, pf, p2, p3, p4, p5, p6, p7, p8, p9⟩ := Rows.at HBA.out.rows hgetk
              rw [show ((List.range (j + kk + 1 + 1)).map (rowR n all)).length = j + kk + 1 + 1 by simp] at p1
              have hcon := indexFunc60 61 #[.pointer (some ⟨w.heap.size, 0, none⟩), .pointer (some ⟨w4.heap.size + 1, 0, none⟩), .pointer (some ⟨B19, 0, none⟩), .pointer (some ⟨wr.heap.size, 0, none⟩)] (enters_of Try.func61 (by kernel_rfl) rfl) (pk mj want (rowR n all kk)) Av cv all wa hnl
                (fun W x hx hb => by
                  obtain ⟨a1, a2, a3, a4, a5, a6⟩ := okLk_out (HV.out x hx)
                  have hxb := hwb _ (getD_mem (xs := rowR n all kk) (j := x.a.toNat) (by omega))
                  refine reason61 x mj want kk (rowR n all kk) W w.heap.size (w4.heap.size + 1) B19 wr.heap.size ⟨Ar3, 0, none⟩ (j + kk + 1 + 1) cr3 (some ⟨gk3, 0, none⟩) ck3 ?_ ?_ ?_ ?_ (by omega) (by omega) ?_ ?_ a1 (by omega) a5 a6 (by omega) hxb.1
                  · exact (cell_of_blk (blk_below HBA.out.mom hb) 0).trans rfl
                  · exact (hb.cell (p := ⟨w4.heap.size + 1, 0, none⟩) (by show w4.heap.size + 1 < _; omega)).trans p1
                  · exact (cell_of_blk (blk_below HB19a.out hb) 0).trans (by show some (Value.int .i64 _) = _; rw [show (((j + kk + 1 : Nat) : Int) - 1 - j) = kk by omega])
                  · exact (cell_of_blk (blk_below HC20.out hb) 0).trans rfl
                  · rw [hrl]; exact (hb.cell (p := ⟨Ar3, kk, none⟩) (by show Ar3 < _; omega)).trans p4
                  · have := Rd.below p7.rd hb
                    exact this)
              rw [← hpk] at hcon
              have HCON := Lib.hid hcon
              have hpl' : pi < all.length := by omega
              have hgl := getD_t3 (xs := all) (j := pi.toNat) (by omega)
              have HGL := Lib.hid hgl
              clear hcon hgl hgetk hgetn p1 pf p2 p3 p4 p5 p6 p7 p8 p9 hnl hpk hwb hrl hpl
              go_wp2_with fail
              refine HCON.out.mono ?_
              rintro e wb ⟨rfl, hbb⟩
              have HBB := Lib.hid (HBA.out.below hbb)
              have HB19b := Lib.hid (blk_below HB19a.out hbb)
              have HOWb : Hid (wb.ownsRow wo.heap.size 3 1 (.slice Ap j cp) j (ints ((List.range j).map fun i => pickR n all (j + kk + 1 - 1 - i) (momR n all (j + kk + 1) mo i)))) := Lib.hid (HOWa.out.kept (grown_of hbb (some wr.heap.size)) (.inr (by intro e; have := HAP.out _ e; omega)))
              have hsb := hbb.size
              clear hbb n1 HBA HB19a HOWa HC20 HCON
              go_wp2_with (at_builtin; refine wp_append_one wb rfl _ _ 25 rfl wo.heap.size 3 _ 1 8 Try.underlying25 info3 rfl (by decide) (.slice Ap j cp) j _ rfl HOWb.out encI pi _ rfl rfl i_len i_one ?_ (by decide) ?_ ?_)
              · omega
              · omega
              intro g' c' w7 hown' hgrow hb' hl' hat'
              have hrow : ∀ k', (Value.slice Ap j cp).ownBlock = some k' → wo.heap.size ≤ k' := fun k' hk' => (World.ownsRow.lt HOWb.out k' hk').1
              have HBC := Lib.hid (HBB.out.grown hgrow hrow)
              have hB7 := blk_grown HB19b.out hgrow (fun e => by have := HAP.out _ e.symm; omega)
              have HB7 := Lib.hid hB7
              have b19 : w7.cell? ⟨B19, 0, none⟩ = some (.int .i64 kk) := (cell_of_blk hB7 0).trans (by show some (Value.int .i64 _) = _; rw [show (((j + kk + 1 : Nat) : Int) - 1 - j) = kk by omega])
              have m5 : w7.cell? ⟨w.heap.size, 0, none⟩ = some (.int .i64 mj) := (cell_of_blk HBC.out.mom 0).trans rfl
              have m5f := frozen_of_blk HBC.out.mom 0
              have HOW7 := Lib.hid hown'
              have hs7 := hgrow.size
              obtain ⟨Av7, cv7, n7, hnl7, hlv17, hlv27⟩ := net_links HBC.out.net
              generalize all.getD pi.toNat z3 = x at *
              obtain ⟨bl, ol, rfl, hbl, l0, _, _⟩ := Rd.t3 hnl7 pi.toNat x HGL.out
              have hne5 : B19 ≠ w.heap.size := by omega
              clear hB7 hown' hgrow hrow hnl7 hat'
              go_wp2_with fail
              go_roundg (j + kk + 1 - (j + 1))
              case measure => omega
              case rel =>
                refine ⟨j + 1, some ⟨g', 0, none⟩, c', w7.heap.size, by omega, by omega, rfl, ?_, Lib.hid ?_, Lib.hid ?_, by omega, Lib.hid ?_, Lib.hid ?_⟩
                · simp [World.setCell]
                · rw [HMOM.out]
                  exact (HBC.out.store x.a).below ((Below.refl _ _).alloc (Nat.le_refl _) _)
                · have := blk_new (w7.setCell ⟨w.heap.size, 0, none⟩ (.int .i64 x.a)) (.cells #[.int .i64 ((kk : Int) - 1)] 3)
                  rw [show (w7.setCell ⟨w.heap.size, 0, none⟩ (.int .i64 x.a)).heap.size = w7.heap.size by simp [World.setCell]] at this
                  rw [show (((j + kk + 1 : Nat) : Int) - 1 - ((j + 1 : Nat) : Int)) = (kk : Int) - 1 by omega]
                  exact this
                · intro q e
                  simp [Value.ownBlock] at e
                  omega
                · rw [HRG.out, ints_append]
                  have hgb := World.ownsRow.lt HOW7.out g' rfl
                  exact ((HOW7.out.kept (grown_set w7 w.heap.size 0 (.int .i64 x.a)) (.inr (by simp [Value.ownBlock]; omega))).alloc _)
            · obtain rfl : j = k := by omega
              have b19 : wr.cell? ⟨B19, 0, none⟩ = some (.int .i64 (-1)) := (cell_of_blk HB19.out 0).trans (by show some (Value.int .i64 _) = _; rw [show ((j : Int) - 1 - j) = -1 by omega])
              have hfin : reaR n all j mo = ((List.range j).map fun i => pickR n all (j - 1 - i) (momR n all j mo i)).reverse := rfl
              have HF := Lib.hid hfin
              clear hfin
              rcases owns_form HOW.out with ⟨hv, hz⟩ | ⟨gp, cp', hv, hgp1, hgp2, hcp⟩
              · subst hz
                injection hv with hv1 _ hv3
                subst hv1 hv3
                go_wp2_with (go_at_call 62; refine (reverse62_nil wr).mono ?_; rintro e w' ⟨rfl, rfl⟩)
                go_ret2
                exact ⟨none, 0, rfl, RdR.nil _ _ _, HBK.out.bel⟩
              · injection hv with hv1 hv2 hv3
                subst hv1 hv3
                have hlen : ((List.range j).map fun i => pickR n all (j - 1 - i) (momR n all j mo i)).length = j := by simp
                have hOwn : Own wr wo.heap.size gp cp ((List.range j).map fun i => pickR n all (j - 1 - i) (momR n all j mo i)) := by
                  unfold Own
                  rw [hlen]
                  exact HOW.out
                have hrev := reverse62 _ _ _ _ wr hOwn (by rw [hlen]; omega)
                rw [hlen] at hrev
                clear hlen hOwn hg
                go_wp2_with (go_at_call 62; refine hrev.mono ?_; rintro e w' ⟨rfl, hO3, hg3⟩)
                go_ret2
                refine ⟨_, _, rfl, ?_, ?_⟩
                · rw [HF.out]
                  have := hO3.rd
                  rw [List.length_reverse, List.length_map, List.length_range] at this
                  exact this
                · exact HBK.out.bel.grown hg3 HBK.out.bel.size (by intro k' hk'; injection hk' with hk'; omega)
end Go.Proofs.Ytpknonebnipcgaa.F
