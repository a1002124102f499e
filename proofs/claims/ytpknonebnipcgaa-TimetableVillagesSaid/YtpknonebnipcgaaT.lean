import Derived.Test.YtpknonebnipcgaaProg
import Derived.WalkKit
import Derived.KernelRfl
import Derived.Deep.LoopGhost
import Derived.Deep.QuietTactic
import Derived.BigQuiet
import Derived.Deep.DeepCutAuto
import Derived.Deep.CutBlock
import Derived.Deep.RegionHeld3
import Derived.WalkLawsBesides
import Derived.WalkSpells
import Derived.Outline
import Derived.Deep.DeepFit
import Derived.Lib.Hide
import Derived.Shelf.Abstract
import Derived.RangeFuncFrom
import Derived.RangeFuncCalls
import Derived.RangeFuncLeaves
import Derived.OwnWalkIn
import Derived.TacticsInMore
import Derived.LoopNIn
import Derived.LoopIn
import Derived.Test.YtpknonebnipcgaaS
import Derived.Test.YtpknonebnipcgaaO

namespace Go.Proofs.Ytpknonebnipcgaa.T
open Go.RowKit Go.Shelf Go.Proofs.Ytpknonebnipcgaa.V Go.Proofs.Ytpknonebnipcgaa.A Go.Proofs.Ytpknonebnipcgaa.B Go.Proofs.Ytpknonebnipcgaa.C Go.Proofs.Ytpknonebnipcgaa.P Go.Proofs.Ytpknonebnipcgaa.D Go.Proofs.Ytpknonebnipcgaa.E Go.Proofs.Ytpknonebnipcgaa.G Go.Proofs.Ytpknonebnipcgaa.H Go.Proofs.Ytpknonebnipcgaa.I Go.Proofs.Ytpknonebnipcgaa.J Go.Proofs.Ytpknonebnipcgaa.K Go.Proofs.Ytpknonebnipcgaa.L Go.Proofs.Ytpknonebnipcgaa.M Go.Proofs.Ytpknonebnipcgaa.N Go.Proofs.Ytpknonebnipcgaa.O Go.Proofs.Ytpknonebnipcgaa.S Go.Proofs.Ytpknonebnipcgaa.X
set_option linter.unusedVariables false
set_option linter.unusedSimpArgs false
attribute [local go_sem] Oper.semAt_some

theorem choices65 (c1 c2 : Int) (A : Option Addr) (l c : Nat) (w : World) :
    Calls Try.prog 65 #[.agg #[.int .i64 c1, .int .i64 c2, .slice A l c]] w fun e w' => e = .returned (.func (.func 96) #[] #[.pointer (some ⟨w.heap.size, 0, none⟩)]) ∧ w' = w.alloc (.cells #[.int .i64 c1, .int .i64 c2, .slice A l c] 38) := by
  have hmf : ∀ (fn : Fn) (first cap : Array Value) (w : World), (Instr.makeFunc fn first cap).run Try.prog w = .ok (.func fn first cap) w := fun _ _ _ _ => rfl
  go_enter Try.func65, Try.ntmps65
  go_wp2
  go_ret
  exact ⟨rfl, rfl⟩

/-- a reading abides the turn of a block that is no cells -/
theorem rd_own {k : Nat} {enc : Int → List Value} {W W' : World} {v : Value} {xs : List Int} (h : Rd k enc W v xs) {row : Option Nat} (hg : W.grownBy W' row) (hr : ∀ r, row = some r → ∃ o : Obj, W.heap[r]? = some o ∧ o.isCells = false) : Rd k enc W' v xs := by
  obtain ⟨A, c, rfl, h1, h2, h3, hc⟩ := h
  refine ⟨A, c, rfl, h1, h2, h3, fun j x hx => ?_⟩
  obtain ⟨b, off, cs, rfl, hb, hr2, hcell⟩ := hc j x hx
  exact ⟨b, off, cs, rfl, Nat.lt_of_lt_of_le hb hg.size, hr2, fun i u hu => cell_kept (hcell i u hu) hg hr⟩
theorem blk_own {W W' : World} {g : Nat} {t : TypeId} {cs : Array Value} (h : W.heap[g]? = some (.cells cs t (0, 0))) {row : Option Nat} (hg : W.grownBy W' row) (hr : ∀ r, row = some r → ∃ o : Obj, W.heap[r]? = some o ∧ o.isCells = false) : W'.heap[g]? = some (.cells cs t (0, 0)) := by
  refine blk_grown h hg (fun e => ?_)
  obtain ⟨o, ho, hc⟩ := hr g e.symm
  rw [h] at ho
  injection ho with ho
  subst ho
  cases hc

/-- a reading of ints abides stores into a block that holds no ints -/
theorem rd_apart {W W' : World} {v : Value} {xs : List Int} (h : RdI W v xs) {g : Nat} {cs : Array Value} {t : TypeId} (hb : W.heap[g]? = some (.cells cs t (0, 0))) (hn : ∀ (i : Nat) (x : Int), cs[i]? ≠ some (.int .i64 x)) (hg : W.grownBy W' (some g)) : RdI W' v xs := by
  obtain ⟨A, c, rfl, h1, h2, h3, hc⟩ := h
  refine ⟨A, c, rfl, h1, h2, h3, fun j x hx => ?_⟩
  obtain ⟨b, off, cs', rfl, hb2, rfl, hcell⟩ := hc j x hx
  have hne : b ≠ g := by
    rintro rfl
    have h0 := hcell 0 _ rfl
    rw [cell_of_blk hb] at h0
    exact hn _ _ h0
  exact ⟨b, off, _, rfl, Nat.lt_of_lt_of_le hb2 hg.size, rfl, fun i u hu => (World.cell?_of_block (w := W) (hg.block b hb2 (by simpa using hne))).trans (hcell i u hu)⟩
/-- a store of what the cell holds -/
theorem rd_same {W : World} {v : Value} {xs : List Int} (h : RdI W v xs) {a : Addr} {u : Value} (ha : W.cell? a = some u) : RdI (W.setCell a u) v xs := by
  obtain ⟨A, c, rfl, h1, h2, h3, hc⟩ := h
  refine ⟨A, c, rfl, h1, h2, h3, fun j x hx => ?_⟩
  obtain ⟨b, off, cs', rfl, hb2, rfl, hcell⟩ := hc j x hx
  refine ⟨b, off, _, rfl, by simpa [World.setCell] using hb2, rfl, fun i u' hu => ?_⟩
  have h0 := hcell i u' hu
  by_cases e : (⟨b, off + j * 1 + i, none⟩ : Addr) = a
  · subst e
    rw [ha] at h0
    injection h0 with h0
    subst h0
    exact World.cell?_setCell_same' _ _ _ (by rw [ha]; rfl)
  · rw [World.cell?_setCell_other (h := fun e2 => e e2.symm)]
    exact h0
theorem below_others {W W' : World} (h : Below W.heap.size W W') : KeepsOthers W W' := ⟨h.size, fun k o hk _ => blk_below hk h⟩

/-- what holds between two rounds -/
structure MI (w : World) (tb : Nat) (plan : Array Value) (W : World) : Prop where
  box : W.heap[w.heap.size]? = some (.cells plan 38 (0, 0))
  tab : W.heap[w.heap.size + 1]? = some (.cells #[.slice none 0 0, .slice none 0 0, .slice none 0 0, .slice none 0 0] 45 (0, 0))
  err : W.heap[w.heap.size + 2]? = some (.cells #[.int .i64 0] 26 (0, 0))
  tri : W.heap[tb]? = some (.cells #[.int .i64 0] 3 (0, 0))
  bel : Below w.heap.size w W

/-- the table that is returned -/
def tabR (p : PlanT) (ch ds : List Int) (W : World) (vd vc vo vch : Value) : Prop :=
  RdI W vd ds ∧ RdI W vc (closedL p ds p.roads.length) ∧ RdI W vo (openedL p ds p.roads.length) ∧ RdI W vch ch

set_option maxRecDepth 100000 in
set_option maxHeartbeats 4000000 in
theorem make24_first (p : PlanT) (hok : okPlan p = true) (h8 : p.roads.length ≤ 8) (Ar : Option Addr) (cr : Nat) (w : World) (hR : RdW w (.slice Ar p.roads.length cr) p.roads)
    (hgood : ∀ k, k < p.roads.length → badW p (firstK p p.roads.length) k = false) (hch : chOk p (firstK p p.roads.length)) (h1 : (dueSt p (firstK p p.roads.length)).raised < 0) (h2 : (dueSt p (firstK p p.roads.length)).ts.getD 0 0 = 0)
    (hbd : ∀ x ∈ (dueSt p (firstK p p.roads.length)).ts.drop 1, -1000000000000 ≤ x ∧ x ≤ 1000000000000) :
    Calls Try.prog 24 #[.agg #[.int .i64 p.cars, .int .i64 p.first, .slice Ar p.roads.length cr]] w fun e w' =>
      ∃ vd vc vo vch, e = .returned (.tuple #[.agg #[vd, vc, vo, vch], .int .i64 0]) ∧ tabR p (firstK p p.roads.length) ((dueSt p (firstK p p.roads.length)).ts.drop 1) w' vd vc vo vch ∧ Below w.heap.size w w' := by
  obtain ⟨hP, _⟩ := okPlan_out hok
  have hc42 := fun W hb => check42 p Ar cr W (RdW.below hR hb)
  rw [hok] at hc42
  have HC42 : Hid (∀ W, Below w.heap.size w W → Calls Try.prog 42 #[.agg #[.int .i64 p.cars, .int .i64 p.first, .slice Ar p.roads.length cr]] W fun e w' => e = .returned (.int .i64 0) ∧ Below W.heap.size W w') := Lib.hid (fun W hb => (hc42 W hb).mono (by
    rintro e w' h
    exact h))
  have hll := (RdR.len hR).2
  have hlen := hP.len
  have HR := Lib.hid hR
  have HP := Lib.hid hP
  have HG := Lib.hid hgood
  have HCH := Lib.hid hch
  clear hc42 hR hP hgood hch hok
  refine (callsIn_wide (n := 5)).1 ?_
  refine callsIn_of_wp_marks Try.func24 rfl trivial ?_ rfl
  simp only [Try.ntmps24, List.size_toArray, List.length_cons, List.length_nil, Nat.reduceAdd, Nat.reduceSub, Array.replicate_succ, Array.replicate_zero, List.push_toArray, List.append_toArray, List.nil_append, List.cons_append]
  gi_wp2_with fail
  have hb3 : Below w.heap.size w (((w.alloc (.cells #[.int .i64 p.cars, .int .i64 p.first, .slice Ar p.roads.length cr] 38)).alloc (.cells #[.slice none 0 0, .slice none 0 0, .slice none 0 0, .slice none 0 0] 45)).alloc (.cells #[.int .i64 0] 26)) := below_al (below_al (below_al (below_rf w) _) _) _
  have a0 : (((w.alloc (.cells #[.int .i64 p.cars, .int .i64 p.first, .slice Ar p.roads.length cr] 38)).alloc (.cells #[.slice none 0 0, .slice none 0 0, .slice none 0 0, .slice none 0 0] 45)).alloc (.cells #[.int .i64 0] 26)).heap[w.heap.size]? = some (.cells #[.int .i64 p.cars, .int .i64 p.first, .slice Ar p.roads.length cr] 38 (0, 0)) := blk_alloc (blk_alloc (blk_new w _) _) _
  have a1 : (((w.alloc (.cells #[.int .i64 p.cars, .int .i64 p.first, .slice Ar p.roads.length cr] 38)).alloc (.cells #[.slice none 0 0, .slice none 0 0, .slice none 0 0, .slice none 0 0] 45)).alloc (.cells #[.int .i64 0] 26)).heap[w.heap.size + 1]? = some (.cells #[.slice none 0 0, .slice none 0 0, .slice none 0 0, .slice none 0 0] 45 (0, 0)) := by
    have := blk_alloc (blk_new (w.alloc (.cells #[.int .i64 p.cars, .int .i64 p.first, .slice Ar p.roads.length cr] 38)) (.cells #[.slice none 0 0, .slice none 0 0, .slice none 0 0, .slice none 0 0] 45)) (.cells #[.int .i64 0] 26)
    rwa [World.size_alloc] at this
  have a2 : (((w.alloc (.cells #[.int .i64 p.cars, .int .i64 p.first, .slice Ar p.roads.length cr] 38)).alloc (.cells #[.slice none 0 0, .slice none 0 0, .slice none 0 0, .slice none 0 0] 45)).alloc (.cells #[.int .i64 0] 26)).heap[w.heap.size + 2]? = some (.cells #[.int .i64 0] 26 (0, 0)) := by
    have := blk_new ((w.alloc (.cells #[.int .i64 p.cars, .int .i64 p.first, .slice Ar p.roads.length cr] 38)).alloc (.cells #[.slice none 0 0, .slice none 0 0, .slice none 0 0, .slice none 0 0] 45)) (.cells #[.int .i64 0] 26)
    rwa [World.size_alloc, World.size_alloc] at this
  have a3 : (((w.alloc (.cells #[.int .i64 p.cars, .int .i64 p.first, .slice Ar p.roads.length cr] 38)).alloc (.cells #[.slice none 0 0, .slice none 0 0, .slice none 0 0, .slice none 0 0] 45)).alloc (.cells #[.int .i64 0] 26)).heap.size = w.heap.size + 3 := by simp
  generalize (((w.alloc (.cells #[.int .i64 p.cars, .int .i64 p.first, .slice Ar p.roads.length cr] 38)).alloc (.cells #[.slice none 0 0, .slice none 0 0, .slice none 0 0, .slice none 0 0] 45)).alloc (.cells #[.int .i64 0] 26)) = w3 at *
  refine ⟨trivial, (callsIn_wide.2 (HC42.out w3 hb3)).mono ?_⟩
  rintro e w1 ⟨rfl, hb1⟩
  have hs1 := hb1.size
  have HB1 := Lib.hid (below_then hb3 hb3.size hb1)
  have b0 := blk_below a0 hb1
  have b1 := blk_below a1 hb1
  have b2 := blk_below a2 hb1
  have p0 := cell_of_blk b0 0
  have p1 := cell_of_blk b0 1
  have p2 := cell_of_blk b0 2
  simp only [List.getElem?_toArray, List.getElem?_cons_succ, List.getElem?_cons_zero] at p0 p1 p2
  have HA0 := Lib.hid b0
  have HA1 := Lib.hid b1
  have HA2 := Lib.hid b2
  have HS1 : Hid (w.heap.size + 3 ≤ w1.heap.size) := Lib.hid (by omega)
  have q0 := (World.cell?_alloc_some w1 _ (.cells #[.int .i64 0] 3) (by rw [p0]; rfl)).trans p0
  have q1 := (World.cell?_alloc_some w1 _ (.cells #[.int .i64 0] 3) (by rw [p1]; rfl)).trans p1
  have q2 := (World.cell?_alloc_some w1 _ (.cells #[.int .i64 0] 3) (by rw [p2]; rfl)).trans p2
  clear hb3 a0 a1 a2 a3 hb1 hs1 b0 b1 b2 HC42
  gi_wp2_with (refine ⟨trivial, ?_⟩; gi_at_call 65; refine (callsIn_wide.2 (choices65 _ _ _ _ _ _)).mono ?_; rintro e w' ⟨rfl, rfl⟩)
  have hbL : Below w.heap.size w ((w1.alloc (.cells #[.int .i64 0] 3)).alloc (.cells #[.int .i64 p.cars, .int .i64 p.first, .slice Ar p.roads.length cr] 38)) := below_al (below_al HB1.out _) _
  have hm0 : MI w w1.heap.size #[.int .i64 p.cars, .int .i64 p.first, .slice Ar p.roads.length cr] ((w1.alloc (.cells #[.int .i64 0] 3)).alloc (.cells #[.int .i64 p.cars, .int .i64 p.first, .slice Ar p.roads.length cr] 38)) := ⟨blk_alloc (blk_alloc HA0.out _) _, blk_alloc (blk_alloc HA1.out _) _, blk_alloc (blk_alloc HA2.out _) _, blk_alloc (blk_new w1 _) _, hbL⟩
  have hbp : ((w1.alloc (.cells #[.int .i64 0] 3)).alloc (.cells #[.int .i64 p.cars, .int .i64 p.first, .slice Ar p.roads.length cr] 38)).heap[w1.heap.size + 1]? = some (.cells #[.int .i64 p.cars, .int .i64 p.first, .slice Ar p.roads.length cr] 38 (0, 0)) := by
    have := blk_new (w1.alloc (.cells #[.int .i64 0] 3)) (.cells #[.int .i64 p.cars, .int .i64 p.first, .slice Ar p.roads.length cr] 38)
    rwa [World.size_alloc] at this
  have hsz : ((w1.alloc (.cells #[.int .i64 0] 3)).alloc (.cells #[.int .i64 p.cars, .int .i64 p.first, .slice Ar p.roads.length cr] 38)).heap.size = w1.heap.size + 2 := by simp
  generalize ((w1.alloc (.cells #[.int .i64 0] 3)).alloc (.cells #[.int .i64 p.cars, .int .i64 p.first, .slice Ar p.roads.length cr] 38)) = wL at *
  have hso := choices_once Fence.wide 4 trivial rfl (by omega) p hlen Ar cr (w1.heap.size + 1) w1.heap.size wL hbp (RdW.below HR.out hbL)
  have HSO := Lib.hid hso
  have HM0 := Lib.hid hm0
  have HSZ := Lib.hid hsz
  clear hbL hm0 hbp hsz hso p0 p1 p2 q0 q1 q2 HA0 HA1 HA2
  refine rangeT rfl (by omega) (gf := 96) (lb := #[.pointer (some ⟨w1.heap.size + 1, 0, none⟩)]) rfl trivial (enters_of Try.func96 (by kernel_rfl) rfl) HSO.out ?hT ?hKt ?hKb (Below.refl _ _) (fun _ => rfl)
    (fun pre W => pre = [] ∧ MI w w1.heap.size #[.int .i64 p.cars, .int .i64 p.first, .slice Ar p.roads.length cr] W)
    (fun c pre W => c = .ret ∧ Below w.heap.size w W ∧ ∃ vd vc vo vch, tabR p (firstK p p.roads.length) ((dueSt p (firstK p p.roads.length)).ts.drop 1) W vd vc vo vch ∧ W.heap[w.heap.size + 1]? = some (.cells #[vd, vc, vo, vch] 45 (0, 0)) ∧ W.heap[w.heap.size + 2]? = some (.cells #[.int .i64 0] 26 (0, 0)))
    ?hN ?hI ?hIx ⟨rfl, HM0.out⟩
    (fun x => { tmps := #[.agg #[.int .i64 p.cars, .int .i64 p.first, .slice Ar p.roads.length cr], .pointer (some ⟨w.heap.size, 0, none⟩), .pointer (some ⟨w.heap.size + 1, 0, none⟩), .pointer (some ⟨w.heap.size + 1 + 1, 0, none⟩), .int .i64 0, .pointer (some ⟨w1.heap.size, 0, none⟩), x.1, undef, undef, .agg #[.int .i64 p.cars, .int .i64 p.first, .slice Ar p.roads.length cr], .int .i64 0, .int .i64 0, .bool false, undef, undef, .agg #[.int .i64 p.cars, .int .i64 p.first, .slice Ar p.roads.length cr], .func (.func 96) #[] #[.pointer (some ⟨w1.heap.size + 1, 0, none⟩)], x.1, undef, undef, undef, undef, undef, undef, undef, undef, undef, undef, undef, undef, undef, undef, undef, undef, undef], defers := [] }) ?assign ?body ?done ?stop
  case hT =>
    rintro pre x W l o o' ⟨e1, e2, e3, hr⟩ hl ho
    exact ⟨e1, e2, e3, rd_own hr (grownBy_putObj' W l o') (fun r e => by cases e; exact ⟨o, hl, ho⟩)⟩
  case hKt =>
    rintro A B C ⟨h1, h2⟩ ⟨h3, h4⟩
    exact ⟨Nat.le_trans h1 h3, fun k o hk ho hc => h4 k o hk (h2 k o hk ho hc) hc⟩
  case hKb =>
    intro W l o o' hl hw ho _
    refine ⟨by simp, fun k o2 hk h2 hc => ?_⟩
    refine (World.putObj_heap_other (fun e => ?_)).trans h2
    subst e
    rw [hw] at h2
    injection h2 with h2
    subst h2
    rw [ho] at hc
    cases hc
  case hN =>
    rintro pre W ⟨rfl, _⟩
    exact Nat.le_refl _
  case hI =>
    rintro s A B row ⟨h0, hm⟩ hg hr
    have h3 := HS1.out
    have h4 := HSZ.out
    have hne : ∀ q, q < w1.heap.size + 2 → some q ≠ row := fun q hq e => by have := hr q e.symm; omega
    exact ⟨h0, blk_grown hm.box hg (hne _ (by omega)), blk_grown hm.tab hg (hne _ (by omega)), blk_grown hm.err hg (hne _ (by omega)), blk_grown hm.tri hg (hne _ (by omega)), hm.bel.grown hg hm.bel.size (fun k e => by have := hr k e; omega)⟩
  case hIx =>
    rintro c s A B row ⟨h0, hb, vd, vc, vo, vch, ⟨t1, t2, t3, t4⟩, e1, e2⟩ hg hr
    have h3 := HS1.out
    have h4 := HSZ.out
    have hr2 := fun r e => (hr r e).2
    exact ⟨h0, hb.grown hg hb.size (fun k e => by have := (hr k e).1; omega), vd, vc, vo, vch, ⟨rd_own t1 hg hr2, rd_own t2 hg hr2, rd_own t3 hg hr2, rd_own t4 hg hr2⟩, blk_own e1 hg hr2, blk_own e2 hg hr2⟩
  case assign =>
    intro l x W K hK
    gi_wp2
    exact hK
  case body =>
    rintro l pre ⟨xv, xl⟩ W ⟨_, hx2, ⟨g, hgN, hx1⟩, hrd⟩ ⟨rfl, hm⟩
    simp only at hx1 hx2 hrd
    subst hx1 hx2
    have h3 := HS1.out
    have h4 := HSZ.out
    have u0 := cell_of_blk hm.tri 0
    have uf := frozen_of_blk hm.tri 0
    have p0 := cell_of_blk hm.box 0
    have p1 := cell_of_blk hm.box 1
    have p2 := cell_of_blk hm.box 2
    simp only [List.getElem?_toArray, List.getElem?_cons_succ, List.getElem?_cons_zero] at u0 p0 p1 p2
    have hgs := grown_set W w1.heap.size 0 (.int .i64 1)
    have hbW : Below w.heap.size w (W.setCell ⟨w1.heap.size, 0, none⟩ (.int .i64 1)) := hm.bel.setCell (p := ⟨w1.heap.size, 0, none⟩) (by show w.heap.size ≤ w1.heap.size; omega) _
    have hdu := dues66_ok p HP.out h8 (firstK p p.roads.length) HCH.out Ar cr (some ⟨g, 0, none⟩) p.roads.length (W.setCell ⟨w1.heap.size, 0, none⟩ (.int .i64 1)) (RdW.below HR.out hbW) (Rd.grown hrd hgs (fun q hq => by simp [Value.ownBlock] at hq; subst hq; intro e; injection e with e; omega)) HG.out
    have v1 : (W.setCell ⟨w1.heap.size, 0, none⟩ (.int .i64 1)).heap[w.heap.size]? = some (.cells _ 38 (0, 0)) := blk_grown hm.box hgs (by simp; omega)
    have v2 : (W.setCell ⟨w1.heap.size, 0, none⟩ (.int .i64 1)).heap[w.heap.size + 1]? = some (.cells _ 45 (0, 0)) := blk_grown hm.tab hgs (by simp; omega)
    have v3 : (W.setCell ⟨w1.heap.size, 0, none⟩ (.int .i64 1)).heap[w.heap.size + 2]? = some (.cells _ 26 (0, 0)) := blk_grown hm.err hgs (by simp; omega)
    have HV1 := Lib.hid v1
    have HV2 := Lib.hid v2
    have HV3 := Lib.hid v3
    have HDU := Lib.hid hdu
    have HBW := Lib.hid hbW
    have HRD : Hid (RdI (W.setCell ⟨w1.heap.size, 0, none⟩ (.int .i64 1)) (.slice (some ⟨g, 0, none⟩) p.roads.length p.roads.length) (firstK p p.roads.length)) := Lib.hid (Rd.grown hrd hgs (fun q hq => by simp [Value.ownBlock] at hq; subst hq; intro e; injection e with e; omega))
    have nn1 : w1.heap.size ≠ w.heap.size := by omega
    have q0 := cell_of_blk v1 0
    have q1 := cell_of_blk v1 1
    have q2 := cell_of_blk v1 2
    simp only [List.getElem?_toArray, List.getElem?_cons_succ, List.getElem?_cons_zero] at q0 q1 q2
    clear hm hrd hgs hbW v1 v2 v3 hdu h3 h4
    gi_wp2_with fail
    refine ⟨trivial, (CallsIn.inRound l (callsIn_wide.2 HDU.out)).mono ?_⟩
    rintro e w5 ⟨⟨_, hgo⟩, hb5⟩
    obtain ⟨gd, cd, rfl, hrd5⟩ := hgo h1 h2
    have hdl : ((dueSt p (firstK p p.roads.length)).ts.drop 1).length = p.roads.length + 1 := by
      rw [List.length_drop, show (dueSt p (firstK p p.roads.length)).ts.length = p.roads.length + 2 from rounds_len _ (by simp)]
      omega
    have hb5' := below_then HBW.out HBW.out.size hb5
    have hta := tabled67 p HP.out (firstK p p.roads.length) Ar cr (some ⟨g, 0, none⟩) p.roads.length ((dueSt p (firstK p p.roads.length)).ts.drop 1) (some ⟨gd, 1, none⟩) cd w5 (RdW.below HR.out hb5') (by rw [firstK_len]; exact Rd.below HRD.out hb5) (by rw [hdl]; exact hrd5) (by rw [firstK_len]; omega) (by rw [hdl]; omega) hbd
    rw [hdl, firstK_len] at hta
    have v1 := blk_below HV1.out hb5
    have v2 := blk_below HV2.out hb5
    have v3 := blk_below HV3.out hb5
    have q0 := cell_of_blk v1 0
    have q1 := cell_of_blk v1 1
    have q2 := cell_of_blk v1 2
    simp only [List.getElem?_toArray, List.getElem?_cons_succ, List.getElem?_cons_zero] at q0 q1 q2
    have HK5 : Hid (KeepsOthers W w5) := Lib.hid ((KeepsOthers.setCell _ _ _).trans (below_others hb5))
    have HTA := Lib.hid hta
    have HB5 := Lib.hid hb5'
    have HV2' := Lib.hid v2
    have HV3' := Lib.hid v3
    clear hta v1 v2 v3 hb5 hb5' hgo hrd5 HDU HRD HV1 HV2 HV3 HBW
    gi_wp2_with fail
    refine ⟨trivial, (CallsIn.inRound l (callsIn_wide.2 HTA.out)).mono ?_⟩
    rintro e w6 ⟨vc, vo, vch, rfl, r1, r2, r3, r4, hb6⟩
    have y2 := blk_below HV2'.out hb6
    have y3 := blk_below HV3'.out hb6
    have z0 := cell_of_blk y2 0
    have z1 := cell_of_blk y2 1
    have z2 := cell_of_blk y2 2
    have z3 := cell_of_blk y2 3
    have z4 := cell_of_blk y3 0
    have zf := frozen_of_blk y2
    have zg := frozen_of_blk y3 0
    simp only [List.getElem?_toArray, List.getElem?_cons_succ, List.getElem?_cons_zero] at z0 z1 z2 z3 z4
    obtain ⟨Ac, lc, cc, rfl⟩ : ∃ A l c, vc = .slice A l c := by obtain ⟨A, c, h, _⟩ := RdR.form r1; exact ⟨_, _, _, h⟩
    obtain ⟨Ao, lo, co, rfl⟩ : ∃ A l c, vo = .slice A l c := by obtain ⟨A, c, h, _⟩ := RdR.form r2; exact ⟨_, _, _, h⟩
    obtain ⟨Ah, lh, ch, rfl⟩ : ∃ A l c, vch = .slice A l c := by obtain ⟨A, c, h, _⟩ := RdR.form r3; exact ⟨_, _, _, h⟩
    have HK6 : Hid (KeepsOthers W w6) := Lib.hid (HK5.out.trans (below_others hb6))
    have HB6 := Lib.hid (below_then HB5.out HB5.out.size hb6)
    have HY2 := Lib.hid y2
    have HY3 := Lib.hid y3
    have HR1 := Lib.hid r1
    have HR2 := Lib.hid r2
    have HR3 := Lib.hid r3
    have HR4 := Lib.hid r4
    clear y2 y3 r1 r2 r3 r4 hb6 HTA q0 q1 q2
    gi_wp2_with fail
    have rr : ((((w6.setCell ⟨w.heap.size + 1, 0, none⟩ (.slice (some ⟨gd, 1, none⟩) (p.roads.length + 1) cd)).setCell ⟨w.heap.size + 1, 1, none⟩ (.slice Ac lc cc)).setCell ⟨w.heap.size + 1, 2, none⟩ (.slice Ao lo co)).setCell ⟨w.heap.size + 1, 3, none⟩ (.slice Ah lh ch)).heap[w.heap.size + 1]? = some (.cells #[.slice (some ⟨gd, 1, none⟩) (p.roads.length + 1) cd, .slice Ac lc cc, .slice Ao lo co, .slice Ah lh ch] 45 (0, 0)) := by
      have h := blk_set (blk_set (blk_set (blk_set HY2.out 0 (.slice (some ⟨gd, 1, none⟩) (p.roads.length + 1) cd)) 1 (.slice Ac lc cc)) 2 (.slice Ao lo co)) 3 (.slice Ah lh ch)
      simp only [List.setIfInBounds_toArray, List.set_cons_zero, List.set_cons_succ] at h
      exact h
    have hg : w6.grownBy ((((w6.setCell ⟨w.heap.size + 1, 0, none⟩ (.slice (some ⟨gd, 1, none⟩) (p.roads.length + 1) cd)).setCell ⟨w.heap.size + 1, 1, none⟩ (.slice Ac lc cc)).setCell ⟨w.heap.size + 1, 2, none⟩ (.slice Ao lo co)).setCell ⟨w.heap.size + 1, 3, none⟩ (.slice Ah lh ch)) (some (w.heap.size + 1)) := by
      have g0 := gb_set (gb_refl w6 (some (w.heap.size + 1))) ⟨w.heap.size + 1, 0, none⟩ (.inl rfl) (.slice (some ⟨gd, 1, none⟩) (p.roads.length + 1) cd)
      have g1 := gb_set g0 ⟨w.heap.size + 1, 1, none⟩ (.inl rfl) (.slice Ac lc cc)
      have g2 := gb_set g1 ⟨w.heap.size + 1, 2, none⟩ (.inl rfl) (.slice Ao lo co)
      exact gb_set g2 ⟨w.heap.size + 1, 3, none⟩ (.inl rfl) (.slice Ah lh ch)
    have hko : KeepsOthers w6 ((((w6.setCell ⟨w.heap.size + 1, 0, none⟩ (.slice (some ⟨gd, 1, none⟩) (p.roads.length + 1) cd)).setCell ⟨w.heap.size + 1, 1, none⟩ (.slice Ac lc cc)).setCell ⟨w.heap.size + 1, 2, none⟩ (.slice Ao lo co)).setCell ⟨w.heap.size + 1, 3, none⟩ (.slice Ah lh ch)) := (((KeepsOthers.setCell w6 ⟨w.heap.size + 1, 0, none⟩ (.slice (some ⟨gd, 1, none⟩) (p.roads.length + 1) cd)).trans (KeepsOthers.setCell _ ⟨w.heap.size + 1, 1, none⟩ (.slice Ac lc cc))).trans (KeepsOthers.setCell _ ⟨w.heap.size + 1, 2, none⟩ (.slice Ao lo co))).trans (KeepsOthers.setCell _ ⟨w.heap.size + 1, 3, none⟩ (.slice Ah lh ch))
    generalize ((((w6.setCell ⟨w.heap.size + 1, 0, none⟩ (.slice (some ⟨gd, 1, none⟩) (p.roads.length + 1) cd)).setCell ⟨w.heap.size + 1, 1, none⟩ (.slice Ac lc cc)).setCell ⟨w.heap.size + 1, 2, none⟩ (.slice Ao lo co)).setCell ⟨w.heap.size + 1, 3, none⟩ (.slice Ah lh ch)) = wf at *
    have hapart : ∀ (i : Nat) (x : Int), (#[Value.slice none 0 0, .slice none 0 0, .slice none 0 0, .slice none 0 0] : Array Value)[i]? ≠ some (.int .i64 x) := by
      intro i x
      match i with
      | 0 => simp
      | 1 => simp
      | 2 => simp
      | 3 => simp
      | n + 4 => simp
    have e3 := blk_grown HY3.out hg (by simp)
    have c3 : wf.cell? ⟨w.heap.size + 1 + 1, 0, none⟩ = some (.int .i64 0) := (cell_of_blk e3 0).trans rfl
    have hs := grown_set wf (w.heap.size + 1 + 1) 0 (.int .i64 0)
    refine ⟨(HK6.out.trans hko).trans (KeepsOthers.setCell _ _ _), rfl, ?_, _, _, _, _, ⟨?_, ?_, ?_, ?_⟩, blk_grown rr hs (by simp), ?_⟩
    · exact (HB6.out.grown hg HB6.out.size (fun k e => by injection e with e; omega)).setCell (p := ⟨w.heap.size + 1 + 1, 0, none⟩) (by show w.heap.size ≤ w.heap.size + 1 + 1; omega) _
    · exact rd_same (rd_apart HR4.out HY2.out hapart hg) c3
    · exact rd_same (rd_apart HR1.out HY2.out hapart hg) c3
    · exact rd_same (rd_apart HR2.out HY2.out hapart hg) c3
    · exact rd_same (rd_apart HR3.out HY2.out hapart hg) c3
    · have h := blk_set e3 0 (.int .i64 0)
      simp only [List.setIfInBounds_toArray, List.set_cons_zero] at h
      exact h
  case done =>
    rintro D ys W hD hf
    exact hf.elim
  case stop =>
    rintro D c pre W hD _ ⟨rfl, hb, vd, vc, vo, vch, ⟨t1, t2, t3, t4⟩, e1, e2⟩ hK
    gi_wp2
    refine ⟨by simp, .inl ⟨_, _, rfl, run_takeDeferred hK, ?_⟩⟩
    have h3 := HS1.out
    have h4 := HSZ.out
    have hr2 : ∀ r, some D = some r → ∃ o : Obj, W.heap[r]? = some o ∧ o.isCells = false := fun r e => by injection e with e; subst e; exact ⟨_, hK, rfl⟩
    have hg := grownBy_putObj' W D (.deferred none)
    have f1 := blk_own e1 hg hr2
    have f2 := blk_own e2 hg hr2
    have f10 := cell_of_blk f1 0
    have f11 := cell_of_blk f1 1
    have f12 := cell_of_blk f1 2
    have f13 := cell_of_blk f1 3
    have f20 := cell_of_blk f2 0
    simp only [List.getElem?_toArray, List.getElem?_cons_succ, List.getElem?_cons_zero] at f10 f11 f12 f13 f20
    refine ⟨.tuple #[.agg #[vd, vc, vo, vch], .int .i64 0], ?_, vd, vc, vo, vch, rfl, ⟨rd_own t1 hg hr2, rd_own t2 hg hr2, rd_own t3 hg hr2, rd_own t4 hg hr2⟩, hb.grown hg hb.size (fun k e => by injection e with e; omega)⟩
    simp [results, Try.results24, go_sem, f10, f11, f12, f13, f20]
end Go.Proofs.Ytpknonebnipcgaa.T
