import Derived.Test.YtpknonebnipcgaaProg
import Derived.WalkKit
import Derived.KernelRfl
import Derived.Deep.LoopGhost
import Derived.Deep.QuietTactic
import Derived.BigQuiet
import Derived.Deep.DeepCutAuto
import Derived.Deep.CutBlock
import Derived.Deep.RegionHeld3
import Derived.WalkLawsBesides
import Derived.WalkSpells
import Derived.Outline
import Derived.Deep.DeepFit
import Derived.Lib.Hide
import Derived.Shelf.Abstract
import Derived.RangeFuncFrom
import Derived.RangeFuncCalls
import Derived.RangeFuncLeaves
import Derived.OwnWalkIn
import Derived.TacticsInMore
import Derived.LoopNIn
import Derived.LoopIn
import Derived.Sort.QuietIn
import Derived.Test.YtpknonebnipcgaaSg
import Derived.Test.YtpknonebnipcgaaNd
import Derived.Test.YtpknonebnipcgaaT
import Derived.Test.YtpknonebnipcgaaZ
import Derived.Test.YtpknonebnipcgaaTg
import Derived.Test.YtpknonebnipcgaaNf
import Derived.Test.YtpknonebnipcgaaOf

namespace Go.Proofs.Ytpknonebnipcgaa.Tf
open Go.RowKit Go.Shelf Go.Proofs.Ytpknonebnipcgaa.V Go.Proofs.Ytpknonebnipcgaa.A Go.Proofs.Ytpknonebnipcgaa.B Go.Proofs.Ytpknonebnipcgaa.C Go.Proofs.Ytpknonebnipcgaa.P Go.Proofs.Ytpknonebnipcgaa.D Go.Proofs.Ytpknonebnipcgaa.E Go.Proofs.Ytpknonebnipcgaa.G Go.Proofs.Ytpknonebnipcgaa.H Go.Proofs.Ytpknonebnipcgaa.I Go.Proofs.Ytpknonebnipcgaa.J Go.Proofs.Ytpknonebnipcgaa.K Go.Proofs.Ytpknonebnipcgaa.L Go.Proofs.Ytpknonebnipcgaa.M Go.Proofs.Ytpknonebnipcgaa.N Go.Proofs.Ytpknonebnipcgaa.O Go.Proofs.Ytpknonebnipcgaa.S Go.Proofs.Ytpknonebnipcgaa.Sp Go.Proofs.Ytpknonebnipcgaa.Sg Go.Proofs.Ytpknonebnipcgaa.Nd Go.Proofs.Ytpknonebnipcgaa.T Go.Proofs.Ytpknonebnipcgaa.Z Go.Proofs.Ytpknonebnipcgaa.X Go.Proofs.Ytpknonebnipcgaa.Nf Go.Proofs.Ytpknonebnipcgaa.Of Go.Proofs.Ytpknonebnipcgaa.Tg
set_option linter.unusedVariables false
set_option linter.unusedSimpArgs false
attribute [local go_sem] Oper.semAt_some
/-- all that lies at the slice lies in newer blocks -/
def Fr (B : Nat) (v : Value) : Prop := ∀ q, v.ownBlock = some q → B ≤ q
def MKF (p : PlanT) (B : Nat) (W : World) (vd vc vo vch : Value) (er : Int) : Prop := match mk p with
  | .ok ch => tabR p ch ((dueSt p ch).ts.drop 1) W vd vc vo vch ∧ er = 0 ∧ Fr B vd ∧ Fr B vc ∧ Fr B vo ∧ Fr B vch
  | .none => vd = .slice none 0 0 ∧ vc = .slice none 0 0 ∧ vo = .slice none 0 0 ∧ vch = .slice none 0 0 ∧ er = 5
  | .opened => vd = .slice none 0 0 ∧ vc = .slice none 0 0 ∧ vo = .slice none 0 0 ∧ vch = .slice none 0 0 ∧ er = 9
theorem MKF.own {p : PlanT} {B : Nat} {W W' : World} {vd vc vo vch : Value} {er : Int} (h : MKF p B W vd vc vo vch er) {row : Option Nat} (hg : W.grownBy W' row) (hr : ∀ r, row = some r → ∃ o : Obj, W.heap[r]? = some o ∧ o.isCells = false) : MKF p B W' vd vc vo vch er := by
  unfold MKF at h ⊢
  cases hm : mk p with
  | ok ch =>
    rw [hm] at h
    obtain ⟨⟨t1, t2, t3, t4⟩, e⟩ := h
    exact ⟨⟨rd_own t1 hg hr, rd_own t2 hg hr, rd_own t3 hg hr, rd_own t4 hg hr⟩, e⟩
  | none => rw [hm] at h; exact h
  | opened => rw [hm] at h; exact h

def FinRF (p : PlanT) (w W : World) : Prop := ∃ vd vc vo vch er, W.heap[w.heap.size + 1]? = some (.cells #[vd, vc, vo, vch] 45 (0, 0)) ∧ W.heap[w.heap.size + 2]? = some (.cells #[.int .i64 er] 26 (0, 0)) ∧ MKF p w.heap.size W vd vc vo vch er
theorem FinRF.own {p : PlanT} {w W W' : World} (h : FinRF p w W) {row : Option Nat} (hg : W.grownBy W' row) (hr : ∀ r, row = some r → ∃ o : Obj, W.heap[r]? = some o ∧ o.isCells = false) : FinRF p w W' := by
  obtain ⟨vd, vc, vo, vch, er, h1, h2, h3⟩ := h
  exact ⟨vd, vc, vo, vch, er, blk_own h1 hg hr, blk_own h2 hg hr, h3.own hg hr⟩

def MakePostF (p : PlanT) (w : World) (e : Ending) (w' : World) : Prop := (∃ vd vc vo vch er, e = .returned (.tuple #[.agg #[vd, vc, vo, vch], .int .i64 er]) ∧ MKF p w.heap.size w' vd vc vo vch er) ∧ Below w.heap.size w w'

theorem dues_goodf (p : PlanT) (hP : PBd p) (h8 : p.roads.length ≤ 8) (ch : List Int) (hch : chOk p ch) (Ar : Option Addr) (cr : Nat) (Ac : Option Addr) (cc : Nat) (w : World) (hR : RdW w (.slice Ar p.roads.length cr) p.roads) (hC : RdI w (.slice Ac p.roads.length cc) ch) (hg : goodC p ch = true) :
    Calls Try.prog 66 #[.agg #[.int .i64 p.cars, .int .i64 p.first, .slice Ar p.roads.length cr], .slice Ac p.roads.length cc, .slice none 0 0] w fun e w' => ∃ g c, e = .returned (.tuple #[.slice (some ⟨g, 1, none⟩) (p.roads.length + 1) c, .bool true]) ∧ RdI w' (.slice (some ⟨g, 1, none⟩) (p.roads.length + 1) c) ((dueSt p ch).ts.drop 1) ∧ w.heap.size ≤ g ∧ Below w.heap.size w w' :=
  (dues66_f p hP h8 ch hch Ar cr Ac cc w hR hC).mono (by
    rintro e w' ⟨⟨h, _⟩ | ⟨_, g, c, h1, h2, h3⟩, hb⟩
    · rw [hg] at h; cases h
    · exact ⟨g, c, h1, h2, h3, hb⟩)
theorem dues_badf (p : PlanT) (hP : PBd p) (h8 : p.roads.length ≤ 8) (ch : List Int) (hch : chOk p ch) (Ar : Option Addr) (cr : Nat) (Ac : Option Addr) (cc : Nat) (w : World) (hR : RdW w (.slice Ar p.roads.length cr) p.roads) (hC : RdI w (.slice Ac p.roads.length cc) ch) (hg : goodC p ch = false) :
    Calls Try.prog 66 #[.agg #[.int .i64 p.cars, .int .i64 p.first, .slice Ar p.roads.length cr], .slice Ac p.roads.length cc, .slice none 0 0] w fun e w' => e = .returned (.tuple #[.slice none 0 0, .bool false]) ∧ Below w.heap.size w w' :=
  (dues66_f p hP h8 ch hch Ar cr Ac cc w hR hC).mono (by
    rintro e w' ⟨⟨_, h⟩ | ⟨h, _⟩, hb⟩
    · exact ⟨h, hb⟩
    · rw [hg] at h; cases h)

set_option maxRecDepth 100000 in
set_option maxHeartbeats 8000000 in
theorem make24f (p : PlanT) (hok : okPlan p = true) (h8 : p.roads.length ≤ 8) (Ar : Option Addr) (cr : Nat) (w : World) (hR : RdW w (.slice Ar p.roads.length cr) p.roads) :
    Calls Try.prog 24 #[.agg #[.int .i64 p.cars, .int .i64 p.first, .slice Ar p.roads.length cr]] w (MakePostF p w) := by
  obtain ⟨hP, _⟩ := okPlan_out hok
  have hc42 := fun W hb => check42 p Ar cr W (RdW.below hR hb)
  rw [hok] at hc42
  have HC42 : Hid (∀ W, Below w.heap.size w W → Calls Try.prog 42 #[.agg #[.int .i64 p.cars, .int .i64 p.first, .slice Ar p.roads.length cr]] W fun e w' => e = .returned (.int .i64 0) ∧ Below W.heap.size W w') := Lib.hid (fun W hb => (hc42 W hb).mono (by
    rintro e w' h
    exact h))
  have hll := (RdR.len hR).2
  have hlen := hP.len
  have HR := Lib.hid hR
  have HP := Lib.hid hP
  clear hc42 hR hP hok
  refine (callsIn_wide (n := 5)).1 ?_
  refine callsIn_of_wp_marks Try.func24 rfl trivial ?_ rfl
  simp only [Try.ntmps24, List.size_toArray, List.length_cons, List.length_nil, Nat.reduceAdd, Nat.reduceSub, Array.replicate_succ, Array.replicate_zero, List.push_toArray, List.append_toArray, List.nil_append, List.cons_append]
  gi_wp2_with fail
  have hb3 : Below w.heap.size w (((w.alloc (.cells #[.int .i64 p.cars, .int .i64 p.first, .slice Ar p.roads.length cr] 38)).alloc (.cells #[.slice none 0 0, .slice none 0 0, .slice none 0 0, .slice none 0 0] 45)).alloc (.cells #[.int .i64 0] 26)) := below_al (below_al (below_al (below_rf w) _) _) _
  have a0 : (((w.alloc (.cells #[.int .i64 p.cars, .int .i64 p.first, .slice Ar p.roads.length cr] 38)).alloc (.cells #[.slice none 0 0, .slice none 0 0, .slice none 0 0, .slice none 0 0] 45)).alloc (.cells #[.int .i64 0] 26)).heap[w.heap.size]? = some (.cells #[.int .i64 p.cars, .int .i64 p.first, .slice Ar p.roads.length cr] 38 (0, 0)) := blk_alloc (blk_alloc (blk_new w _) _) _
  have a1 : (((w.alloc (.cells #[.int .i64 p.cars, .int .i64 p.first, .slice Ar p.roads.length cr] 38)).alloc (.cells #[.slice none 0 0, .slice none 0 0, .slice none 0 0, .slice none 0 0] 45)).alloc (.cells #[.int .i64 0] 26)).heap[w.heap.size + 1]? = some (.cells #[.slice none 0 0, .slice none 0 0, .slice none 0 0, .slice none 0 0] 45 (0, 0)) := by
    have := blk_alloc (blk_new (w.alloc (.cells #[.int .i64 p.cars, .int .i64 p.first, .slice Ar p.roads.length cr] 38)) (.cells #[.slice none 0 0, .slice none 0 0, .slice none 0 0, .slice none 0 0] 45)) (.cells #[.int .i64 0] 26)
    rwa [World.size_alloc] at this
  have a2 : (((w.alloc (.cells #[.int .i64 p.cars, .int .i64 p.first, .slice Ar p.roads.length cr] 38)).alloc (.cells #[.slice none 0 0, .slice none 0 0, .slice none 0 0, .slice none 0 0] 45)).alloc (.cells #[.int .i64 0] 26)).heap[w.heap.size + 2]? = some (.cells #[.int .i64 0] 26 (0, 0)) := by
    have := blk_new ((w.alloc (.cells #[.int .i64 p.cars, .int .i64 p.first, .slice Ar p.roads.length cr] 38)).alloc (.cells #[.slice none 0 0, .slice none 0 0, .slice none 0 0, .slice none 0 0] 45)) (.cells #[.int .i64 0] 26)
    rwa [World.size_alloc, World.size_alloc] at this
  have a3 : (((w.alloc (.cells #[.int .i64 p.cars, .int .i64 p.first, .slice Ar p.roads.length cr] 38)).alloc (.cells #[.slice none 0 0, .slice none 0 0, .slice none 0 0, .slice none 0 0] 45)).alloc (.cells #[.int .i64 0] 26)).heap.size = w.heap.size + 3 := by simp
  generalize (((w.alloc (.cells #[.int .i64 p.cars, .int .i64 p.first, .slice Ar p.roads.length cr] 38)).alloc (.cells #[.slice none 0 0, .slice none 0 0, .slice none 0 0, .slice none 0 0] 45)).alloc (.cells #[.int .i64 0] 26)) = w3 at *
  refine ⟨trivial, (callsIn_wide.2 (HC42.out w3 hb3)).mono ?_⟩
  rintro e w1 ⟨rfl, hb1⟩
  have hs1 := hb1.size
  have HB1 := Lib.hid (below_then hb3 hb3.size hb1)
  have b0 := blk_below a0 hb1
  have b1 := blk_below a1 hb1
  have b2 := blk_below a2 hb1
  have p0 := cell_of_blk b0 0
  have p1 := cell_of_blk b0 1
  have p2 := cell_of_blk b0 2
  simp only [List.getElem?_toArray, List.getElem?_cons_succ, List.getElem?_cons_zero] at p0 p1 p2
  have HA0 := Lib.hid b0
  have HA1 := Lib.hid b1
  have HA2 := Lib.hid b2
  have HS1 : Hid (w.heap.size + 3 ≤ w1.heap.size) := Lib.hid (by omega)
  have q0 := (World.cell?_alloc_some w1 _ (.cells #[.int .i64 0] 3) (by rw [p0]; rfl)).trans p0
  have q1 := (World.cell?_alloc_some w1 _ (.cells #[.int .i64 0] 3) (by rw [p1]; rfl)).trans p1
  have q2 := (World.cell?_alloc_some w1 _ (.cells #[.int .i64 0] 3) (by rw [p2]; rfl)).trans p2
  clear hb3 a0 a1 a2 a3 hb1 hs1 b0 b1 b2 HC42
  gi_wp2_with (refine ⟨trivial, ?_⟩; gi_at_call 65; refine (callsIn_wide.2 (choices65 _ _ _ _ _ _)).mono ?_; rintro e w' ⟨rfl, rfl⟩)
  have hbL : Below w.heap.size w ((w1.alloc (.cells #[.int .i64 0] 3)).alloc (.cells #[.int .i64 p.cars, .int .i64 p.first, .slice Ar p.roads.length cr] 38)) := below_al (below_al HB1.out _) _
  have hbL1 : Below w1.heap.size w1 ((w1.alloc (.cells #[.int .i64 0] 3)).alloc (.cells #[.int .i64 p.cars, .int .i64 p.first, .slice Ar p.roads.length cr] 38)) := below_al (below_al (below_rf w1) _) _
  have hm0 : MI w w1.heap.size #[.int .i64 p.cars, .int .i64 p.first, .slice Ar p.roads.length cr] ((w1.alloc (.cells #[.int .i64 0] 3)).alloc (.cells #[.int .i64 p.cars, .int .i64 p.first, .slice Ar p.roads.length cr] 38)) := ⟨blk_alloc (blk_alloc HA0.out _) _, blk_alloc (blk_alloc HA1.out _) _, blk_alloc (blk_alloc HA2.out _) _, blk_alloc (blk_new w1 _) _, hbL⟩
  have hbp : ((w1.alloc (.cells #[.int .i64 0] 3)).alloc (.cells #[.int .i64 p.cars, .int .i64 p.first, .slice Ar p.roads.length cr] 38)).heap[w1.heap.size + 1]? = some (.cells #[.int .i64 p.cars, .int .i64 p.first, .slice Ar p.roads.length cr] 38 (0, 0)) := by
    have := blk_new (w1.alloc (.cells #[.int .i64 0] 3)) (.cells #[.int .i64 p.cars, .int .i64 p.first, .slice Ar p.roads.length cr] 38)
    rwa [World.size_alloc] at this
  have hsz : ((w1.alloc (.cells #[.int .i64 0] 3)).alloc (.cells #[.int .i64 p.cars, .int .i64 p.first, .slice Ar p.roads.length cr] 38)).heap.size = w1.heap.size + 2 := by simp
  generalize ((w1.alloc (.cells #[.int .i64 0] 3)).alloc (.cells #[.int .i64 p.cars, .int .i64 p.first, .slice Ar p.roads.length cr] 38)) = wL at *
  have hso := choices_all 4 (by omega) p hlen Ar cr (w1.heap.size + 1) w1.heap.size 20000 w1 wL hbp (by omega) (RdW.below HR.out HB1.out) (KO.of_below hbL1) (Nat.le_refl _) (by omega)
  have HSO := Lib.hid hso
  have HM0 := Lib.hid (mj_of hm0)
  have HSZ := Lib.hid hsz
  clear hbL hbL1 hm0 hbp hsz hso p0 p1 p2 q0 q1 q2 HA0 HA1 HA2
  refine rangeT rfl (by omega) (gf := 96) (lb := #[.pointer (some ⟨w1.heap.size + 1, 0, none⟩)]) rfl trivial (enters_of Try.func96 (by kernel_rfl) rfl) HSO.out ?hT ?hKt ?hKb (Below.refl _ _) (fun _ => rfl)
    (fun pre W => pre.length ≤ 20000 ∧ BadTo p pre.length ∧ MJ w w1.heap.size #[.int .i64 p.cars, .int .i64 p.first, .slice Ar p.roads.length cr] pre.length W)
    (fun c pre W => c = .ret ∧ Below w.heap.size w W ∧ FinRF p w W)
    ?hN ?hI ?hIx ⟨Nat.zero_le _, fun j hj => absurd hj (Nat.not_lt_zero _), HM0.out⟩
    (fun x => { tmps := #[.agg #[.int .i64 p.cars, .int .i64 p.first, .slice Ar p.roads.length cr], .pointer (some ⟨w.heap.size, 0, none⟩), .pointer (some ⟨w.heap.size + 1, 0, none⟩), .pointer (some ⟨w.heap.size + 1 + 1, 0, none⟩), .int .i64 0, .pointer (some ⟨w1.heap.size, 0, none⟩), x.1, undef, undef, .agg #[.int .i64 p.cars, .int .i64 p.first, .slice Ar p.roads.length cr], .int .i64 0, .int .i64 0, .bool false, undef, undef, .agg #[.int .i64 p.cars, .int .i64 p.first, .slice Ar p.roads.length cr], .func (.func 96) #[] #[.pointer (some ⟨w1.heap.size + 1, 0, none⟩)], x.1, undef, undef, undef, undef, undef, undef, undef, undef, undef, undef, undef, undef, undef, undef, undef, undef, undef], defers := [] }) ?assign ?body ?done ?stop
  case hT =>
    rintro pre x W l o o' ⟨e1, e2, hr⟩ hl ho
    exact ⟨e1, e2, rd_own hr (grownBy_putObj' W l o') (fun r e => by cases e; exact ⟨o, hl, ho⟩)⟩
  case hKt =>
    rintro A B C ⟨h1, h2⟩ ⟨h3, h4⟩
    exact ⟨Nat.le_trans h1 h3, fun k o hk ho hc => h4 k o hk (h2 k o hk ho hc) hc⟩
  case hKb =>
    intro W l o o' hl hw ho _
    refine ⟨by simp, fun k o2 hk h2 hc => ?_⟩
    refine (World.putObj_heap_other (fun e => ?_)).trans h2
    subst e
    rw [hw] at h2
    injection h2 with h2
    subst h2
    rw [ho] at hc
    cases hc
  case hN =>
    rintro pre W ⟨h, _⟩
    exact h
  case hI =>
    rintro s A B row ⟨h0, h1, hm⟩ hg hr
    have h3 := HS1.out
    have h4 := HSZ.out
    have hne : ∀ q, q < w1.heap.size + 2 → some q ≠ row := fun q hq e => by have := hr q e.symm; omega
    exact ⟨h0, h1, blk_grown hm.box hg (hne _ (by omega)), blk_grown hm.tab hg (hne _ (by omega)), blk_grown hm.err hg (hne _ (by omega)), blk_grown hm.tri hg (hne _ (by omega)), hm.bel.grown hg hm.bel.size (fun k e => by have := hr k e; omega)⟩
  case hIx =>
    rintro c s A B row ⟨h0, hb, hf⟩ hg hr
    have h3 := HS1.out
    have h4 := HSZ.out
    exact ⟨h0, hb.grown hg hb.size (fun k e => by have := (hr k e).1; omega), hf.own hg (fun r e => (hr r e).2)⟩
  case assign =>
    intro l x W K hK
    gi_wp2
    exact hK
  case body =>
    rintro l pre ⟨xv, ch⟩ W ⟨hnt, ⟨g, hgN, hx1⟩, hrd⟩ ⟨hle, hbad, hm⟩
    simp only at hx1 hnt hrd
    subst hx1
    have h3 := HS1.out
    have h4 := HSZ.out
    have hmk := (make_at pre.length hle hbad).1 ch hnt
    have hch := (nth_ok hnt).ch
    have HCH := Lib.hid hch
    have HPL : Hid ((pre ++ [((.slice (some ⟨g, 0, none⟩) p.roads.length p.roads.length, ch) : Value × List Int)]).length = pre.length + 1) := Lib.hid (by simp)
    have u0 := cell_of_blk hm.tri 0
    have uf := frozen_of_blk hm.tri 0
    simp only [List.getElem?_toArray, List.getElem?_cons_zero] at u0
    by_cases h2 : pre.length = 20000
    · have hmk2 : mk p = .opened := by rw [hmk, h2]; rfl
      have t1 : (((pre.length : Nat) : Int) == 20000) = true := by rw [h2]; rfl
      have z0 := cell_of_blk hm.tab 0
      have z1 := cell_of_blk hm.tab 1
      have z2 := cell_of_blk hm.tab 2
      have z3 := cell_of_blk hm.tab 3
      have z4 := cell_of_blk hm.err 0
      have zf := frozen_of_blk hm.tab
      have zg := frozen_of_blk hm.err 0
      simp only [List.getElem?_toArray, List.getElem?_cons_succ, List.getElem?_cons_zero] at z0 z1 z2 z3 z4
      have HM := Lib.hid hm
      have HMK := Lib.hid hmk2
      clear hmk hmk2 hm hbad hnt hrd hch h2 HPL HCH h3 h4
      gi_wp2_with fail
      refine ⟨five_keeps _ _ _ _ _ _ 9, rfl, five_below HM.out.bel _ _ _ _ 9, _, _, _, _, 9, five_tab HM.out.tab _ _ _ _ 9, five_err HM.out.err _ _ _ _ 9, ?_⟩
      unfold MKF
      rw [HMK.out]
      exact ⟨rfl, rfl, rfl, rfl, rfl⟩
    · have t1 : (((pre.length : Nat) : Int) == 20000) = false := by rw [beq_eq_false_iff_ne]; omega
      have hi : pre.length < 20000 := by omega
      have p0 := cell_of_blk hm.box 0
      have p1 := cell_of_blk hm.box 1
      have p2 := cell_of_blk hm.box 2
      simp only [List.getElem?_toArray, List.getElem?_cons_succ, List.getElem?_cons_zero] at p0 p1 p2
      have hgs := grown_set W w1.heap.size 0 (.int .i64 ((pre.length : Int) + 1))
      have hbW : Below w.heap.size w (W.setCell ⟨w1.heap.size, 0, none⟩ (.int .i64 ((pre.length : Int) + 1))) := hm.bel.setCell (p := ⟨w1.heap.size, 0, none⟩) (by show w.heap.size ≤ w1.heap.size; omega) _
      have hrW : RdI (W.setCell ⟨w1.heap.size, 0, none⟩ (.int .i64 ((pre.length : Int) + 1))) (.slice (some ⟨g, 0, none⟩) p.roads.length p.roads.length) ch := Rd.grown hrd hgs (fun q hq => by simp [Value.ownBlock] at hq; subst hq; intro e; injection e with e; omega)
      have v1 : (W.setCell ⟨w1.heap.size, 0, none⟩ (.int .i64 ((pre.length : Int) + 1))).heap[w.heap.size]? = some (.cells _ 38 (0, 0)) := blk_grown hm.box hgs (by simp; omega)
      have v2 : (W.setCell ⟨w1.heap.size, 0, none⟩ (.int .i64 ((pre.length : Int) + 1))).heap[w.heap.size + 1]? = some (.cells _ 45 (0, 0)) := blk_grown hm.tab hgs (by simp; omega)
      have v3 : (W.setCell ⟨w1.heap.size, 0, none⟩ (.int .i64 ((pre.length : Int) + 1))).heap[w.heap.size + 2]? = some (.cells _ 26 (0, 0)) := blk_grown hm.err hgs (by simp; omega)
      have v4 : (W.setCell ⟨w1.heap.size, 0, none⟩ (.int .i64 ((pre.length : Int) + 1))).heap[w1.heap.size]? = some (.cells #[.int .i64 ((pre.length : Int) + 1)] 3 (0, 0)) := (blk_set hm.tri 0 _).trans rfl
      have HK0 : Hid (KeepsOthers W (W.setCell ⟨w1.heap.size, 0, none⟩ (.int .i64 ((pre.length : Int) + 1)))) := Lib.hid (KeepsOthers.setCell _ _ _)
      have HKC : Hid (∀ W5, Below (W.setCell ⟨w1.heap.size, 0, none⟩ (.int .i64 ((pre.length : Int) + 1))).heap.size (W.setCell ⟨w1.heap.size, 0, none⟩ (.int .i64 ((pre.length : Int) + 1))) W5 → KpC w1.heap.size W W5) := Lib.hid (fun W5 hb5 => ⟨Nat.le_trans hgs.size hb5.size, fun k o hk ho _ => blk_below (blk_grown ho hgs (fun e => hk (Option.some.inj e))) hb5⟩)
      have HV1 := Lib.hid v1
      have HV2 := Lib.hid v2
      have HV3 := Lib.hid v3
      have HV4 := Lib.hid v4
      have HBW := Lib.hid hbW
      have HRD := Lib.hid hrW
      have nn1 : w1.heap.size ≠ w.heap.size := by omega
      have q0 := cell_of_blk v1 0
      have q1 := cell_of_blk v1 1
      have q2 := cell_of_blk v1 2
      simp only [List.getElem?_toArray, List.getElem?_cons_succ, List.getElem?_cons_zero] at q0 q1 q2
      have HNT := Lib.hid hnt
      have HBAD := Lib.hid hbad
      clear hm hrd hgs hbW hrW v1 v2 v3 v4 h3 h4 hch hnt hbad h2
      cases hg : goodC p ch
      · have hdu := dues_badf p HP.out h8 ch HCH.out Ar cr (some ⟨g, 0, none⟩) p.roads.length (W.setCell ⟨w1.heap.size, 0, none⟩ (.int .i64 ((pre.length : Int) + 1))) (RdW.below HR.out HBW.out) HRD.out hg
        have HDU := Lib.hid hdu
        have HGD := Lib.hid hg
        clear hdu hg hmk
        gi_wp2_with fail
        refine ⟨trivial, (CallsIn.inRound l (callsIn_wide.2 HDU.out)).mono ?_⟩
        rintro e w5 ⟨rfl, hb5⟩
        have HB5 := Lib.hid hb5
        clear hb5 HDU
        gi_wp2
        refine ⟨HK0.out.trans (below_others HB5.out), HKC.out w5 HB5.out, by rw [HPL.out]; omega, ?_, ?_⟩
        · rw [HPL.out]
          exact badTo_succ HBAD.out HNT.out HGD.out
        · rw [HPL.out]
          exact ⟨blk_below HV1.out HB5.out, blk_below HV2.out HB5.out, blk_below HV3.out HB5.out, (blk_below HV4.out HB5.out).trans (by simp), below_then HBW.out HBW.out.size HB5.out⟩
      · have hmk2 : mk p = .ok ch := by
          rw [hmk, show 20000 - pre.length = (20000 - pre.length - 1) + 1 by omega]
          simp only [makeF]
          rw [hg, if_pos rfl]
        have HMK := Lib.hid hmk2
        have hdu := dues_goodf p HP.out h8 ch HCH.out Ar cr (some ⟨g, 0, none⟩) p.roads.length (W.setCell ⟨w1.heap.size, 0, none⟩ (.int .i64 ((pre.length : Int) + 1))) (RdW.below HR.out HBW.out) HRD.out hg
        have HDU := Lib.hid hdu
        clear hdu hg hmk hmk2
        gi_wp2_with fail
        refine ⟨trivial, (CallsIn.inRound l (callsIn_wide.2 HDU.out)).mono ?_⟩
        rintro e w5 ⟨gd, cd, rfl, hrd5, hgd5, hb5⟩
        have HGD : Hid (w.heap.size ≤ gd) := Lib.hid (Nat.le_trans HBW.out.size hgd5)
        clear hgd5
        have hdl : ((dueSt p ch).ts.drop 1).length = p.roads.length + 1 := by
          rw [List.length_drop, show (dueSt p ch).ts.length = p.roads.length + 2 from rounds_len _ (by simp)]
          omega
        have hb5' := below_then HBW.out HBW.out.size hb5
        have hcl := HCH.out.1
        have hta := tabled67f p HP.out ch Ar cr (some ⟨g, 0, none⟩) p.roads.length ((dueSt p ch).ts.drop 1) (some ⟨gd, 1, none⟩) cd w5 (RdW.below HR.out hb5') (by rw [hcl]; exact Rd.below HRD.out hb5) (by rw [hdl]; exact hrd5) (by omega) (by rw [hdl]; omega) (due_bd p HP.out h8 ch)
        rw [hdl, hcl] at hta
        have v1 := blk_below HV1.out hb5
        have v2 := blk_below HV2.out hb5
        have v3 := blk_below HV3.out hb5
        have q0 := cell_of_blk v1 0
        have q1 := cell_of_blk v1 1
        have q2 := cell_of_blk v1 2
        simp only [List.getElem?_toArray, List.getElem?_cons_succ, List.getElem?_cons_zero] at q0 q1 q2
        have HK5 : Hid (KeepsOthers W w5) := Lib.hid (HK0.out.trans (below_others hb5))
        have HTA := Lib.hid hta
        have HB5 := Lib.hid hb5'
        have HV2' := Lib.hid v2
        have HV3' := Lib.hid v3
        clear hta v1 v2 v3 hb5 hb5' hrd5 HDU HRD HV1 HV2 HV3 HBW hdl hcl
        gi_wp2_with fail
        refine ⟨trivial, (CallsIn.inRound l (callsIn_wide.2 HTA.out)).mono ?_⟩
        rintro e w6 ⟨vc, vo, vch, rfl, r1, r2, r3, r4, hb6, f1, f2, f3⟩
        have y2 := blk_below HV2'.out hb6
        have y3 := blk_below HV3'.out hb6
        have z0 := cell_of_blk y2 0
        have z1 := cell_of_blk y2 1
        have z2 := cell_of_blk y2 2
        have z3 := cell_of_blk y2 3
        have z4 := cell_of_blk y3 0
        have zf := frozen_of_blk y2
        have zg := frozen_of_blk y3 0
        simp only [List.getElem?_toArray, List.getElem?_cons_succ, List.getElem?_cons_zero] at z0 z1 z2 z3 z4
        obtain ⟨Ac, lc, cc, rfl⟩ : ∃ A l c, vc = .slice A l c := by obtain ⟨A, c, h, _⟩ := RdR.form r1; exact ⟨_, _, _, h⟩
        obtain ⟨Ao, lo, co, rfl⟩ : ∃ A l c, vo = .slice A l c := by obtain ⟨A, c, h, _⟩ := RdR.form r2; exact ⟨_, _, _, h⟩
        obtain ⟨Ah, lh, ch', rfl⟩ : ∃ A l c, vch = .slice A l c := by obtain ⟨A, c, h, _⟩ := RdR.form r3; exact ⟨_, _, _, h⟩
        have HK6 : Hid (KeepsOthers W w6) := Lib.hid (HK5.out.trans (below_others hb6))
        have HB6 := Lib.hid (below_then HB5.out HB5.out.size hb6)
        have HY2 := Lib.hid y2
        have HY3 := Lib.hid y3
        have HF1 := Lib.hid f1
        have HF2 := Lib.hid f2
        have HF3 := Lib.hid f3
        have HR1 := Lib.hid r1
        have HR2 := Lib.hid r2
        have HR3 := Lib.hid r3
        have HR4 := Lib.hid r4
        clear f1 f2 f3 y2 y3 r1 r2 r3 r4 hb6 HTA q0 q1 q2
        gi_wp2_with fail
        refine ⟨HK6.out.trans (five_keeps _ _ _ _ _ _ 0), rfl, five_below HB6.out _ _ _ _ 0, _, _, _, _, 0, five_tab HY2.out _ _ _ _ 0, five_err HY3.out _ _ _ _ 0, ?_⟩
        unfold MKF
        rw [HMK.out]
        exact ⟨⟨five_rd HR4.out HY2.out HY3.out _ _ _ _, five_rd HR1.out HY2.out HY3.out _ _ _ _, five_rd HR2.out HY2.out HY3.out _ _ _ _, five_rd HR3.out HY2.out HY3.out _ _ _ _⟩, rfl, fun q hq => (by have := HGD.out; simp [Value.ownBlock] at hq; omega), fun q hq => Nat.le_trans HB5.out.size (HF1.out q hq), fun q hq => Nat.le_trans HB5.out.size (HF2.out q hq), fun q hq => Nat.le_trans HB5.out.size (HF3.out q hq)⟩
  case done =>
    rintro D ys W hD hf ⟨h0, h1, hm⟩ hK
    have hmk := (make_at ys.length h0 h1).2 hf
    have h3 := HS1.out
    have h4 := HSZ.out
    have z0 := cell_of_blk hm.tab 0
    have z1 := cell_of_blk hm.tab 1
    have z2 := cell_of_blk hm.tab 2
    have z3 := cell_of_blk hm.tab 3
    have z4 := cell_of_blk hm.err 0
    have zf := frozen_of_blk hm.tab
    have zg := frozen_of_blk hm.err 0
    simp only [List.getElem?_toArray, List.getElem?_cons_succ, List.getElem?_cons_zero] at z0 z1 z2 z3 z4
    have HM := Lib.hid hm
    have HMK := Lib.hid hmk
    have HK := Lib.hid hK
    clear hmk hm h1 hf hK
    gi_wp2_with fail
    have hk' := five_other HK.out (B := w.heap.size) (by omega) (by omega) (.slice none 0 0) (.slice none 0 0) (.slice none 0 0) (.slice none 0 0) 5
    have f1 := five_tab HM.out.tab (.slice none 0 0) (.slice none 0 0) (.slice none 0 0) (.slice none 0 0) 5
    have f2 := five_err HM.out.err (.slice none 0 0) (.slice none 0 0) (.slice none 0 0) (.slice none 0 0) 5
    have hb := five_below HM.out.bel (.slice none 0 0) (.slice none 0 0) (.slice none 0 0) (.slice none 0 0) 5
    change bodyPostM _ _ _ _ _ _ _ (fiveW W w.heap.size (.slice none 0 0) (.slice none 0 0) (.slice none 0 0) (.slice none 0 0) 5)
    generalize fiveW W w.heap.size (.slice none 0 0) (.slice none 0 0) (.slice none 0 0) (.slice none 0 0) 5 = wf at *
    refine ⟨by simp, .inl ⟨_, _, rfl, run_takeDeferred hk', ?_⟩⟩
    have hr2 : ∀ r, some D = some r → ∃ o : Obj, wf.heap[r]? = some o ∧ o.isCells = false := fun r e => by injection e with e; subst e; exact ⟨_, hk', rfl⟩
    have hg := grownBy_putObj' wf D (.deferred none)
    replace f1 := blk_own f1 hg hr2
    replace f2 := blk_own f2 hg hr2
    have f10 := cell_of_blk f1 0
    have f11 := cell_of_blk f1 1
    have f12 := cell_of_blk f1 2
    have f13 := cell_of_blk f1 3
    have f20 := cell_of_blk f2 0
    simp only [List.getElem?_toArray, List.getElem?_cons_succ, List.getElem?_cons_zero] at f10 f11 f12 f13 f20
    refine ⟨.tuple #[.agg #[.slice none 0 0, .slice none 0 0, .slice none 0 0, .slice none 0 0], .int .i64 5], ?_, ⟨_, _, _, _, 5, rfl, ?_⟩, hb.grown hg hb.size (fun k e => by injection e with e; omega)⟩
    · simp [results, Try.results24, go_sem, f10, f11, f12, f13, f20]
    · unfold MKF
      rw [HMK.out]
      exact ⟨rfl, rfl, rfl, rfl, rfl⟩
  case stop =>
    rintro D c pre W hD _ ⟨rfl, hb, hf⟩ hK
    gi_wp2
    refine ⟨by simp, .inl ⟨_, _, rfl, run_takeDeferred hK, ?_⟩⟩
    have h3 := HS1.out
    have h4 := HSZ.out
    have hr2 : ∀ r, some D = some r → ∃ o : Obj, W.heap[r]? = some o ∧ o.isCells = false := fun r e => by injection e with e; subst e; exact ⟨_, hK, rfl⟩
    have hg := grownBy_putObj' W D (.deferred none)
    obtain ⟨vd, vc, vo, vch, er, e1, e2, hmk⟩ := hf
    have f1 := blk_own e1 hg hr2
    have f2 := blk_own e2 hg hr2
    have f10 := cell_of_blk f1 0
    have f11 := cell_of_blk f1 1
    have f12 := cell_of_blk f1 2
    have f13 := cell_of_blk f1 3
    have f20 := cell_of_blk f2 0
    simp only [List.getElem?_toArray, List.getElem?_cons_succ, List.getElem?_cons_zero] at f10 f11 f12 f13 f20
    refine ⟨.tuple #[.agg #[vd, vc, vo, vch], .int .i64 er], ?_, ⟨vd, vc, vo, vch, er, rfl, hmk.own hg hr2⟩, hb.grown hg hb.size (fun k e => by injection e with e; omega)⟩
    simp [results, Try.results24, go_sem, f10, f11, f12, f13, f20]
end Go.Proofs.Ytpknonebnipcgaa.Tf
