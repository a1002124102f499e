import Derived.Test.YtpknonebnipcgaaProg
import Derived.WalkKit
import Derived.KernelRfl
import Derived.Deep.LoopGhost
import Derived.Deep.QuietTactic
import Derived.BigQuiet
import Derived.Deep.DeepCutAuto
import Derived.Deep.CutBlock
import Derived.Deep.RegionHeld3
import Derived.WalkLawsBesides
import Derived.WalkSpells
import Derived.Outline
import Derived.Deep.DeepFit
import Derived.Lib.Hide
import Derived.Shelf.Abstract
import Derived.Test.YtpknonebnipcgaaMt
import Derived.Test.YtpknonebnipcgaaU
import Derived.Test.YtpknonebnipcgaaW

namespace Go.Proofs.Ytpknonebnipcgaa.Zf
open Go.RowKit Go.Shelf Go.Proofs.Ytpknonebnipcgaa.V Go.Proofs.Ytpknonebnipcgaa.A Go.Proofs.Ytpknonebnipcgaa.B Go.Proofs.Ytpknonebnipcgaa.C Go.Proofs.Ytpknonebnipcgaa.P Go.Proofs.Ytpknonebnipcgaa.D Go.Proofs.Ytpknonebnipcgaa.E Go.Proofs.Ytpknonebnipcgaa.G Go.Proofs.Ytpknonebnipcgaa.H Go.Proofs.Ytpknonebnipcgaa.I Go.Proofs.Ytpknonebnipcgaa.J Go.Proofs.Ytpknonebnipcgaa.K Go.Proofs.Ytpknonebnipcgaa.L Go.Proofs.Ytpknonebnipcgaa.M Go.Proofs.Ytpknonebnipcgaa.N Go.Proofs.Ytpknonebnipcgaa.O Go.Proofs.Ytpknonebnipcgaa.Sp Go.Proofs.Ytpknonebnipcgaa.T Go.Proofs.Ytpknonebnipcgaa.Tg Go.Proofs.Ytpknonebnipcgaa.Tf Go.Proofs.Ytpknonebnipcgaa.Fa Go.Proofs.Ytpknonebnipcgaa.Fb Go.Proofs.Ytpknonebnipcgaa.Pm Go.Proofs.Ytpknonebnipcgaa.Mt Go.Proofs.Ytpknonebnipcgaa.U Go.Proofs.Ytpknonebnipcgaa.W
set_option linter.unusedVariables false
set_option linter.unusedSimpArgs false

/-- the law's variables: the plan's box, the plan as it was, the two tables -/
structure FB (w : World) (n5 n6 n8 : Nat) (cars first first' : Int) (vr vd vc vo vch ud uc uo uch : Value) (W : World) : Prop where
  box : W.heap[w.heap.size]? = some (.cells #[.int .i64 cars, .int .i64 first', vr] 38 (0, 0))
  old : W.heap[n5]? = some (.cells #[.int .i64 cars, .int .i64 first, vr] 38 (0, 0))
  tab : W.heap[n6]? = some (.cells #[vd, vc, vo, vch] 45 (0, 0))
  tab' : W.heap[n8]? = some (.cells #[ud, uc, uo, uch] 45 (0, 0))
  bel : Below w.heap.size w W
theorem FB.below {w : World} {n5 n6 n8 : Nat} {cars first first' : Int} {vr vd vc vo vch ud uc uo uch : Value} {W W' : World} (h : FB w n5 n6 n8 cars first first' vr vd vc vo vch ud uc uo uch W) (hb : Below W.heap.size W W') : FB w n5 n6 n8 cars first first' vr vd vc vo vch ud uc uo uch W' :=
  ⟨blk_below h.box hb, blk_below h.old hb, blk_below h.tab hb, blk_below h.tab' hb, below_then h.bel h.bel.size hb⟩
theorem FB.cells {w : World} {n5 n6 n8 : Nat} {cars first first' : Int} {vr vd vc vo vch ud uc uo uch : Value} {W : World} (h : FB w n5 n6 n8 cars first first' vr vd vc vo vch ud uc uo uch W) :
    W.cell? ⟨w.heap.size, 0, none⟩ = some (.int .i64 cars) ∧ W.cell? ⟨w.heap.size, 1, none⟩ = some (.int .i64 first') ∧ W.cell? ⟨w.heap.size, 2, none⟩ = some vr ∧
    W.cell? ⟨n5, 0, none⟩ = some (.int .i64 cars) ∧ W.cell? ⟨n5, 1, none⟩ = some (.int .i64 first) ∧ W.cell? ⟨n5, 2, none⟩ = some vr ∧
    W.cell? ⟨n6, 0, none⟩ = some vd ∧ W.cell? ⟨n6, 1, none⟩ = some vc ∧ W.cell? ⟨n6, 2, none⟩ = some vo ∧ W.cell? ⟨n6, 3, none⟩ = some vch ∧
    W.cell? ⟨n8, 0, none⟩ = some ud ∧ W.cell? ⟨n8, 1, none⟩ = some uc ∧ W.cell? ⟨n8, 2, none⟩ = some uo ∧ W.cell? ⟨n8, 3, none⟩ = some uch :=
  ⟨(cell_of_blk h.box 0).trans rfl, (cell_of_blk h.box 1).trans rfl, (cell_of_blk h.box 2).trans rfl, (cell_of_blk h.old 0).trans rfl, (cell_of_blk h.old 1).trans rfl, (cell_of_blk h.old 2).trans rfl, (cell_of_blk h.tab 0).trans rfl, (cell_of_blk h.tab 1).trans rfl, (cell_of_blk h.tab 2).trans rfl, (cell_of_blk h.tab 3).trans rfl, (cell_of_blk h.tab' 0).trans rfl, (cell_of_blk h.tab' 1).trans rfl, (cell_of_blk h.tab' 2).trans rfl, (cell_of_blk h.tab' 3).trans rfl⟩

theorem _root_.Go.Proofs.Ytpknonebnipcgaa.Mt.TabIn.zero {t : TabT} {B : Nat} {W : World} {A0 A1 A2 A3 : Option Addr} {c0 c1 c2 c3 : Nat} (h : TabIn t B W A0 A1 A2 A3 c0 c1 c2 c3) : TabIn t 0 W A0 A1 A2 A3 c0 c1 c2 c3 := ⟨h.r0, h.r1, h.r2, h.r3, fun _ _ => Nat.zero_le _, fun _ _ => Nat.zero_le _, fun _ _ => Nat.zero_le _, fun _ _ => Nat.zero_le _⟩

theorem later_len (p : PlanT) (more : Int) : (later p more).roads = p.roads := rfl

set_option maxRecDepth 100000 in
set_option maxHeartbeats 8000000 in
theorem first5 (p : PlanT) (more : Int) (Ar : Option Addr) (cr : Nat) (w : World) (hR : RdW w (.slice Ar p.roads.length cr) p.roads) :
    Calls Try.prog 5 #[.agg #[.int .i64 p.cars, .int .i64 p.first, .slice Ar p.roads.length cr], .int .i64 more] w fun e w' => e = .returned (.bool true) ∧ Below w.heap.size w w' := by
  have hll := (RdR.len hR).2
  have HR := Lib.hid hR
  have hS := fun W hb => small26 p Ar cr W (RdW.below hR hb)
  have hL := fun W hb => plan27 p Ar cr W (RdW.below hR hb)
  have HS := Lib.hid hS
  have HPL := Lib.hid hL
  have hb1 := below_al (below_rf w) (.cells #[.int .i64 p.cars, .int .i64 p.first, .slice Ar p.roads.length cr] 38)
  have a1 := blk_new w (.cells #[.int .i64 p.cars, .int .i64 p.first, .slice Ar p.roads.length cr] 38)
  have HB1 := Lib.hid hb1
  have HA1 := Lib.hid a1
  clear hR hS hL hb1 a1
  go_enter Try.func5, Try.ntmps5
  go_wp2_with fail
  refine (HS.out _ HB1.out).mono ?_
  rintro e w2 ⟨rfl, hb2⟩
  have b2 := blk_below HA1.out hb2
  have HB2 := Lib.hid (below_then HB1.out HB1.out.size hb2)
  have HA2 := Lib.hid b2
  have p0 := cell_of_blk b2 0
  have p1 := cell_of_blk b2 1
  have p2 := cell_of_blk b2 2
  simp only [List.getElem?_toArray, List.getElem?_cons_succ, List.getElem?_cons_zero] at p0 p1 p2
  have HSM : Hid (smallB p = smallB p) := Lib.hid rfl
  clear b2 hb2 HB1 HA1 HS
  cases hs : smallB p
  case false =>
    go_wp2_with (go_at_call 17; refine (known17 _).mono ?_; rintro e w9 ⟨rfl, hb9⟩)
    go_ret
    exact ⟨rfl, below_then HB2.out HB2.out.size hb9⟩
  have h8 : p.roads.length ≤ 8 := by
    unfold smallB at hs
    simp only [Bool.and_eq_true, Bool.not_eq_true', decide_eq_false_iff_not] at hs
    omega
  clear hs HSM
  go_wp2_with fail
  refine (HPL.out _ HB2.out).mono ?_
  rintro e w3 ⟨rfl, hb3⟩
  have b3 := blk_below HA2.out hb3
  have HB3 := Lib.hid (below_then HB2.out HB2.out.size hb3)
  have HA3 := Lib.hid b3
  clear p0 p1 p2
  have p0 := cell_of_blk b3 0
  have p1 := cell_of_blk b3 1
  have p2 := cell_of_blk b3 2
  simp only [List.getElem?_toArray, List.getElem?_cons_succ, List.getElem?_cons_zero] at p0 p1 p2
  clear b3 hb3 HB2 HA2 HPL
  cases hok : okPlan p
  case false =>
    go_wp2_with (go_at_call 17; refine (known17 _).mono ?_; rintro e w9 ⟨rfl, hb9⟩)
    go_ret
    exact ⟨rfl, below_then HB3.out HB3.out.size hb9⟩
  obtain ⟨hP, _⟩ := okPlan_out hok
  obtain ⟨hf0, hf1⟩ := hP.first
  have HOK := Lib.hid hok
  have HP := Lib.hid hP
  clear hok hP
  cases d1 : decide (more < 0)
  case true =>
    go_wp2_with (go_at_call 17; refine (known17 _).mono ?_; rintro e w9 ⟨rfl, hb9⟩)
    go_ret
    exact ⟨rfl, below_then HB3.out HB3.out.size hb9⟩
  cases d2 : decide ((1000 : Int) < more)
  case true =>
    go_wp2_with (go_at_call 17; refine (known17 _).mono ?_; rintro e w9 ⟨rfl, hb9⟩)
    go_ret
    exact ⟨rfl, below_then HB3.out HB3.out.size hb9⟩
  have hm0 : 0 ≤ more := by have := of_decide_eq_false d1; omega
  have hm1 : more ≤ 1000 := by have := of_decide_eq_false d2; omega
  have hwr : IntKind.i64.wrap (p.first + more) = p.first + more := by simp only [IntKind.wrap_i64]; omega
  cases d3 : decide ((100000 : Int) < p.first + more)
  case true =>
    go_wp2_with (go_at_call 17; refine (known17 _).mono ?_; rintro e w9 ⟨rfl, hb9⟩)
    go_ret
    exact ⟨rfl, below_then HB3.out HB3.out.size hb9⟩
  have hm2 : p.first + more ≤ 100000 := by have := of_decide_eq_false d3; omega
  have hok' := later_ok HOK.out hm0 hm2
  have HOK' := Lib.hid hok'
  have HM := Lib.hid (fun W hb => make_tab p HOK.out h8 Ar cr W (RdW.below HR.out hb))
  have HM' : Hid (∀ W, Below w.heap.size w W → Calls Try.prog 24 #[.agg #[.int .i64 p.cars, .int .i64 (p.first + more), .slice Ar p.roads.length cr]] W fun e w' => (∃ vd vc vo vch er, e = .returned (.tuple #[.agg #[vd, vc, vo, vch], .int .i64 er]) ∧ TabPost (later p more) W.heap.size w' vd vc vo vch er) ∧ Below W.heap.size W w') := Lib.hid (fun W hb => make_tab (later p more) hok' h8 Ar cr W (RdW.below HR.out hb))
  have HB4 := Lib.hid (below_al HB3.out (.cells #[.int .i64 p.cars, .int .i64 p.first, .slice Ar p.roads.length cr] 38))
  have a4 := blk_alloc HA3.out (.cells #[.int .i64 p.cars, .int .i64 p.first, .slice Ar p.roads.length cr] 38)
  have HA4 := Lib.hid a4
  have HO4 := Lib.hid (blk_new w3 (.cells #[.int .i64 p.cars, .int .i64 p.first, .slice Ar p.roads.length cr] 38))
  have q0 := cell_of_blk a4 0
  have q1 := cell_of_blk a4 1
  have q2 := cell_of_blk a4 2
  simp only [List.getElem?_toArray, List.getElem?_cons_succ, List.getElem?_cons_zero] at q0 q1 q2
  have HS4 : Hid (w.heap.size < w3.heap.size) := Lib.hid (blk_lt HA3.out)
  clear hok' a4 HA3
  go_wp2_with fail
  refine (HM.out _ HB4.out).mono ?_
  rintro e w5 ⟨⟨vd, vc, vo, vch, er, rfl, hT⟩, hb5⟩
  have hvs : ∃ A0 l0 c0 A1 l1 c1 A2 l2 c2 A3 l3 c3, vd = .slice A0 l0 c0 ∧ vc = .slice A1 l1 c1 ∧ vo = .slice A2 l2 c2 ∧ vch = .slice A3 l3 c3 := by
    rcases hT with ⟨ch, A0, A1, A2, A3, c0, c1, c2, c3, _, _, rfl, rfl, rfl, rfl, _⟩ | ⟨_, rfl, rfl, rfl, rfl⟩
    · exact ⟨_, _, _, _, _, _, _, _, _, _, _, _, rfl, rfl, rfl, rfl⟩
    · exact ⟨_, _, _, _, _, _, _, _, _, _, _, _, rfl, rfl, rfl, rfl⟩
  obtain ⟨D0, n0, k0, D1, n1, k1, D2, n2, k2, D3, n3, k3, rfl, rfl, rfl, rfl⟩ := hvs
  have HT := Lib.hid hT
  have a5 := blk_below HA4.out hb5
  have HO5 := Lib.hid (blk_below HO4.out hb5)
  have HB5 := Lib.hid (below_then HB4.out HB4.out.size hb5)
  have HS5 : Hid (w3.heap.size < w5.heap.size) := Lib.hid (blk_lt HO5.out)
  have HFR : Hid (w.heap.size < (w3.alloc (.cells #[.int .i64 p.cars, .int .i64 p.first, .slice Ar p.roads.length cr] 38)).heap.size) := Lib.hid (by have := HS4.out; simp; omega)
  have a6 := blk_alloc a5 (.cells #[.slice D0 n0 k0, .slice D1 n1 k1, .slice D2 n2 k2, .slice D3 n3 k3] 45)
  have HA6 := Lib.hid a6
  have HBX6 := Lib.hid (below_al HB5.out (.cells #[.slice D0 n0 k0, .slice D1 n1 k1, .slice D2 n2 k2, .slice D3 n3 k3] 45))
  have HOX6 := Lib.hid (blk_alloc HO5.out (.cells #[.slice D0 n0 k0, .slice D1 n1 k1, .slice D2 n2 k2, .slice D3 n3 k3] 45))
  have HT6 := Lib.hid (blk_new w5 (.cells #[.slice D0 n0 k0, .slice D1 n1 k1, .slice D2 n2 k2, .slice D3 n3 k3] 45))
  have r0 := cell_of_blk a6 0
  have r1 := cell_of_blk a6 1
  have r2 := cell_of_blk a6 2
  have rf := frozen_of_blk a6 1
  simp only [List.getElem?_toArray, List.getElem?_cons_succ, List.getElem?_cons_zero] at r0 r1 r2
  have HB6 : Hid (Below w.heap.size w ((w5.alloc (.cells #[.slice D0 n0 k0, .slice D1 n1 k1, .slice D2 n2 k2, .slice D3 n3 k3] 45)).setCell ⟨w.heap.size, 1, none⟩ (.int .i64 (p.first + more)))) := Lib.hid (HBX6.out.setCell (p := ⟨w.heap.size, 1, none⟩) (Nat.le_refl _) _)
  clear hT hb5 a5 a6 HM HA4 HO4 HB4 HB3 p0 p1 p2 q0 q1 q2 d1 d2 d3
  go_wp2_with fail
  refine (HM'.out _ HB6.out).mono ?_
  rintro e w7 ⟨⟨vd, vc, vo, vch, er', rfl, hT'⟩, hb7⟩
  have hvs : ∃ A0 l0 c0 A1 l1 c1 A2 l2 c2 A3 l3 c3, vd = .slice A0 l0 c0 ∧ vc = .slice A1 l1 c1 ∧ vo = .slice A2 l2 c2 ∧ vch = .slice A3 l3 c3 := by
    rcases hT' with ⟨ch, A0, A1, A2, A3, c0, c1, c2, c3, _, _, rfl, rfl, rfl, rfl, _⟩ | ⟨_, rfl, rfl, rfl, rfl⟩
    · exact ⟨_, _, _, _, _, _, _, _, _, _, _, _, rfl, rfl, rfl, rfl⟩
    · exact ⟨_, _, _, _, _, _, _, _, _, _, _, _, rfl, rfl, rfl, rfl⟩
  obtain ⟨U0, m0, l0, U1, m1, l1, U2, m2, l2, U3, m3, l3, rfl, rfl, rfl, rfl⟩ := hvs
  have hfb : FB w w3.heap.size w5.heap.size w7.heap.size p.cars p.first (p.first + more) (.slice Ar p.roads.length cr) (.slice D0 n0 k0) (.slice D1 n1 k1) (.slice D2 n2 k2) (.slice D3 n3 k3) (.slice U0 m0 l0) (.slice U1 m1 l1) (.slice U2 m2 l2) (.slice U3 m3 l3) (w7.alloc (.cells #[.slice U0 m0 l0, .slice U1 m1 l1, .slice U2 m2 l2, .slice U3 m3 l3] 45)) := by
    have h4 := HS4.out
    have h5 := HS5.out
    refine ⟨blk_alloc (blk_below ((blk_set HA6.out 1 (.int .i64 (p.first + more))).trans rfl) hb7) _, blk_alloc (blk_below (blk_grown HOX6.out (grown_set _ w.heap.size 1 (.int .i64 (p.first + more))) (fun e => by injection e with e; omega)) hb7) _, blk_alloc (blk_below (blk_grown HT6.out (grown_set _ w.heap.size 1 (.int .i64 (p.first + more))) (fun e => by injection e with e; omega)) hb7) _, blk_new w7 _, below_al (below_then HB6.out HB6.out.size hb7) _⟩
  have HFB := Lib.hid hfb
  have HTU := Lib.hid hT'
  have HTT : Hid (∀ (t : TabT) (A0 A1 A2 A3 : Option Addr) (c0 c1 c2 c3 : Nat), TabIn t (w3.alloc (.cells #[.int .i64 p.cars, .int .i64 p.first, .slice Ar p.roads.length cr] 38)).heap.size w5 A0 A1 A2 A3 c0 c1 c2 c3 → TabIn t 0 (w7.alloc (.cells #[.slice U0 m0 l0, .slice U1 m1 l1, .slice U2 m2 l2, .slice U3 m3 l3] 45)) A0 A1 A2 A3 c0 c1 c2 c3) := Lib.hid (fun t A0 A1 A2 A3 c0 c1 c2 c3 h => (((((h.below (below_al (below_rf w5) (.cells #[.slice D0 n0 k0, .slice D1 n1 k1, .slice D2 n2 k2, .slice D3 n3 k3] 45))).grown (grown_set _ w.heap.size 1 (.int .i64 (p.first + more))) HFR.out).below hb7).below (below_al (below_rf w7) _)).zero))
  obtain ⟨x0, x1, x2, x3, x4, x5, x6, x7, x8, x9, y0, y1, y2, y3⟩ := hfb.cells
  have HF1 := Lib.hid (fun ch (hk : mk p = .ok ch) A0 A1 A2 A3 c0 c1 c2 c3 W (hb : Below w.heap.size w W) (hT : TabIn (tabOf p ch) 0 W A0 A1 A2 A3 c0 c1 c2 c3) => fits_mk p HOK.out h8 hk Ar cr (RdW.below HR.out hb) hT)
  have HF2 : Hid (∀ ch (hk : mk (later p more) = .ok ch) A0 A1 A2 A3 c0 c1 c2 c3 W (hb : Below w.heap.size w W) (hT : TabIn (tabOf (later p more) ch) 0 W A0 A1 A2 A3 c0 c1 c2 c3), Calls Try.prog 28 #[.agg #[.int .i64 p.cars, .int .i64 (p.first + more), .slice Ar p.roads.length cr], .agg #[.slice A0 (tabOf (later p more) ch).dues.length c0, .slice A1 (tabOf (later p more) ch).closed.length c1, .slice A2 (tabOf (later p more) ch).opened.length c2, .slice A3 (tabOf (later p more) ch).choice.length c3]] W fun e w' => e = .returned (.bool true) ∧ Below W.heap.size W w') := Lib.hid (fun ch hk A0 A1 A2 A3 c0 c1 c2 c3 W hb hT => fits_mk (later p more) HOK'.out h8 hk Ar cr (RdW.below HR.out hb) hT)
  clear hfb hT' hb7 HM' HB6 HT6 HOX6 HBX6 HA6 HFR HS5 HB5 HO5 r0 r1 r2 rf HR
  rcases HT.out with ⟨ch, A0, A1, A2, A3, c0, c1, c2, c3, hk, rfl, e0, e1, e2, e3, ti⟩ | ⟨he, -⟩
  case inr =>
    have g1 : (er == 0) = false := by rcases he with rfl | rfl <;> rfl
    have g2 : (er != 0) = true := by rcases he with rfl | rfl <;> rfl
    clear HT HTT HF1 he
    rcases HTU.out with ⟨ch, A0, A1, A2, A3, c0, c1, c2, c3, hk, rfl, e0, e1, e2, e3, ti⟩ | ⟨he, -⟩
    case inr =>
      have g3 : (er' == 0) = false := by rcases he with rfl | rfl <;> rfl
      clear he HF2 HTU
      go_wp2_with (go_at_call 17; refine (known17 _).mono ?_; rintro e w9 ⟨rfl, hb9⟩)
      go_ret
      exact ⟨rfl, below_then HFB.out.bel HFB.out.bel.size hb9⟩
    case inl =>
      injection e0 with t1 t2 t3
      subst t1 t2 t3
      injection e1 with t1 t2 t3
      subst t1 t2 t3
      injection e2 with t1 t2 t3
      subst t1 t2 t3
      injection e3 with t1 t2 t3
      subst t1 t2 t3
      have HC2 := Lib.hid (HF2.out ch hk _ _ _ _ _ _ _ _ _ HFB.out.bel ((ti.below (below_al (below_rf w7) _)).zero))
      clear HF2 HTU ti hk
      go_wp2_with fail
      refine HC2.out.mono ?_
      rintro e w9 ⟨rfl, hb9⟩
      have HB9 := Lib.hid (below_then HFB.out.bel HFB.out.bel.size hb9)
      clear HC2 hb9
      go_wp2_with (go_at_call 17; refine (known17 _).mono ?_; rintro e w10 ⟨rfl, hb10⟩)
      go_ret
      exact ⟨rfl, below_then HB9.out HB9.out.size hb10⟩
  case inl =>
    injection e0 with t1 t2 t3
    subst t1 t2 t3
    injection e1 with t1 t2 t3
    subst t1 t2 t3
    injection e2 with t1 t2 t3
    subst t1 t2 t3
    injection e3 with t1 t2 t3
    subst t1 t2 t3
    have hti := HTT.out _ _ _ _ _ _ _ _ _ ti
    have HTI := Lib.hid hti
    have HC1 := Lib.hid (HF1.out ch hk _ _ _ _ _ _ _ _ _ HFB.out.bel hti)
    have HK := Lib.hid hk
    clear HF1 HT HTT ti hti hk
    go_wp2_with fail
    refine HC1.out.mono ?_
    rintro e w9 ⟨rfl, hb9⟩
    have hfb9 := HFB.out.below hb9
    have HFB9 := Lib.hid hfb9
    have HTI9 := Lib.hid (HTI.out.below hb9)
    clear HC1 x0 x1 x2 x3 x4 x5 x6 x7 x8 x9 y0 y1 y2 y3
    obtain ⟨x0, x1, x2, x3, x4, x5, x6, x7, x8, x9, y0, y1, y2, y3⟩ := hfb9.cells
    rcases HTU.out with ⟨ch', B0, B1, B2, B3, d0, d1, d2, d3, hk', rfl, e0, e1, e2, e3, ti⟩ | ⟨he, -⟩
    case inr =>
      have g3 : (er' == 0) = false := by rcases he with rfl | rfl <;> rfl
      have g4 : (er' != 0) = true := by rcases he with rfl | rfl <;> rfl
      clear he HF2 HTU hb9 hfb9
      go_wp2_with (go_at_call 17; refine (known17 _).mono ?_; rintro e w10 ⟨rfl, hb10⟩)
      go_ret
      exact ⟨rfl, below_then HFB9.out.bel HFB9.out.bel.size hb10⟩
    injection e0 with t1 t2 t3
    subst t1 t2 t3
    injection e1 with t1 t2 t3
    subst t1 t2 t3
    injection e2 with t1 t2 t3
    subst t1 t2 t3
    injection e3 with t1 t2 t3
    subst t1 t2 t3
    have hui := ((ti.below (below_al (below_rf w7) (.cells #[.slice U0 (tabOf (later p more) ch').dues.length l0, .slice U1 (tabOf (later p more) ch').closed.length l1, .slice U2 (tabOf (later p more) ch').opened.length l2, .slice U3 (tabOf (later p more) ch').choice.length l3] 45))).zero).below hb9
    have HUI9 := Lib.hid hui
    have HC2 := Lib.hid (HF2.out ch' hk' _ _ _ _ _ _ _ _ _ HFB9.out.bel hui)
    have HK' := Lib.hid hk'
    clear HF2 HTU ti hk' hui hb9 hfb9 HFB HTI
    go_wp2_with fail
    refine HC2.out.mono ?_
    rintro e wa ⟨rfl, hba⟩
    have hfba := HFB9.out.below hba
    have HFBA := Lib.hid hfba
    have HTIA := Lib.hid (HTI9.out.below hba)
    have HUIA := Lib.hid (HUI9.out.below hba)
    clear HC2 x0 x1 x2 x3 x4 x5 x6 x7 x8 x9 y0 y1 y2 y3 HFB9 HTI9 HUI9 hba
    obtain ⟨x0, x1, x2, x3, x4, x5, x6, x7, x8, x9, y0, y1, y2, y3⟩ := hfba.cells
    have HSM := Lib.hid (same22 D3 U3 k3 l3 (tabOf p ch).choice (tabOf (later p more) ch').choice wa HTIA.out.r3 HUIA.out.r3)
    have HEQ : Hid (decide ((tabOf p ch).choice = (tabOf (later p more) ch').choice) = true → ch = ch') := Lib.hid (fun h => of_decide_eq_true h)
    clear hfba
    go_wp2_with fail
    refine HSM.out.mono ?_
    rintro e wb ⟨rfl, hbb⟩
    have hfbb := HFBA.out.below hbb
    have HFBB := Lib.hid hfbb
    have HTIB := Lib.hid (HTIA.out.below hbb)
    have HUIB := Lib.hid (HUIA.out.below hbb)
    clear HSM x0 x1 x2 x3 x4 x5 x6 x7 x8 x9 y0 y1 y2 y3 HFBA HTIA HUIA hbb hfbb
    generalize decide ((tabOf p ch).choice = (tabOf (later p more) ch').choice) = same at *
    cases same
    case false =>
      go_wp2_with (go_at_call 17; refine (known17 _).mono ?_; rintro e w10 ⟨rfl, hb10⟩)
      go_ret
      exact ⟨rfl, below_then HFBB.out.bel HFBB.out.bel.size hb10⟩
    have heq := HEQ.out rfl
    subst heq
    have HLE : Hid (∀ j, j ≤ p.roads.length → (tabOf p ch).dues.getD j 0 ≤ (tabOf (later p more) ch).dues.getD j 0) := Lib.hid (fun j hj => later_le HP.out h8 hm0 (okPlan_out HOK'.out).1 (mk_ok HK.out).2 (mk_ok HK'.out).2 j hj)
    have hl1 := tab_len (p := p) ch
    have hl2 : (tabOf (later p more) ch).dues.length = p.roads.length + 1 := tab_len (p := later p more) ch
    obtain ⟨bt, ot, rfl⟩ : ∃ b o, D0 = some ⟨b, o, none⟩ := by
      obtain ⟨b, o, e, hb, _⟩ := Rd.i HTIB.out.r0 0 _ (getD_get (by omega))
      exact ⟨b, o, e⟩
    obtain ⟨bu, ou, rfl⟩ : ∃ b o, U0 = some ⟨b, o, none⟩ := by
      obtain ⟨b, o, e, hb, _⟩ := Rd.i HUIB.out.r0 0 _ (getD_get (by omega))
      exact ⟨b, o, e⟩
    clear HEQ HK HK' HOK HOK' HP
    generalize (tabOf p ch) = t at *
    generalize (tabOf (later p more) ch) = u at *
    go_wp2_with fail
    go_loopg [10] (p.roads.length + 1) (fun gg s10 wr => ∃ k : Nat, k ≤ p.roads.length + 1 ∧ p.roads.length + 1 - k ≤ gg ∧ s10 = .int .i64 k ∧ Hid (FB w w3.heap.size w5.heap.size w7.heap.size p.cars p.first (p.first + more) (.slice Ar p.roads.length cr) (.slice (some ⟨bt, ot, none⟩) t.dues.length k0) (.slice D1 t.closed.length k1) (.slice D2 t.opened.length k2) (.slice D3 t.choice.length k3) (.slice (some ⟨bu, ou, none⟩) u.dues.length l0) (.slice U1 u.closed.length l1) (.slice U2 u.opened.length l2) (.slice U3 u.choice.length l3) wr) ∧ Hid (RdI wr (.slice (some ⟨bt, ot, none⟩) t.dues.length k0) t.dues) ∧ Hid (RdI wr (.slice (some ⟨bu, ou, none⟩) u.dues.length l0) u.dues))
    case atStart => exact ⟨0, by omega, by omega, rfl, HFBB, Lib.hid HTIB.out.r0, Lib.hid HUIB.out.r0⟩
    case round =>
      obtain ⟨wo, rfl⟩ : ∃ wo : World, wo = wr := ⟨_, rfl⟩
      obtain ⟨k, hk, hgg, rfl, HF, HRT, HRU⟩ := hrel
      obtain ⟨x0, x1, x2, x3, x4, x5, x6, x7, x8, x9, y0, y1, y2, y3⟩ := HF.out.cells
      by_cases hlt : k ≤ p.roads.length
      · obtain ⟨hct, hbt⟩ := rd_at HRT.out (j := k) (by omega)
        obtain ⟨hcu, hbu⟩ := rd_at HRU.out (j := k) (by omega)
        have hle := HLE.out k hlt
        have hk1 : k < t.dues.length := by omega
        have hk2 : k < u.dues.length := by omega
        have hi1 : (k : Int) < (t.dues.length : Int) := by omega
        have hi2 : (k : Int) < (u.dues.length : Int) := by omega
        clear x1 x3 x4 x5 x7 x8 x9 y1 y2 y3
        generalize t.dues.getD k 0 = a at *
        generalize u.dues.getD k 0 = b at *
        have dd : decide (b < a) = false := decide_eq_false (by omega)
        go_wp2_with fail
        go_quiet (fail)
        go_wp2_with fail
        go_roundg (p.roads.length + 1 - (k + 1))
        case measure => omega
        case rel => exact ⟨k + 1, by omega, by omega, by go_num, Lib.hid (HF.out.below (below_drewN (below_rf _) _)), Lib.hid (Rd.below HRT.out (below_drewN (below_rf _) _)), Lib.hid (Rd.below HRU.out (below_drewN (below_rf _) _))⟩
      · obtain rfl : k = p.roads.length + 1 := by omega
        go_wp2_with (go_at_call 17; refine (known17 _).mono ?_; rintro e w10 ⟨rfl, hb10⟩)
        go_ret
        exact ⟨rfl, below_then HF.out.bel HF.out.bel.size hb10⟩
end Go.Proofs.Ytpknonebnipcgaa.Zf
