import Derived.Test.YtpknonebnipcgaaProg
import Derived.WalkKit
import Derived.KernelRfl
import Derived.Deep.LoopGhost
import Derived.Deep.QuietTactic
import Derived.BigQuiet
import Derived.Deep.DeepCutAuto
import Derived.Deep.CutBlock
import Derived.Deep.RegionHeld3
import Derived.WalkLawsBesides
import Derived.WalkSpells
import Derived.Outline
import Derived.Deep.DeepFit
import Derived.Lib.Hide
import Derived.Shelf.Abstract
import Derived.Lib.SliceRun
import Derived.Test.YtpknonebnipcgaaJ

namespace Go.Proofs.Ytpknonebnipcgaa.K
open Go.RowKit Go.Shelf Go.Proofs.Ytpknonebnipcgaa.V Go.Proofs.Ytpknonebnipcgaa.A Go.Proofs.Ytpknonebnipcgaa.B Go.Proofs.Ytpknonebnipcgaa.C Go.Proofs.Ytpknonebnipcgaa.P Go.Proofs.Ytpknonebnipcgaa.D Go.Proofs.Ytpknonebnipcgaa.E Go.Proofs.Ytpknonebnipcgaa.G Go.Proofs.Ytpknonebnipcgaa.H Go.Proofs.Ytpknonebnipcgaa.I Go.Proofs.Ytpknonebnipcgaa.J
set_option linter.unusedVariables false
set_option linter.unusedSimpArgs false

/-- bounds of a road -/
structure WBd (x : WayT) : Prop where
  tar : 1 ≤ x.tar ∧ x.tar ≤ 1000
  lead : 0 ≤ x.lead ∧ x.lead ≤ 600
  lag : 0 ≤ x.lag ∧ x.lag ≤ 600
  gap : 1 ≤ x.gap ∧ x.gap ≤ 60
  wait : 0 ≤ x.wait ∧ x.wait ≤ x.most ∧ x.most ≤ 1000
  hrs : x.hrs.length ≤ 10
  hok : ∀ h ∈ x.hrs, 0 ≤ h.a ∧ h.a ≤ h.b ∧ h.b ≤ 200000 ∧ 0 ≤ h.c ∧ h.c ≤ 200000

theorem okWay_out {x : WayT} {bg : Option Int} (h : okWay x bg = true) : WBd x ∧ midB x bg = true := by
  unfold okWay at h
  simp only [Bool.and_eq_true, inB, decide_eq_true_eq, Bool.not_eq_true', decide_eq_false_iff_not, List.all_eq_true] at h
  obtain ⟨h1, h2, h3, h4, h5, h6, h7, h8, h9⟩ := h
  refine ⟨⟨h1, h2, h3, h4, ⟨h5.1, h6.1, h6.2⟩, by omega, fun y hy => ?_⟩, h8⟩
  have := h9 y hy
  unfold okHr at this
  simp [inB] at this
  omega

/-- bounds of a plan -/
structure PBd (p : PlanT) : Prop where
  cars : 1 ≤ p.cars ∧ p.cars ≤ 200
  len : 1 ≤ p.roads.length ∧ p.roads.length ≤ 60
  first : 0 ≤ p.first ∧ p.first ≤ 100000
  road : ∀ x ∈ p.roads, WBd x

theorem okPlan_out {p : PlanT} (h : okPlan p = true) : PBd p ∧ ∀ j, j < p.roads.length → okAt p.roads j = true := by
  unfold okPlan at h
  simp only [Bool.and_eq_true, inB, decide_eq_true_eq, List.all_eq_true, List.mem_range] at h
  obtain ⟨h1, h2, h3, h4⟩ := h
  refine ⟨⟨h1, by omega, h3, fun x hx => ?_⟩, h4⟩
  obtain ⟨j, hj, rfl⟩ := List.getElem_of_mem hx
  have := h4 j hj
  unfold okAt at this
  rw [List.getD_eq_getElem?_getD, List.getElem?_eq_getElem hj] at this
  exact (okWay_out this).1

theorem PBd.span {p : PlanT} (h : PBd p) {x : WayT} (hx : WBd x) : 0 ≤ (p.cars - 1) * x.gap ∧ (p.cars - 1) * x.gap ≤ 12000 := by
  have h1 := h.cars
  have h2 := hx.gap
  constructor
  · exact Int.mul_nonneg (by omega) (by omega)
  · have : (p.cars - 1) * x.gap ≤ 199 * 60 := Int.mul_le_mul (by omega) (by omega) (by omega) (by omega)
    omega

def busyOf (p : PlanT) (x : WayT) : Int := (p.cars - 1) * x.gap + x.tar + x.lag

set_option maxHeartbeats 1000000 in
theorem busy82 (p : PlanT) (hP : PBd p) (Ar : Option Addr) (cr : Nat) (w : World) (hR : RdW w (.slice Ar p.roads.length cr) p.roads) (j : Nat) (x : WayT) (hx : p.roads[j]? = some x) :
    Calls Try.prog 82 #[.agg #[.int .i64 p.cars, .int .i64 p.first, .slice Ar p.roads.length cr], .int .i64 j] w fun e w' => e = .returned (.int .i64 (busyOf p x)) ∧ Below w.heap.size w w' := by
  have hb := hP.road x (List.mem_of_getElem? hx)
  have hsp := hP.span hb
  obtain ⟨⟨a1, a2⟩, ⟨a3, a4⟩, ⟨a5, a6⟩, ⟨a7, a8⟩, _, _, _⟩ := hb
  obtain ⟨c1, c2⟩ := hP.cars
  obtain ⟨s1, s2⟩ := hsp
  have hj := (List.getElem?_eq_some_iff.1 hx).1
  obtain ⟨b, off, Ah, ch, rfl, hb, hh, d0, d1, d2, d3, d4, d5, d6, d7⟩ := Rd.way hR j _ hx
  have hlen := hP.len
  have hll := (RdR.len hR).2
  unfold busyOf
  obtain ⟨cars, first, roads⟩ := p
  simp only at *
  clear hR hx hP hh
  go_enter Try.func82, Try.ntmps82
  go_wp2
  go_ret
  exact ⟨rfl, ((Below.refl _ _).alloc (Nat.le_refl _) _).alloc (by simp) _⟩

theorem more129 (v : Value) (w : World) : Calls Try.prog 129 #[v] w fun e w' => e = .returned v ∧ w = w' := by
  go_enter Try.func129, Try.ntmps129
  go_wp2
  go_ret
  exact ⟨rfl, rfl⟩
theorem moment130 (x : Int) (h1 : -1000 ≤ x) (h2 : x ≤ 1000) (w : World) : Calls Try.prog 130 #[.int .i64 x] w fun e w' => e = .returned (.int .i64 (1 + x)) ∧ w = w' := by
  go_enter Try.func130, Try.ntmps130
  go_wp2
  go_ret
  exact ⟨rfl, rfl⟩

theorem moment130q (x : Int) (h1 : -1000 ≤ x) (h2 : x ≤ 1000) (w : World) : Calls Try.prog 130 #[.int .i64 x] w fun e w' => e = .returned (.int .i64 (1 + x)) ∧ ∃ n, w' = w.drewN n := (moment130 x h1 h2 w).mono (by rintro e w' ⟨rfl, rfl⟩; exact ⟨rfl, 0, rfl⟩)

theorem below_al {w W : World} (h : Below w.heap.size w W) (o : Obj) : Below w.heap.size w (W.alloc o) := h.alloc h.size o

theorem below_dr {w W : World} (h : Below w.heap.size w W) : Below w.heap.size w W.drew := ⟨h.os, h.tape, h.output, h.size, h.block⟩
theorem below_rf (w : World) : Below w.heap.size w w := Below.refl _ _

/-! ### the links of the rules -/
def lkBegin (p : PlanT) : List T3 := [⟨0, 1, p.first⟩]

set_option maxHeartbeats 2000000 in
theorem links128 (p : PlanT) (hP : PBd p) (rv : Value) (w : World) :
    Calls Try.prog 128 #[.agg #[.int .i64 p.first], .agg #[.int .i64 p.cars, .int .i64 p.first, rv]] w fun e w' => ∃ g, e = .returned (.slice (some ⟨g, 0, none⟩) 1 1) ∧ RdT w' (.slice (some ⟨g, 0, none⟩) 1 1) (lkBegin p) ∧ Below w.heap.size w w' := by
  obtain ⟨c1, c2⟩ := hP.first
  have hb0 := below_al (below_al (below_rf w) (.cells #[.int .i64 p.first] 144)) (.cells #[.int .i64 p.cars, .int .i64 p.first, rv] 38)
  go_enter Try.func128, Try.ntmps128
  go_wp2_with fail
  go_region_held3 (fun w' => w'.cell? ⟨w.heap.size, 0, none⟩ = some (.int .i64 p.first) ∧ Below w.heap.size w w') (refine ⟨by go_keep, by simp [*, below_al, below_dr, below_rf]⟩)
    (first
      | (go_at_call 130; refine (moment130 0 (by omega) (by omega) _).mono ?_; rintro e w' ⟨rfl, rfl⟩)
      | (go_at_call 129; refine (more129 _ _).mono ?_; rintro e w' ⟨rfl, rfl⟩))
  go_wp2
  go_ret
  refine ⟨_, rfl, ?_, ?_⟩
  · have := rd_lit (e := 58) t3_len ((w.alloc (.cells #[.int .i64 p.first] 144)).alloc (.cells #[.int .i64 p.cars, .int .i64 p.first, rv] 38)) (lkBegin p) #[.int .i64 0, .int .i64 1, .int .i64 p.first] rfl (by show 1 ≤ _; omega)
    rw [World.size_alloc, World.size_alloc] at this
    exact Rd.below this (below_dr (below_rf _))
  · exact below_dr (below_al hb0 _)

/-- when a control is due after the one before -/
def lkAfter (p : PlanT) (j : Nat) : List T3 :=
  let x := p.roads.getD j zw
  let y := p.roads.getD (j + 1) zw
  let arr := x.tar + (p.cars - 1) * x.gap
  if j + 1 < p.roads.length ∧ y.grp = true then [⟨(j : Int) + 1, (j : Int) + 2, arr + y.wait⟩, ⟨(j : Int) + 2, (j : Int) + 1, -(arr + y.most)⟩]
  else [⟨(j : Int) + 1, (j : Int) + 2, x.tar⟩, ⟨(j : Int) + 2, (j : Int) + 1, -x.tar⟩]

set_option maxHeartbeats 4000000 in
theorem links131 (p : PlanT) (hP : PBd p) (Ar : Option Addr) (cr : Nat) (w : World) (hR : RdW w (.slice Ar p.roads.length cr) p.roads) (j : Nat) (hj : j < p.roads.length) :
    Calls Try.prog 131 #[.agg #[.int .i64 ((j : Int) + 1)], .agg #[.int .i64 p.cars, .int .i64 p.first, .slice Ar p.roads.length cr]] w fun e w' => ∃ g, e = .returned (.slice (some ⟨g, 0, none⟩) 2 2) ∧ RdT w' (.slice (some ⟨g, 0, none⟩) 2 2) (lkAfter p j) ∧ Below w.heap.size w w' := by
  have hx := getD_w hj
  have hb := hP.road _ (List.mem_of_getElem? hx)
  have hsp := hP.span hb
  obtain ⟨⟨a1, a2⟩, ⟨a3, a4⟩, ⟨a5, a6⟩, ⟨a7, a8⟩, _, _, _⟩ := hb
  obtain ⟨s1, s2⟩ := hsp
  obtain ⟨c1, c2⟩ := hP.cars
  have hlen := hP.len.2
  have hll := (RdR.len hR).2
  obtain ⟨b, off, Ah, ch, rfl, hb, hh, d0, d1, d2, d3, d4, d5, d6, d7⟩ := Rd.way hR j _ hx
  unfold lkAfter
  simp only
  have hB0 := below_al (below_al (below_rf w) (.cells #[.int .i64 ((j : Int) + 1)] 146)) (.cells #[.int .i64 p.cars, .int .i64 p.first, .slice (some ⟨b, off, none⟩) p.roads.length cr] 38)
  have HB0 := Lib.hid hB0
  have HR := Lib.hid hR
  have HP := Lib.hid hP
  clear hR hP hh hx hB0
  obtain ⟨cars, first, roads⟩ := p
  simp only at *
  generalize hxx : roads.getD j zw = x at *
  clear hxx
  obtain ⟨L, hL⟩ : ∃ L, (if j + 1 < roads.length ∧ (roads.getD (j + 1) zw).grp = true then [⟨(j : Int) + 1, (j : Int) + 2, x.tar + (cars - 1) * x.gap + (roads.getD (j + 1) zw).wait⟩, ⟨(j : Int) + 2, (j : Int) + 1, -(x.tar + (cars - 1) * x.gap + (roads.getD (j + 1) zw).most)⟩] else [⟨(j : Int) + 1, (j : Int) + 2, x.tar⟩, ⟨(j : Int) + 2, (j : Int) + 1, -x.tar⟩] : List T3) = L := ⟨_, rfl⟩
  rw [hL]
  have HL := Lib.hid hL
  clear hL
  go_enter Try.func131, Try.ntmps131
  go_wp2_with fail
  go_quiet ((go_at_call 130; exact Calls.quiet_of (moment130q _ (by omega) (by omega) _)))

  have hBq : Below w.heap.size w ((((w.alloc (.cells #[.int .i64 ((j : Int) + 1)] 146)).alloc (.cells #[.int .i64 cars, .int .i64 first, .slice (some ⟨b, off, none⟩) roads.length cr] 38))).drewN nq) := below_drewN HB0.out nq
  have p0 : ((((w.alloc (.cells #[.int .i64 ((j : Int) + 1)] 146)).alloc (.cells #[.int .i64 cars, .int .i64 first, .slice (some ⟨b, off, none⟩) roads.length cr] 38))).drewN nq).cell? ⟨w.heap.size, 0, none⟩ = some (.int .i64 ((j : Int) + 1)) := by simp
  have p1 : ((((w.alloc (.cells #[.int .i64 ((j : Int) + 1)] 146)).alloc (.cells #[.int .i64 cars, .int .i64 first, .slice (some ⟨b, off, none⟩) roads.length cr] 38))).drewN nq).cell? ⟨w.heap.size + 1, 0, none⟩ = some (.int .i64 cars) := by simp
  have p2 : ((((w.alloc (.cells #[.int .i64 ((j : Int) + 1)] 146)).alloc (.cells #[.int .i64 cars, .int .i64 first, .slice (some ⟨b, off, none⟩) roads.length cr] 38))).drewN nq).cell? ⟨w.heap.size + 1, 2, none⟩ = some (.slice (some ⟨b, off, none⟩) roads.length cr) := by simp
  have psz : ((((w.alloc (.cells #[.int .i64 ((j : Int) + 1)] 146)).alloc (.cells #[.int .i64 cars, .int .i64 first, .slice (some ⟨b, off, none⟩) roads.length cr] 38))).drewN nq).heap.size = w.heap.size + 2 := by simp
  generalize ((((w.alloc (.cells #[.int .i64 ((j : Int) + 1)] 146)).alloc (.cells #[.int .i64 cars, .int .i64 first, .slice (some ⟨b, off, none⟩) roads.length cr] 38))).drewN nq) = wq at *
  have e0 := (hBq.cell (p := ⟨b, off + j * 8, none⟩) hb).trans d0
  have e1 := (hBq.cell (p := ⟨b, off + j * 8 + 1, none⟩) hb).trans d1
  have e2 := (hBq.cell (p := ⟨b, off + j * 8 + 2, none⟩) hb).trans d2
  have e3 := (hBq.cell (p := ⟨b, off + j * 8 + 3, none⟩) hb).trans d3
  have e4 := (hBq.cell (p := ⟨b, off + j * 8 + 4, none⟩) hb).trans d4
  have e5 := (hBq.cell (p := ⟨b, off + j * 8 + 5, none⟩) hb).trans d5
  have e6 := (hBq.cell (p := ⟨b, off + j * 8 + 6, none⟩) hb).trans d6
  have e7 := (hBq.cell (p := ⟨b, off + j * 8 + 7, none⟩) hb).trans d7
  have hbq : b < wq.heap.size := Nat.lt_of_lt_of_le hb hBq.size
  have HBQ := Lib.hid hBq
  clear d0 d1 d2 d3 d4 d5 d6 d7 hBq HB0
  go_wp2_with fail
  go_quiet (fail)

  have hBv : Below wq.heap.size wq ((wq.alloc (.cells #[.int .i64 x.tar, .int .i64 x.lead, .int .i64 x.lag, .int .i64 x.gap, .bool x.grp, .int .i64 x.wait, .int .i64 x.most, .slice Ah x.hrs.length ch] 41)).drewN nq) := below_drewN (below_al (below_rf wq) _) nq
  have t0 : ((wq.alloc (.cells #[.int .i64 x.tar, .int .i64 x.lead, .int .i64 x.lag, .int .i64 x.gap, .bool x.grp, .int .i64 x.wait, .int .i64 x.most, .slice Ah x.hrs.length ch] 41)).drewN nq).cell? ⟨w.heap.size + 2, 0, none⟩ = some (.int .i64 x.tar) := by rw [← psz]; simp
  have t3 : ((wq.alloc (.cells #[.int .i64 x.tar, .int .i64 x.lead, .int .i64 x.lag, .int .i64 x.gap, .bool x.grp, .int .i64 x.wait, .int .i64 x.most, .slice Ah x.hrs.length ch] 41)).drewN nq).cell? ⟨w.heap.size + 2, 3, none⟩ = some (.int .i64 x.gap) := by rw [← psz]; simp
  have vsz : ((wq.alloc (.cells #[.int .i64 x.tar, .int .i64 x.lead, .int .i64 x.lag, .int .i64 x.gap, .bool x.grp, .int .i64 x.wait, .int .i64 x.most, .slice Ah x.hrs.length ch] 41)).drewN nq).heap.size = w.heap.size + 3 := by simp [psz]
  generalize ((wq.alloc (.cells #[.int .i64 x.tar, .int .i64 x.lead, .int .i64 x.lag, .int .i64 x.gap, .bool x.grp, .int .i64 x.wait, .int .i64 x.most, .slice Ah x.hrs.length ch] 41)).drewN nq) = wv at *
  have r0 := (hBv.cell (p := ⟨w.heap.size, 0, none⟩) (by show w.heap.size < _; omega)).trans p0
  have r1 := (hBv.cell (p := ⟨w.heap.size + 1, 0, none⟩) (by show w.heap.size + 1 < _; omega)).trans p1
  have r2 := (hBv.cell (p := ⟨w.heap.size + 1, 2, none⟩) (by show w.heap.size + 1 < _; omega)).trans p2
  have HBV := Lib.hid (below_then HBQ.out HBQ.out.size hBv)
  have hbv : b < wv.heap.size := Nat.lt_of_lt_of_le hb HBV.out.size
  clear p0 p1 p2 psz e0 e1 e2 e3 e4 e5 e6 e7 hBv hbq HBQ
  by_cases hj1 : j + 1 < roads.length
  · have hy := getD_w hj1
    have hbd := HP.out.road _ (List.mem_of_getElem? hy)
    obtain ⟨b', off', Ah', ch', e', hb', hh', f0, f1, f2, f3, f4, f5, f6, f7⟩ := Rd.way (RdW.below HR.out HBV.out) (j + 1) _ hy
    injection e' with e'
    injection e' with e1 e2
    subst e1 e2
    have hL := HL.out
    generalize roads.getD (j + 1) zw = y at *
    obtain ⟨y1, y2, y3⟩ := hbd.wait
    clear hbd hy hh' f0 f1 f2 f3 f7 HL
    cases hg : y.grp
    · rw [hg] at f4
      rw [if_neg (by rw [hg]; simp)] at hL
      have HL := Lib.hid hL
      clear hL
      go_wp2_with (go_at_call 129; refine (more129 _ _).mono ?_; rintro e w' ⟨rfl, rfl⟩)
      go_ret
      refine ⟨_, rfl, ?_, ?_⟩
      · rw [← HL.out]
        have hrd := rd_lit (e := 58) t3_len wv [⟨(j : Int) + 1, (j : Int) + 2, x.tar⟩, ⟨(j : Int) + 2, (j : Int) + 1, -x.tar⟩] #[.int .i64 (1 + (j : Int)), .int .i64 (1 + ((j : Int) + 1)), .int .i64 x.tar, .int .i64 (1 + ((j : Int) + 1)), .int .i64 (1 + (j : Int)), .int .i64 (-x.tar)] (by simp [T3.enc]; omega) (by show 2 ≤ _; omega)
        rw [vsz] at hrd
        exact hrd
      · exact below_then HBV.out HBV.out.size (below_al (below_rf wv) _)
    · rw [hg] at f4
      rw [if_pos ⟨hj1, hg⟩] at hL
      have HL := Lib.hid hL
      clear hL
      go_wp2_with fail
      go_quiet (fail)
      go_wp2_with (go_at_call 129; refine (more129 _ _).mono ?_; rintro e w' ⟨rfl, rfl⟩)
      go_ret
      refine ⟨_, rfl, ?_, ?_⟩
      · rw [← HL.out]
        have hrd := rd_lit (e := 58) t3_len wv [⟨(j : Int) + 1, (j : Int) + 2, x.tar + (cars - 1) * x.gap + y.wait⟩, ⟨(j : Int) + 2, (j : Int) + 1, -(x.tar + (cars - 1) * x.gap + y.most)⟩] #[.int .i64 (1 + (j : Int)), .int .i64 (1 + ((j : Int) + 1)), .int .i64 (x.tar + (cars - 1) * x.gap + y.wait), .int .i64 (1 + ((j : Int) + 1)), .int .i64 (1 + (j : Int)), .int .i64 (-(x.tar + (cars - 1) * x.gap + y.most))] (by simp [T3.enc]; omega) (by show 2 ≤ _; omega)
        rw [vsz] at hrd
        exact Rd.below hrd (below_drewN (below_rf _) _)
      · exact below_then HBV.out HBV.out.size (below_drewN (below_al (below_rf wv) _) _)
  · have hL := HL.out
    rw [if_neg (by omega)] at hL
    have HL := Lib.hid hL
    clear hL
    go_wp2_with (go_at_call 129; refine (more129 _ _).mono ?_; rintro e w' ⟨rfl, rfl⟩)
    go_ret
    refine ⟨_, rfl, ?_, ?_⟩
    · rw [← HL.out]
      have hrd := rd_lit (e := 58) t3_len wv [⟨(j : Int) + 1, (j : Int) + 2, x.tar⟩, ⟨(j : Int) + 2, (j : Int) + 1, -x.tar⟩] #[.int .i64 (1 + (j : Int)), .int .i64 (1 + ((j : Int) + 1)), .int .i64 x.tar, .int .i64 (1 + ((j : Int) + 1)), .int .i64 (1 + (j : Int)), .int .i64 (-x.tar)] (by simp [T3.enc]; omega) (by show 2 ≤ _; omega)
      rw [vsz] at hrd
      exact hrd
    · exact below_then HBV.out HBV.out.size (below_al (below_rf wv) _)
end Go.Proofs.Ytpknonebnipcgaa.K
