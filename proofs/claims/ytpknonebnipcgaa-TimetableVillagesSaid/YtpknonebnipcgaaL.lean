import Derived.Test.YtpknonebnipcgaaProg
import Derived.WalkKit
import Derived.KernelRfl
import Derived.Deep.LoopGhost
import Derived.Deep.QuietTactic
import Derived.BigQuiet
import Derived.Deep.DeepCutAuto
import Derived.Deep.CutBlock
import Derived.Deep.RegionHeld3
import Derived.WalkLawsBesides
import Derived.WalkSpells
import Derived.Outline
import Derived.Deep.DeepFit
import Derived.Lib.Hide
import Derived.Shelf.Abstract
import Derived.Lib.SliceRun
import Derived.Recover
import Derived.Test.YtpknonebnipcgaaK

namespace Go.Proofs.Ytpknonebnipcgaa.L
open Go.RowKit Go.Shelf Go.Proofs.Ytpknonebnipcgaa.V Go.Proofs.Ytpknonebnipcgaa.A Go.Proofs.Ytpknonebnipcgaa.B Go.Proofs.Ytpknonebnipcgaa.C Go.Proofs.Ytpknonebnipcgaa.P Go.Proofs.Ytpknonebnipcgaa.D Go.Proofs.Ytpknonebnipcgaa.E Go.Proofs.Ytpknonebnipcgaa.G Go.Proofs.Ytpknonebnipcgaa.H Go.Proofs.Ytpknonebnipcgaa.I Go.Proofs.Ytpknonebnipcgaa.J Go.Proofs.Ytpknonebnipcgaa.K
set_option linter.unusedVariables false
set_option linter.unusedSimpArgs false

/-- when a road can be closed, with a window or without one -/
def lkClosed (p : PlanT) (j : Nat) : Option T3 → List T3
  | none => [⟨0, (j : Int) + 1, (p.roads.getD j zw).lead⟩]
  | some h => [⟨0, (j : Int) + 1, (p.roads.getD j zw).lead + h.a⟩, ⟨(j : Int) + 1, 0, busyOf p (p.roads.getD j zw) - h.b⟩]

theorem q147 (w : World) : (binOp .eql 147 (.pointer none) (.pointer none)).run Try.prog w = .ok (.bool true) w := by simp [go_sem]

set_option maxHeartbeats 4000000 in
theorem links132_none (p : PlanT) (hP : PBd p) (Ar : Option Addr) (cr : Nat) (w : World) (hR : RdW w (.slice Ar p.roads.length cr) p.roads) (j : Nat) (hj : j < p.roads.length) :
    Calls Try.prog 132 #[.agg #[.int .i64 j, .pointer none], .agg #[.int .i64 p.cars, .int .i64 p.first, .slice Ar p.roads.length cr]] w fun e w' => ∃ g, e = .returned (.slice (some ⟨g, 0, none⟩) 1 1) ∧ RdT w' (.slice (some ⟨g, 0, none⟩) 1 1) (lkClosed p j none) ∧ Below w.heap.size w w' := by
  have hx := getD_w hj
  have hb := hP.road _ (List.mem_of_getElem? hx)
  obtain ⟨⟨a1, a2⟩, ⟨a3, a4⟩, ⟨a5, a6⟩, ⟨a7, a8⟩, _, _, _⟩ := hb
  have hlen := hP.len.2
  have hll := (RdR.len hR).2
  obtain ⟨b, off, Ah, ch, rfl, hb, hh, d0, d1, d2, d3, d4, d5, d6, d7⟩ := Rd.way hR j _ hx
  unfold lkClosed
  simp only
  obtain ⟨cars, first, roads⟩ := p
  simp only at *
  clear hR hP hh hx
  generalize hxx : roads.getD j zw = x at *
  clear hxx
  go_enter Try.func132, Try.ntmps132
  go_wp2_with (first | (go_at_call 130; refine (moment130 _ (by omega) (by omega) _).mono ?_; rintro e w' ⟨rfl, rfl⟩) | (go_at_call 129; refine (more129 _ _).mono ?_; rintro e w' ⟨rfl, rfl⟩))
  go_ret
  refine ⟨_, rfl, ?_, ?_⟩
  · have hrd := rd_lit (e := 58) t3_len (((w.alloc (.cells #[.int .i64 j, .pointer none] 149)).alloc (.cells #[.int .i64 cars, .int .i64 first, .slice (some ⟨b, off, none⟩) roads.length cr] 38)).alloc (.cells #[.int .i64 x.tar, .int .i64 x.lead, .int .i64 x.lag, .int .i64 x.gap, .bool x.grp, .int .i64 x.wait, .int .i64 x.most, .slice Ah x.hrs.length ch] 41)) [⟨0, (j : Int) + 1, x.lead⟩] #[.int .i64 0, .int .i64 (1 + (j : Int)), .int .i64 x.lead] (by simp [T3.enc]; omega) (by show 1 ≤ _; omega)
    simp only [World.size_alloc] at hrd
    exact hrd
  · exact below_al (below_al (below_al (below_al (below_rf w) _) _) _) _

set_option maxHeartbeats 8000000 in
theorem links132_some (p : PlanT) (hP : PBd p) (Ar : Option Addr) (cr : Nat) (w : World) (hR : RdW w (.slice Ar p.roads.length cr) p.roads) (j : Nat) (hj : j < p.roads.length) (bh oh : Nat) (h : T3) (hbh : bh < w.heap.size)
    (hh0 : w.cell? ⟨bh, oh, none⟩ = some (.int .i64 h.a)) (hh1 : w.cell? ⟨bh, oh + 1, none⟩ = some (.int .i64 h.b)) (hh2 : w.cell? ⟨bh, oh + 2, none⟩ = some (.int .i64 h.c)) (hk : 0 ≤ h.a ∧ h.a ≤ h.b ∧ h.b ≤ 200000 ∧ 0 ≤ h.c ∧ h.c ≤ 200000) :
    Calls Try.prog 132 #[.agg #[.int .i64 j, .pointer (some ⟨bh, oh, none⟩)], .agg #[.int .i64 p.cars, .int .i64 p.first, .slice Ar p.roads.length cr]] w fun e w' =>
      (h.c < (p.roads.getD j zw).lead + busyOf p (p.roads.getD j zw) ∧ e = .panicked [{ v := .iface 128 (.agg #[]), recovered := false }] ∨
       ¬ h.c < (p.roads.getD j zw).lead + busyOf p (p.roads.getD j zw) ∧ ∃ g, e = .returned (.slice (some ⟨g, 0, none⟩) 2 2) ∧ RdT w' (.slice (some ⟨g, 0, none⟩) 2 2) (lkClosed p j (some h))) ∧ Below w.heap.size w w' := by
  have hx := getD_w hj
  have hb := hP.road _ (List.mem_of_getElem? hx)
  have hsp := hP.span hb
  obtain ⟨⟨a1, a2⟩, ⟨a3, a4⟩, ⟨a5, a6⟩, ⟨a7, a8⟩, _, _, _⟩ := hb
  obtain ⟨s1, s2⟩ := hsp
  obtain ⟨k1, k2, k3, k4, k5⟩ := hk
  have hlen := hP.len.2
  have hll := (RdR.len hR).2
  have hbo : 0 ≤ busyOf p (p.roads.getD j zw) ∧ busyOf p (p.roads.getD j zw) ≤ 20000 := by unfold busyOf; omega
  obtain ⟨b, off, Ah, ch, rfl, hb, hh, d0, d1, d2, d3, d4, d5, d6, d7⟩ := Rd.way hR j _ hx
  have hbusy : ∀ W, Below w.heap.size w W → Calls Try.prog 82 #[.agg #[.int .i64 p.cars, .int .i64 p.first, .slice (some ⟨b, off, none⟩) p.roads.length cr], .int .i64 j] W fun e w' => e = .returned (.int .i64 (busyOf p (p.roads.getD j zw))) ∧ Below W.heap.size W w' := fun W hbW => busy82 p hP _ cr W (RdW.below hR hbW) j _ hx
  unfold lkClosed
  simp only
  have HBU := Lib.hid hbusy
  obtain ⟨B, hB⟩ : ∃ B, busyOf p (p.roads.getD j zw) = B := ⟨_, rfl⟩
  rw [hB] at HBU hbo ⊢
  obtain ⟨q1, q2⟩ := hbo
  obtain ⟨cars, first, roads⟩ := p
  simp only at *
  clear hR hP hh hx hbusy hB
  generalize hxx : roads.getD j zw = x at *
  clear hxx
  go_enter Try.func132, Try.ntmps132
  go_wp2_with (first | (go_at_call 130; refine (moment130 _ (by omega) (by omega) _).mono ?_; rintro e w' ⟨rfl, rfl⟩))
  have hBv : Below w.heap.size w (((w.alloc (.cells #[.int .i64 j, .pointer (some ⟨bh, oh, none⟩)] 149)).alloc (.cells #[.int .i64 cars, .int .i64 first, .slice (some ⟨b, off, none⟩) roads.length cr] 38)).alloc (.cells #[.int .i64 x.tar, .int .i64 x.lead, .int .i64 x.lag, .int .i64 x.gap, .bool x.grp, .int .i64 x.wait, .int .i64 x.most, .slice Ah x.hrs.length ch] 41)) := below_al (below_al (below_al (below_rf w) _) _) _
  have p0 : (((w.alloc (.cells #[.int .i64 j, .pointer (some ⟨bh, oh, none⟩)] 149)).alloc (.cells #[.int .i64 cars, .int .i64 first, .slice (some ⟨b, off, none⟩) roads.length cr] 38)).alloc (.cells #[.int .i64 x.tar, .int .i64 x.lead, .int .i64 x.lag, .int .i64 x.gap, .bool x.grp, .int .i64 x.wait, .int .i64 x.most, .slice Ah x.hrs.length ch] 41)).cell? ⟨w.heap.size, 0, none⟩ = some (.int .i64 j) := by go_simp
  have p1 : (((w.alloc (.cells #[.int .i64 j, .pointer (some ⟨bh, oh, none⟩)] 149)).alloc (.cells #[.int .i64 cars, .int .i64 first, .slice (some ⟨b, off, none⟩) roads.length cr] 38)).alloc (.cells #[.int .i64 x.tar, .int .i64 x.lead, .int .i64 x.lag, .int .i64 x.gap, .bool x.grp, .int .i64 x.wait, .int .i64 x.most, .slice Ah x.hrs.length ch] 41)).cell? ⟨w.heap.size, 1, none⟩ = some (.pointer (some ⟨bh, oh, none⟩)) := by go_simp
  have p2 : (((w.alloc (.cells #[.int .i64 j, .pointer (some ⟨bh, oh, none⟩)] 149)).alloc (.cells #[.int .i64 cars, .int .i64 first, .slice (some ⟨b, off, none⟩) roads.length cr] 38)).alloc (.cells #[.int .i64 x.tar, .int .i64 x.lead, .int .i64 x.lag, .int .i64 x.gap, .bool x.grp, .int .i64 x.wait, .int .i64 x.most, .slice Ah x.hrs.length ch] 41)).cell? ⟨w.heap.size + 1, 0, none⟩ = some (.int .i64 cars) := by go_simp
  have p3 : (((w.alloc (.cells #[.int .i64 j, .pointer (some ⟨bh, oh, none⟩)] 149)).alloc (.cells #[.int .i64 cars, .int .i64 first, .slice (some ⟨b, off, none⟩) roads.length cr] 38)).alloc (.cells #[.int .i64 x.tar, .int .i64 x.lead, .int .i64 x.lag, .int .i64 x.gap, .bool x.grp, .int .i64 x.wait, .int .i64 x.most, .slice Ah x.hrs.length ch] 41)).cell? ⟨w.heap.size + 1, 1, none⟩ = some (.int .i64 first) := by go_simp
  have p4 : (((w.alloc (.cells #[.int .i64 j, .pointer (some ⟨bh, oh, none⟩)] 149)).alloc (.cells #[.int .i64 cars, .int .i64 first, .slice (some ⟨b, off, none⟩) roads.length cr] 38)).alloc (.cells #[.int .i64 x.tar, .int .i64 x.lead, .int .i64 x.lag, .int .i64 x.gap, .bool x.grp, .int .i64 x.wait, .int .i64 x.most, .slice Ah x.hrs.length ch] 41)).cell? ⟨w.heap.size + 1, 2, none⟩ = some (.slice (some ⟨b, off, none⟩) roads.length cr) := by go_simp
  have p5 : (((w.alloc (.cells #[.int .i64 j, .pointer (some ⟨bh, oh, none⟩)] 149)).alloc (.cells #[.int .i64 cars, .int .i64 first, .slice (some ⟨b, off, none⟩) roads.length cr] 38)).alloc (.cells #[.int .i64 x.tar, .int .i64 x.lead, .int .i64 x.lag, .int .i64 x.gap, .bool x.grp, .int .i64 x.wait, .int .i64 x.most, .slice Ah x.hrs.length ch] 41)).cell? ⟨w.heap.size + 2, 1, none⟩ = some (.int .i64 x.lead) := by go_simp
  have g0 := (hBv.cell (p := ⟨bh, oh, none⟩) hbh).trans hh0
  have g1 := (hBv.cell (p := ⟨bh, oh + 1, none⟩) hbh).trans hh1
  have g2 := (hBv.cell (p := ⟨bh, oh + 2, none⟩) hbh).trans hh2
  have psz : (((w.alloc (.cells #[.int .i64 j, .pointer (some ⟨bh, oh, none⟩)] 149)).alloc (.cells #[.int .i64 cars, .int .i64 first, .slice (some ⟨b, off, none⟩) roads.length cr] 38)).alloc (.cells #[.int .i64 x.tar, .int .i64 x.lead, .int .i64 x.lag, .int .i64 x.gap, .bool x.grp, .int .i64 x.wait, .int .i64 x.most, .slice Ah x.hrs.length ch] 41)).heap.size = w.heap.size + 3 := by simp
  generalize (((w.alloc (.cells #[.int .i64 j, .pointer (some ⟨bh, oh, none⟩)] 149)).alloc (.cells #[.int .i64 cars, .int .i64 first, .slice (some ⟨b, off, none⟩) roads.length cr] 38)).alloc (.cells #[.int .i64 x.tar, .int .i64 x.lead, .int .i64 x.lag, .int .i64 x.gap, .bool x.grp, .int .i64 x.wait, .int .i64 x.most, .slice Ah x.hrs.length ch] 41)) = wv at *
  have HBV := Lib.hid hBv
  clear hh0 hh1 hh2 hBv d0 d1 d2 d3 d4 d5 d6 d7
  have hbv : bh < wv.heap.size := by omega
  have hbz : ∀ W, Below wv.heap.size wv W → Calls Try.prog 82 #[.agg #[.int .i64 cars, .int .i64 first, .slice (some ⟨b, off, none⟩) roads.length cr], .int .i64 j] W fun e w' => e = .returned (.int .i64 B) ∧ (w'.cell? ⟨w.heap.size, 0, none⟩ = some (.int .i64 j) ∧ w'.cell? ⟨w.heap.size, 1, none⟩ = some (.pointer (some ⟨bh, oh, none⟩)) ∧ w'.cell? ⟨w.heap.size + 1, 0, none⟩ = some (.int .i64 cars) ∧ w'.cell? ⟨w.heap.size + 1, 1, none⟩ = some (.int .i64 first) ∧ w'.cell? ⟨w.heap.size + 1, 2, none⟩ = some (.slice (some ⟨b, off, none⟩) roads.length cr) ∧ w'.cell? ⟨w.heap.size + 2, 1, none⟩ = some (.int .i64 x.lead) ∧ w'.cell? ⟨bh, oh, none⟩ = some (.int .i64 h.a) ∧ w'.cell? ⟨bh, oh + 1, none⟩ = some (.int .i64 h.b) ∧ w'.cell? ⟨bh, oh + 2, none⟩ = some (.int .i64 h.c) ∧ Below wv.heap.size wv w') := fun W hbW => by
    refine (HBU.out W (below_then HBV.out HBV.out.size hbW)).mono ?_
    rintro e w' ⟨rfl, hb2⟩
    have hb3 := below_then hbW hbW.size hb2
    exact ⟨rfl, (hb3.cell (p := ⟨w.heap.size, 0, none⟩) (by show w.heap.size < _; omega)).trans p0, (hb3.cell (p := ⟨w.heap.size, 1, none⟩) (by show w.heap.size < _; omega)).trans p1, (hb3.cell (p := ⟨w.heap.size + 1, 0, none⟩) (by show w.heap.size + 1 < _; omega)).trans p2, (hb3.cell (p := ⟨w.heap.size + 1, 1, none⟩) (by show w.heap.size + 1 < _; omega)).trans p3, (hb3.cell (p := ⟨w.heap.size + 1, 2, none⟩) (by show w.heap.size + 1 < _; omega)).trans p4, (hb3.cell (p := ⟨w.heap.size + 2, 1, none⟩) (by show w.heap.size + 2 < _; omega)).trans p5, (hb3.cell (p := ⟨bh, oh, none⟩) hbv).trans g0, (hb3.cell (p := ⟨bh, oh + 1, none⟩) hbv).trans g1, (hb3.cell (p := ⟨bh, oh + 2, none⟩) hbv).trans g2, hb3⟩
  have HBZ := Lib.hid hbz
  have PSZ := Lib.hid psz
  have n1 : w.heap.size ≠ wv.heap.size := by omega
  have n2 : w.heap.size + 1 ≠ wv.heap.size := by omega
  have n3 : w.heap.size + 2 ≠ wv.heap.size := by omega
  have n4 : bh ≠ wv.heap.size := by omega
  have HBU2 := HBU
  clear hbz HBU psz
  have hrf := below_rf wv
  go_region_held3 (fun w' => w'.cell? ⟨w.heap.size, 0, none⟩ = some (.int .i64 j) ∧ w'.cell? ⟨w.heap.size, 1, none⟩ = some (.pointer (some ⟨bh, oh, none⟩)) ∧ w'.cell? ⟨w.heap.size + 1, 0, none⟩ = some (.int .i64 cars) ∧ w'.cell? ⟨w.heap.size + 1, 1, none⟩ = some (.int .i64 first) ∧ w'.cell? ⟨w.heap.size + 1, 2, none⟩ = some (.slice (some ⟨b, off, none⟩) roads.length cr) ∧ w'.cell? ⟨w.heap.size + 2, 1, none⟩ = some (.int .i64 x.lead) ∧ w'.cell? ⟨bh, oh, none⟩ = some (.int .i64 h.a) ∧ w'.cell? ⟨bh, oh + 1, none⟩ = some (.int .i64 h.b) ∧ w'.cell? ⟨bh, oh + 2, none⟩ = some (.int .i64 h.c) ∧ Below wv.heap.size wv w') (refine ⟨by go_keep, by go_keep, by go_keep, by go_keep, by go_keep, by go_keep, by go_keep, by go_keep, by go_keep, by simp [*, below_al, below_dr]⟩)
    (first | (go_at_call 82; refine (HBZ.out _ (by simp [*, below_al, below_dr])).mono ?_; rintro e w' ⟨rfl, hS⟩) | (go_at_call 129; refine (more129 _ _).mono ?_; rintro e w' ⟨rfl, rfl⟩))
  rename_i hHeld
  clear hHeld
  obtain ⟨r0, r1, r2, r3, r4, r5, r6, r7, r8, hbS⟩ := hS
  have hw : IntKind.i64.wrap (x.lead + B) = x.lead + B := by simp only [IntKind.wrap_i64]; omega
  rw [hw]
  clear hw n1 n2 n3 n4 hrf p0 p1 p2 p3 p4 p5 g0 g1 g2
  have HBS := Lib.hid (below_then HBV.out HBV.out.size hbS)
  by_cases hlim : h.c < x.lead + B
  · have hl2 : decide (h.c < x.lead + B) = true := decide_eq_true hlim
    go_wp2
    exact ⟨rfl, .inl rfl, HBS.out⟩
  · have hl2 : decide (h.c < x.lead + B) = false := decide_eq_false hlim
    have HLIM := Lib.hid hlim
    go_wp2_with fail
    have hwz : wv.heap.size ≤ w'.heap.size := hbS.size
    have psz := PSZ.out
    have n1 : w.heap.size ≠ w'.heap.size := by omega
    have n2 : w.heap.size + 1 ≠ w'.heap.size := by omega
    have n3 : w.heap.size + 2 ≠ w'.heap.size := by omega
    have n4 : bh ≠ w'.heap.size := by omega
    have HBSv := Lib.hid hbS
    have hrf := below_rf w'
    have hbz : ∀ W, Below w'.heap.size w' W → Calls Try.prog 82 #[.agg #[.int .i64 cars, .int .i64 first, .slice (some ⟨b, off, none⟩) roads.length cr], .int .i64 j] W fun e w'' => e = .returned (.int .i64 B) ∧ (w''.cell? ⟨w.heap.size, 0, none⟩ = some (.int .i64 j) ∧ w''.cell? ⟨w.heap.size, 1, none⟩ = some (.pointer (some ⟨bh, oh, none⟩)) ∧ w''.cell? ⟨w.heap.size + 1, 0, none⟩ = some (.int .i64 cars) ∧ w''.cell? ⟨w.heap.size + 1, 1, none⟩ = some (.int .i64 first) ∧ w''.cell? ⟨w.heap.size + 1, 2, none⟩ = some (.slice (some ⟨b, off, none⟩) roads.length cr) ∧ w''.cell? ⟨w.heap.size + 2, 1, none⟩ = some (.int .i64 x.lead) ∧ w''.cell? ⟨bh, oh, none⟩ = some (.int .i64 h.a) ∧ w''.cell? ⟨bh, oh + 1, none⟩ = some (.int .i64 h.b) ∧ w''.cell? ⟨bh, oh + 2, none⟩ = some (.int .i64 h.c) ∧ Below w'.heap.size w' w'') := fun W hbW => by
      refine (HBU2.out W (below_then HBS.out HBS.out.size hbW)).mono ?_
      rintro e w'' ⟨rfl, hb2⟩
      have hb3 := below_then hbW hbW.size hb2
      exact ⟨rfl, (hb3.cell (p := ⟨w.heap.size, 0, none⟩) (by show w.heap.size < _; omega)).trans r0, (hb3.cell (p := ⟨w.heap.size, 1, none⟩) (by show w.heap.size < _; omega)).trans r1, (hb3.cell (p := ⟨w.heap.size + 1, 0, none⟩) (by show w.heap.size + 1 < _; omega)).trans r2, (hb3.cell (p := ⟨w.heap.size + 1, 1, none⟩) (by show w.heap.size + 1 < _; omega)).trans r3, (hb3.cell (p := ⟨w.heap.size + 1, 2, none⟩) (by show w.heap.size + 1 < _; omega)).trans r4, (hb3.cell (p := ⟨w.heap.size + 2, 1, none⟩) (by show w.heap.size + 2 < _; omega)).trans r5, (hb3.cell (p := ⟨bh, oh, none⟩) (by show bh < _; omega)).trans r6, (hb3.cell (p := ⟨bh, oh + 1, none⟩) (by show bh < _; omega)).trans r7, (hb3.cell (p := ⟨bh, oh + 2, none⟩) (by show bh < _; omega)).trans r8, hb3⟩
    clear HBZ psz hbS hwz hlim
    have HBZ := Lib.hid hbz
    clear hbz
    go_region_held3 (fun wz => wz.cell? ⟨w.heap.size, 0, none⟩ = some (.int .i64 j) ∧ wz.cell? ⟨w.heap.size, 1, none⟩ = some (.pointer (some ⟨bh, oh, none⟩)) ∧ wz.cell? ⟨w.heap.size + 1, 0, none⟩ = some (.int .i64 cars) ∧ wz.cell? ⟨w.heap.size + 1, 1, none⟩ = some (.int .i64 first) ∧ wz.cell? ⟨w.heap.size + 1, 2, none⟩ = some (.slice (some ⟨b, off, none⟩) roads.length cr) ∧ wz.cell? ⟨w.heap.size + 2, 1, none⟩ = some (.int .i64 x.lead) ∧ wz.cell? ⟨bh, oh, none⟩ = some (.int .i64 h.a) ∧ wz.cell? ⟨bh, oh + 1, none⟩ = some (.int .i64 h.b) ∧ wz.cell? ⟨bh, oh + 2, none⟩ = some (.int .i64 h.c) ∧ Below w'.heap.size w' wz) (refine ⟨by go_keep, by go_keep, by go_keep, by go_keep, by go_keep, by go_keep, by go_keep, by go_keep, by go_keep, by simp [*, below_al, below_dr]⟩)
      (first | (go_at_call 82; refine (HBZ.out _ (by simp [*, below_al, below_dr])).mono ?_; rintro e w3 ⟨rfl, hS3⟩) | (go_at_call 129; refine (more129 _ _).mono ?_; rintro e w3 ⟨rfl, rfl⟩))
    have hbq := hS3.2.2.2.2.2.2.2.2.2
    have hw1 : IntKind.i64.wrap (x.lead + h.a) = x.lead + h.a := by simp only [IntKind.wrap_i64]; omega
    have hw2 : IntKind.i64.wrap (B - h.b) = B - h.b := by simp only [IntKind.wrap_i64]; omega
    rw [hw1, hw2]
    have HBF := Lib.hid (below_then HBS.out HBS.out.size hbq)
    clear hS3 hbq hw1 hw2 n1 n2 n3 n4 hrf r0 r1 r2 r3 r4 r5 r6 r7 r8
    go_wp2
    go_ret
    have hrd := rd_lit (e := 58) t3_len w3 [⟨0, (j : Int) + 1, x.lead + h.a⟩, ⟨(j : Int) + 1, 0, B - h.b⟩] #[.int .i64 0, .int .i64 (1 + (j : Int)), .int .i64 (x.lead + h.a), .int .i64 (1 + (j : Int)), .int .i64 0, .int .i64 (B - h.b)] (by simp [T3.enc]; omega) (by show 2 ≤ _; omega)
    exact ⟨.inr ⟨_, rfl, hrd⟩, HBF.out.alloc HBF.out.size _⟩
end Go.Proofs.Ytpknonebnipcgaa.L
