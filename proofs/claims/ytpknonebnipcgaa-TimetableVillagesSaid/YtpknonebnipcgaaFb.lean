import Derived.Test.YtpknonebnipcgaaProg
import Derived.WalkKit
import Derived.KernelRfl
import Derived.Deep.LoopGhost
import Derived.Deep.QuietTactic
import Derived.BigQuiet
import Derived.Deep.DeepCutAuto
import Derived.Deep.CutBlock
import Derived.Deep.RegionHeld3
import Derived.WalkLawsBesides
import Derived.WalkSpells
import Derived.Outline
import Derived.Deep.DeepFit
import Derived.Lib.Hide
import Derived.Shelf.Abstract
import Derived.Lib.SliceRun
import Derived.OwnWalk
import Derived.Test.YtpknonebnipcgaaFa

namespace Go.Proofs.Ytpknonebnipcgaa.Fb
open Go.RowKit Go.Shelf Go.Proofs.Ytpknonebnipcgaa.V Go.Proofs.Ytpknonebnipcgaa.A Go.Proofs.Ytpknonebnipcgaa.B Go.Proofs.Ytpknonebnipcgaa.C Go.Proofs.Ytpknonebnipcgaa.P Go.Proofs.Ytpknonebnipcgaa.D Go.Proofs.Ytpknonebnipcgaa.E Go.Proofs.Ytpknonebnipcgaa.G Go.Proofs.Ytpknonebnipcgaa.I Go.Proofs.Ytpknonebnipcgaa.J Go.Proofs.Ytpknonebnipcgaa.K Go.Proofs.Ytpknonebnipcgaa.L Go.Proofs.Ytpknonebnipcgaa.M Go.Proofs.Ytpknonebnipcgaa.N Go.Proofs.Ytpknonebnipcgaa.Fa
set_option linter.unusedVariables false
set_option linter.unusedSimpArgs false

structure TabT where
  dues : List Int
  closed : List Int
  opened : List Int
  choice : List Int

/-- the first car is due at the control j + 1 as it should be -/
def stepB (p : PlanT) (t : TabT) (j : Nat) : Bool :=
  if j + 1 < p.roads.length ∧ (p.roads.getD (j + 1) zw).grp = true then
    inB (t.dues.getD (j + 1) 0) (t.dues.getD j 0 + (p.roads.getD j zw).tar + spanOf p (p.roads.getD j zw) + (p.roads.getD (j + 1) zw).wait) (t.dues.getD j 0 + (p.roads.getD j zw).tar + spanOf p (p.roads.getD j zw) + (p.roads.getD (j + 1) zw).most)
  else t.dues.getD (j + 1) 0 == t.dues.getD j 0 + (p.roads.getD j zw).tar
def winB (h : T3) (c o : Int) : Bool := !(decide (c < h.a) || (decide (h.b < o) || decide (h.c < o - c)))
/-- the road j is closed and opened as it should be -/
def roadB (p : PlanT) (t : TabT) (j : Nat) : Bool :=
  !(decide (t.dues.getD j 0 - (p.roads.getD j zw).lead < t.closed.getD j 0) || decide (t.opened.getD j 0 < t.dues.getD j 0 + spanOf p (p.roads.getD j zw) + (p.roads.getD j zw).tar + (p.roads.getD j zw).lag)) &&
  (if (p.roads.getD j zw).hrs.length = 0 then t.choice.getD j 0 == -1 else
    inB (t.choice.getD j 0) 0 (((p.roads.getD j zw).hrs.length : Int) - 1) && winB ((p.roads.getD j zw).hrs.getD (t.choice.getD j 0).toNat z3) (t.closed.getD j 0) (t.opened.getD j 0))
def headB (p : PlanT) (t : TabT) : Bool := timesB t.dues ((p.roads.length : Int) + 1) && (timesB t.closed (p.roads.length : Int) && (timesB t.opened (p.roads.length : Int) && (((t.choice.length : Int) == (p.roads.length : Int)) && !decide (t.dues.getD 0 0 < p.first))))
def fitsB (p : PlanT) (t : TabT) : Bool := headB p t && ((List.range p.roads.length).all (stepB p t) && (List.range p.roads.length).all (roadB p t))

theorem timesB_out {l : List Int} {n : Int} (h : timesB l n = true) : (l.length : Int) = n ∧ ∀ x ∈ l, 0 ≤ x ∧ x ≤ 1000000000 := by
  unfold timesB at h
  simp only [Bool.and_eq_true, List.all_eq_true, beq_iff_eq] at h
  exact ⟨h.2, fun x hx => by have := h.1 x hx; simpa [inB] using this⟩

theorem rd_at {w : World} {b off n c : Nat} {xs : List Int} (h : RdI w (.slice (some ⟨b, off, none⟩) n c) xs) {j : Nat} (hj : j < xs.length) : w.cell? ⟨b, off + j, none⟩ = some (.int .i64 (xs.getD j 0)) ∧ b < w.heap.size := by
  obtain ⟨b', o', e, hb, hc⟩ := Rd.i h j _ (getD_get hj)
  injection e with e
  injection e with e1 e2
  subst e1 e2
  exact ⟨hc, hb⟩

set_option maxRecDepth 100000 in
set_option maxHeartbeats 16000000 in
theorem fits28 (p : PlanT) (hP : PBd p) (Ar : Option Addr) (cr : Nat) (t : TabT) (A0 A1 A2 A3 : Option Addr) (c0 c1 c2 c3 : Nat) (w : World) (hR : RdW w (.slice Ar p.roads.length cr) p.roads)
    (h0 : RdI w (.slice A0 t.dues.length c0) t.dues) (h1 : RdI w (.slice A1 t.closed.length c1) t.closed) (h2 : RdI w (.slice A2 t.opened.length c2) t.opened) (h3 : RdI w (.slice A3 t.choice.length c3) t.choice)
    (hbd : ∀ x ∈ t.choice, -9223372036854775808 ≤ x ∧ x ≤ 9223372036854775807) :
    Calls Try.prog 28 #[.agg #[.int .i64 p.cars, .int .i64 p.first, .slice Ar p.roads.length cr], .agg #[.slice A0 t.dues.length c0, .slice A1 t.closed.length c1, .slice A2 t.opened.length c2, .slice A3 t.choice.length c3]] w fun e w' => e = .returned (.bool (fitsB p t)) ∧ Below w.heap.size w w' := by
  have hll := (RdR.len hR).2
  have hl0 := (RdR.len h0).2
  have hl1 := (RdR.len h1).2
  have hl2 := (RdR.len h2).2
  have hl3 := (RdR.len h3).2
  have hlen := hP.len
  obtain ⟨hn1, hn2⟩ := hlen
  obtain ⟨w0, hw0⟩ : ∃ w0, (w.alloc (.cells #[.int .i64 p.cars, .int .i64 p.first, .slice Ar p.roads.length cr] 38)).alloc (.cells #[.slice A0 t.dues.length c0, .slice A1 t.closed.length c1, .slice A2 t.opened.length c2, .slice A3 t.choice.length c3] 45) = w0 := ⟨_, rfl⟩
  have hb0 : Below w.heap.size w w0 := by rw [← hw0]; exact below_al (below_al (below_rf w) _) _
  have hbp : w0.heap[w.heap.size]? = some (.cells #[.int .i64 p.cars, .int .i64 p.first, .slice Ar p.roads.length cr] 38 (0, 0)) := by rw [← hw0]; exact blk_alloc (blk_new w _) _
  have hbt : w0.heap[w.heap.size + 1]? = some (.cells #[.slice A0 t.dues.length c0, .slice A1 t.closed.length c1, .slice A2 t.opened.length c2, .slice A3 t.choice.length c3] 45 (0, 0)) := by
    rw [← hw0]
    have := blk_new (w.alloc (.cells #[.int .i64 p.cars, .int .i64 p.first, .slice Ar p.roads.length cr] 38)) (.cells #[.slice A0 t.dues.length c0, .slice A1 t.closed.length c1, .slice A2 t.opened.length c2, .slice A3 t.choice.length c3] 45)
    rwa [World.size_alloc] at this
  have hs0 : w0.heap.size = w.heap.size + 2 := by rw [← hw0]; simp
  have HR := Lib.hid hR
  have H0 := Lib.hid h0
  have H1 := Lib.hid h1
  have H2 := Lib.hid h2
  have H3 := Lib.hid h3
  have HP := Lib.hid hP
  have HBD := Lib.hid hbd
  have HB0 := Lib.hid hb0
  have HBP := Lib.hid hbp
  have HBT := Lib.hid hbt
  have HS0 := Lib.hid hs0
  have HT0 := Lib.hid (fun nq k => times68 A0 c0 t.dues k (w0.drewN nq) (Rd.below h0 (below_drewN hb0 nq)))
  have HT1 := Lib.hid (fun nq k => times68 A1 c1 t.closed k (w0.drewN nq) (Rd.below h1 (below_drewN hb0 nq)))
  have HT2 := Lib.hid (fun nq k => times68 A2 c2 t.opened k (w0.drewN nq) (Rd.below h2 (below_drewN hb0 nq)))
  obtain ⟨F, hF⟩ : ∃ F, fitsB p t = F := ⟨_, rfl⟩
  rw [hF]
  have HF := Lib.hid hF
  have p0 := cell_of_blk hbp 0
  have p1 := cell_of_blk hbp 1
  have p2 := cell_of_blk hbp 2
  have t0 := cell_of_blk hbt 0
  have t1 := cell_of_blk hbt 1
  have t2 := cell_of_blk hbt 2
  have t3 := cell_of_blk hbt 3
  simp only [List.getElem?_toArray, List.getElem?_cons_succ, List.getElem?_cons_zero] at p0 p1 p2 t0 t1 t2 t3
  have HHD : Hid (headB p t = false → F = false) := Lib.hid (fun h => by rw [← HF.out]; unfold fitsB; rw [h]; rfl)
  clear hR h0 h1 h2 h3 hP hbd hb0 hbp hbt hF hs0
  have HW0 := Lib.hid hw0
  cases d0 : timesB t.dues ((p.roads.length : Int) + 1)
  · have hf : F = false := HHD.out (by unfold headB; rw [d0]; rfl)
    subst hf
    go_enter Try.func28, Try.ntmps28
    go_wp2_with fail
    clear hw0
    go_quiet ((go_at_call 68; (with_reducible (first | exact Calls.quiet_of_same (HT0.out _ _) | exact Calls.quiet_of_same (HT1.out _ _) | exact Calls.quiet_of_same (HT2.out _ _)))))
    go_wp2
    go_ret
    exact ⟨rfl, below_drewN HB0.out _⟩
  obtain ⟨e0, bd0⟩ := timesB_out d0
  obtain ⟨b0, o0, rfl, hb0⟩ : ∃ b o, A0 = some ⟨b, o, none⟩ ∧ b < w.heap.size := by
    obtain ⟨b, o, e, hb, _⟩ := Rd.i H0.out 0 _ (getD_get (by omega))
    exact ⟨b, o, e, hb⟩
  have HD0 : Hid (∀ W, Below w.heap.size w W → ∀ j, j < p.roads.length + 1 → W.cell? ⟨b0, o0 + j, none⟩ = some (.int .i64 (t.dues.getD j 0)) ∧ 0 ≤ t.dues.getD j 0 ∧ t.dues.getD j 0 ≤ 1000000000) := Lib.hid (fun W hb j hj => by
    obtain ⟨hc, hlt⟩ := rd_at H0.out (j := j) (by omega)
    have := bd0 _ (getD_mem (xs := t.dues) (j := j) (by omega))
    exact ⟨(hb.cell (p := ⟨b0, o0 + j, none⟩) hlt).trans hc, this.1, this.2⟩)
  have hl0' : p.roads.length + 1 ≤ t.dues.length := by omega
  have HL0 : Hid (t.dues.length = p.roads.length + 1) := Lib.hid (by omega)
  have HE0 := Lib.hid e0
  clear e0
  cases d1 : timesB t.closed (p.roads.length : Int)
  · have hf : F = false := HHD.out (by unfold headB; rw [d0, d1]; rfl)
    subst hf
    go_enter Try.func28, Try.ntmps28
    go_wp2_with fail
    clear hw0
    go_quiet ((go_at_call 68; (with_reducible (first | exact Calls.quiet_of_same (HT0.out _ _) | exact Calls.quiet_of_same (HT1.out _ _) | exact Calls.quiet_of_same (HT2.out _ _)))))
    go_wp2
    go_ret
    exact ⟨rfl, below_drewN HB0.out _⟩
  cases d2 : timesB t.opened (p.roads.length : Int)
  · have hf : F = false := HHD.out (by unfold headB; rw [d0, d1, d2]; rfl)
    subst hf
    go_enter Try.func28, Try.ntmps28
    go_wp2_with fail
    clear hw0
    go_quiet ((go_at_call 68; (with_reducible (first | exact Calls.quiet_of_same (HT0.out _ _) | exact Calls.quiet_of_same (HT1.out _ _) | exact Calls.quiet_of_same (HT2.out _ _)))))
    go_wp2
    go_ret
    exact ⟨rfl, below_drewN HB0.out _⟩
  cases d3 : ((t.choice.length : Int) != (p.roads.length : Int))
  case true =>
    have d3' : ((t.choice.length : Int) == (p.roads.length : Int)) = false := by simpa using d3
    have hf : F = false := HHD.out (by unfold headB; rw [d0, d1, d2, d3']; rfl)
    subst hf
    go_enter Try.func28, Try.ntmps28
    go_wp2_with fail
    clear hw0
    go_quiet ((go_at_call 68; (with_reducible (first | exact Calls.quiet_of_same (HT0.out _ _) | exact Calls.quiet_of_same (HT1.out _ _) | exact Calls.quiet_of_same (HT2.out _ _)))))
    go_wp2
    go_ret
    exact ⟨rfl, below_drewN HB0.out _⟩
  have d3' : ((t.choice.length : Int) == (p.roads.length : Int)) = true := by simpa using d3
  obtain ⟨hc0, hc1, hc2⟩ := HD0.out w0 HB0.out 0 (by omega)
  rw [Nat.add_zero] at hc0
  have hfi := HP.out.first
  obtain ⟨hfi1, hfi2⟩ := hfi
  have HDZ : Hid (∀ z, t.dues.getD 0 0 = z → (headB p t = !decide (z < p.first))) := Lib.hid (fun z hz => by unfold headB; rw [d0, d1, d2, d3', hz]; rfl)
  obtain ⟨z, hz⟩ : ∃ z, t.dues.getD 0 0 = z := ⟨_, rfl⟩
  have HZ := Lib.hid (HDZ.out z hz)
  rw [hz] at hc0 hc1 hc2
  clear hz HDZ
  have hdl : 0 < t.dues.length := by omega
  cases d4 : decide (z < p.first)
  case true =>
    have hf : F = false := HHD.out (by rw [HZ.out, d4]; rfl)
    subst hf
    go_enter Try.func28, Try.ntmps28
    go_wp2_with fail
    clear hw0
    go_quiet ((go_at_call 68; (with_reducible (first | exact Calls.quiet_of_same (HT0.out _ _) | exact Calls.quiet_of_same (HT1.out _ _) | exact Calls.quiet_of_same (HT2.out _ _)))))
    go_wp2
    go_ret
    exact ⟨rfl, below_drewN HB0.out _⟩
  obtain ⟨e1, bd1⟩ := timesB_out d1
  obtain ⟨e2, bd2⟩ := timesB_out d2
  have e3 : (t.choice.length : Int) = p.roads.length := by simpa using d3'
  have HFF : Hid (F = ((List.range p.roads.length).all (stepB p t) && (List.range p.roads.length).all (roadB p t))) := Lib.hid (by
    rw [← HF.out]
    unfold fitsB
    rw [HZ.out, d4]
    rfl)
  obtain ⟨br, or_, rfl, hbr⟩ : ∃ b o, Ar = some ⟨b, o, none⟩ ∧ b < w.heap.size := by
    obtain ⟨b, o, _, _, e, hb, _⟩ := Rd.way HR.out 0 _ (getD_w (by omega))
    exact ⟨b, o, e, hb⟩
  have HWY : Hid (∀ W, Below w.heap.size w W → ∀ j, j < p.roads.length → ∃ Ah ch, RdT W (.slice Ah (p.roads.getD j zw).hrs.length ch) (p.roads.getD j zw).hrs ∧
      W.cell? ⟨br, or_ + j * 8, none⟩ = some (.int .i64 (p.roads.getD j zw).tar) ∧ W.cell? ⟨br, or_ + j * 8 + 1, none⟩ = some (.int .i64 (p.roads.getD j zw).lead) ∧ W.cell? ⟨br, or_ + j * 8 + 2, none⟩ = some (.int .i64 (p.roads.getD j zw).lag) ∧ W.cell? ⟨br, or_ + j * 8 + 3, none⟩ = some (.int .i64 (p.roads.getD j zw).gap) ∧
      W.cell? ⟨br, or_ + j * 8 + 4, none⟩ = some (.bool (p.roads.getD j zw).grp) ∧ W.cell? ⟨br, or_ + j * 8 + 5, none⟩ = some (.int .i64 (p.roads.getD j zw).wait) ∧ W.cell? ⟨br, or_ + j * 8 + 6, none⟩ = some (.int .i64 (p.roads.getD j zw).most) ∧ W.cell? ⟨br, or_ + j * 8 + 7, none⟩ = some (.slice Ah (p.roads.getD j zw).hrs.length ch)) := Lib.hid (fun W hb j hj => by
    obtain ⟨b, o, Ah, ch, e, _, hh, d0, d1, d2, d3, d4, d5, d6, d7⟩ := Rd.way (RdW.below HR.out hb) j _ (getD_w hj)
    injection e with e
    injection e with e1 e2
    subst e1 e2
    exact ⟨Ah, ch, hh, d0, d1, d2, d3, d4, d5, d6, d7⟩)
  have HWB : Hid (∀ j, j < p.roads.length → WBd (p.roads.getD j zw) ∧ 0 ≤ spanOf p (p.roads.getD j zw) ∧ spanOf p (p.roads.getD j zw) ≤ 12000) := Lib.hid (fun j hj => by
    have hw := HP.out.road _ (List.mem_of_getElem? (getD_w hj))
    exact ⟨hw, HP.out.span hw⟩)
  have HSP : Hid (∀ W, Below w.heap.size w W → ∀ j : Nat, j < p.roads.length → Calls Try.prog 69 #[.agg #[.int .i64 p.cars, .int .i64 p.first, .slice (some ⟨br, or_, none⟩) p.roads.length cr], .int .i64 j] W fun e w' => e = .returned (.int .i64 (spanOf p (p.roads.getD j zw))) ∧ Below W.heap.size W w') := Lib.hid (fun W hb j hj => span69 p HP.out _ cr W (RdW.below HR.out hb) j _ (getD_w hj))
  obtain ⟨b1, o1, rfl, hb1⟩ : ∃ b o, A1 = some ⟨b, o, none⟩ ∧ b < w.heap.size := by
    obtain ⟨b, o, e, hb, _⟩ := Rd.i H1.out 0 _ (getD_get (by omega))
    exact ⟨b, o, e, hb⟩
  obtain ⟨b2, o2, rfl, hb2⟩ : ∃ b o, A2 = some ⟨b, o, none⟩ ∧ b < w.heap.size := by
    obtain ⟨b, o, e, hb, _⟩ := Rd.i H2.out 0 _ (getD_get (by omega))
    exact ⟨b, o, e, hb⟩
  obtain ⟨b3, o3, rfl, hb3⟩ : ∃ b o, A3 = some ⟨b, o, none⟩ ∧ b < w.heap.size := by
    obtain ⟨b, o, e, hb, _⟩ := Rd.i H3.out 0 _ (getD_get (by omega))
    exact ⟨b, o, e, hb⟩
  have HD1 : Hid (∀ W, Below w.heap.size w W → ∀ j, j < p.roads.length → W.cell? ⟨b1, o1 + j, none⟩ = some (.int .i64 (t.closed.getD j 0)) ∧ 0 ≤ t.closed.getD j 0 ∧ t.closed.getD j 0 ≤ 1000000000) := Lib.hid (fun W hb j hj => by
    obtain ⟨hc, hlt⟩ := rd_at H1.out (j := j) (by omega)
    have := bd1 _ (getD_mem (xs := t.closed) (j := j) (by omega))
    exact ⟨(hb.cell (p := ⟨b1, o1 + j, none⟩) hlt).trans hc, this.1, this.2⟩)
  have HD2 : Hid (∀ W, Below w.heap.size w W → ∀ j, j < p.roads.length → W.cell? ⟨b2, o2 + j, none⟩ = some (.int .i64 (t.opened.getD j 0)) ∧ 0 ≤ t.opened.getD j 0 ∧ t.opened.getD j 0 ≤ 1000000000) := Lib.hid (fun W hb j hj => by
    obtain ⟨hc, hlt⟩ := rd_at H2.out (j := j) (by omega)
    have := bd2 _ (getD_mem (xs := t.opened) (j := j) (by omega))
    exact ⟨(hb.cell (p := ⟨b2, o2 + j, none⟩) hlt).trans hc, this.1, this.2⟩)
  have HD3 : Hid (∀ W, Below w.heap.size w W → ∀ j, j < p.roads.length → W.cell? ⟨b3, o3 + j, none⟩ = some (.int .i64 (t.choice.getD j 0)) ∧ -9223372036854775808 ≤ t.choice.getD j 0 ∧ t.choice.getD j 0 ≤ 9223372036854775807) := Lib.hid (fun W hb j hj => by
    obtain ⟨hc, hlt⟩ := rd_at H3.out (j := j) (by omega)
    have := HBD.out _ (getD_mem (xs := t.choice) (j := j) (by omega))
    exact ⟨(hb.cell (p := ⟨b3, o3 + j, none⟩) hlt).trans hc, this.1, this.2⟩)
  have hE1 : p.roads.length ≤ t.closed.length := by omega
  have hE2 : p.roads.length ≤ t.opened.length := by omega
  have hE3 : p.roads.length ≤ t.choice.length := by omega
  have hF1 : t.closed.length ≤ p.roads.length := by omega
  have hF2 : t.opened.length ≤ p.roads.length := by omega
  have hF3 : t.choice.length ≤ p.roads.length := by omega
  have hF0 : t.dues.length ≤ p.roads.length + 1 := by have := HL0.out; omega
  clear bd0 bd1 bd2 d3' e1 e2 e3
  go_enter Try.func28, Try.ntmps28
  go_wp2_with fail
  clear hw0
  go_quiet ((go_at_call 68; (with_reducible (first | exact Calls.quiet_of_same (HT0.out _ _) | exact Calls.quiet_of_same (HT1.out _ _) | exact Calls.quiet_of_same (HT2.out _ _)))))
  go_wp2_with fail
  have hbq : Below w.heap.size w (w0.drewN nq) := below_drewN HB0.out nq
  have hbpq : (w0.drewN nq).heap[w.heap.size]? = some (.cells #[.int .i64 p.cars, .int .i64 p.first, .slice (some ⟨br, or_, none⟩) p.roads.length cr] 38 (0, 0)) := HBP.out
  have hbtq : (w0.drewN nq).heap[w.heap.size + 1]? = some (.cells #[.slice (some ⟨b0, o0, none⟩) t.dues.length c0, .slice (some ⟨b1, o1, none⟩) t.closed.length c1, .slice (some ⟨b2, o2, none⟩) t.opened.length c2, .slice (some ⟨b3, o3, none⟩) t.choice.length c3] 45 (0, 0)) := HBT.out
  have hszq : w.heap.size + 2 ≤ (w0.drewN nq).heap.size := by show w.heap.size + 2 ≤ w0.heap.size; have := HS0.out; omega
  have HBQ := Lib.hid hbq
  have HBPQ := Lib.hid hbpq
  have HBTQ := Lib.hid hbtq
  clear p0 p1 p2 t0 t1 t2 t3 hc0 hbq hbpq hbtq HT0 HT1 HT2 HBP HBT HS0 HW0 HB0 d0 d1 d2 d3 d4
  generalize w0.drewN nq = wq at *
  go_loopg [6] (p.roads.length + 1) (fun gg s6 wr => ∃ k : Nat, k ≤ p.roads.length + 1 ∧ p.roads.length + 1 - k ≤ gg ∧ s6 = .int .i64 k ∧ Hid (∀ i, i + 1 < k → stepB p t i = true) ∧ Hid (Below wq.heap.size wq wr))
  case atStart => exact ⟨0, Nat.zero_le _, by omega, rfl, Lib.hid (fun j hj => by omega), Lib.hid (Below.refl _ _)⟩
  case round =>
    obtain ⟨wo, rfl⟩ : ∃ wo : World, wo = wr := ⟨_, rfl⟩
    obtain ⟨k, hk, hgg, rfl, HAL, HW⟩ := hrel
    have hbw := below_then HBQ.out HBQ.out.size HW.out
    have HBW := Lib.hid hbw
    have hso := HW.out.size
    have kp := blk_below HBPQ.out HW.out
    have kt := blk_below HBTQ.out HW.out
    have p0 := cell_of_blk kp 0
    have p1 := cell_of_blk kp 1
    have p2 := cell_of_blk kp 2
    have t0 := cell_of_blk kt 0
    simp only [List.getElem?_toArray, List.getElem?_cons_succ, List.getElem?_cons_zero] at p0 p1 p2 t0
    have KP := Lib.hid kp
    have KT := Lib.hid kt
    clear kp kt
    by_cases hlt : k < p.roads.length + 1
    · by_cases hk0 : k = 0
      · subst hk0
        go_wp2
        go_roundg p.roads.length
        case measure => omega
        case rel => exact ⟨1, by omega, by omega, by go_num, Lib.hid (fun j hj => by omega), HW⟩
      · obtain ⟨q, rfl⟩ : ∃ q, k = q + 1 := ⟨k - 1, by omega⟩
        have hq : q < p.roads.length := by omega
        obtain ⟨Ah, ch, hh, d0, d1, d2, d3, d4, d5, d6, d7⟩ := HWY.out wo hbw q hq
        obtain ⟨hwb, hs1, hs2⟩ := HWB.out q hq
        obtain ⟨tq, tq1, tq2⟩ := HD0.out wo hbw q (by omega)
        obtain ⟨tk, tk1, tk2⟩ := HD0.out wo hbw (q + 1) (by omega)
        have hta := hwb.tar
        have HFS : Hid (stepB p t q = false → F = false) := Lib.hid (fun h => by rw [HFF.out, all_range_false hq h]; rfl)
        have HTS := Lib.hid (fun h : stepB p t q = true => (fun j hj => by
          by_cases e : j = q
          · subst e; exact h
          · exact HAL.out j (by omega) : ∀ j, j + 1 < q + 1 + 1 → stepB p t j = true))
        have HSB : Hid (stepB p t q = if q + 1 < p.roads.length ∧ (p.roads.getD (q + 1) zw).grp = true then
            inB (t.dues.getD (q + 1) 0) (t.dues.getD q 0 + (p.roads.getD q zw).tar + spanOf p (p.roads.getD q zw) + (p.roads.getD (q + 1) zw).wait) (t.dues.getD q 0 + (p.roads.getD q zw).tar + spanOf p (p.roads.getD q zw) + (p.roads.getD (q + 1) zw).most)
          else t.dues.getD (q + 1) 0 == t.dues.getD q 0 + (p.roads.getD q zw).tar) := Lib.hid rfl
        have HSQ := Lib.hid (fun W hb => HSP.out W hb q hq)
        have HDK := Lib.hid (fun W hb => HD0.out W hb (q + 1) (by omega))
        obtain ⟨y0, hy0⟩ : ∃ y, p.roads.getD (q + 1) zw = y := ⟨_, rfl⟩
        have HYW : Hid (q + 1 < p.roads.length → ∀ W, Below w.heap.size w W → (W.cell? ⟨br, or_ + (q + 1) * 8 + 4, none⟩ = some (.bool y0.grp) ∧ W.cell? ⟨br, or_ + (q + 1) * 8 + 5, none⟩ = some (.int .i64 y0.wait) ∧ W.cell? ⟨br, or_ + (q + 1) * 8 + 6, none⟩ = some (.int .i64 y0.most)) ∧ WBd y0) := Lib.hid (fun h W hb => by
          obtain ⟨_, _, _, _, _, _, _, a4, a5, a6, _⟩ := HWY.out W hb (q + 1) h
          have := (HWB.out (q + 1) h).1
          rw [hy0] at a4 a5 a6 this
          exact ⟨⟨a4, a5, a6⟩, this⟩)
        rw [hy0] at HSB
        clear hh hwb d1 d2 d3 d4 d5 d6 d7 hy0 HAL
        generalize p.roads.getD q zw = x at *
        generalize t.dues.getD q 0 = dq at *
        generalize t.dues.getD (q + 1) 0 = dk at *
        obtain ⟨xt, hxt⟩ : ∃ xt, x.tar = xt := ⟨_, rfl⟩
        obtain ⟨sp, hsp⟩ : ∃ sp, spanOf p x = sp := ⟨_, rfl⟩
        rw [hxt] at d0 hta HSB
        rw [hsp] at hs1 hs2 HSB HSQ
        obtain ⟨hta1, hta2⟩ := hta
        clear hxt hsp
        by_cases hlast : q + 1 = p.roads.length
        · have hst : stepB p t q = (dk == dq + xt) := by rw [HSB.out, if_neg (by omega)]
          have HST := Lib.hid hst
          have hl2 : (((q : Nat) : Int) + 1 == (p.roads.length : Int)) = true := by rw [← hlast]; simp
          have HLAST := Lib.hid hlast
          clear hst hlast
          cases e : (dk != dq + xt)
          · have HT2 := Lib.hid (HTS.out (by rw [HST.out]; simpa using e))
            go_wp2_with fail
            go_quiet (fail)
            go_wp2
            go_roundg (p.roads.length + 1 - (q + 1 + 1))
            case measure => omega
            case rel => exact ⟨q + 1 + 1, by omega, by omega, by go_num, HT2, Lib.hid (below_drewN HW.out _)⟩
          · have hf : F = false := HFS.out (by rw [HST.out]; simpa using e)
            subst hf
            go_wp2_with fail
            go_quiet (fail)
            go_wp2
            go_ret
            exact ⟨rfl, below_drewN HBW.out _⟩
        · have hq1 : q + 1 < p.roads.length := by omega
          have hl2 : (((q : Nat) : Int) + 1 == (p.roads.length : Int)) = false := by rw [beq_eq_false_iff_ne]; omega
          obtain ⟨⟨a4, a5, a6⟩, hwy⟩ := HYW.out hq1 wo HBW.out
          obtain ⟨hwy1, hwy2, hwy3⟩ := hwy.wait
          have HYC : Hid (∀ W, Below w.heap.size w W → W.cell? ⟨br, or_ + (q + 1) * 8 + 5, none⟩ = some (.int .i64 y0.wait) ∧ W.cell? ⟨br, or_ + (q + 1) * 8 + 6, none⟩ = some (.int .i64 y0.most)) := Lib.hid (fun W hb => (HYW.out hq1 W hb).1.2)
          obtain ⟨gy, hgy⟩ : ∃ g, y0.grp = g := ⟨_, rfl⟩
          obtain ⟨wy, hwy'⟩ : ∃ g, y0.wait = g := ⟨_, rfl⟩
          obtain ⟨my, hmy⟩ : ∃ g, y0.most = g := ⟨_, rfl⟩
          rw [hgy] at a4 HSB
          rw [hwy'] at HSB HYC hwy1 hwy2
          rw [hmy] at HSB HYC hwy2 hwy3
          clear hwy hgy hwy' hmy HYW a5 a6 hlast
          cases gy
          · have hst : stepB p t q = (dk == dq + xt) := by rw [HSB.out, if_neg (by simp)]
            have HST := Lib.hid hst
            clear hst
            cases e : (dk != dq + xt)
            · have HT2 := Lib.hid (HTS.out (by rw [HST.out]; simpa using e))
              go_wp2_with fail
              go_quiet (fail)
              go_wp2
              go_roundg (p.roads.length + 1 - (q + 1 + 1))
              case measure => omega
              case rel => exact ⟨q + 1 + 1, by omega, by omega, by go_num, HT2, Lib.hid (below_drewN HW.out _)⟩
            · have hf : F = false := HFS.out (by rw [HST.out]; simpa using e)
              subst hf
              go_wp2_with fail
              go_quiet (fail)
              go_wp2
              go_ret
              exact ⟨rfl, below_drewN HBW.out _⟩
          · have hst : stepB p t q = inB dk (dq + xt + sp + wy) (dq + xt + sp + my) := by rw [HSB.out, if_pos ⟨hq1, rfl⟩]
            have HST := Lib.hid hst
            clear hst
            go_wp2_with fail
            go_quiet (fail)
            go_wp2_with fail
            have hbz : Below w.heap.size w (wo.drewN nq) := below_drewN HBW.out nq
            have hbqz : Below wq.heap.size wq (wo.drewN nq) := below_drewN HW.out nq
            have hkp : (wo.drewN nq).heap[w.heap.size]? = some (.cells _ 38 (0, 0)) := KP.out
            have hkt : (wo.drewN nq).heap[w.heap.size + 1]? = some (.cells _ 45 (0, 0)) := KT.out
            have hsz : wo.heap.size ≤ (wo.drewN nq).heap.size := Nat.le_refl _
            clear p0 p1 p2 t0 d0 tq tk a4
            generalize wo.drewN nq = wz at *
            have p0 := cell_of_blk hkp 0
            have p1 := cell_of_blk hkp 1
            have p2 := cell_of_blk hkp 2
            have t0 := cell_of_blk hkt 0
            simp only [List.getElem?_toArray, List.getElem?_cons_succ, List.getElem?_cons_zero] at p0 p1 p2 t0
            obtain ⟨a5, a6⟩ := HYC.out wz hbz
            obtain ⟨tk, _, _⟩ := HDK.out wz hbz
            have hbb : b0 < wz.heap.size := Nat.lt_of_lt_of_le hb0 hbz.size
            have hbb2 : br < wz.heap.size := Nat.lt_of_lt_of_le hbr hbz.size
            have hbbp : w.heap.size < wz.heap.size := blk_lt hkp
            have hbbt : w.heap.size + 1 < wz.heap.size := blk_lt hkt
            have HBZ := Lib.hid (⟨hbz, hbqz⟩ : Below w.heap.size w wz ∧ Below wq.heap.size wq wz)
            have hcall : ∀ W, Below wz.heap.size wz W → Calls Try.prog 69 #[.agg #[.int .i64 p.cars, .int .i64 p.first, .slice (some ⟨br, or_, none⟩) p.roads.length cr], .int .i64 q] W fun e w' => e = .returned (.int .i64 sp) ∧ (w'.cell? ⟨w.heap.size + 1, 0, none⟩ = some (.slice (some ⟨b0, o0, none⟩) t.dues.length c0) ∧ w'.cell? ⟨b0, o0 + (q + 1), none⟩ = some (.int .i64 dk) ∧ w'.cell? ⟨w.heap.size, 0, none⟩ = some (.int .i64 p.cars) ∧ w'.cell? ⟨w.heap.size, 1, none⟩ = some (.int .i64 p.first) ∧ w'.cell? ⟨w.heap.size, 2, none⟩ = some (.slice (some ⟨br, or_, none⟩) p.roads.length cr) ∧ w'.cell? ⟨br, or_ + (q + 1) * 8 + 5, none⟩ = some (.int .i64 wy) ∧ w'.cell? ⟨br, or_ + (q + 1) * 8 + 6, none⟩ = some (.int .i64 my) ∧ Below wz.heap.size wz w') := fun W hbW => by
              refine (HSQ.out W (below_then hbz hbz.size hbW)).mono ?_
              rintro e w' ⟨rfl, hb2⟩
              have hb3 := below_then hbW hbW.size hb2
              exact ⟨rfl, (hb3.cell (p := ⟨w.heap.size + 1, 0, none⟩) hbbt).trans t0, (hb3.cell (p := ⟨b0, o0 + (q + 1), none⟩) hbb).trans tk, (hb3.cell (p := ⟨w.heap.size, 0, none⟩) hbbp).trans p0, (hb3.cell (p := ⟨w.heap.size, 1, none⟩) hbbp).trans p1, (hb3.cell (p := ⟨w.heap.size, 2, none⟩) hbbp).trans p2, (hb3.cell (p := ⟨br, or_ + (q + 1) * 8 + 5, none⟩) hbb2).trans a5, (hb3.cell (p := ⟨br, or_ + (q + 1) * 8 + 6, none⟩) hbb2).trans a6, hb3⟩
            have HCALL := Lib.hid hcall
            have i0 : (0 : Int) ≤ (q : Int) + 1 := by omega
            have i1 : (q : Int) + 1 < (t.dues.length : Int) := by omega
            have i2 : (q : Int) + 1 < (p.roads.length : Int) := by omega
            have i3 : ((q : Int) + 1).toNat = q + 1 := by omega
            have i4 : q + 1 < t.dues.length := by omega
            have g1 : IntKind.i64.wrap (dq + xt + sp) = dq + xt + sp := by simp only [IntKind.wrap_i64]; omega
            have g2 : IntKind.i64.wrap (dq + xt + sp + wy) = dq + xt + sp + wy := by simp only [IntKind.wrap_i64]; omega
            have g3 : IntKind.i64.wrap (dq + xt + sp + my) = dq + xt + sp + my := by simp only [IntKind.wrap_i64]; omega
            have g4 : IntKind.i64.wrap (q : Int) = q := by simp only [IntKind.wrap_i64]; omega
            have hrf := below_rf wz
            clear hcall hkp hkt hbz hbqz HSQ HYC HDK
            go_region_held3 (fun w' => w'.cell? ⟨w.heap.size + 1, 0, none⟩ = some (.slice (some ⟨b0, o0, none⟩) t.dues.length c0) ∧ w'.cell? ⟨b0, o0 + (q + 1), none⟩ = some (.int .i64 dk) ∧ w'.cell? ⟨w.heap.size, 0, none⟩ = some (.int .i64 p.cars) ∧ w'.cell? ⟨w.heap.size, 1, none⟩ = some (.int .i64 p.first) ∧ w'.cell? ⟨w.heap.size, 2, none⟩ = some (.slice (some ⟨br, or_, none⟩) p.roads.length cr) ∧ w'.cell? ⟨br, or_ + (q + 1) * 8 + 5, none⟩ = some (.int .i64 wy) ∧ w'.cell? ⟨br, or_ + (q + 1) * 8 + 6, none⟩ = some (.int .i64 my) ∧ Below wz.heap.size wz w') (refine ⟨by go_keep, by go_keep, by go_keep, by go_keep, by go_keep, by go_keep, by go_keep, by simp [*, below_dr]⟩)
              (first | (go_at_call 69; refine (HCALL.out _ (by simp [*, below_dr])).mono ?_; rintro e w' ⟨rfl, hS⟩) | (go_at_call 63; refine (in63 _ _ _ _).mono ?_; rintro e w' ⟨rfl, rfl⟩))
            have hbf := hS.2.2.2.2.2.2.2
            have HBF := Lib.hid (below_then HBZ.out.1 HBZ.out.1.size hbf)
            have HBF2 := Lib.hid (below_then HBZ.out.2 HBZ.out.2.size hbf)
            clear hbf hS i0 i1 i2 i3 i4 g1 g2 g3 g4 p0 p1 p2 t0 a5 a6 tk hrf
            cases e : inB dk (dq + xt + sp + wy) (dq + xt + sp + my)
            · have hf : F = false := HFS.out (by rw [HST.out, e])
              subst hf
              go_wp2
              go_ret
              exact ⟨rfl, HBF.out⟩
            · have HT2 := Lib.hid (HTS.out (by rw [HST.out, e]))
              go_wp2_with fail
              go_roundg (p.roads.length + 1 - (q + 1 + 1))
              case measure => omega
              case rel => exact ⟨q + 1 + 1, by omega, by omega, by go_num, HT2, HBF2⟩
    · obtain rfl : k = p.roads.length + 1 := by omega
      have HST : Hid (F = (List.range p.roads.length).all (roadB p t)) := Lib.hid (by
        rw [HFF.out]
        have : (List.range p.roads.length).all (stepB p t) = true := by
          rw [List.all_eq_true]
          intro j hj
          exact HAL.out j (by have := List.mem_range.1 hj; omega)
        rw [this]; rfl)
      clear p0 p1 p2 t0 hlt hgg hk HAL
      go_wp2_with fail
      go_loopg [8] p.roads.length (fun gg s8 wr => ∃ k : Nat, k ≤ p.roads.length ∧ p.roads.length - k ≤ gg ∧ s8 = .int .i64 k ∧ Hid (∀ i, i < k → roadB p t i = true) ∧ Hid (Below wq.heap.size wq wr))
      case atStart => exact ⟨0, Nat.zero_le _, by omega, rfl, Lib.hid (fun j hj => by omega), HW⟩
      case round =>
        clear HBW HW KP KT hso hbw
        obtain ⟨k, hk, hgg, rfl, HAL, HW⟩ := hrel
        have hbw := below_then HBQ.out HBQ.out.size HW.out
        have HBW := Lib.hid hbw
        have hso := HW.out.size
        have kp := blk_below HBPQ.out HW.out
        have kt := blk_below HBTQ.out HW.out
        have p0 := cell_of_blk kp 0
        have p1 := cell_of_blk kp 1
        have p2 := cell_of_blk kp 2
        have t0 := cell_of_blk kt 0
        have t1 := cell_of_blk kt 1
        have t2 := cell_of_blk kt 2
        have t3 := cell_of_blk kt 3
        simp only [List.getElem?_toArray, List.getElem?_cons_succ, List.getElem?_cons_zero] at p0 p1 p2 t0 t1 t2 t3
        have KP := Lib.hid kp
        have KT := Lib.hid kt
        clear kp kt
        by_cases hlt : k < p.roads.length
        · obtain ⟨Ah, ch, hh, d0, d1, d2, d3, d4, d5, d6, d7⟩ := HWY.out wr hbw k hlt
          obtain ⟨hwb, hs1, hs2⟩ := HWB.out k hlt
          obtain ⟨tq, tq1, tq2⟩ := HD0.out wr hbw k (by omega)
          obtain ⟨tc, tc1, tc2⟩ := HD1.out wr hbw k hlt
          obtain ⟨to_, to1, to2⟩ := HD2.out wr hbw k hlt
          obtain ⟨th, th1, th2⟩ := HD3.out wr hbw k hlt
          have HCL : Hid (∀ W, Below w.heap.size w W → W.cell? ⟨b0, o0 + k, none⟩ = some (.int .i64 (t.dues.getD k 0)) ∧ W.cell? ⟨b1, o1 + k, none⟩ = some (.int .i64 (t.closed.getD k 0)) ∧ W.cell? ⟨b2, o2 + k, none⟩ = some (.int .i64 (t.opened.getD k 0)) ∧ W.cell? ⟨b3, o3 + k, none⟩ = some (.int .i64 (t.choice.getD k 0))) := Lib.hid (fun W hb => ⟨(HD0.out W hb k (by omega)).1, (HD1.out W hb k hlt).1, (HD2.out W hb k hlt).1, (HD3.out W hb k hlt).1⟩)
          have hhl := (RdR.len hh).2
          have HH := Lib.hid hh
          have HFS : Hid (roadB p t k = false → F = false) := Lib.hid (fun h => by rw [HST.out, all_range_false hlt h])
          have HTS := Lib.hid (fun h : roadB p t k = true => (fun j hj => by
            by_cases e : j = k
            · subst e; exact h
            · exact HAL.out j (by omega) : ∀ j, j < k + 1 → roadB p t j = true))
          have HRB : Hid (roadB p t k = (!(decide (t.dues.getD k 0 - (p.roads.getD k zw).lead < t.closed.getD k 0) || decide (t.opened.getD k 0 < t.dues.getD k 0 + spanOf p (p.roads.getD k zw) + (p.roads.getD k zw).tar + (p.roads.getD k zw).lag)) &&
            (if (p.roads.getD k zw).hrs.length = 0 then t.choice.getD k 0 == -1 else
              inB (t.choice.getD k 0) 0 (((p.roads.getD k zw).hrs.length : Int) - 1) && winB ((p.roads.getD k zw).hrs.getD (t.choice.getD k 0).toNat z3) (t.closed.getD k 0) (t.opened.getD k 0)))) := Lib.hid rfl
          have HSK := Lib.hid (fun W hb => HSP.out W hb k hlt)
          have hta := hwb.tar
          have hle := hwb.lead
          have hla := hwb.lag
          have hok := hwb.hok
          have HOK := Lib.hid hok
          clear hh hwb HAL hok
          obtain ⟨sp, hsp⟩ : ∃ sp, spanOf p (p.roads.getD k zw) = sp := ⟨_, rfl⟩
          rw [hsp] at hs1 hs2 HRB HSK
          clear hsp
          generalize p.roads.getD k zw = x at *
          generalize t.dues.getD k 0 = dq at *
          generalize t.closed.getD k 0 = ck at *
          generalize t.opened.getD k 0 = ok_ at *
          generalize t.choice.getD k 0 = hk_ at *
          obtain ⟨tar, lead, lag, gap, grp, wait, most, hrs⟩ := x
          simp only at *
          obtain ⟨hta1, hta2⟩ := hta
          obtain ⟨hle1, hle2⟩ := hle
          obtain ⟨hla1, hla2⟩ := hla
          have HALL := Lib.hid (below_al HBW.out (.cells #[.int .i64 tar, .int .i64 lead, .int .i64 lag, .int .i64 gap, .bool grp, .int .i64 wait, .int .i64 most, .slice Ah hrs.length ch] 41))
          have hz1 : k < t.dues.length := by omega
          have hz2 : k < t.closed.length := by omega
          have hz3 : k < t.opened.length := by omega
          have hz4 : k < t.choice.length := by omega
          go_wp2_with fail
          have hbx : Below w.heap.size w (wr.alloc (.cells #[.int .i64 tar, .int .i64 lead, .int .i64 lag, .int .i64 gap, .bool grp, .int .i64 wait, .int .i64 most, .slice Ah hrs.length ch] 41)) := HALL.out
          have hbqx : Below wq.heap.size wq (wr.alloc (.cells #[.int .i64 tar, .int .i64 lead, .int .i64 lag, .int .i64 gap, .bool grp, .int .i64 wait, .int .i64 most, .slice Ah hrs.length ch] 41)) := below_al HW.out _
          have hkp : (wr.alloc (.cells #[.int .i64 tar, .int .i64 lead, .int .i64 lag, .int .i64 gap, .bool grp, .int .i64 wait, .int .i64 most, .slice Ah hrs.length ch] 41)).heap[w.heap.size]? = some (.cells _ 38 (0, 0)) := blk_alloc KP.out _
          have hkt : (wr.alloc (.cells #[.int .i64 tar, .int .i64 lead, .int .i64 lag, .int .i64 gap, .bool grp, .int .i64 wait, .int .i64 most, .slice Ah hrs.length ch] 41)).heap[w.heap.size + 1]? = some (.cells _ 45 (0, 0)) := blk_alloc KT.out _
          have hkx : (wr.alloc (.cells #[.int .i64 tar, .int .i64 lead, .int .i64 lag, .int .i64 gap, .bool grp, .int .i64 wait, .int .i64 most, .slice Ah hrs.length ch] 41)).heap[wr.heap.size]? = some (.cells _ 41 (0, 0)) := blk_new wr _
          have HHX := Lib.hid (Rd.below HH.out (below_al (below_rf wr) (.cells #[.int .i64 tar, .int .i64 lead, .int .i64 lag, .int .i64 gap, .bool grp, .int .i64 wait, .int .i64 most, .slice Ah hrs.length ch] 41)))
          clear p0 p1 p2 t0 t1 t2 t3 d0 d1 d2 d3 d4 d5 d6 d7 tq tc to_ th HALL HH hso HBW KP KT hbw HW
          generalize wr.alloc (.cells #[.int .i64 tar, .int .i64 lead, .int .i64 lag, .int .i64 gap, .bool grp, .int .i64 wait, .int .i64 most, .slice Ah hrs.length ch] 41) = wz at *
          generalize wr.heap.size = X at *
          have p0 := cell_of_blk hkp 0
          have p1 := cell_of_blk hkp 1
          have p2 := cell_of_blk hkp 2
          have t0 := cell_of_blk hkt 0
          have t1 := cell_of_blk hkt 1
          have t2 := cell_of_blk hkt 2
          have x0 := cell_of_blk hkx 0
          have x1 := cell_of_blk hkx 1
          have x2 := cell_of_blk hkx 2
          simp only [List.getElem?_toArray, List.getElem?_cons_succ, List.getElem?_cons_zero] at p0 p1 p2 t0 t1 t2 x0 x1 x2
          obtain ⟨tq, tc, to_, _⟩ := HCL.out wz hbx
          have hb0z : b0 < wz.heap.size := Nat.lt_of_lt_of_le hb0 hbx.size
          have hb1z : b1 < wz.heap.size := Nat.lt_of_lt_of_le hb1 hbx.size
          have hb2z : b2 < wz.heap.size := Nat.lt_of_lt_of_le hb2 hbx.size
          have hbbp : w.heap.size < wz.heap.size := blk_lt hkp
          have hbbt : w.heap.size + 1 < wz.heap.size := blk_lt hkt
          have hbxz : X < wz.heap.size := blk_lt hkx
          have HBX := Lib.hid (⟨hbx, hbqx⟩ : Below w.heap.size w wz ∧ Below wq.heap.size wq wz)
          have HKP := Lib.hid hkp
          have HKT := Lib.hid hkt
          have HKX := Lib.hid hkx
          cases e1 : decide (dq - lead < ck)
          case true =>
            have hf : F = false := HFS.out (by rw [HRB.out, e1]; rfl)
            subst hf
            clear hkp hkt hkx hbx hbqx
            go_quiet (fail)
            go_wp2
            go_ret
            exact ⟨rfl, below_drewN HBX.out.1 _⟩
          case false =>
            have hcall : ∀ W, Below wz.heap.size wz W → Calls Try.prog 69 #[.agg #[.int .i64 p.cars, .int .i64 p.first, .slice (some ⟨br, or_, none⟩) p.roads.length cr], .int .i64 k] W fun e w' => e = .returned (.int .i64 sp) ∧ (w'.cell? ⟨w.heap.size + 1, 0, none⟩ = some (.slice (some ⟨b0, o0, none⟩) t.dues.length c0) ∧ w'.cell? ⟨w.heap.size + 1, 1, none⟩ = some (.slice (some ⟨b1, o1, none⟩) t.closed.length c1) ∧ w'.cell? ⟨w.heap.size + 1, 2, none⟩ = some (.slice (some ⟨b2, o2, none⟩) t.opened.length c2) ∧ w'.cell? ⟨b0, o0 + k, none⟩ = some (.int .i64 dq) ∧ w'.cell? ⟨b1, o1 + k, none⟩ = some (.int .i64 ck) ∧ w'.cell? ⟨b2, o2 + k, none⟩ = some (.int .i64 ok_) ∧ w'.cell? ⟨w.heap.size, 0, none⟩ = some (.int .i64 p.cars) ∧ w'.cell? ⟨w.heap.size, 1, none⟩ = some (.int .i64 p.first) ∧ w'.cell? ⟨w.heap.size, 2, none⟩ = some (.slice (some ⟨br, or_, none⟩) p.roads.length cr) ∧ w'.cell? ⟨X, 0, none⟩ = some (.int .i64 tar) ∧ w'.cell? ⟨X, 1, none⟩ = some (.int .i64 lead) ∧ w'.cell? ⟨X, 2, none⟩ = some (.int .i64 lag) ∧ Below wz.heap.size wz w') := fun W hbW => by
              refine (HSK.out W (below_then hbx hbx.size hbW)).mono ?_
              rintro e w' ⟨rfl, hb2⟩
              have hb3 := below_then hbW hbW.size hb2
              exact ⟨rfl, (hb3.cell (p := ⟨w.heap.size + 1, 0, none⟩) hbbt).trans t0, (hb3.cell (p := ⟨w.heap.size + 1, 1, none⟩) hbbt).trans t1, (hb3.cell (p := ⟨w.heap.size + 1, 2, none⟩) hbbt).trans t2, (hb3.cell (p := ⟨b0, o0 + k, none⟩) hb0z).trans tq, (hb3.cell (p := ⟨b1, o1 + k, none⟩) hb1z).trans tc, (hb3.cell (p := ⟨b2, o2 + k, none⟩) hb2z).trans to_, (hb3.cell (p := ⟨w.heap.size, 0, none⟩) hbbp).trans p0, (hb3.cell (p := ⟨w.heap.size, 1, none⟩) hbbp).trans p1, (hb3.cell (p := ⟨w.heap.size, 2, none⟩) hbbp).trans p2, (hb3.cell (p := ⟨X, 0, none⟩) hbxz).trans x0, (hb3.cell (p := ⟨X, 1, none⟩) hbxz).trans x1, (hb3.cell (p := ⟨X, 2, none⟩) hbxz).trans x2, hb3⟩
            have HCALL := Lib.hid hcall
            have i0 : (0 : Int) ≤ (k : Int) := by omega
            have i1 : (k : Int) < (t.dues.length : Int) := by omega
            have i2 : (k : Int) < (t.closed.length : Int) := by omega
            have i3 : (k : Int) < (t.opened.length : Int) := by omega
            have g1 : IntKind.i64.wrap (dq - lead) = dq - lead := by simp only [IntKind.wrap_i64]; omega
            have g2 : IntKind.i64.wrap (dq + sp) = dq + sp := by simp only [IntKind.wrap_i64]; omega
            have g3 : IntKind.i64.wrap (dq + sp + tar) = dq + sp + tar := by simp only [IntKind.wrap_i64]; omega
            have g4 : IntKind.i64.wrap (dq + sp + tar + lag) = dq + sp + tar + lag := by simp only [IntKind.wrap_i64]; omega
            have hrf := below_rf wz
            clear hcall hkp hkt hkx hbx hbqx HSK
            go_region_held3 (fun w' => w'.cell? ⟨w.heap.size + 1, 0, none⟩ = some (.slice (some ⟨b0, o0, none⟩) t.dues.length c0) ∧ w'.cell? ⟨w.heap.size + 1, 1, none⟩ = some (.slice (some ⟨b1, o1, none⟩) t.closed.length c1) ∧ w'.cell? ⟨w.heap.size + 1, 2, none⟩ = some (.slice (some ⟨b2, o2, none⟩) t.opened.length c2) ∧ w'.cell? ⟨b0, o0 + k, none⟩ = some (.int .i64 dq) ∧ w'.cell? ⟨b1, o1 + k, none⟩ = some (.int .i64 ck) ∧ w'.cell? ⟨b2, o2 + k, none⟩ = some (.int .i64 ok_) ∧ w'.cell? ⟨w.heap.size, 0, none⟩ = some (.int .i64 p.cars) ∧ w'.cell? ⟨w.heap.size, 1, none⟩ = some (.int .i64 p.first) ∧ w'.cell? ⟨w.heap.size, 2, none⟩ = some (.slice (some ⟨br, or_, none⟩) p.roads.length cr) ∧ w'.cell? ⟨X, 0, none⟩ = some (.int .i64 tar) ∧ w'.cell? ⟨X, 1, none⟩ = some (.int .i64 lead) ∧ w'.cell? ⟨X, 2, none⟩ = some (.int .i64 lag) ∧ Below wz.heap.size wz w') (refine ⟨by go_keep, by go_keep, by go_keep, by go_keep, by go_keep, by go_keep, by go_keep, by go_keep, by go_keep, by go_keep, by go_keep, by go_keep, by simp [*, below_dr]⟩)
              (first | (go_at_call 69; refine (HCALL.out _ (by simp [*, below_dr])).mono ?_; rintro e w' ⟨rfl, hS⟩))
            have hbf := hS.2.2.2.2.2.2.2.2.2.2.2.2
            have hbw' := below_then HBX.out.1 HBX.out.1.size hbf
            have HBF := Lib.hid hbw'
            have HBF2 := Lib.hid (below_then HBX.out.2 HBX.out.2.size hbf)
            have kt := blk_below HKT.out hbf
            have kx := blk_below HKX.out hbf
            have t3 := cell_of_blk kt 3
            have x7 := cell_of_blk kx 7
            simp only [List.getElem?_toArray, List.getElem?_cons_succ, List.getElem?_cons_zero] at t3 x7
            obtain ⟨_, _, _, th⟩ := HCL.out w' hbw'
            have HHF := Lib.hid (Rd.below HHX.out hbf)
            have HKT2 := Lib.hid kt
            have HKX2 := Lib.hid kx
            clear hS hbf i0 i1 i2 i3 g1 g2 g3 g4 p0 p1 p2 t0 t1 t2 x0 x1 x2 tq tc to_ hrf HCALL hbw' kt kx HHX HKT HKX HKP
            cases e2 : decide (ok_ < dq + sp + tar + lag)
            case true =>
              have hf : F = false := HFS.out (by rw [HRB.out, e1, e2]; rfl)
              subst hf
              go_wp2
              go_ret
              exact ⟨rfl, HBF.out⟩
            have HRB2 : Hid (roadB p t k = (if hrs.length = 0 then hk_ == -1 else inB hk_ 0 ((hrs.length : Int) - 1) && winB (hrs.getD hk_.toNat z3) ck ok_)) := Lib.hid (by rw [HRB.out, e1, e2]; rfl)
            clear HRB
            by_cases hz : hrs.length = 0
            · have hst : roadB p t k = (hk_ == -1) := by rw [HRB2.out, if_pos hz]
              have HSTT := Lib.hid hst
              have hz0 : (((hrs.length : Nat) : Int) == 0) = true := by simp [hz]
              clear hst hz
              cases e3 : (hk_ != -1)
              · have HT2 := Lib.hid (HTS.out (by rw [HSTT.out]; simpa using e3))
                go_wp2_with fail
                go_roundg (p.roads.length - (k + 1))
                case measure => omega
                case rel => exact ⟨k + 1, by omega, by omega, by go_num, HT2, HBF2⟩
              · have hf : F = false := HFS.out (by rw [HSTT.out]; simpa using e3)
                subst hf
                go_wp2
                go_ret
                exact ⟨rfl, HBF.out⟩
            have hst : roadB p t k = (inB hk_ 0 ((hrs.length : Int) - 1) && winB (hrs.getD hk_.toNat z3) ck ok_) := by rw [HRB2.out, if_neg hz]
            have HSTT := Lib.hid hst
            have hz0 : (((hrs.length : Nat) : Int) == 0) = false := by rw [beq_eq_false_iff_ne]; omega
            have hz' : 1 ≤ hrs.length := by omega
            have g1 : IntKind.i64.wrap ((hrs.length : Int) - 1) = (hrs.length : Int) - 1 := by simp only [IntKind.wrap_i64]; omega
            clear hst hz HRB2
            cases e4 : inB hk_ 0 ((hrs.length : Int) - 1)
            · have hf : F = false := HFS.out (by rw [HSTT.out, e4]; rfl)
              subst hf
              go_wp2_with fail
              have hcall : ∀ q, Calls Try.prog 63 #[.int .i64 hk_, .int .i64 0, .int .i64 ((hrs.length : Int) - 1)] (w'.drewN q) fun e w2 => e = .returned (.bool false) ∧ ∃ m, w2 = (w'.drewN q).drewN m := fun q => (in63 _ _ _ _).mono (by rintro e w2 ⟨rfl, rfl⟩; exact ⟨by rw [e4], 0, rfl⟩)
              go_quiet ((go_at_call 63; exact Calls.quiet_of (hcall _)))
              go_wp2
              go_ret
              exact ⟨rfl, below_drewN HBF.out _⟩
            go_wp2_with fail
            have hcall : ∀ q, Calls Try.prog 63 #[.int .i64 hk_, .int .i64 0, .int .i64 ((hrs.length : Int) - 1)] (w'.drewN q) fun e w2 => e = .returned (.bool true) ∧ ∃ m, w2 = (w'.drewN q).drewN m := fun q => (in63 _ _ _ _).mono (by rintro e w2 ⟨rfl, rfl⟩; exact ⟨by rw [e4], 0, rfl⟩)
            go_quiet ((go_at_call 63; exact Calls.quiet_of (hcall _)))
            go_wp2_with fail
            clear g1 hcall
            have hm : 0 ≤ hk_ ∧ hk_ < hrs.length := by simp [inB] at e4; omega
            obtain ⟨m, rfl⟩ : ∃ m : Nat, hk_ = m := ⟨hk_.toNat, by omega⟩
            have hml : m < hrs.length := by omega
            have hy := getD_t3 hml
            obtain ⟨bh, oh, rfl, hbh, l0, l1, l2⟩ := Rd.t3 HHF.out m _ hy
            have hyb := HOK.out _ (List.mem_of_getElem? hy)
            rw [Int.toNat_natCast] at HSTT
            generalize hrs.getD m z3 = y at *
            have hbw2 : Below w.heap.size w (w'.drewN nq) := below_drewN HBF.out nq
            have hbq2 : Below wq.heap.size wq (w'.drewN nq) := below_drewN HBF2.out nq
            have hkt : (w'.drewN nq).heap[w.heap.size + 1]? = some (.cells _ 45 (0, 0)) := HKT2.out
            have hkx : (w'.drewN nq).heap[X]? = some (.cells _ 41 (0, 0)) := HKX2.out
            have r0 : (w'.drewN nq).cell? ⟨bh, oh + m * 3, none⟩ = some (.int .i64 y.a) := l0
            have r1 : (w'.drewN nq).cell? ⟨bh, oh + m * 3 + 1, none⟩ = some (.int .i64 y.b) := l1
            have r2 : (w'.drewN nq).cell? ⟨bh, oh + m * 3 + 2, none⟩ = some (.int .i64 y.c) := l2
            have hbh2 : bh < (w'.drewN nq).heap.size := hbh
            clear t3 x7 th l0 l1 l2 hbh hy hm HKT2 HKX2 HHF HOK
            generalize w'.drewN nq = wv at *
            have t1 := cell_of_blk hkt 1
            have t2 := cell_of_blk hkt 2
            have t3 := cell_of_blk hkt 3
            have x7 := cell_of_blk hkx 7
            simp only [List.getElem?_toArray, List.getElem?_cons_succ, List.getElem?_cons_zero] at t1 t2 t3 x7
            obtain ⟨_, tc, to_, th⟩ := HCL.out wv hbw2
            have HKT := Lib.hid hkt
            have HBV := Lib.hid (⟨hbw2, hbq2⟩ : Below w.heap.size w wv ∧ Below wq.heap.size wq wv)
            have n1 : X ≠ wv.heap.size := Nat.ne_of_lt (blk_lt hkx)
            have n2 : w.heap.size + 1 ≠ wv.heap.size := Nat.ne_of_lt (blk_lt hkt)
            have n3 : b3 ≠ wv.heap.size := by have := hbw2.size; omega
            have n4 : bh ≠ wv.heap.size := by omega
            have i0 : (0 : Int) ≤ (k : Int) := by omega
            have i1 : (k : Int) < (t.choice.length : Int) := by omega
            have i2 : (0 : Int) ≤ (m : Int) := by omega
            have i3 : (m : Int) < (hrs.length : Int) := by omega
            clear hkt hkx hbw2 hbq2
            go_region_held3 (fun v' => v'.cell? ⟨X, 7, none⟩ = some (.slice (some ⟨bh, oh, none⟩) hrs.length ch) ∧ v'.cell? ⟨w.heap.size + 1, 3, none⟩ = some (.slice (some ⟨b3, o3, none⟩) t.choice.length c3) ∧ v'.cell? ⟨b3, o3 + k, none⟩ = some (.int .i64 m) ∧ v'.cell? ⟨bh, oh + m * 3, none⟩ = some (.int .i64 y.a) ∧ v'.cell? ⟨bh, oh + m * 3 + 1, none⟩ = some (.int .i64 y.b) ∧ v'.cell? ⟨bh, oh + m * 3 + 2, none⟩ = some (.int .i64 y.c)) (refine ⟨by go_keep, by go_keep, by go_keep, by go_keep, by go_keep, by go_keep⟩) (fail)
            clear n1 n2 n3 n4 i2 i3 r0 r1 r2 x7 th t3
            have hu1 : Below w.heap.size w ((wv.alloc (.cells #[.int .i64 y.a, .int .i64 y.b, .int .i64 y.c] 43)).drew) := below_dr (below_al HBV.out.1 _)
            have hu2 : Below wq.heap.size wq ((wv.alloc (.cells #[.int .i64 y.a, .int .i64 y.b, .int .i64 y.c] 43)).drew) := below_dr (below_al HBV.out.2 _)
            have hut : ((wv.alloc (.cells #[.int .i64 y.a, .int .i64 y.b, .int .i64 y.c] 43)).drew).heap[w.heap.size + 1]? = some (.cells _ 45 (0, 0)) := blk_alloc HKT.out _
            have huy : ((wv.alloc (.cells #[.int .i64 y.a, .int .i64 y.b, .int .i64 y.c] 43)).drew).heap[wv.heap.size]? = some (.cells #[.int .i64 y.a, .int .i64 y.b, .int .i64 y.c] 43 (0, 0)) := blk_new wv _
            clear t1 t2 tc to_
            generalize (wv.alloc (.cells #[.int .i64 y.a, .int .i64 y.b, .int .i64 y.c] 43)).drew = wu at *
            generalize wv.heap.size = Y at *
            have t1 := cell_of_blk hut 1
            have t2 := cell_of_blk hut 2
            have y0 := cell_of_blk huy 0
            have y1 := cell_of_blk huy 1
            have y2 := cell_of_blk huy 2
            simp only [List.getElem?_toArray, List.getElem?_cons_succ, List.getElem?_cons_zero] at t1 t2 y0 y1 y2
            obtain ⟨_, tc, to_, _⟩ := HCL.out wu hu1
            have HU1 := Lib.hid hu1
            have HU2 := Lib.hid hu2
            have g1 : IntKind.i64.wrap (ok_ - ck) = ok_ - ck := by simp only [IntKind.wrap_i64]; omega
            have i2 : (k : Int) < (t.closed.length : Int) := by omega
            have i3 : (k : Int) < (t.opened.length : Int) := by omega
            clear hut huy hu1 hu2
            cases f1 : decide (ck < y.a)
            case true =>
              have hf : F = false := HFS.out (by rw [HSTT.out, e4]; unfold winB; rw [f1]; simp)
              subst hf
              go_wp2_with fail
              go_quiet (fail)
              go_wp2
              go_ret
              exact ⟨rfl, below_drewN HU1.out _⟩
            cases f2 : decide (y.b < ok_)
            case true =>
              have hf : F = false := HFS.out (by rw [HSTT.out, e4]; unfold winB; rw [f1, f2]; simp)
              subst hf
              go_wp2_with fail
              go_quiet (fail)
              go_wp2
              go_ret
              exact ⟨rfl, below_drewN HU1.out _⟩
            cases f3 : decide (y.c < ok_ - ck)
            case true =>
              have hf : F = false := HFS.out (by rw [HSTT.out, e4]; unfold winB; rw [f1, f2, f3]; simp)
              subst hf
              go_wp2_with fail
              go_quiet (fail)
              go_wp2
              go_ret
              exact ⟨rfl, below_drewN HU1.out _⟩
            have HT2 := Lib.hid (HTS.out (by rw [HSTT.out, e4]; unfold winB; rw [f1, f2, f3]; rfl))
            go_wp2_with fail
            go_quiet (fail)
            go_wp2_with fail
            go_roundg (p.roads.length - (k + 1))
            case measure => omega
            case rel => exact ⟨k + 1, by omega, by omega, by go_num, HT2, Lib.hid (below_drewN HU2.out _)⟩
        · obtain rfl : k = p.roads.length := by omega
          have hf : F = true := by
            rw [HST.out, List.all_eq_true]
            intro j hj
            exact HAL.out j (List.mem_range.1 hj)
          subst hf
          go_wp2
          go_ret
          exact ⟨rfl, HBW.out⟩
end Go.Proofs.Ytpknonebnipcgaa.Fb
