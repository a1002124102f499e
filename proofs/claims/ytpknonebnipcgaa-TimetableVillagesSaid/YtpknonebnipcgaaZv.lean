import Derived.Test.YtpknonebnipcgaaProg
import Derived.WalkKit
import Derived.KernelRfl
import Derived.Deep.LoopGhost
import Derived.Deep.QuietTactic
import Derived.BigQuiet
import Derived.Deep.DeepCutAuto
import Derived.Deep.CutBlock
import Derived.Deep.RegionHeld3
import Derived.WalkLawsBesides
import Derived.WalkSpells
import Derived.Outline
import Derived.Deep.DeepFit
import Derived.Lib.Hide
import Derived.Shelf.Abstract
import Derived.Test.YtpknonebnipcgaaZf
import Derived.Test.YtpknonebnipcgaaFo
import Derived.Test.YtpknonebnipcgaaDu
import Derived.Test.YtpknonebnipcgaaZt

namespace Go.Proofs.Ytpknonebnipcgaa.Zv
open Go.RowKit Go.Shelf Go.Proofs.Ytpknonebnipcgaa.V Go.Proofs.Ytpknonebnipcgaa.A Go.Proofs.Ytpknonebnipcgaa.B Go.Proofs.Ytpknonebnipcgaa.C Go.Proofs.Ytpknonebnipcgaa.P Go.Proofs.Ytpknonebnipcgaa.D Go.Proofs.Ytpknonebnipcgaa.E Go.Proofs.Ytpknonebnipcgaa.G Go.Proofs.Ytpknonebnipcgaa.H Go.Proofs.Ytpknonebnipcgaa.I Go.Proofs.Ytpknonebnipcgaa.J Go.Proofs.Ytpknonebnipcgaa.K Go.Proofs.Ytpknonebnipcgaa.L Go.Proofs.Ytpknonebnipcgaa.M Go.Proofs.Ytpknonebnipcgaa.N Go.Proofs.Ytpknonebnipcgaa.O Go.Proofs.Ytpknonebnipcgaa.Sp Go.Proofs.Ytpknonebnipcgaa.T Go.Proofs.Ytpknonebnipcgaa.Tg Go.Proofs.Ytpknonebnipcgaa.Tf Go.Proofs.Ytpknonebnipcgaa.Fa Go.Proofs.Ytpknonebnipcgaa.Fb Go.Proofs.Ytpknonebnipcgaa.Pm Go.Proofs.Ytpknonebnipcgaa.Mt Go.Proofs.Ytpknonebnipcgaa.Fo Go.Proofs.Ytpknonebnipcgaa.Du Go.Proofs.Ytpknonebnipcgaa.U Go.Proofs.Ytpknonebnipcgaa.W Go.Proofs.Ytpknonebnipcgaa.Zt Go.Proofs.Ytpknonebnipcgaa.Zf
set_option linter.unusedVariables false
set_option linter.unusedSimpArgs false

def briefB (t : TabT) : Bool := decide ((t.dues.length : Int) ≤ 12) && (decide ((t.closed.length : Int) ≤ 12) && (decide ((t.opened.length : Int) ≤ 12) && decide ((t.choice.length : Int) ≤ 12)))

set_option maxHeartbeats 1000000 in
theorem brief38 (t : TabT) (A0 A1 A2 A3 : Option Addr) (c0 c1 c2 c3 : Nat) (w : World) : Calls Try.prog 38 #[.agg #[.slice A0 t.dues.length c0, .slice A1 t.closed.length c1, .slice A2 t.opened.length c2, .slice A3 t.choice.length c3]] w fun e w' => e = .returned (.bool (briefB t)) ∧ Below w.heap.size w w' := by
  have hb := below_al (below_rf w) (.cells #[.slice A0 t.dues.length c0, .slice A1 t.closed.length c1, .slice A2 t.opened.length c2, .slice A3 t.choice.length c3] 45)
  unfold briefB
  cases d0 : decide ((t.dues.length : Int) ≤ 12) <;> cases d1 : decide ((t.closed.length : Int) ≤ 12) <;> cases d2 : decide ((t.opened.length : Int) ≤ 12) <;> cases d3 : decide ((t.choice.length : Int) ≤ 12)
  all_goals
    go_enter Try.func38, Try.ntmps38
    go_wp2
    go_ret
    exact ⟨rfl, hb⟩

set_option maxRecDepth 100000 in
set_option maxHeartbeats 16000000 in
theorem villages11 (p : PlanT) (o : TabT) (Ar : Option Addr) (cr : Nat) (A0 A1 A2 A3 : Option Addr) (c0 c1 c2 c3 : Nat) (w : World) (hR : RdW w (.slice Ar p.roads.length cr) p.roads)
    (h0 : RdI w (.slice A0 o.dues.length c0) o.dues) (h1 : RdI w (.slice A1 o.closed.length c1) o.closed) (h2 : RdI w (.slice A2 o.opened.length c2) o.opened) (h3 : RdI w (.slice A3 o.choice.length c3) o.choice)
    (hbd : ∀ x ∈ o.choice, -9223372036854775808 ≤ x ∧ x ≤ 9223372036854775807) :
    Calls Try.prog 11 #[.agg #[.int .i64 p.cars, .int .i64 p.first, .slice Ar p.roads.length cr], .agg #[.slice A0 o.dues.length c0, .slice A1 o.closed.length c1, .slice A2 o.opened.length c2, .slice A3 o.choice.length c3]] w fun e w' => e = .returned (.bool true) ∧ Below w.heap.size w w' := by
  have hll := (RdR.len hR).2
  obtain ⟨w0, hw0⟩ : ∃ w0, (w.alloc (.cells #[.int .i64 p.cars, .int .i64 p.first, .slice Ar p.roads.length cr] 38)).alloc (.cells #[.slice A0 o.dues.length c0, .slice A1 o.closed.length c1, .slice A2 o.opened.length c2, .slice A3 o.choice.length c3] 45) = w0 := ⟨_, rfl⟩
  have hb0 : Below w.heap.size w w0 := by rw [← hw0]; exact below_al (below_al (below_rf w) _) _
  have hbp : w0.heap[w.heap.size]? = some (.cells #[.int .i64 p.cars, .int .i64 p.first, .slice Ar p.roads.length cr] 38 (0, 0)) := by rw [← hw0]; exact blk_alloc (blk_new w _) _
  have hbt : w0.heap[w.heap.size + 1]? = some (.cells #[.slice A0 o.dues.length c0, .slice A1 o.closed.length c1, .slice A2 o.opened.length c2, .slice A3 o.choice.length c3] 45 (0, 0)) := by
    rw [← hw0]
    have := blk_new (w.alloc (.cells #[.int .i64 p.cars, .int .i64 p.first, .slice Ar p.roads.length cr] 38)) (.cells #[.slice A0 o.dues.length c0, .slice A1 o.closed.length c1, .slice A2 o.opened.length c2, .slice A3 o.choice.length c3] 45)
    rwa [World.size_alloc] at this
  have HR := Lib.hid hR
  have HO := Lib.hid (And.intro h0 (And.intro h1 (And.intro h2 h3)))
  have HBD := Lib.hid hbd
  have HS := Lib.hid (fun W hb => small26 p Ar cr W (RdW.below hR hb))
  have HPL := Lib.hid (fun W hb => plan27 p Ar cr W (RdW.below hR hb))
  have HB0 := Lib.hid hb0
  have HBP := Lib.hid hbp
  have HBT := Lib.hid hbt
  have p0 := cell_of_blk hbp 0
  have p1 := cell_of_blk hbp 1
  have p2 := cell_of_blk hbp 2
  simp only [List.getElem?_toArray, List.getElem?_cons_succ, List.getElem?_cons_zero] at p0 p1 p2
  clear hR h0 h1 h2 h3 hbd hb0 hbp hbt
  go_enter Try.func11, Try.ntmps11
  go_wp2_with fail
  clear hw0
  refine (HS.out _ HB0.out).mono ?_
  rintro e w2 ⟨rfl, hb2⟩
  have HB2 := Lib.hid (below_then HB0.out HB0.out.size hb2)
  have HP2 := Lib.hid (blk_below HBP.out hb2)
  have HT2 := Lib.hid (blk_below HBT.out hb2)
  clear p0 p1 p2 hb2 HB0 HBP HBT HS
  have p0 := cell_of_blk HP2.out 0
  have p1 := cell_of_blk HP2.out 1
  have p2 := cell_of_blk HP2.out 2
  simp only [List.getElem?_toArray, List.getElem?_cons_succ, List.getElem?_cons_zero] at p0 p1 p2
  cases hs : smallB p
  case false =>
    go_wp2_with (go_at_call 17; refine (known17 _).mono ?_; rintro e w9 ⟨rfl, hb9⟩)
    go_ret
    exact ⟨rfl, below_then HB2.out HB2.out.size hb9⟩
  have h8 : p.roads.length ≤ 8 := by
    unfold smallB at hs
    simp only [Bool.and_eq_true, Bool.not_eq_true', decide_eq_false_iff_not] at hs
    omega
  clear hs
  go_wp2_with fail
  refine (HPL.out _ HB2.out).mono ?_
  rintro e w3 ⟨rfl, hb3⟩
  have HB3 := Lib.hid (below_then HB2.out HB2.out.size hb3)
  have HP3 := Lib.hid (blk_below HP2.out hb3)
  have HT3 := Lib.hid (blk_below HT2.out hb3)
  clear p0 p1 p2 hb3 HB2 HP2 HT2 HPL
  have o0 := cell_of_blk HT3.out 0
  have o1 := cell_of_blk HT3.out 1
  have o2 := cell_of_blk HT3.out 2
  have o3 := cell_of_blk HT3.out 3
  simp only [List.getElem?_toArray, List.getElem?_cons_succ, List.getElem?_cons_zero] at o0 o1 o2 o3
  cases hok : okPlan p
  case false =>
    go_wp2_with (go_at_call 17; refine (known17 _).mono ?_; rintro e w9 ⟨rfl, hb9⟩)
    go_ret
    exact ⟨rfl, below_then HB3.out HB3.out.size hb9⟩
  obtain ⟨hP, _⟩ := okPlan_out hok
  have HOK := Lib.hid hok
  have HP := Lib.hid hP
  clear hok hP
  go_wp2_with fail
  refine (brief38 o A0 A1 A2 A3 c0 c1 c2 c3 _).mono ?_
  rintro e w4 ⟨rfl, hb4⟩
  have HB4 := Lib.hid (below_then HB3.out HB3.out.size hb4)
  have HP4 := Lib.hid (blk_below HP3.out hb4)
  have HT4 := Lib.hid (blk_below HT3.out hb4)
  clear o0 o1 o2 o3 hb4 HB3 HP3 HT3
  have p0 := cell_of_blk HP4.out 0
  have p1 := cell_of_blk HP4.out 1
  have p2 := cell_of_blk HP4.out 2
  simp only [List.getElem?_toArray, List.getElem?_cons_succ, List.getElem?_cons_zero] at p0 p1 p2
  cases hbr : briefB o
  case false =>
    go_wp2_with (go_at_call 17; refine (known17 _).mono ?_; rintro e w9 ⟨rfl, hb9⟩)
    go_ret
    exact ⟨rfl, below_then HB4.out HB4.out.size hb9⟩
  have HM := Lib.hid (make_tab p HOK.out h8 Ar cr w4 (RdW.below HR.out HB4.out))
  clear hbr
  go_wp2_with fail
  refine HM.out.mono ?_
  rintro e w5 ⟨⟨vd, vc, vo, vch, er, rfl, hT⟩, hb5⟩
  have HB5 := Lib.hid (below_then HB4.out HB4.out.size hb5)
  have HP5 := Lib.hid (blk_below HP4.out hb5)
  have HT5 := Lib.hid (blk_below HT4.out hb5)
  clear p0 p1 p2 hb5 HB4 HP4 HT4 HM
  rcases hT with ⟨ch, D0, D1, D2, D3, k0, k1, k2, k3, hk, rfl, rfl, rfl, rfl, rfl, ti⟩ | ⟨he, rfl, rfl, rfl, rfl⟩
  case inr =>
    have g1 : (er == 0) = false := by rcases he with rfl | rfl <;> rfl
    have g2 : (er != 0) = true := by rcases he with rfl | rfl <;> rfl
    clear he
    go_wp2_with fail
    refine (empty25_nil _).mono ?_
    rintro e w6 ⟨rfl, hb6⟩
    have hX := below_al HB5.out (.cells #[.slice none 0 0, .slice none 0 0, .slice none 0 0, .slice none 0 0] 45)
    have HB6 := Lib.hid (below_then hX hX.size hb6)
    clear hb6 hX
    go_wp2_with (go_at_call 17; refine (known17 _).mono ?_; rintro e w9 ⟨rfl, hb9⟩)
    go_ret
    exact ⟨rfl, below_then HB6.out HB6.out.size hb9⟩
  have hb6 := below_al (below_rf w5) (.cells #[.slice D0 (tabOf p ch).dues.length k0, .slice D1 (tabOf p ch).closed.length k1, .slice D2 (tabOf p ch).opened.length k2, .slice D3 (tabOf p ch).choice.length k3] 45)
  have HB6 := Lib.hid (below_then HB5.out HB5.out.size hb6)
  have HP6 := Lib.hid (blk_below HP5.out hb6)
  have HT6 := Lib.hid (blk_below HT5.out hb6)
  have HN6 := Lib.hid (blk_new w5 (.cells #[.slice D0 (tabOf p ch).dues.length k0, .slice D1 (tabOf p ch).closed.length k1, .slice D2 (tabOf p ch).opened.length k2, .slice D3 (tabOf p ch).choice.length k3] 45))
  have HTI6 := Lib.hid ((ti.below hb6).zero)
  have HK := Lib.hid hk
  have HF := Lib.hid (fits_mk p HOK.out h8 hk Ar cr (RdW.below HR.out HB6.out) HTI6.out)
  have p0 := cell_of_blk HP6.out 0
  have p1 := cell_of_blk HP6.out 1
  have p2 := cell_of_blk HP6.out 2
  have t0 := cell_of_blk HN6.out 0
  have t1 := cell_of_blk HN6.out 1
  have t2 := cell_of_blk HN6.out 2
  have t3 := cell_of_blk HN6.out 3
  simp only [List.getElem?_toArray, List.getElem?_cons_succ, List.getElem?_cons_zero] at p0 p1 p2 t0 t1 t2 t3
  clear hb6 ti hk HB5 HP5 HT5
  go_wp2_with fail
  refine HF.out.mono ?_
  rintro e wq ⟨rfl, hbq⟩
  have HBQ := Lib.hid (below_then HB6.out HB6.out.size hbq)
  have HPQ := Lib.hid (blk_below HP6.out hbq)
  have HTQ := Lib.hid (blk_below HT6.out hbq)
  have HNQ := Lib.hid (blk_below HN6.out hbq)
  have HTIQ := Lib.hid (HTI6.out.below hbq)
  clear p0 p1 p2 t0 t1 t2 t3 hbq HB6 HP6 HT6 HN6 HTI6 HF
  have HFI := Lib.hid (fits_out (mk_fits HP.out h8 HK.out))
  have HLE := Lib.hid (fun (h : FitsP p o) (e : o.choice = ch) j (hj : j ≤ p.roads.length) => least_le HP.out h8 HK.out h e j hj)
  have HCH := Lib.hid (show (tabOf p ch).choice = ch from rfl)
  have HDUE : Hid (∀ W, Below wq.heap.size wq W → ∀ j k : Nat, j < p.roads.length → (k : Int) < p.cars → Calls Try.prog 39 #[.agg #[.int .i64 p.cars, .int .i64 p.first, .slice Ar p.roads.length cr], .agg #[.slice D0 (tabOf p ch).dues.length k0, .slice D1 (tabOf p ch).closed.length k1, .slice D2 (tabOf p ch).opened.length k2, .slice D3 (tabOf p ch).choice.length k3], .int .i64 k, .int .i64 j] W fun e w' =>
      e = .returned (.tuple #[.int .i64 ((tabOf p ch).dues.getD j 0 + (k : Int) * (p.roads.getD j zw).gap), .int .i64 ((tabOf p ch).dues.getD j 0 + (k : Int) * (p.roads.getD j zw).gap + (p.roads.getD j zw).tar), .int .i64 0]) ∧ Below W.heap.size W w') := Lib.hid (fun W hb j k hj hk => by
    have hd := due39 p (by omega) (tabOf p ch) k j (by have := HP.out.cars; omega) Ar cr D0 D1 D2 D3 k0 k1 k2 k3 (tabOf p ch).closed.length (tabOf p ch).opened.length (tabOf p ch).choice.length W (RdW.below HR.out (below_then HBQ.out HBQ.out.size hb)) (HTIQ.out.below hb).r0
    have hyes : dueB p (tabOf p ch) k j = true := by
      unfold dueB
      have hf := HFI.out
      have a1 : timesB (tabOf p ch).dues ((p.roads.length : Int) + 1) = true := timesB_mk (n := p.roads.length + 1) hf.l0 hf.b0
      have a2 : inB (k : Int) 0 (p.cars - 1) = true := by simp only [inB, Bool.and_eq_true, decide_eq_true_eq]; omega
      have a3 : inB (j : Int) 0 ((p.roads.length : Int) - 1) = true := by simp only [inB, Bool.and_eq_true, decide_eq_true_eq]; omega
      rw [HOK.out, a1, a2, a3]
      rfl
    rw [dueV_yes hyes] at hd
    exact hd)
  generalize tabOf p ch = t at *
  have hcr := HP.out.cars
  have hln := HP.out.len
  obtain ⟨hc1, hc2⟩ := hcr
  obtain ⟨hn1, hn2⟩ := hln
  obtain ⟨q0, u0, rfl, hq0⟩ : ∃ b o, D0 = some ⟨b, o, none⟩ ∧ b < wq.heap.size := by
    obtain ⟨b, o, e, hb, _⟩ := Rd.i HTIQ.out.r0 0 _ (getD_get (by have := HFI.out.l0; omega))
    exact ⟨b, o, e, hb⟩
  obtain ⟨q1, u1, rfl, hq1⟩ : ∃ b o, D1 = some ⟨b, o, none⟩ ∧ b < wq.heap.size := by
    obtain ⟨b, o, e, hb, _⟩ := Rd.i HTIQ.out.r1 0 _ (getD_get (by have := HFI.out.l1; omega))
    exact ⟨b, o, e, hb⟩
  obtain ⟨q2, u2, rfl, hq2⟩ : ∃ b o, D2 = some ⟨b, o, none⟩ ∧ b < wq.heap.size := by
    obtain ⟨b, o, e, hb, _⟩ := Rd.i HTIQ.out.r2 0 _ (getD_get (by have := HFI.out.l2; omega))
    exact ⟨b, o, e, hb⟩
  obtain ⟨q3, u3, rfl, hq3⟩ : ∃ b o, D3 = some ⟨b, o, none⟩ ∧ b < wq.heap.size := by
    obtain ⟨b, o, e, hb, _⟩ := Rd.i HTIQ.out.r3 0 _ (getD_get (by have := HFI.out.l3; omega))
    exact ⟨b, o, e, hb⟩
  have HRQ := Lib.hid (RdW.below HR.out HBQ.out)
  obtain ⟨br, or_, rfl, hbr⟩ : ∃ b o, Ar = some ⟨b, o, none⟩ ∧ b < wq.heap.size := by
    obtain ⟨b, o, _, _, e, hb, _⟩ := Rd.way HRQ.out 0 _ (getD_w (by omega))
    exact ⟨b, o, e, hb⟩
  have HWY : Hid (∀ W, Below wq.heap.size wq W → ∀ j, j < p.roads.length → ∃ Ah ch, RdT W (.slice Ah (p.roads.getD j zw).hrs.length ch) (p.roads.getD j zw).hrs ∧
      W.cell? ⟨br, or_ + j * 8, none⟩ = some (.int .i64 (p.roads.getD j zw).tar) ∧ W.cell? ⟨br, or_ + j * 8 + 1, none⟩ = some (.int .i64 (p.roads.getD j zw).lead) ∧ W.cell? ⟨br, or_ + j * 8 + 2, none⟩ = some (.int .i64 (p.roads.getD j zw).lag) ∧ W.cell? ⟨br, or_ + j * 8 + 3, none⟩ = some (.int .i64 (p.roads.getD j zw).gap) ∧
      W.cell? ⟨br, or_ + j * 8 + 4, none⟩ = some (.bool (p.roads.getD j zw).grp) ∧ W.cell? ⟨br, or_ + j * 8 + 5, none⟩ = some (.int .i64 (p.roads.getD j zw).wait) ∧ W.cell? ⟨br, or_ + j * 8 + 6, none⟩ = some (.int .i64 (p.roads.getD j zw).most) ∧ W.cell? ⟨br, or_ + j * 8 + 7, none⟩ = some (.slice Ah (p.roads.getD j zw).hrs.length ch)) := Lib.hid (fun W hb j hj => by
    obtain ⟨b, o, Ah, ch, e, _, hh, d0, d1, d2, d3, d4, d5, d6, d7⟩ := Rd.way (RdW.below HRQ.out hb) j _ (getD_w hj)
    injection e with e
    injection e with e1 e2
    subst e1 e2
    exact ⟨Ah, ch, hh, d0, d1, d2, d3, d4, d5, d6, d7⟩)
  have HD : Hid (∀ W, Below wq.heap.size wq W → ∀ j, j < p.roads.length → W.cell? ⟨q1, u1 + j, none⟩ = some (.int .i64 (t.closed.getD j 0)) ∧ W.cell? ⟨q2, u2 + j, none⟩ = some (.int .i64 (t.opened.getD j 0)) ∧ W.cell? ⟨q3, u3 + j, none⟩ = some (.int .i64 (t.choice.getD j 0))) := Lib.hid (fun W hb j hj =>
    ⟨(rd_at (HTIQ.out.below hb).r1 (j := j) (by have := HFI.out.l1; omega)).1, (rd_at (HTIQ.out.below hb).r2 (j := j) (by have := HFI.out.l2; omega)).1, (rd_at (HTIQ.out.below hb).r3 (j := j) (by have := HFI.out.l3; omega)).1⟩)
  have HWB : Hid (∀ j, j < p.roads.length → WBd (p.roads.getD j zw) ∧ 0 ≤ spanOf p (p.roads.getD j zw) ∧ spanOf p (p.roads.getD j zw) ≤ 12000) := Lib.hid (fun j hj => by
    have hw := HP.out.road _ (List.mem_of_getElem? (getD_w hj))
    exact ⟨hw, HP.out.span hw⟩)
  have hl1 : p.roads.length ≤ t.closed.length := by have := HFI.out.l1; omega
  have hl2 : p.roads.length ≤ t.opened.length := by have := HFI.out.l2; omega
  have hl3 : p.roads.length ≤ t.choice.length := by have := HFI.out.l3; omega
  have hl0 : p.roads.length + 1 ≤ t.dues.length := by have := HFI.out.l0; omega
  have hnn : w.heap.size + 2 ≤ wq.heap.size := by
    have := blk_lt HTQ.out
    omega
  have hn5 : w5.heap.size < wq.heap.size := blk_lt HNQ.out
  go_wp2_with fail
  go_loopg [7] p.roads.length (fun gg s7 wr => ∃ j : Nat, j ≤ p.roads.length ∧ p.roads.length - j ≤ gg ∧ s7 = .int .i64 j ∧ Hid (Below wq.heap.size wq wr))
  case atStart => exact ⟨0, Nat.zero_le _, by omega, rfl, Lib.hid (Below.refl _ _)⟩
  case round =>
    obtain ⟨wo, rfl⟩ : ∃ wo : World, wo = wr := ⟨_, rfl⟩
    obtain ⟨j, hj, hgg, rfl, HW⟩ := hrel
    have KP := Lib.hid (blk_below HPQ.out HW.out)
    have KN := Lib.hid (blk_below HNQ.out HW.out)
    have KT := Lib.hid (blk_below HTQ.out HW.out)
    have p0 := cell_of_blk KP.out 0
    have p1 := cell_of_blk KP.out 1
    have p2 := cell_of_blk KP.out 2
    simp only [List.getElem?_toArray, List.getElem?_cons_succ, List.getElem?_cons_zero] at p0 p1 p2
    by_cases hlt : j < p.roads.length
    · obtain ⟨Ah, ca, hh, d0, d1, d2, d3, d4, d5, d6, d7⟩ := HWY.out wo HW.out j hlt
      have hhl := (RdR.len hh).2
      have hFr := HFI.out.road j hlt
      have hFs := HFI.out.some j hlt
      have hB0 := HFI.out.b0 j (by omega)
      have hB1 := HFI.out.b1 j hlt
      have hB2 := HFI.out.b2 j hlt
      obtain ⟨hwb, hs1, hs2⟩ := HWB.out j hlt
      have hta := hwb.tar
      have hle := hwb.lead
      have hla := hwb.lag
      have hga := hwb.gap
      have hok := hwb.hok
      have HOKH := Lib.hid hok
      have HH := Lib.hid hh
      have HDJ := Lib.hid (fun W hb k hk => HDUE.out W hb j k hlt hk)
      have HCJ := Lib.hid (fun W hb => HD.out W hb j hlt)
      have hspn : spanOf p (p.roads.getD j zw) = (p.cars - 1) * (p.roads.getD j zw).gap := rfl
      rw [hspn] at hs1 hs2 hFr
      clear hh hwb hok hspn
      generalize p.roads.getD j zw = x at *
      generalize t.dues.getD j 0 = dq at *
      generalize t.closed.getD j 0 = ck at *
      generalize t.opened.getD j 0 = ok_ at *
      generalize t.choice.getD j 0 = hk_ at *
      obtain ⟨tar, lead, lag, gap, grp, wait, most, hrs⟩ := x
      simp only at *
      have hbx := below_al (below_rf wo) (.cells #[.int .i64 tar, .int .i64 lead, .int .i64 lag, .int .i64 gap, .bool grp, .int .i64 wait, .int .i64 most, .slice Ah hrs.length ca] 41)
      have hnx := blk_new wo (.cells #[.int .i64 tar, .int .i64 lead, .int .i64 lag, .int .i64 gap, .bool grp, .int .i64 wait, .int .i64 most, .slice Ah hrs.length ca] 41)
      have HBX := Lib.hid hbx
      have HNX := Lib.hid hnx
      clear hbx hnx
      go_upto_if 61 with fail
      clear d0 d1 d2 d3 d4 d5 d6 d7 p0 p1 p2
      have hwbx := below_then HW.out HW.out.size HBX.out
      have HWX := Lib.hid hwbx
      have KNX := Lib.hid (blk_below KN.out HBX.out)
      have HHX := Lib.hid (Rd.below HH.out HBX.out)
      have hX : wo.heap.size < (wo.alloc (.cells #[.int .i64 tar, .int .i64 lead, .int .i64 lag, .int .i64 gap, .bool grp, .int .i64 wait, .int .i64 most, .slice Ah hrs.length ca] 41)).heap.size := blk_lt HNX.out
      clear HBX HH hwbx
      generalize (wo.alloc (.cells #[.int .i64 tar, .int .i64 lead, .int .i64 lag, .int .i64 gap, .bool grp, .int .i64 wait, .int .i64 most, .slice Ah hrs.length ca] 41)) = wx at *
      have hXq : wq.heap.size ≤ wo.heap.size := HW.out.size
      generalize wo.heap.size = X at *
      go_cut [] (fun wz => Hid (Below wx.heap.size wx wz))
      case first =>
        by_cases hz : hrs.length = 0
        · have hd : decide ((0 : Int) < (hrs.length : Int)) = false := decide_eq_false (by omega)
          go_wp2_with fail
          go_meet
          exact Lib.hid (Below.refl _ _)
        · have hd : decide ((0 : Int) < (hrs.length : Int)) = true := decide_eq_true (by omega)
          obtain ⟨hm0, hm1, hf1, hf2, hf3⟩ := hFs hz
          obtain ⟨m, rfl⟩ : ∃ m : Nat, hk_ = m := ⟨hk_.toNat, by omega⟩
          have hml : m < hrs.length := by omega
          have hy := getD_t3 hml
          obtain ⟨bh, oh, rfl, hbh, r0, r1, r2⟩ := Rd.t3 HHX.out m _ hy
          rw [Int.toNat_natCast] at hf1 hf2 hf3
          generalize hrs.getD m z3 = y at *
          have x7 := cell_of_blk HNX.out 7
          have t3 := cell_of_blk KNX.out 3
          simp only [List.getElem?_toArray, List.getElem?_cons_succ, List.getElem?_cons_zero] at x7 t3
          obtain ⟨_, _, th⟩ := HCJ.out wx HWX.out
          have hszx := HWX.out.size
          have n1 : X ≠ wx.heap.size := by omega
          have n2 : w5.heap.size ≠ wx.heap.size := by omega
          have n3 : q3 ≠ wx.heap.size := by omega
          have n4 : bh ≠ wx.heap.size := by omega
          have i0 : (0 : Int) ≤ (j : Int) := by omega
          have i1 : (j : Int) < (t.choice.length : Int) := by omega
          have i2 : (0 : Int) ≤ (m : Int) := by omega
          have i3 : (m : Int) < (hrs.length : Int) := by omega
          clear hy hFs
          go_wp2_with fail
          go_region_held3 (fun v' => v'.cell? ⟨X, 7, none⟩ = some (.slice (some ⟨bh, oh, none⟩) hrs.length ca) ∧ v'.cell? ⟨w5.heap.size, 3, none⟩ = some (.slice (some ⟨q3, u3, none⟩) t.choice.length k3) ∧ v'.cell? ⟨q3, u3 + j, none⟩ = some (.int .i64 m) ∧ v'.cell? ⟨bh, oh + m * 3, none⟩ = some (.int .i64 y.a) ∧ v'.cell? ⟨bh, oh + m * 3 + 1, none⟩ = some (.int .i64 y.b) ∧ v'.cell? ⟨bh, oh + m * 3 + 2, none⟩ = some (.int .i64 y.c)) (refine ⟨by go_keep, by go_keep, by go_keep, by go_keep, by go_keep, by go_keep⟩) (fail)
          clear n1 n2 n3 n4 i2 i3 r0 r1 r2 x7 th t3
          have hu0 : Below wx.heap.size wx ((wx.alloc (.cells #[.int .i64 y.a, .int .i64 y.b, .int .i64 y.c] 43)).drew) := below_dr (below_al (below_rf wx) _)
          have huy : ((wx.alloc (.cells #[.int .i64 y.a, .int .i64 y.b, .int .i64 y.c] 43)).drew).heap[wx.heap.size]? = some (.cells #[.int .i64 y.a, .int .i64 y.b, .int .i64 y.c] 43 (0, 0)) := blk_new wx _
          have HU0 := Lib.hid hu0
          have HUY := Lib.hid huy
          clear hu0 huy
          generalize (wx.alloc (.cells #[.int .i64 y.a, .int .i64 y.b, .int .i64 y.c] 43)).drew = wu at *
          have KNU := Lib.hid (blk_below KNX.out HU0.out)
          have t1 := cell_of_blk KNU.out 1
          have t2 := cell_of_blk KNU.out 2
          have y0 := cell_of_blk HUY.out 0
          have y1 := cell_of_blk HUY.out 1
          have y2 := cell_of_blk HUY.out 2
          simp only [List.getElem?_toArray, List.getElem?_cons_succ, List.getElem?_cons_zero] at t1 t2 y0 y1 y2
          obtain ⟨tc, to_, _⟩ := HCJ.out wu (below_then HWX.out HWX.out.size HU0.out)
          have g1 : IntKind.i64.wrap (ok_ - ck) = ok_ - ck := by simp only [IntKind.wrap_i64]; omega
          have i2 : (j : Int) < (t.closed.length : Int) := by omega
          have i3 : (j : Int) < (t.opened.length : Int) := by omega
          have hz2 : j < t.closed.length := by omega
          have hz3 : j < t.opened.length := by omega
          have f1 : decide (ck < y.a) = false := decide_eq_false (by omega)
          have f2 : decide (y.b < ok_) = false := decide_eq_false (by omega)
          have f3 : decide (y.c < ok_ - ck) = false := decide_eq_false (by omega)
          go_wp2_with fail
          go_quiet (fail)
          go_wp2_with fail
          go_meet
          exact Lib.hid (below_drewN HU0.out _)
      case rest =>
        have HC := Lib.hid hcut.out
        clear hcut
        have HWC := Lib.hid (below_then HWX.out HWX.out.size HC.out)
        have KPC := Lib.hid (blk_below HPQ.out HWC.out)
        have KNC := Lib.hid (blk_below HNQ.out HWC.out)
        have KXC := Lib.hid (blk_below HNX.out HC.out)
        clear KP KN KT HNX KNX HHX HWX HC hFs HOKH hX hXq
        go_wp2_with fail
        go_loopg [10, 11, 12, 13, 14] p.cars.toNat (fun gg s10 s11 s12 s13 s14 wi => ∃ (k : Nat) (L : Int), (k : Int) ≤ p.cars ∧ p.cars.toNat - k ≤ gg ∧ s11 = .int .i64 k ∧ s10 = .int .i64 L ∧ L < dq + (k : Int) * gap ∧ Hid (Below wc.heap.size wc wi))
        case atStart => exact ⟨0, -1, by omega, by omega, rfl, rfl, by simp; omega, Lib.hid (Below.refl _ _)⟩
        case round =>
          obtain ⟨wi, rfl⟩ : ∃ wi : World, wi = wr := ⟨_, rfl⟩
          obtain ⟨k, L, hk, hgg2, rfl, rfl, hL, HI⟩ := hrel
          have HWI := Lib.hid (below_then HWC.out HWC.out.size HI.out)
          have KPI := Lib.hid (blk_below KPC.out HI.out)
          have KNI := Lib.hid (blk_below KNC.out HI.out)
          have KXI := Lib.hid (blk_below KXC.out HI.out)
          have p0 := cell_of_blk KPI.out 0
          have p1 := cell_of_blk KPI.out 1
          have p2 := cell_of_blk KPI.out 2
          have t0 := cell_of_blk KNI.out 0
          have t1 := cell_of_blk KNI.out 1
          have t2 := cell_of_blk KNI.out 2
          have t3 := cell_of_blk KNI.out 3
          simp only [List.getElem?_toArray, List.getElem?_cons_succ, List.getElem?_cons_zero] at p0 p1 p2 t0 t1 t2 t3
          by_cases hkc : (k : Int) < p.cars
          · have dk : decide ((k : Int) < p.cars) = true := decide_eq_true hkc
            have HDC := Lib.hid (HDJ.out wi HWI.out k hkc)
            have hm1 : 0 ≤ (k : Int) * gap := Int.mul_nonneg (by omega) (by omega)
            have hm2 : (k : Int) * gap ≤ (p.cars - 1) * gap := Int.mul_le_mul_of_nonneg_right (by omega) (by omega)
            have hsucc : ((k + 1 : Nat) : Int) * gap = (k : Int) * gap + gap := by
              rw [show ((k + 1 : Nat) : Int) = (k : Int) + 1 from rfl, Int.add_mul, Int.one_mul]
            have HSU := Lib.hid hsucc
            clear hsucc
            obtain ⟨m, hm⟩ : ∃ m, (k : Int) * gap = m := ⟨_, rfl⟩
            rw [hm] at HDC hm1 hm2 hL HSU
            clear hm
            obtain ⟨M, hM⟩ : ∃ M, (p.cars - 1) * gap = M := ⟨_, rfl⟩
            rw [hM] at hm2 hs1 hs2 hFr
            clear hM
            obtain ⟨hfr1, hfr2⟩ := hFr
            go_wp2_with fail
            refine HDC.out.mono ?_
            rintro e wd ⟨rfl, hbd⟩
            have HD2 := Lib.hid (below_then HI.out HI.out.size hbd)
            have KND := Lib.hid (blk_below KNI.out hbd)
            have KXD := Lib.hid (blk_below KXI.out hbd)
            have HWD := Lib.hid (below_then HWI.out HWI.out.size hbd)
            clear p0 p1 p2 t0 t1 t2 t3 hbd HDC KPI KNI KXI
            have t1 := cell_of_blk KND.out 1
            have t2 := cell_of_blk KND.out 2
            have x1 := cell_of_blk KXD.out 1
            have x2 := cell_of_blk KXD.out 2
            simp only [List.getElem?_toArray, List.getElem?_cons_succ, List.getElem?_cons_zero] at t1 t2 x1 x2
            obtain ⟨tc, to_, _⟩ := HCJ.out wd HWD.out
            have i0 : (0 : Int) ≤ (j : Int) := by omega
            have i2 : (j : Int) < (t.closed.length : Int) := by omega
            have i3 : (j : Int) < (t.opened.length : Int) := by omega
            have hz2 : j < t.closed.length := by omega
            have hz3 : j < t.opened.length := by omega
            have g1 : IntKind.i64.wrap (ck + lead) = ck + lead := by simp only [IntKind.wrap_i64]; omega
            have g2 : IntKind.i64.wrap (dq + m + tar + lag) = dq + m + tar + lag := by simp only [IntKind.wrap_i64]; omega
            have f1 : decide (dq + m ≤ L) = false := decide_eq_false (by omega)
            have f2 : decide (dq + m < ck + lead) = false := decide_eq_false (by omega)
            have f3 : decide (ok_ < dq + m + tar + lag) = false := decide_eq_false (by omega)
            go_wp2_with fail
            go_quiet (fail)
            go_wp2_with fail
            go_roundg (p.cars.toNat - (k + 1))
            case measure => omega
            case rel => exact ⟨k + 1, dq + m, by omega, by omega, by go_num, rfl, by rw [HSU.out]; omega, Lib.hid (below_drewN HD2.out _)⟩
          · have dk : decide ((k : Int) < p.cars) = false := decide_eq_false hkc
            go_wp2_with fail
            go_roundg (p.roads.length - (j + 1))
            case measure => omega
            case rel => exact ⟨j + 1, by omega, by omega, by go_num, Lib.hid HWI.out⟩
    · obtain rfl : j = p.roads.length := by omega
      have o0 := cell_of_blk KT.out 0
      have o1 := cell_of_blk KT.out 1
      have o2 := cell_of_blk KT.out 2
      have o3 := cell_of_blk KT.out 3
      simp only [List.getElem?_toArray, List.getElem?_cons_succ, List.getElem?_cons_zero] at o0 o1 o2 o3
      have HBW := Lib.hid (below_then HBQ.out HBQ.out.size HW.out)
      obtain ⟨h0, h1, h2, h3⟩ := HO.out
      have HF2 := Lib.hid (fits28 p HP.out (some ⟨br, or_, none⟩) cr o A0 A1 A2 A3 c0 c1 c2 c3 wo (RdW.below HR.out HBW.out) (Rd.below h0 HBW.out) (Rd.below h1 HBW.out) (Rd.below h2 HBW.out) (Rd.below h3 HBW.out) HBD.out)
      have HFO := Lib.hid (fun h : fitsB p o = true => fits_out h)
      clear h0 h1 h2 h3 HDUE HWY HD HWB hlt hgg
      go_wp2_with fail
      refine HF2.out.mono ?_
      rintro e wf ⟨rfl, hbf⟩
      have HWF := Lib.hid (below_then HW.out HW.out.size hbf)
      have HBF := Lib.hid (below_then HBW.out HBW.out.size hbf)
      have KPF := Lib.hid (blk_below KP.out hbf)
      have KNF := Lib.hid (blk_below KN.out hbf)
      have KTF := Lib.hid (blk_below KT.out hbf)
      clear p0 p1 p2 o0 o1 o2 o3 hbf HF2 KP KN KT HW HBW
      cases hfo : fitsB p o
      case false =>
        go_wp2_with (go_at_call 17; refine (known17 _).mono ?_; rintro e w9 ⟨rfl, hb9⟩)
        go_ret
        exact ⟨rfl, below_then HBF.out HBF.out.size hb9⟩
      have HFP := Lib.hid (HFO.out hfo)
      have HEQ : Hid (decide (o.choice = t.choice) = true → o.choice = ch) := Lib.hid (fun h => (of_decide_eq_true h).trans HCH.out)
      have HSM := Lib.hid (same22 A3 (some ⟨q3, u3, none⟩) c3 k3 o.choice t.choice wf (Rd.below HO.out.2.2.2 HBF.out) (HTIQ.out.below HWF.out).r3)
      have o3 := cell_of_blk KTF.out 3
      have t3 := cell_of_blk KNF.out 3
      simp only [List.getElem?_toArray, List.getElem?_cons_succ, List.getElem?_cons_zero] at o3 t3
      clear hfo HFO
      go_wp2_with fail
      refine HSM.out.mono ?_
      rintro e wg ⟨rfl, hbg⟩
      have HWG := Lib.hid (below_then HWF.out HWF.out.size hbg)
      have HBG := Lib.hid (below_then HBF.out HBF.out.size hbg)
      clear o3 t3 hbg HSM HWF HBF KPF KNF KTF
      generalize decide (o.choice = t.choice) = same at *
      cases same
      case false =>
        go_wp2_with (go_at_call 17; refine (known17 _).mono ?_; rintro e w9 ⟨rfl, hb9⟩)
        go_ret
        exact ⟨rfl, below_then HBG.out HBG.out.size hb9⟩
      have HLL := Lib.hid (HLE.out HFP.out (HEQ.out rfl))
      have ho0 : p.roads.length + 1 ≤ o.dues.length := by have := HFP.out.l0; omega
      obtain ⟨s0, v0, rfl⟩ : ∃ b o', A0 = some ⟨b, o', none⟩ := by
        obtain ⟨b, o', e, hb, _⟩ := Rd.i HO.out.1 0 _ (getD_get (by omega))
        exact ⟨b, o', e⟩
      clear HEQ HLE HFP
      go_wp2_with fail
      go_loopg [15] (p.roads.length + 1) (fun gg s15 wi => ∃ k : Nat, k ≤ p.roads.length + 1 ∧ p.roads.length + 1 - k ≤ gg ∧ s15 = .int .i64 k ∧ Hid (Below wg.heap.size wg wi))
      case atStart => exact ⟨0, by omega, by omega, rfl, Lib.hid (Below.refl _ _)⟩
      case round =>
        obtain ⟨wi, rfl⟩ : ∃ wi : World, wi = wr := ⟨_, rfl⟩
        obtain ⟨k, hk, hgg, rfl, HI⟩ := hrel
        have HWI := Lib.hid (below_then HWG.out HWG.out.size HI.out)
        have HBI := Lib.hid (below_then HBG.out HBG.out.size HI.out)
        have p2 := cell_of_blk (blk_below HPQ.out HWI.out) 2
        have t0 := cell_of_blk (blk_below HNQ.out HWI.out) 0
        have o0 := cell_of_blk (blk_below HTQ.out HWI.out) 0
        simp only [List.getElem?_toArray, List.getElem?_cons_succ, List.getElem?_cons_zero] at p2 t0 o0
        by_cases hlt : k ≤ p.roads.length
        · obtain ⟨hct, hbt⟩ := rd_at (HTIQ.out.below HWI.out).r0 (j := k) (by omega)
          obtain ⟨hcu, hbu⟩ := rd_at (Rd.below HO.out.1 HBI.out) (j := k) (by omega)
          have hle := HLL.out k hlt
          have hk1 : k < t.dues.length := by omega
          have hk2 : k < o.dues.length := by omega
          have hi1 : (k : Int) < (t.dues.length : Int) := by omega
          have hi2 : (k : Int) < (o.dues.length : Int) := by omega
          generalize t.dues.getD k 0 = a at *
          generalize o.dues.getD k 0 = b at *
          have dd : decide (b < a) = false := decide_eq_false (by omega)
          go_wp2_with fail
          go_quiet (fail)
          go_wp2_with fail
          go_roundg (p.roads.length + 1 - (k + 1))
          case measure => omega
          case rel => exact ⟨k + 1, by omega, by omega, by go_num, Lib.hid (below_drewN HI.out _)⟩
        · obtain rfl : k = p.roads.length + 1 := by omega
          go_wp2_with (go_at_call 17; refine (known17 _).mono ?_; rintro e w9 ⟨rfl, hb9⟩)
          go_ret
          exact ⟨rfl, below_then HBI.out HBI.out.size hb9⟩
end Go.Proofs.Ytpknonebnipcgaa.Zv
