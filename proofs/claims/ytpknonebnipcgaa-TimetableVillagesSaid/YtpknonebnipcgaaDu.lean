import Derived.Test.YtpknonebnipcgaaProg
import Derived.WalkKit
import Derived.KernelRfl
import Derived.Deep.LoopGhost
import Derived.Deep.QuietTactic
import Derived.BigQuiet
import Derived.Deep.DeepCutAuto
import Derived.Deep.CutBlock
import Derived.Deep.RegionHeld3
import Derived.WalkLawsBesides
import Derived.WalkSpells
import Derived.Outline
import Derived.Deep.DeepFit
import Derived.Lib.Hide
import Derived.Shelf.Abstract
import Derived.OwnWalk
import Derived.Test.YtpknonebnipcgaaFb

namespace Go.Proofs.Ytpknonebnipcgaa.Du
open Go.RowKit Go.Shelf Go.Proofs.Ytpknonebnipcgaa.V Go.Proofs.Ytpknonebnipcgaa.A Go.Proofs.Ytpknonebnipcgaa.B Go.Proofs.Ytpknonebnipcgaa.C Go.Proofs.Ytpknonebnipcgaa.P Go.Proofs.Ytpknonebnipcgaa.D Go.Proofs.Ytpknonebnipcgaa.E Go.Proofs.Ytpknonebnipcgaa.G Go.Proofs.Ytpknonebnipcgaa.I Go.Proofs.Ytpknonebnipcgaa.J Go.Proofs.Ytpknonebnipcgaa.K Go.Proofs.Ytpknonebnipcgaa.L Go.Proofs.Ytpknonebnipcgaa.M Go.Proofs.Ytpknonebnipcgaa.N Go.Proofs.Ytpknonebnipcgaa.Fa Go.Proofs.Ytpknonebnipcgaa.Fb
set_option linter.unusedVariables false
set_option linter.unusedSimpArgs false

/-! ### timed -/
theorem p103 (x : Int) (w : World) : Calls Try.prog 103 #[.int .i64 x] w fun e w' => e = .returned (.bool (inB x 0 1000000000)) ∧ w' = w := by
  go_enter Try.func103, Try.ntmps103
  go_wp2_with (go_at_call 57; refine (within57 _ _ _ _).mono ?_; rintro e w' ⟨rfl, rfl⟩)
  go_ret
  exact ⟨rfl, rfl⟩

theorem p109 (x : Int) (B : Nat) (w : World) (hc : w.cell? ⟨B, 0, none⟩ = some (.func (.func 103) #[] #[])) : Calls Try.prog 109 #[.int .i64 x, .pointer (some ⟨B, 0, none⟩)] w fun e w' => e = .returned (.bool (!inB x 0 1000000000)) ∧ w' = w := by
  have e103 := enters_of (P := Try.prog) Try.func103 (by kernel_rfl) rfl
  go_enter Try.func109, Try.ntmps109
  go_wp2_with fail
  refine (p103 _ _).mono ?_
  rintro e w' ⟨rfl, rfl⟩
  go_wp2
  go_ret
  exact ⟨rfl, rfl⟩

theorem any_not (p : Int → Bool) : ∀ xs : List Int, xs.any (fun x => !p x) = !xs.all p
  | [] => rfl
  | x :: xs => by simp [any_not p xs]

theorem every102 (A : Option Addr) (c : Nat) (xs : List Int) (w : World) (hr : RdI w (.slice A xs.length c) xs) :
    Calls Try.prog 102 #[.slice A xs.length c, .func (.func 103) #[] #[]] w fun e w' => e = .returned (.bool (xs.all fun x => inB x 0 1000000000)) ∧ Below w.heap.size w w' := by
  have hb1 := below_al (below_rf w) (.cells #[.func (.func 103) #[] #[]] 103)
  have hbx := blk_new w (.cells #[.func (.func 103) #[] #[]] 103)
  have hcon := containsFunc70 109 #[.pointer (some ⟨w.heap.size, 0, none⟩)] (enters_of Try.func109 (by kernel_rfl) rfl) (fun x => !inB x 0 1000000000) A c xs _ (Rd.below hr hb1) (fun W x hx hb => (p109 x w.heap.size W ((cell_of_blk (blk_below hbx hb) 0).trans rfl)).mono (by
    rintro e w' ⟨rfl, rfl⟩
    exact ⟨rfl, Below.refl _ _⟩))
  rw [any_not] at hcon
  have HC := Lib.hid hcon
  have HB1 := Lib.hid hb1
  clear hr hcon hb1 hbx
  generalize (xs.all fun x => inB x 0 1000000000) = r at *
  go_enter Try.func102, Try.ntmps102
  go_wp2_with (go_at_call 70; refine HC.out.mono ?_; rintro e w' ⟨rfl, hb'⟩)
  go_ret
  exact ⟨by simp, below_then HB1.out HB1.out.size hb'⟩

theorem timed79 (A : Option Addr) (c : Nat) (l : List Int) (n : Int) (w : World) (hr : RdI w (.slice A l.length c) l) :
    Calls Try.prog 79 #[.slice A l.length c, .int .i64 n] w fun e w' => e = .returned (.bool (timesB l n)) ∧ Below w.heap.size w w' := by
  have hll := (RdR.len hr).2
  have HE := Lib.hid (every102 A c l w hr)
  unfold timesB
  clear hr
  generalize (l.all fun x => inB x 0 1000000000) = r at *
  cases q : ((l.length : Int) == n)
  · go_enter Try.func79, Try.ntmps79
    go_wp2
    go_ret
    exact ⟨by simp, Below.refl _ _⟩
  · go_enter Try.func79, Try.ntmps79
    go_wp2_with (go_at_call 102; refine HE.out.mono ?_; rintro e w' ⟨rfl, hb'⟩)
    go_ret
    exact ⟨by simp, hb'⟩

/-! ### Due -/
def dueB (p : PlanT) (t : TabT) (car road : Int) : Bool := okPlan p && (timesB t.dues ((p.roads.length : Int) + 1) && (inB car 0 (p.cars - 1) && inB road 0 ((p.roads.length : Int) - 1)))

def dueV (p : PlanT) (t : TabT) (car road : Int) : Array Value := if dueB p t car road = true then #[.int .i64 (t.dues.getD road.toNat 0 + car * (p.roads.getD road.toNat zw).gap), .int .i64 (t.dues.getD road.toNat 0 + car * (p.roads.getD road.toNat zw).gap + (p.roads.getD road.toNat zw).tar), .int .i64 0] else #[.int .i64 0, .int .i64 0, .int .i64 2]
theorem dueV_no {p : PlanT} {t : TabT} {car road : Int} (h : dueB p t car road = false) : dueV p t car road = #[.int .i64 0, .int .i64 0, .int .i64 2] := by
  unfold dueV
  rw [h]
  rfl
theorem dueV_yes {p : PlanT} {t : TabT} {car : Int} {j : Nat} (h : dueB p t car j = true) : dueV p t car j = #[.int .i64 (t.dues.getD j 0 + car * (p.roads.getD j zw).gap), .int .i64 (t.dues.getD j 0 + car * (p.roads.getD j zw).gap + (p.roads.getD j zw).tar), .int .i64 0] := by
  unfold dueV
  rw [h]
  rfl

set_option maxRecDepth 100000 in
set_option maxHeartbeats 8000000 in
theorem due39 (p : PlanT) (hlr : p.roads.length ≤ 1000000) (t : TabT) (car road : Int) (hcar : -9223372036854775808 ≤ p.cars ∧ p.cars ≤ 9223372036854775807) (Ar : Option Addr) (cr : Nat) (A0 A1 A2 A3 : Option Addr) (c0 c1 c2 c3 n1 n2 n3 : Nat) (w : World) (hR : RdW w (.slice Ar p.roads.length cr) p.roads)
    (h0 : RdI w (.slice A0 t.dues.length c0) t.dues) :
    Calls Try.prog 39 #[.agg #[.int .i64 p.cars, .int .i64 p.first, .slice Ar p.roads.length cr], .agg #[.slice A0 t.dues.length c0, .slice A1 n1 c1, .slice A2 n2 c2, .slice A3 n3 c3], .int .i64 car, .int .i64 road] w fun e w' =>
      e = .returned (.tuple (dueV p t car road)) ∧ Below w.heap.size w w' := by
  have hll := (RdR.len hR).2
  have hl0 := (RdR.len h0).2
  obtain ⟨w0, hw0⟩ : ∃ w0, (w.alloc (.cells #[.int .i64 p.cars, .int .i64 p.first, .slice Ar p.roads.length cr] 38)).alloc (.cells #[.slice A0 t.dues.length c0, .slice A1 n1 c1, .slice A2 n2 c2, .slice A3 n3 c3] 45) = w0 := ⟨_, rfl⟩
  have hb0 : Below w.heap.size w w0 := by rw [← hw0]; exact below_al (below_al (below_rf w) _) _
  have hbp : w0.heap[w.heap.size]? = some (.cells #[.int .i64 p.cars, .int .i64 p.first, .slice Ar p.roads.length cr] 38 (0, 0)) := by rw [← hw0]; exact blk_alloc (blk_new w _) _
  have hbt : w0.heap[w.heap.size + 1]? = some (.cells #[.slice A0 t.dues.length c0, .slice A1 n1 c1, .slice A2 n2 c2, .slice A3 n3 c3] 45 (0, 0)) := by
    rw [← hw0]
    have := blk_new (w.alloc (.cells #[.int .i64 p.cars, .int .i64 p.first, .slice Ar p.roads.length cr] 38)) (.cells #[.slice A0 t.dues.length c0, .slice A1 n1 c1, .slice A2 n2 c2, .slice A3 n3 c3] 45)
    rwa [World.size_alloc] at this
  have HR := Lib.hid hR
  have H0 := Lib.hid h0
  have HB0 := Lib.hid hb0
  have HBP := Lib.hid hbp
  have HBT := Lib.hid hbt
  have hc42 := fun W hb => check42 p Ar cr W (RdW.below hR hb)
  have HC42 : Hid (∀ W, Below w.heap.size w W → Calls Try.prog 42 #[.agg #[.int .i64 p.cars, .int .i64 p.first, .slice Ar p.roads.length cr]] W fun e w' => e = .returned (errB (okPlan p)) ∧ Below W.heap.size W w') := Lib.hid hc42
  have HT := Lib.hid (fun k W hb => timed79 A0 c0 t.dues k W (Rd.below h0 hb))
  have p0 := cell_of_blk hbp 0
  have p1 := cell_of_blk hbp 1
  have p2 := cell_of_blk hbp 2
  simp only [List.getElem?_toArray, List.getElem?_cons_succ, List.getElem?_cons_zero] at p0 p1 p2
  clear hR h0 hc42 hb0 hbp hbt
  have HNO : Hid (dueB p t car road = false → dueV p t car road = #[.int .i64 0, .int .i64 0, .int .i64 2]) := Lib.hid dueV_no
  have HB : Hid (dueB p t car road = (okPlan p && (timesB t.dues ((p.roads.length : Int) + 1) && (inB car 0 (p.cars - 1) && inB road 0 ((p.roads.length : Int) - 1))))) := Lib.hid rfl
  have HYES : Hid (∀ j : Nat, road = j → dueB p t car road = true → dueV p t car road = #[.int .i64 (t.dues.getD j 0 + car * (p.roads.getD j zw).gap), .int .i64 (t.dues.getD j 0 + car * (p.roads.getD j zw).gap + (p.roads.getD j zw).tar), .int .i64 0]) := Lib.hid (fun j e h => by subst e; exact dueV_yes h)
  generalize dueV p t car road = R at *
  generalize dueB p t car road = b0 at *
  go_enter Try.func39, Try.ntmps39
  go_wp2_with fail
  refine (HC42.out _ HB0.out).mono ?_
  rintro e w1 ⟨rfl, hb1⟩
  have HB1 := Lib.hid (below_then HB0.out HB0.out.size hb1)
  have b1 := blk_below HBP.out hb1
  have t1 := blk_below HBT.out hb1
  clear p0 p1 p2 hw0
  have p0 := cell_of_blk b1 0
  have p1 := cell_of_blk b1 1
  have p2 := cell_of_blk b1 2
  have t0 := cell_of_blk t1 0
  simp only [List.getElem?_toArray, List.getElem?_cons_succ, List.getElem?_cons_zero] at p0 p1 p2 t0
  have HBP1 := Lib.hid b1
  have HBT1 := Lib.hid t1
  have hw1 : IntKind.i64.wrap ((p.roads.length : Int) + 1) = (p.roads.length : Int) + 1 := by simp only [IntKind.wrap_i64]; omega
  have hw2 : IntKind.i64.wrap ((p.roads.length : Int) - 1) = (p.roads.length : Int) - 1 := by simp only [IntKind.wrap_i64]; omega
  clear b1 t1 hb1 HB0 HBP HBT HC42
  cases hok : okPlan p
  case false =>
    have he : errB false = .int .i64 2 := rfl
    rw [he]
    have hr := HNO.out (by rw [HB.out, hok]; rfl)
    subst hr
    go_wp2
    go_ret3
    exact ⟨rfl, HB1.out⟩
  have he : errB true = .int .i64 0 := rfl
  rw [he]
  obtain ⟨hP, _⟩ := okPlan_out hok
  obtain ⟨hc1, hc2⟩ := hP.cars
  have hw3 : IntKind.i64.wrap (p.cars - 1) = p.cars - 1 := by simp only [IntKind.wrap_i64]; omega
  have HP := Lib.hid hP
  have HOK := Lib.hid hok
  clear hP hok he
  go_wp2_with fail
  refine (HT.out _ _ HB1.out).mono ?_
  rintro e w2 ⟨rfl, hb2⟩
  have HB2 := Lib.hid (below_then HB1.out HB1.out.size hb2)
  have b2 := blk_below HBP1.out hb2
  have t2 := blk_below HBT1.out hb2
  clear p0 p1 p2 t0 HB1
  have p0 := cell_of_blk b2 0
  have p1 := cell_of_blk b2 1
  have p2 := cell_of_blk b2 2
  have t0 := cell_of_blk t2 0
  simp only [List.getElem?_toArray, List.getElem?_cons_succ, List.getElem?_cons_zero] at p0 p1 p2 t0
  clear b2 t2 hb2 HBP1 HBT1
  cases d0 : timesB t.dues ((p.roads.length : Int) + 1)
  case false =>
    have hr := HNO.out (by rw [HB.out, HOK.out, d0]; rfl)
    subst hr
    go_wp2
    go_ret3
    exact ⟨rfl, HB2.out⟩
  have HD0 := Lib.hid (And.intro (timesB_out d0) d0)
  clear d0
  cases d1 : inB car 0 (p.cars - 1)
  case false =>
    have hr := HNO.out (by rw [HB.out, HOK.out, HD0.out.2, d1]; rfl)
    subst hr
    go_wp2_with (go_at_call 57; refine (within57 _ _ _ _).mono ?_; rintro e w' ⟨rfl, rfl⟩)
    go_ret3
    exact ⟨rfl, HB2.out⟩
  cases d2 : inB road 0 ((p.roads.length : Int) - 1)
  case false =>
    have hr := HNO.out (by rw [HB.out, HOK.out, HD0.out.2, d1, d2]; rfl)
    subst hr
    go_wp2_with (go_at_call 57; refine (within57 _ _ _ _).mono ?_; rintro e w' ⟨rfl, rfl⟩)
    go_ret3
    exact ⟨rfl, HB2.out⟩
  have hyes := fun j e => HYES.out j e (by rw [HB.out, HOK.out, HD0.out.2, d1, d2]; rfl)
  clear HYES HNO HB
  have hcb : 0 ≤ car ∧ car ≤ p.cars - 1 := by simpa [inB] using d1
  have hrb : 0 ≤ road ∧ road ≤ (p.roads.length : Int) - 1 := by simpa [inB] using d2
  obtain ⟨j, rfl⟩ : ∃ j : Nat, road = j := ⟨road.toNat, by omega⟩
  have hj : j < p.roads.length := by omega
  have hx := getD_w (xs := p.roads) hj
  have hbd := HP.out.road _ (List.mem_of_getElem? hx)
  obtain ⟨b, off, Ah, ch, rfl, hb, hh, g0, g1, g2, g3, g4, g5, g6, g7⟩ := Rd.way (RdW.below HR.out HB2.out) j _ hx
  obtain ⟨bt, ot, rfl⟩ : ∃ b o, A0 = some ⟨b, o, none⟩ := by
    obtain ⟨b, o, e, hb, _⟩ := Rd.i H0.out 0 _ (getD_get (by have := HD0.out.1.1; omega))
    exact ⟨b, o, e⟩
  obtain ⟨hct, hbt⟩ := rd_at (Rd.below H0.out HB2.out) (j := j) (by have := HD0.out.1.1; omega)
  have hdl : j < t.dues.length := by have := HD0.out.1.1; omega
  have hd := HD0.out.1.2 _ (getD_mem (xs := t.dues) (j := j) hdl)
  obtain ⟨hd1, hd2⟩ := hd
  obtain ⟨hg1, hg2⟩ := hbd.gap
  obtain ⟨hr1, hr2⟩ := hbd.tar
  have hm1 : 0 ≤ car * (p.roads.getD j zw).gap := Int.mul_nonneg hcb.1 (by omega)
  have hm2 : car * (p.roads.getD j zw).gap ≤ 200 * 60 := Int.mul_le_mul (by omega) (by omega) (by omega) (by omega)
  have hz1 : IntKind.i64.wrap (car * (p.roads.getD j zw).gap) = car * (p.roads.getD j zw).gap := by simp only [IntKind.wrap_i64]; omega
  have hz2 : IntKind.i64.wrap (t.dues.getD j 0 + car * (p.roads.getD j zw).gap) = t.dues.getD j 0 + car * (p.roads.getD j zw).gap := by simp only [IntKind.wrap_i64]; omega
  have hz3 : IntKind.i64.wrap (t.dues.getD j 0 + car * (p.roads.getD j zw).gap + (p.roads.getD j zw).tar) = t.dues.getD j 0 + car * (p.roads.getD j zw).gap + (p.roads.getD j zw).tar := by simp only [IntKind.wrap_i64]; omega
  have hr := hyes j rfl
  clear hyes
  have hjl : (j : Int) < (p.roads.length : Int) := by omega
  have hjd : (j : Int) < (t.dues.length : Int) := by omega
  have hj0 : (0 : Int) ≤ (j : Int) := by omega
  clear HR H0 HP HD0 HOK HT hh hx hbd g1 g2 g4 g5 g6 g7 hm1 hm2 hcb hrb hc1 hc2
  generalize (p.roads.getD j zw) = x at *
  generalize t.dues.getD j 0 = a at *
  have HRR := Lib.hid hr
  clear hr
  go_wp2_with (go_at_call 57; refine (within57 _ _ _ _).mono ?_; rintro e w' ⟨rfl, rfl⟩)
  go_quiet (fail)
  go_wp2_with fail
  go_quiet (fail)
  go_wp2_with fail
  go_ret3
  exact ⟨by rw [HRR.out]; rfl, below_drewN (below_drewN HB2.out _) _⟩
end Go.Proofs.Ytpknonebnipcgaa.Du
