import Derived.Test.YtpknonebnipcgaaProg
import Derived.WalkKit
import Derived.KernelRfl
import Derived.Deep.LoopGhost
import Derived.Deep.QuietTactic
import Derived.BigQuiet
import Derived.Deep.DeepCutAuto
import Derived.Deep.CutBlock
import Derived.Deep.RegionHeld3
import Derived.WalkLawsBesides
import Derived.WalkSpells
import Derived.Outline
import Derived.Deep.DeepFit
import Derived.Lib.Hide
import Derived.Shelf.Abstract
import Derived.Lib.SliceRun
import Derived.OwnWalk
import Derived.Test.YtpknonebnipcgaaZp

namespace Go.Proofs.Ytpknonebnipcgaa.Zl
open Go.RowKit Go.Shelf Go.Proofs.Ytpknonebnipcgaa.V Go.Proofs.Ytpknonebnipcgaa.A Go.Proofs.Ytpknonebnipcgaa.B Go.Proofs.Ytpknonebnipcgaa.C Go.Proofs.Ytpknonebnipcgaa.P Go.Proofs.Ytpknonebnipcgaa.D Go.Proofs.Ytpknonebnipcgaa.E Go.Proofs.Ytpknonebnipcgaa.G Go.Proofs.Ytpknonebnipcgaa.K Go.Proofs.Ytpknonebnipcgaa.N Go.Proofs.Ytpknonebnipcgaa.U Go.Proofs.Ytpknonebnipcgaa.W Go.Proofs.Ytpknonebnipcgaa.Y Go.Proofs.Ytpknonebnipcgaa.Rf Go.Proofs.Ytpknonebnipcgaa.Z Go.Proofs.Ytpknonebnipcgaa.Zp
set_option linter.unusedVariables false
set_option linter.unusedSimpArgs false

/-- where the first k links of a chain lead -/
def wEnd (all : List T3) (ch : List Int) (fr : Int) : Nat → Int
  | 0 => fr
  | k + 1 => (all.getD (ch.getD k 0).toNat z3).b
def wStep (all : List T3) (ch : List Int) (fr : Int) (k : Nat) : Bool := inB (ch.getD k 0) 0 ((all.length : Int) - 1) && ((all.getD (ch.getD k 0).toNat z3).a == wEnd all ch fr k)
def wOk (all : List T3) (ch : List Int) (fr : Int) : Bool := (List.range ch.length).all (wStep all ch fr)

set_option maxRecDepth 100000 in
set_option maxHeartbeats 4000000 in
/-- the reference's Weight -/
theorem weight21 (m : Nat) (A : Option Addr) (c : Nat) (ls : List T3) (Ac : Option Addr) (cc : Nat) (ch : List Int) (fr : Int) (w : World) (hr : RdT w (.slice A ls.length c) ls) (hc : RdI w (.slice Ac ch.length cc) ch)
    (h : rightB m ls = true) (hs : Small m ls) (hch : ∀ x ∈ ch, -9223372036854775808 ≤ x ∧ x ≤ 9223372036854775807) (hcl : ch.length ≤ 1000) :
    Calls Try.prog 21 #[.int .i64 m, .slice A ls.length c, .slice Ac ch.length cc, .int .i64 fr] w fun e w' => e = .returned (.tuple (if wOk (allOf m ls) ch fr = true then #[.int .i64 (sumTo (allOf m ls) ch ch.length), .int .i64 (wEnd (allOf m ls) ch fr ch.length), .bool true] else #[.int .i64 0, .int .i64 0, .bool false])) ∧ Below w.heap.size w w' := by
  obtain ⟨r1, r2, r3, r4⟩ := right_out h
  have hs1 := hs.1
  have hs2 := hs.2
  have hV := valid_all h
  have hal := all64 m A c ls w hr (by omega) (by omega)
  have hall : ls.length + m = (allOf m ls).length := by rw [all_len]; simp
  have hall2 : ls ++ adds m = allOf m ls := by unfold allOf; simp
  rw [hall, hall2] at hal
  have HAL := Lib.hid hal
  have HV := Lib.hid hV
  have hl100 : (allOf m ls).length ≤ 100 := by omega
  have hl1 : 1 ≤ (allOf m ls).length := by omega
  have HC := Lib.hid hc
  have HCH := Lib.hid hch
  have hlc := (RdR.len hc).2
  have hll := (RdR.len hr).2
  clear hr hc h hs hV hal hch hall hall2 r4
  generalize allOf m ls = all at *
  obtain ⟨R, hR⟩ : ∃ R, wOk all ch fr = R := ⟨_, rfl⟩
  rw [hR]
  have HRR := Lib.hid hR
  clear hR
  go_enter Try.func21, Try.ntmps21
  go_wp2_with fail
  refine HAL.out.mono ?_
  rintro e w1 ⟨Av, cv, rfl, hra, _, hb⟩
  have HRA := Lib.hid hra
  have HB1 := Lib.hid hb
  have hlv := (RdR.len hra).2
  clear hra hb HAL
  go_wp2_with fail
  go_loopg [3, 12, 13] ch.length (fun gg s3 s12 s13 wr => ∃ k : Nat, k ≤ ch.length ∧ ch.length - k ≤ gg ∧ s13 = .int .i64 k ∧ s12 = .int .i64 (sumTo all ch k) ∧ s3 = .int .i64 (wEnd all ch fr k) ∧ Hid (∀ j, j < k → wStep all ch fr j = true) ∧ Hid (Below w1.heap.size w1 wr))
  case atStart => exact ⟨0, Nat.zero_le _, by omega, rfl, rfl, rfl, Lib.hid (fun j hj => absurd hj (Nat.not_lt_zero _)), Lib.hid (Below.refl _ _)⟩
  case round =>
    obtain ⟨k, hk, hgg, rfl, rfl, rfl, HST, HW⟩ := hrel
    have hb1 : Below w.heap.size w wr := below_then HB1.out HB1.out.size HW.out
    have HBW := Lib.hid hb1
    have hsb := sumTo_bd (all := all) (ch := ch) (fun l hl => by have := okLk_out (HV.out l hl); omega) k
    have HCW := Lib.hid (Rd.below HC.out hb1)
    have HRW := Lib.hid (Rd.below HRA.out HW.out)
    clear hb1
    by_cases hlt : k < ch.length
    · have hck := getDi hlt
      obtain ⟨bc, oc, rfl, hbc, ck⟩ := Rd.i HCW.out k _ hck
      have hxb := HCH.out _ (List.mem_of_getElem? hck)
      have hfl : wStep all ch fr k = false → R = false := fun h => by
        rw [← HRR.out]
        exact all_range_false hlt h
      have HFL := Lib.hid hfl
      have HTR := Lib.hid (fun h : wStep all ch fr k = true => (fun j hj => by
        by_cases e : j = k
        · subst e; exact h
        · exact HST.out j (by omega) : ∀ j, j < k + 1 → wStep all ch fr j = true))
      have HSU := Lib.hid (show sumTo all ch (k + 1) = sumTo all ch k + (all.getD (ch.getD k 0).toNat z3).c from rfl)
      have HEN := Lib.hid (show wEnd all ch fr (k + 1) = (all.getD (ch.getD k 0).toNat z3).b from rfl)
      have hws : wStep all ch fr k = (inB (ch.getD k 0) 0 ((all.length : Int) - 1) && ((all.getD (ch.getD k 0).toNat z3).a == wEnd all ch fr k)) := rfl
      have HWS := Lib.hid hws
      clear hfl hws hck HST
      generalize ch.getD k 0 = x at *
      obtain ⟨x1, x2⟩ := hxb
      obtain ⟨s1, s2⟩ := hsb
      obtain ⟨E, hE⟩ : ∃ E, wEnd all ch fr k = E := ⟨_, rfl⟩
      rw [hE] at HWS ⊢
      obtain ⟨S, hS⟩ : ∃ S, sumTo all ch k = S := ⟨_, rfl⟩
      rw [hS] at HSU s1 s2 ⊢
      clear hE hS
      cases q1 : inB x 0 ((all.length : Int) - 1)
      · have hRf : R = false := HFL.out (by rw [HWS.out, q1]; rfl)
        subst hRf
        go_wp2_with (go_at_call 63; refine (in63 _ _ _ _).mono ?_; rintro e w' ⟨rfl, rfl⟩)
        go_ret3
        exact ⟨by simp, HBW.out⟩
      · have hin : 0 ≤ x ∧ x < all.length := by
          have : 0 ≤ x ∧ x ≤ (all.length : Int) - 1 := by simpa [inB] using q1
          omega
        obtain ⟨hin1, hin2⟩ := hin
        have hgl := getDt (xs := all) (j := x.toNat) (by omega)
        obtain ⟨bl, ol, rfl, hbl, l0, l1, l2⟩ := Rd.t3 HRW.out x.toNat _ hgl
        have hcb := okLk_out (HV.out _ (List.mem_of_getElem? hgl))
        clear hgl
        generalize all.getD x.toNat z3 = y at *
        obtain ⟨y1, y2, y3, y4, y5, y6⟩ := hcb
        cases q2 : (y.a != E)
        · have hst : wStep all ch fr k = true := by
            rw [HWS.out, q1]
            simpa using q2
          have HT2 := Lib.hid (HTR.out hst)
          clear hst
          go_wp2_with (go_at_call 63; refine (in63 _ _ _ _).mono ?_; rintro e w' ⟨rfl, rfl⟩)
          go_roundg (ch.length - (k + 1))
          case measure => omega
          case rel => exact ⟨k + 1, by omega, by omega, by go_num, by rw [HSU.out], by rw [HEN.out], HT2, HW⟩
        · have hRf : R = false := HFL.out (by
            rw [HWS.out, q1]
            have : ¬ y.a = E := by simpa using q2
            simpa using this)
          subst hRf
          go_wp2_with (go_at_call 63; refine (in63 _ _ _ _).mono ?_; rintro e w' ⟨rfl, rfl⟩)
          go_ret3
          exact ⟨by simp, HBW.out⟩
    · obtain rfl : k = ch.length := by omega
      have hRt : R = true := by
        rw [← HRR.out]
        exact all_range_true (fun j hj => HST.out j hj)
      subst hRt
      clear hsb hlt
      go_wp2_with fail
      go_ret3
      exact ⟨by simp, HBW.out⟩

theorem wStep_step (all : List T3) (ch : List Int) (k : Nat) : wStep all ch (all.getD (ch.getD 0 0).toNat z3).a k = stepOk all ch k := by
  unfold wStep stepOk
  cases k with
  | zero => simp [wEnd]
  | succ k =>
    have : (k + 1 == 0) = false := rfl
    rw [this, Bool.false_or]
    simp only [wEnd, Nat.add_sub_cancel]
    congr 1
    exact Bool.eq_iff_iff.2 (by simp only [beq_iff_eq]; exact eq_comm)

theorem prove_w {n : Int} {ls : List T3} {ch : List Int} (h : rightB n ls = true) (hl : inB ch.length 1 n = true) (h1 : 1 ≤ ch.length) :
    proveB n ls ch = (wOk (allOf n ls) ch ((allOf n ls).getD (ch.getD 0 0).toNat z3).a && ((wEnd (allOf n ls) ch ((allOf n ls).getD (ch.getD 0 0).toNat z3).a ch.length == ((allOf n ls).getD (ch.getD 0 0).toNat z3).a) && decide (0 < sumTo (allOf n ls) ch ch.length))) := by
  unfold proveB wOk
  rw [h, hl, Bool.true_and, Bool.true_and]
  have e : (List.range ch.length).all (wStep (allOf n ls) ch ((allOf n ls).getD (ch.getD 0 0).toNat z3).a) = (List.range ch.length).all (stepOk (allOf n ls) ch) := by
    congr 1
    funext k
    exact wStep_step _ _ k
  rw [e]
  obtain ⟨j, hj⟩ : ∃ j, ch.length = j + 1 := ⟨ch.length - 1, by omega⟩
  rw [hj]
  rfl

set_option maxRecDepth 100000 in
set_option maxHeartbeats 4000000 in
/-- the reference's Proves -/
theorem proves30 (m : Nat) (A : Option Addr) (c : Nat) (ls : List T3) (Ac : Option Addr) (cc : Nat) (ch : List Int) (w : World) (hr : RdT w (.slice A ls.length c) ls) (hc : RdI w (.slice Ac ch.length cc) ch)
    (h : rightB m ls = true) (hs : Small m ls) (hch : ∀ x ∈ ch, -9223372036854775808 ≤ x ∧ x ≤ 9223372036854775807) :
    Calls Try.prog 30 #[.int .i64 m, .slice A ls.length c, .slice Ac ch.length cc] w fun e w' => e = .returned (.bool (proveB m ls ch)) ∧ Below w.heap.size w w' := by
  obtain ⟨r1, r2, r3, r4⟩ := right_out h
  have hs1 := hs.1
  have hs2 := hs.2
  have hal := all64 m A c ls w hr (by omega) (by omega)
  have hall : ls.length + m = (allOf m ls).length := by rw [all_len]; simp
  have hall2 : ls ++ adds m = allOf m ls := by unfold allOf; simp
  rw [hall, hall2] at hal
  have HAL := Lib.hid hal
  have hl100 : (allOf m ls).length ≤ 100 := by omega
  have hl1 : 1 ≤ (allOf m ls).length := by omega
  have hlc := (RdR.len hc).2
  have hll := (RdR.len hr).2
  cases q1 : inB ch.length 1 m
  · have hf : proveB m ls ch = false := by unfold proveB; rw [h, q1]; rfl
    rw [hf]
    clear hr hc h hs hch hal hall hall2 r4 hf
    go_enter Try.func30, Try.ntmps30
    go_wp2_with fail
    refine HAL.out.mono ?_
    rintro e w1 ⟨Av, cv, rfl, hra, _, hb⟩
    clear hra
    go_wp2_with (go_at_call 63; refine (in63 _ _ _ _).mono ?_; rintro e w' ⟨rfl, rfl⟩)
    go_ret
    exact ⟨rfl, hb⟩
  have hch1 : 1 ≤ ch.length ∧ ch.length ≤ 500 := by
    have : (1 : Int) ≤ ch.length ∧ (ch.length : Int) ≤ m := by simpa [inB] using q1
    omega
  have hg := getDi (xs := ch) (j := 0) (by omega)
  have hxb := hch _ (List.mem_of_getElem? hg)
  obtain ⟨bc, oc, rfl, hbc, ck⟩ := Rd.i hc 0 _ hg
  rw [Nat.add_zero] at ck
  cases q2 : inB (ch.getD 0 0) 0 (((allOf m ls).length : Int) - 1)
  · have hf : proveB m ls ch = false := by
      unfold proveB
      rw [h, q1, all_range_false (k := 0) (by omega) (by unfold stepOk; rw [q2]; rfl)]
      rfl
    rw [hf]
    obtain ⟨x1, x2⟩ := hxb
    clear hr hc h hs hch hal hall hall2 r4 hg hf
    generalize ch.getD 0 0 = x at *
    generalize allOf m ls = all at *
    go_enter Try.func30, Try.ntmps30
    go_wp2_with fail
    refine HAL.out.mono ?_
    rintro e w1 ⟨Av, cv, rfl, hra, _, hb⟩
    have hlv := (RdR.len hra).2
    have ck1 := (hb.cell (p := ⟨bc, oc, none⟩) hbc).trans ck
    clear hra
    go_wp2_with (go_at_call 63; refine (in63 _ _ _ _).mono ?_; rintro e w' ⟨rfl, rfl⟩)
    go_ret
    exact ⟨rfl, hb⟩
  have hin : 0 ≤ ch.getD 0 0 ∧ ch.getD 0 0 < (allOf m ls).length := by
    have : 0 ≤ ch.getD 0 0 ∧ ch.getD 0 0 ≤ ((allOf m ls).length : Int) - 1 := by simpa [inB] using q2
    omega
  obtain ⟨hin1, hin2⟩ := hin
  have hgl := getDt (xs := allOf m ls) (j := (ch.getD 0 0).toNat) (by omega)
  have hW := fun W (hb : Below w.heap.size w W) => weight21 m A c ls (some ⟨bc, oc, none⟩) cc ch ((allOf m ls).getD (ch.getD 0 0).toNat z3).a W (Rd.below hr hb) (Rd.below hc hb) h hs hch (by omega)
  have hP := prove_w h q1 hch1.1
  have hsb := sumTo_bd (all := allOf m ls) (ch := ch) (fun l hl => by have := okLk_out (valid_all h l hl); omega) ch.length
  obtain ⟨c1, c2⟩ := hch1
  obtain ⟨x1, x2⟩ := hxb
  obtain ⟨s1, s2⟩ := hsb
  clear hr hc h hs hch hal hall hall2 r4 hg
  rw [hP]
  clear hP
  generalize sumTo (allOf m ls) ch ch.length = sum at *
  generalize wEnd (allOf m ls) ch ((allOf m ls).getD (ch.getD 0 0).toNat z3).a ch.length = en at *
  generalize wOk (allOf m ls) ch ((allOf m ls).getD (ch.getD 0 0).toNat z3).a = ok at *
  generalize (allOf m ls).getD (ch.getD 0 0).toNat z3 = y at *
  generalize ch.getD 0 0 = x at *
  generalize allOf m ls = all at *
  have HW := Lib.hid hW
  have HGL := Lib.hid hgl
  clear hW hgl
  go_enter Try.func30, Try.ntmps30
  go_wp2_with fail
  refine HAL.out.mono ?_
  rintro e w1 ⟨Av, cv, rfl, hra, _, hb⟩
  have hlv := (RdR.len hra).2
  have ck1 := (hb.cell (p := ⟨bc, oc, none⟩) hbc).trans ck
  obtain ⟨bl, ol, rfl, hbl, l0, l1, l2⟩ := Rd.t3 hra x.toNat _ HGL.out
  have HB1 := Lib.hid hb
  have hw1 := HW.out w1 hb
  clear hra hb HAL HW
  cases ok
  · have HW1 := Lib.hid hw1
    clear hw1
    go_wp2_with (go_at_call 63; refine (in63 _ _ _ _).mono ?_; rintro e w' ⟨rfl, rfl⟩)
    refine HW1.out.mono ?_
    rintro e w2 ⟨rfl, hb⟩
    have HB2 := Lib.hid (below_then HB1.out HB1.out.size hb)
    clear hb HB1 HW1
    go_wp2_with fail
    go_ret
    exact ⟨by simp, HB2.out⟩
  · simp only [if_true] at hw1
    have HW1 := Lib.hid hw1
    clear hw1
    go_wp2_with (go_at_call 63; refine (in63 _ _ _ _).mono ?_; rintro e w' ⟨rfl, rfl⟩)
    refine HW1.out.mono ?_
    rintro e w2 ⟨rfl, hb⟩
    have HB2 := Lib.hid (below_then HB1.out HB1.out.size hb)
    clear hb HB1 HW1
    cases q3 : (en == y.a)
    · go_wp2_with fail
      go_ret
      exact ⟨by rw [q3]; rfl, HB2.out⟩
    · go_wp2_with fail
      go_ret
      exact ⟨by rw [q3]; simp, HB2.out⟩
end Go.Proofs.Ytpknonebnipcgaa.Zl
