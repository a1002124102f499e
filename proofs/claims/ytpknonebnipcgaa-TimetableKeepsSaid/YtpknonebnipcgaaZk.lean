import Derived.Test.YtpknonebnipcgaaProg
import Derived.WalkKit
import Derived.KernelRfl
import Derived.Deep.LoopGhost
import Derived.Deep.QuietTactic
import Derived.BigQuiet
import Derived.Deep.DeepCutAuto
import Derived.Deep.CutBlock
import Derived.Deep.RegionHeld3
import Derived.WalkLawsBesides
import Derived.WalkSpells
import Derived.Outline
import Derived.Deep.DeepFit
import Derived.Lib.Hide
import Derived.Shelf.Abstract
import Derived.Lib.SliceRun
import Derived.Test.YtpknonebnipcgaaZp

namespace Go.Proofs.Ytpknonebnipcgaa.Zk
open Go.RowKit Go.Shelf Go.Proofs.Ytpknonebnipcgaa.V Go.Proofs.Ytpknonebnipcgaa.A Go.Proofs.Ytpknonebnipcgaa.B Go.Proofs.Ytpknonebnipcgaa.C Go.Proofs.Ytpknonebnipcgaa.P Go.Proofs.Ytpknonebnipcgaa.D Go.Proofs.Ytpknonebnipcgaa.E Go.Proofs.Ytpknonebnipcgaa.G Go.Proofs.Ytpknonebnipcgaa.K Go.Proofs.Ytpknonebnipcgaa.N Go.Proofs.Ytpknonebnipcgaa.U Go.Proofs.Ytpknonebnipcgaa.W Go.Proofs.Ytpknonebnipcgaa.Y Go.Proofs.Ytpknonebnipcgaa.Rf Go.Proofs.Ytpknonebnipcgaa.Z Go.Proofs.Ytpknonebnipcgaa.Zp
set_option linter.unusedVariables false
set_option linter.unusedSimpArgs false

set_option maxRecDepth 100000 in
set_option maxHeartbeats 4000000 in
/-- the reference's Keeps -/
theorem keeps33 (m : Nat) (A : Option Addr) (c : Nat) (ls : List T3) (At : Option Addr) (ct : Nat) (ts : List Int) (w : World) (hr : RdT w (.slice A ls.length c) ls) (ht : RdI w (.slice At ts.length ct) ts)
    (h : rightB m ls = true) (hx : ∀ x ∈ ts, -9223372036854775808 ≤ x ∧ x ≤ 1099511627776) :
    Calls Try.prog 33 #[.int .i64 m, .slice A ls.length c, .slice At ts.length ct] w fun e w' => e = .returned (.bool (keepB m ls ts)) ∧ Below w.heap.size w w' := by
  obtain ⟨r1, r2, r3, r4⟩ := right_out h
  have hll := (RdR.len hr).2
  have hlt := (RdR.len ht).2
  have HR := Lib.hid hr
  have HT := Lib.hid ht
  have HX := Lib.hid hx
  have HRB := Lib.hid h
  have HOK := Lib.hid r4
  clear hr ht hx h r4
  obtain ⟨R, hR⟩ : ∃ R, keepB m ls ts = R := ⟨_, rfl⟩
  rw [hR]
  have HKR := Lib.hid hR
  clear hR
  by_cases hlen : ts.length = m
  · have hz := getDi (xs := ts) (j := 0) (by omega)
    obtain ⟨b0, o0, rfl, hb0, z0⟩ := Rd.i HT.out 0 _ hz
    rw [Nat.add_zero] at z0
    have hne : ((ts.length : Int) != (m : Int)) = false := by rw [bne_eq_false_iff_eq]; omega
    have hne2 : (ts.length != m) = false := by rw [bne_eq_false_iff_eq]; omega
    have hzz : ts.getD 0 0 ≠ 0 → R = false := fun hh => by
      rw [← HKR.out]
      cases e : keepB m ls ts
      · rfl
      · have := (keepB_out e).2.2.2.1
        unfold gt at this
        exact absurd (by simpa using this) hh
    obtain ⟨z, hzd⟩ : ∃ z, ts.getD 0 0 = z := ⟨_, rfl⟩
    rw [hzd] at hzz z0
    have HZD := Lib.hid hzd
    have HLEN := Lib.hid hlen
    have hpl : 0 < ts.length := by omega
    clear hz hzd hlen
    cases hz1 : (z != 0)
    rotate_left
    · have hRf : R = false := hzz (by simpa using hz1)
      subst hRf
      clear hzz
      go_enter Try.func33, Try.ntmps33
      go_wp2
      go_ret
      exact ⟨rfl, Below.refl _ _⟩
    have hz2 : z = 0 := by simpa using hz1
    subst hz2
    clear hzz
    go_enter Try.func33, Try.ntmps33
    go_wp2_with fail
    go_loopg [7] m (fun gg s7 wr => ∃ k : Nat, k ≤ m ∧ m - k ≤ gg ∧ s7 = .int .i64 k ∧ Hid (Below w.heap.size w wr) ∧ Hid (∀ j x, j < k → ts[j]? = some x → 0 ≤ x))
    case atStart => exact ⟨0, Nat.zero_le _, by omega, rfl, Lib.hid (Below.refl _ _), Lib.hid (fun j x hj => by omega)⟩
    case round =>
      obtain ⟨k, hk, hgg, rfl, HB, HA⟩ := hrel
      by_cases hlt2 : k < m
      · have k1 : k < ts.length := by rw [HLEN.out]; exact hlt2
        have hg := getDi k1
        obtain ⟨b, o, e1, hb, c1⟩ := Rd.i HT.out k _ hg
        injection e1 with e1
        injection e1 with e11 e12
        subst e11 e12
        replace c1 := (HB.out.cell (p := ⟨b0, o0 + k, none⟩) hb).trans c1
        have hbd := HX.out _ (List.mem_of_getElem? hg)
        have HG := Lib.hid hg
        clear hg
        generalize ts.getD k 0 = x at *
        obtain ⟨x1, x2⟩ := hbd
        cases q1 : inB x 0 1099511627776
        · have hRf : R = false := by
            rw [← HKR.out]
            cases e : keepB m ls ts
            · rfl
            · have := (keepB_out e).2.2.1 x (List.mem_of_getElem? HG.out)
              simp [inB] at q1
              omega
          subst hRf
          go_wp2_with (go_at_call 63; refine (in63 _ _ _ _).mono ?_; rintro e w' ⟨rfl, rfl⟩)
          go_ret
          exact ⟨rfl, HB.out⟩
        · go_wp2_with (go_at_call 63; refine (in63 _ _ _ _).mono ?_; rintro e w' ⟨rfl, rfl⟩)
          go_roundg (m - (k + 1))
          case measure => omega
          case rel =>
            refine ⟨k + 1, by omega, by omega, by go_num, HB, Lib.hid (fun j y hj hy => ?_)⟩
            by_cases e : j = k
            · subst e
              rw [HG.out] at hy
              injection hy with hy
              subst hy
              simp [inB] at q1
              omega
            · exact HA.out j y (by omega) hy
      · obtain rfl : k = m := by omega
        have hpos : ∀ x ∈ ts, 0 ≤ x := fun x hx => by
          obtain ⟨j, hj⟩ := List.getElem?_of_mem hx
          exact HA.out j x (by have := (List.getElem?_eq_some_iff.1 hj).1; rw [HLEN.out] at this; exact this) hj
        have HPOS := Lib.hid hpos
        clear hpos HA hgg hlt2
        go_wp2_with fail
        go_loopg [8] ls.length (fun gg s8 wq => ∃ j : Nat, j ≤ ls.length ∧ ls.length - j ≤ gg ∧ s8 = .int .i64 j ∧ Hid (Below w.heap.size w wq) ∧ Hid (∀ i x, i < j → ls[i]? = some x → broken ts x = false))
        case atStart => exact ⟨0, Nat.zero_le _, by omega, rfl, HB, Lib.hid (fun j x hj => by omega)⟩
        case round =>
          clear HB
          obtain ⟨j, hj, hgg, rfl, HB, HA⟩ := hrel
          by_cases hlt2 : j < ls.length
          · have hx := getDt hlt2
            obtain ⟨b, o, rfl, hb, c0, c1, c2⟩ := Rd.t3 HR.out j _ hx
            replace c0 := (HB.out.cell (p := ⟨b, o + j * 3, none⟩) hb).trans c0
            replace c1 := (HB.out.cell (p := ⟨b, o + j * 3 + 1, none⟩) hb).trans c1
            replace c2 := (HB.out.cell (p := ⟨b, o + j * 3 + 2, none⟩) hb).trans c2
            have hok := okLk_out (HOK.out _ (List.mem_of_getElem? hx))
            have HXX := Lib.hid hx
            clear hx
            generalize ls.getD j z3 = x at *
            obtain ⟨a1, a2, b1, b2, w1, w2⟩ := hok
            have ga := getDi (xs := ts) (j := x.a.toNat) (by rw [HLEN.out]; omega)
            have gb := getDi (xs := ts) (j := x.b.toNat) (by rw [HLEN.out]; omega)
            have pa := HPOS.out _ (List.mem_of_getElem? ga)
            have pb := HPOS.out _ (List.mem_of_getElem? gb)
            have ua := (HX.out _ (List.mem_of_getElem? ga)).2
            have ub := (HX.out _ (List.mem_of_getElem? gb)).2
            obtain ⟨ba, oa, ea, hba, ca⟩ := Rd.i HT.out _ _ ga
            obtain ⟨bb, ob, eb, hbb, cb⟩ := Rd.i HT.out _ _ gb
            injection ea with ea
            injection ea with ea1 ea2
            subst ea1 ea2
            injection eb with eb
            injection eb with eb1 eb2
            subst eb1 eb2
            replace ca := (HB.out.cell (p := ⟨b0, o0 + x.a.toNat, none⟩) hba).trans ca
            replace cb := (HB.out.cell (p := ⟨b0, o0 + x.b.toNat, none⟩) hba).trans cb
            have HBR := Lib.hid (show broken ts x = decide (ts.getD x.b.toNat 0 - ts.getD x.a.toNat 0 < x.c) from rfl)
            have m1 : x.a.toNat < ts.length := by rw [HLEN.out]; omega
            have m2 : x.b.toNat < ts.length := by rw [HLEN.out]; omega
            have HL2 := HLEN
            clear ga gb
            generalize ts.getD x.a.toNat 0 = va at *
            generalize ts.getD x.b.toNat 0 = vb at *
            cases q1 : decide (vb - va < x.c)
            · go_wp2_with fail
              go_quiet (fail)
              go_wp2_with fail
              go_roundg (ls.length - (j + 1))
              case measure => omega
              case rel =>
                refine ⟨j + 1, by omega, by omega, by go_num, Lib.hid (below_drewN HB.out _), Lib.hid (fun i y hi hy => ?_)⟩
                by_cases e : i = j
                · subst e
                  rw [HXX.out] at hy
                  injection hy with hy
                  subst hy
                  rw [HBR.out, q1]
                · exact HA.out i y (by omega) hy
            · have hRf : R = false := by
                rw [← HKR.out]
                unfold keepB allOf
                rw [List.any_append, List.any_eq_true.2 ⟨x, List.mem_of_getElem? HXX.out, by rw [HBR.out, q1]⟩]
                simp
              subst hRf
              go_wp2_with fail
              go_quiet (fail)
              go_wp2_with fail
              go_ret
              exact ⟨rfl, below_drewN HB.out _⟩
          · obtain rfl : j = ls.length := by omega
            have hRt : R = true := by
              rw [← HKR.out]
              refine keepB_mk HRB.out (by rw [HLEN.out]) HPOS.out (by unfold gt; exact HZD.out) ?_
              intro l hl
              unfold allOf at hl
              rcases List.mem_append.1 hl with hl | hl
              · obtain ⟨i, hi⟩ := List.getElem?_of_mem hl
                have := HA.out i l (List.getElem?_eq_some_iff.1 hi).1 hi
                unfold broken at this
                have := of_decide_eq_false this
                unfold gt
                omega
              · unfold adds at hl
                obtain ⟨i, hi, rfl⟩ := List.mem_map.1 hl
                have hi2 : i < k := by have := List.mem_range.1 hi; simpa using this
                have g := getDi (xs := ts) (j := i) (by rw [HLEN.out]; exact hi2)
                have := HPOS.out _ (List.mem_of_getElem? g)
                have hz := HZD.out
                unfold gt
                simp only [Int.toNat_zero, Int.ofNat_eq_natCast, Int.toNat_natCast]
                omega
            subst hRt
            clear hlt2
            go_wp2_with fail
            go_ret
            exact ⟨rfl, HB.out⟩
  · have hne : ((ts.length : Int) != (m : Int)) = true := by rw [bne_iff_ne]; omega
    have hne2 : (ts.length != m) = true := by rw [bne_iff_ne]; omega
    have hRf : R = false := by
      rw [← HKR.out]
      unfold keepB
      rw [decide_eq_false (show ¬ (ts.length : Int) = (m : Int) by omega)]
      simp
    subst hRf
    go_enter Try.func33, Try.ntmps33
    go_wp2
    go_ret
    exact ⟨rfl, Below.refl _ _⟩
end Go.Proofs.Ytpknonebnipcgaa.Zk
