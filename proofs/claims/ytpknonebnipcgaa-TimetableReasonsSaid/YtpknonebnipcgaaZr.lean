import Derived.Test.YtpknonebnipcgaaProg
import Derived.WalkKit
import Derived.KernelRfl
import Derived.Deep.LoopGhost
import Derived.Deep.QuietTactic
import Derived.BigQuiet
import Derived.Deep.DeepCutAuto
import Derived.Deep.CutBlock
import Derived.Deep.RegionHeld3
import Derived.WalkLawsBesides
import Derived.WalkSpells
import Derived.Outline
import Derived.Deep.DeepFit
import Derived.Lib.Hide
import Derived.Shelf.Abstract
import Derived.Lib.SliceRun
import Derived.OwnWalk
import Derived.Test.YtpknonebnipcgaaRs
import Derived.Test.YtpknonebnipcgaaZe

namespace Go.Proofs.Ytpknonebnipcgaa.Zr
open Go.RowKit Go.Shelf Go.Proofs.Ytpknonebnipcgaa.V Go.Proofs.Ytpknonebnipcgaa.A Go.Proofs.Ytpknonebnipcgaa.B Go.Proofs.Ytpknonebnipcgaa.C Go.Proofs.Ytpknonebnipcgaa.P Go.Proofs.Ytpknonebnipcgaa.D Go.Proofs.Ytpknonebnipcgaa.E Go.Proofs.Ytpknonebnipcgaa.F Go.Proofs.Ytpknonebnipcgaa.G Go.Proofs.Ytpknonebnipcgaa.K Go.Proofs.Ytpknonebnipcgaa.N Go.Proofs.Ytpknonebnipcgaa.U Go.Proofs.Ytpknonebnipcgaa.W Go.Proofs.Ytpknonebnipcgaa.Y Go.Proofs.Ytpknonebnipcgaa.Rf Go.Proofs.Ytpknonebnipcgaa.Rg Go.Proofs.Ytpknonebnipcgaa.Z Go.Proofs.Ytpknonebnipcgaa.Ze Go.Proofs.Ytpknonebnipcgaa.Zl Go.Proofs.Ytpknonebnipcgaa.Zp Go.Proofs.Ytpknonebnipcgaa.Pr Go.Proofs.Ytpknonebnipcgaa.Rs
set_option linter.unusedVariables false
set_option linter.unusedSimpArgs false

/-- all that is asked of the program's and the reference's reason -/
structure RFacts (m : Nat) (ls : List T3) (mo : Int) (K : Nat) : Prop where
  ear : Ear m (allOf (m : Int) ls) (earl (m : Int) ls).ts
  kn : K ≤ m
  inn : (layF m (allOf (m : Int) ls) (earl (m : Int) ls).ts K).getD mo.toNat false = true
  min : ∀ j, j < K → (layF m (allOf (m : Int) ls) (earl (m : Int) ls).ts j).getD mo.toNat false = false
  k1 : (rowR m (allOf (m : Int) ls) K).getD mo.toNat 0 = gt (earl (m : Int) ls).ts mo
  k2 : ∀ j, j < K → (rowR m (allOf (m : Int) ls) j).getD mo.toNat 0 ≠ gt (earl (m : Int) ls).ts mo
  pick : ∀ j, j < K → 0 ≤ pickR m (allOf (m : Int) ls) (K - 1 - j) (momR m (allOf (m : Int) ls) K mo j)
  same : reaR m (allOf (m : Int) ls) K mo = reaF m (allOf (m : Int) ls) (earl (m : Int) ls).ts K mo
  rng : ∀ x ∈ reaF m (allOf (m : Int) ls) (earl (m : Int) ls).ts K mo, 0 ≤ x ∧ x < (allOf (m : Int) ls).length

theorem rfacts {m : Nat} {ls : List T3} (h : rightB (m : Int) ls = true) (hf : (earl (m : Int) ls).raised < 0) (mo : Int) (h0 : 0 ≤ mo) (h1 : mo < m) : ∃ K, RFacts m ls mo K := by
  obtain ⟨hE, K, hK, hin, hmin⟩ := reason_law (n := m) h hf mo h0 h1
  have hpk := pick_at hE K mo h0 h1 hin
  refine ⟨K, hE, hK, hin, hmin, ((row_tight hE K mo.toNat (by omega)).2).2 hin, fun j hj e => ?_, fun j hj => ?_, rea_same hE K mo h0 h1 hin, fun x hx => ?_⟩
  · have := ((row_tight hE j mo.toNat (by omega)).2).1 e
    rw [hmin j hj] at this
    cases this
  · rw [(hpk j hj).1]
    exact (hpk j hj).2.1
  · unfold reaF at hx
    rw [List.mem_reverse, List.mem_map] at hx
    obtain ⟨j, hj, rfl⟩ := hx
    have := hpk j (List.mem_range.1 hj)
    exact ⟨this.2.1, this.2.2.1⟩

set_option maxRecDepth 100000 in
set_option maxHeartbeats 8000000 in
theorem reasons3 (n : Int) (A : Option Addr) (c : Nat) (ls : List T3) (mo : Int) (w : World) (hr : RdT w (.slice A ls.length c) ls) :
    Calls Try.prog 3 #[.int .i64 n, .slice A ls.length c, .int .i64 mo] w fun e w' => e = .returned (.bool true) ∧ Below w.heap.size w w' := by
  have hll := (RdR.len hr).2
  have HFEW := Lib.hid (few16 n A c ls.length w)
  have HNET := Lib.hid (fun W (hb : Below w.heap.size w W) => net19 n A c ls W (Rd.below hr hb))
  have HR := Lib.hid hr
  obtain ⟨f, hf⟩ : ∃ f, fewB n ls.length = f := ⟨_, rfl⟩
  rw [hf] at HFEW
  cases f
  · clear hf hr
    go_enter Try.func3, Try.ntmps3
    go_wp2_with (first | (go_at_call 16; refine HFEW.out.mono ?_; rintro e w' ⟨rfl, rfl⟩) | (go_at_call 17; refine (known17 _).mono ?_; rintro e w9 ⟨rfl, hb9⟩))
    go_ret
    exact ⟨rfl, hb9⟩
  obtain ⟨r, hrb⟩ : ∃ r, rightB n ls = r := ⟨_, rfl⟩
  rw [hrb] at HNET
  cases r
  · have HE := Lib.hid (reason18_arg n A c ls w hr mo (.inl hrb))
    clear hr hf hrb
    go_enter Try.func3, Try.ntmps3
    go_wp2_with (go_at_call 16; refine HFEW.out.mono ?_; rintro e w' ⟨rfl, hw⟩; obtain rfl := hw.symm)
    refine HE.out.mono ?_
    rintro e w1 ⟨rfl, hb⟩
    have HB1 := Lib.hid hb
    clear hb HE
    go_wp2_with fail
    refine (HNET.out w1 HB1.out).mono ?_
    rintro e w2 ⟨rfl, hb⟩
    have HB2 := Lib.hid (below_then HB1.out HB1.out.size hb)
    clear hb HNET HB1
    go_wp2_with (go_at_call 17; refine (known17 _).mono ?_; rintro e w9 ⟨rfl, hb9⟩)
    go_ret
    exact ⟨rfl, below_then HB2.out HB2.out.size hb9⟩
  obtain ⟨r1, r2, _, _⟩ := right_out hrb
  cases q1 : inB mo 0 (n - 1)
  · have HE := Lib.hid (reason18_arg n A c ls w hr mo (.inr q1))
    clear hr hf hrb
    cases d1 : decide (mo < 0)
    · have d2 : decide (n ≤ mo) = true := by
        have := of_decide_eq_false d1
        simp [inB] at q1
        exact decide_eq_true (by omega)
      clear q1
      go_enter Try.func3, Try.ntmps3
      go_wp2_with (go_at_call 16; refine HFEW.out.mono ?_; rintro e w' ⟨rfl, hw⟩; obtain rfl := hw.symm)
      refine HE.out.mono ?_
      rintro e w1 ⟨rfl, hb⟩
      have HB1 := Lib.hid hb
      clear hb HE
      go_wp2_with fail
      refine (HNET.out w1 HB1.out).mono ?_
      rintro e w2 ⟨rfl, hb⟩
      have HB2 := Lib.hid (below_then HB1.out HB1.out.size hb)
      clear hb HNET HB1
      go_wp2_with (go_at_call 17; refine (known17 _).mono ?_; rintro e w9 ⟨rfl, hb9⟩)
      go_ret
      exact ⟨rfl, below_then HB2.out HB2.out.size hb9⟩
    · clear q1
      go_enter Try.func3, Try.ntmps3
      go_wp2_with (go_at_call 16; refine HFEW.out.mono ?_; rintro e w' ⟨rfl, hw⟩; obtain rfl := hw.symm)
      refine HE.out.mono ?_
      rintro e w1 ⟨rfl, hb⟩
      have HB1 := Lib.hid hb
      clear hb HE
      go_wp2_with fail
      refine (HNET.out w1 HB1.out).mono ?_
      rintro e w2 ⟨rfl, hb⟩
      have HB2 := Lib.hid (below_then HB1.out HB1.out.size hb)
      clear hb HNET HB1
      go_wp2_with (go_at_call 17; refine (known17 _).mono ?_; rintro e w9 ⟨rfl, hb9⟩)
      go_ret
      exact ⟨rfl, below_then HB2.out HB2.out.size hb9⟩
  obtain ⟨m, rfl⟩ : ∃ m : Nat, n = m := ⟨n.toNat, by omega⟩
  have hsm : Small (m : Int) ls := by have := few_small hf hrb; exact ⟨by omega, by omega⟩
  have hmo : 0 ≤ mo ∧ mo < m := by
    have : 0 ≤ mo ∧ mo ≤ (m : Int) - 1 := by simpa [inB] using q1
    omega
  obtain ⟨mo0, mo1⟩ := hmo
  have d1 : decide (mo < 0) = false := decide_eq_false (by omega)
  have d2 : decide ((m : Int) ≤ mo) = false := decide_eq_false (by omega)
  have HQ := Lib.hid (fun W (hb : Below w.heap.size w W) => earliest20 m A c ls W (Rd.below hr hb) hrb hsm)
  by_cases f1 : (earl (m : Int) ls).raised < 0
  · rw [decide_eq_true f1] at HQ
    obtain ⟨K, hF⟩ := rfacts hrb f1 mo mo0 mo1
    have bd1 := earl_bd hrb hsm
    have hsm12 := few_small hf hrb
    have hE0 := reason18_ok m A c ls mo w hr hrb hsm q1 f1 K hF.k1 hF.k2 (by have := hF.kn; omega) hF.pick
    rw [hF.same] at hE0
    obtain ⟨w1, w2, w3⟩ := rea_weight hF.ear K mo mo0 mo1 hF.inn
    have HRE := Lib.hid (fun W (hb : Below w.heap.size w W) (At : Option Addr) (ct : Nat) hq => reason23 m A c ls At ct (earl (m : Int) ls).ts mo W (Rd.below hr hb) hq hrb hsm hF.ear bd1 mo0 mo1 K hF.kn hF.inn hF.min)
    have hal := all_len (m : Int) ls
    have hkn := hF.kn
    have HWE := Lib.hid (fun W (hb : Below w.heap.size w W) (Ac : Option Addr) (cc : Nat) hq => weight21 m A c ls Ac cc (reaF m (allOf (m : Int) ls) (earl (m : Int) ls).ts K mo) 0 W (Rd.below HR.out hb) hq hrb hsm (fun x hx => by have := hF.rng x hx; omega) (by rw [reaF_len]; omega))
    rw [w1, if_pos rfl, show (reaF m (allOf (m : Int) ls) (earl (m : Int) ls).ts K mo).length = K from reaF_len _ _ _ _ _, w2, w3] at HWE
    have HE := Lib.hid hE0
    have htl : (earl (m : Int) ls).ts.length = m := hF.ear.len
    have htb := bd1 _ (getD_mem (xs := (earl (m : Int) ls).ts) (j := mo.toNat) (by omega))
    have hrl : (reaF m (allOf (m : Int) ls) (earl (m : Int) ls).ts K mo).length = K := reaF_len _ _ _ _ _
    have hk12 : K ≤ 12 := by omega
    have HTL := Lib.hid htl
    clear hr hf hrb hsm hsm12 f1 bd1 w1 w2 w3 hE0 hF hal htl q1 hkn
    generalize reaF m (allOf (m : Int) ls) (earl (m : Int) ls).ts K mo = rl at *
    generalize (earl (m : Int) ls).ts = es at *
    subst hrl
    have hmom : mo.toNat < m := by omega
    have htg := getD_get (xs := es) (j := mo.toNat) (by rw [HTL.out]; exact hmom)
    have HTG := Lib.hid htg
    clear htg
    generalize es.getD mo.toNat 0 = tv at *
    go_enter Try.func3, Try.ntmps3
    go_wp2_with (go_at_call 16; refine HFEW.out.mono ?_; rintro e w' ⟨rfl, hw⟩; obtain rfl := hw.symm)
    refine HE.out.mono ?_
    rintro e w1 ⟨Ao, co, rfl, hrd, hb⟩
    have HB1 := Lib.hid hb
    have HD1 := Lib.hid hrd
    have hcl := (RdR.len hrd).2
    clear hb HE hrd
    go_wp2_with fail
    refine (HNET.out w1 HB1.out).mono ?_
    rintro e w2 ⟨rfl, hb⟩
    have HD2 := Lib.hid (Rd.below HD1.out hb)
    have HB2 := Lib.hid (below_then HB1.out HB1.out.size hb)
    clear hb HNET HB1 HD1
    go_wp2_with fail
    refine (HQ.out w2 HB2.out).mono ?_
    rintro e w3 ⟨g2, c2, rfl, hq, hb⟩
    have HD3 := Lib.hid (Rd.below HD2.out hb)
    have HQ3 := Lib.hid hq
    have hc2 := (RdR.len hq).2
    have HB3 := Lib.hid (below_then HB2.out HB2.out.size hb)
    clear hb HQ HB2 hq HD2
    go_wp2_with fail
    refine (HWE.out w3 HB3.out Ao co HD3.out).mono ?_
    rintro e w4 ⟨rfl, hb⟩
    have HD4 := Lib.hid (Rd.below HD3.out hb)
    have HQ4 := Lib.hid (Rd.below HQ3.out hb)
    have HB4 := Lib.hid (below_then HB3.out HB3.out.size hb)
    clear hb HWE HB3 HQ3 HD3
    go_wp2_with fail
    refine (HRE.out w4 HB4.out (some ⟨g2, 0, none⟩) c2 HQ4.out).mono ?_
    rintro e w5 ⟨g5, c5, rfl, hrd5, hb⟩
    have HD5 := Lib.hid (Rd.below HD4.out hb)
    have HQ5 := Lib.hid (Rd.below HQ4.out hb)
    have HB5 := Lib.hid (below_then HB4.out HB4.out.size hb)
    have hsame := same22 Ao g5 co c5 rl rl w5 HD5.out hrd5
    rw [decide_eq_true rfl] at hsame
    have HSA := Lib.hid hsame
    clear hb HRE HB4 HQ4 HD4 hrd5 hsame
    go_wp2_with fail
    refine HSA.out.mono ?_
    rintro e w6 ⟨rfl, hb⟩
    have HB6 := Lib.hid (below_then HB5.out HB5.out.size hb)
    obtain ⟨bq, oq, eq, hbq, cq⟩ := Rd.i (Rd.below HQ5.out hb) mo.toNat _ HTG.out
    obtain ⟨rfl, rfl⟩ : g2 = bq ∧ 0 = oq := by injection eq with eq; injection eq with e1 e2; exact ⟨e1, e2⟩
    rw [Nat.zero_add] at cq
    clear hb HSA HB5 HQ5 eq
    go_wp2_with (go_at_call 17; refine (known17 _).mono ?_; rintro e w9 ⟨rfl, hb9⟩)
    go_ret
    exact ⟨rfl, below_then HB6.out HB6.out.size hb9⟩
  · rw [decide_eq_false f1] at HQ
    have HE := Lib.hid (reason18_none (m : Int) A c ls w hr mo hrb hsm q1 (Int.not_lt.1 f1))
    clear hr hf hrb hsm f1 q1
    go_enter Try.func3, Try.ntmps3
    go_wp2_with (go_at_call 16; refine HFEW.out.mono ?_; rintro e w' ⟨rfl, hw⟩; obtain rfl := hw.symm)
    refine HE.out.mono ?_
    rintro e w1 ⟨rfl, hb⟩
    have HB1 := Lib.hid hb
    clear hb HE
    go_wp2_with fail
    refine (HNET.out w1 HB1.out).mono ?_
    rintro e w2 ⟨rfl, hb⟩
    have HB2 := Lib.hid (below_then HB1.out HB1.out.size hb)
    clear hb HNET HB1
    go_wp2_with fail
    refine (HQ.out w2 HB2.out).mono ?_
    rintro e w3 ⟨g2, c2, rfl, hq, hb⟩
    have HB3 := Lib.hid (below_then HB2.out HB2.out.size hb)
    clear hb HQ HB2 hq
    go_wp2_with (go_at_call 17; refine (known17 _).mono ?_; rintro e w9 ⟨rfl, hb9⟩)
    go_ret
    exact ⟨rfl, below_then HB3.out HB3.out.size hb9⟩
end Go.Proofs.Ytpknonebnipcgaa.Zr
