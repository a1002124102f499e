import Derived.Test.YtpknonebnipcgaaProg
import Derived.WalkKit
import Derived.KernelRfl
import Derived.Deep.LoopGhost
import Derived.Deep.QuietTactic
import Derived.BigQuiet
import Derived.Deep.DeepCutAuto
import Derived.Deep.CutBlock
import Derived.Deep.RegionHeld3
import Derived.WalkLawsBesides
import Derived.WalkSpells
import Derived.Outline
import Derived.Deep.DeepFit
import Derived.Lib.Hide
import Derived.Shelf.Abstract
import Derived.Lib.SliceRun
import Derived.Test.YtpknonebnipcgaaZl
import Derived.Test.YtpknonebnipcgaaRg
import Derived.Test.YtpknonebnipcgaaZe

namespace Go.Proofs.Ytpknonebnipcgaa.Zn
open Go.RowKit Go.Shelf Go.Proofs.Ytpknonebnipcgaa.V Go.Proofs.Ytpknonebnipcgaa.A Go.Proofs.Ytpknonebnipcgaa.B Go.Proofs.Ytpknonebnipcgaa.C Go.Proofs.Ytpknonebnipcgaa.P Go.Proofs.Ytpknonebnipcgaa.D Go.Proofs.Ytpknonebnipcgaa.E Go.Proofs.Ytpknonebnipcgaa.G Go.Proofs.Ytpknonebnipcgaa.K Go.Proofs.Ytpknonebnipcgaa.N Go.Proofs.Ytpknonebnipcgaa.U Go.Proofs.Ytpknonebnipcgaa.W Go.Proofs.Ytpknonebnipcgaa.Y Go.Proofs.Ytpknonebnipcgaa.Rf Go.Proofs.Ytpknonebnipcgaa.Rg Go.Proofs.Ytpknonebnipcgaa.Z Go.Proofs.Ytpknonebnipcgaa.Ze Go.Proofs.Ytpknonebnipcgaa.Zp Go.Proofs.Ytpknonebnipcgaa.Zl
set_option linter.unusedVariables false
set_option linter.unusedSimpArgs false

set_option maxRecDepth 100000 in
set_option maxHeartbeats 8000000 in
theorem earliest6 (n : Int) (A : Option Addr) (c : Nat) (ls : List T3) (w : World) (hr : RdT w (.slice A ls.length c) ls) :
    Calls Try.prog 6 #[.int .i64 n, .slice A ls.length c] w fun e w' => e = .returned (.bool true) ∧ Below w.heap.size w w' := by
  have hll := (RdR.len hr).2
  have HFEW := Lib.hid (few16 n A c ls.length w)
  have HNET := Lib.hid (fun W (hb : Below w.heap.size w W) => net19 n A c ls W (Rd.below hr hb))
  have HR := Lib.hid hr
  obtain ⟨f, hf⟩ : ∃ f, fewB n ls.length = f := ⟨_, rfl⟩
  rw [hf] at HFEW
  cases f
  · clear hf hr
    go_enter Try.func6, Try.ntmps6
    go_wp2_with (first | (go_at_call 16; refine HFEW.out.mono ?_; rintro e w' ⟨rfl, rfl⟩) | (go_at_call 17; refine (known17 _).mono ?_; rintro e w9 ⟨rfl, hb9⟩))
    go_ret
    exact ⟨rfl, hb9⟩
  obtain ⟨r, hrb⟩ : ∃ r, rightB n ls = r := ⟨_, rfl⟩
  rw [hrb] at HNET
  cases r
  · have HE := Lib.hid (earliest29_arg n A c ls w hr hrb)
    clear hr hf hrb
    go_enter Try.func6, Try.ntmps6
    go_wp2_with (go_at_call 16; refine HFEW.out.mono ?_; rintro e w' ⟨rfl, hw⟩; obtain rfl := hw.symm)
    refine HE.out.mono ?_
    rintro e w1 ⟨rfl, hb⟩
    have HB1 := Lib.hid hb
    clear hb HE
    go_wp2_with fail
    refine (HNET.out w1 HB1.out).mono ?_
    rintro e w2 ⟨rfl, hb⟩
    have HB2 := Lib.hid (below_then HB1.out HB1.out.size hb)
    clear hb HNET HB1
    go_wp2_with (go_at_call 17; refine (known17 _).mono ?_; rintro e w9 ⟨rfl, hb9⟩)
    go_ret
    exact ⟨rfl, below_then HB2.out HB2.out.size hb9⟩
  obtain ⟨r1, r2, _, _⟩ := right_out hrb
  obtain ⟨m, rfl⟩ : ∃ m : Nat, n = m := ⟨n.toNat, by omega⟩
  have hsm : Small (m : Int) ls := by have := few_small hf hrb; exact ⟨by omega, by omega⟩
  have HQ := Lib.hid (fun W (hb : Below w.heap.size w W) => earliest20 m A c ls W (Rd.below hr hb) hrb hsm)
  by_cases f1 : (earl (m : Int) ls).raised < 0
  · rw [decide_eq_true f1] at HQ
    have HE := Lib.hid (earliest29_ok (m : Int) A c ls w hr hrb hsm f1)
    have bd1 := earl_bd hrb hsm
    have hke := keep_earl hrb f1
    have HKE := Lib.hid (fun W (hb : Below w.heap.size w W) (gt ct : Nat) hq => keeps32 (m : Int) A c ls (some ⟨gt, 0, none⟩) ct (earl (m : Int) ls).ts W (Rd.below HR.out hb) hq (fun _ => hsm) (fun y hy => by have := bd1 y hy; omega))
    rw [hke] at HKE
    have hlen : (earl (m : Int) ls).ts.length = m := by have := (keepB_out hke).2.1; omega
    have HLEN := Lib.hid hlen
    clear hr hf hrb hsm f1 bd1 hke hlen
    generalize (earl (m : Int) ls).ts = es at *
    go_enter Try.func6, Try.ntmps6
    go_wp2_with (go_at_call 16; refine HFEW.out.mono ?_; rintro e w' ⟨rfl, hw⟩; obtain rfl := hw.symm)
    refine HE.out.mono ?_
    rintro e w1 ⟨gt, ct, rfl, hO, hb⟩
    have HE1 := Lib.hid hO.rd
    have HB1 := Lib.hid hb
    clear hb HE hO
    go_wp2_with fail
    refine (HNET.out w1 HB1.out).mono ?_
    rintro e w2 ⟨rfl, hb⟩
    have HE2 := Lib.hid (Rd.below HE1.out hb)
    have HB2 := Lib.hid (below_then HB1.out HB1.out.size hb)
    clear hb HNET HB1 HE1
    go_wp2_with fail
    refine (HQ.out w2 HB2.out).mono ?_
    rintro e w3 ⟨g2, c2, rfl, hq, hb⟩
    have HE3 := Lib.hid (Rd.below HE2.out hb)
    have HB3 := Lib.hid (below_then HB2.out HB2.out.size hb)
    have hsame := same22 (some ⟨gt, 0, none⟩) (some ⟨g2, 0, none⟩) ct c2 es es w3 HE3.out (by rw [HLEN.out]; exact hq)
    rw [decide_eq_true rfl] at hsame
    have hsame' : Calls Try.prog 22 #[.slice (some ⟨gt, 0, none⟩) es.length ct, .slice (some ⟨g2, 0, none⟩) m c2] w3 (fun e w7 => e = .returned (.bool true) ∧ Below w3.heap.size w3 w7) := by
      refine (show ∀ k, k = es.length → Calls Try.prog 22 #[.slice (some ⟨gt, 0, none⟩) es.length ct, .slice (some ⟨g2, 0, none⟩) k c2] w3 (fun e w7 => e = .returned (.bool true) ∧ Below w3.heap.size w3 w7) from ?_) m HLEN.out.symm
      rintro k rfl
      exact hsame
    have HSA := Lib.hid hsame'
    clear hb HQ HB2 HE2 hq hsame hsame'
    go_wp2_with fail
    refine HSA.out.mono ?_
    rintro e w4 ⟨rfl, hb⟩
    have HE4 := Lib.hid (Rd.below HE3.out hb)
    have HB4 := Lib.hid (below_then HB3.out HB3.out.size hb)
    clear hb HSA HB3 HE3
    go_wp2_with fail
    refine (HKE.out w4 HB4.out gt ct HE4.out).mono ?_
    rintro e w5 ⟨rfl, hb⟩
    have HB5 := Lib.hid (below_then HB4.out HB4.out.size hb)
    clear hb HKE HB4 HE4
    go_wp2_with (go_at_call 17; refine (known17 _).mono ?_; rintro e w9 ⟨rfl, hb9⟩)
    go_ret
    exact ⟨rfl, below_then HB5.out HB5.out.size hb9⟩
  · rw [decide_eq_false f1] at HQ
    have HE := Lib.hid (earliest29_none (m : Int) A c ls w hr hrb hsm (Int.not_lt.1 f1))
    have HP := Lib.hid (fun W (hb : Below w.heap.size w W) (gp cp : Nat) (p : List Int) hp (hpf : ProofOk (m : Int).toNat (allOf (m : Int) ls) p) => proves31 (m : Int) A c ls (some ⟨gp, 0, none⟩) cp p W (Rd.below HR.out hb) hp (fun _ => hsm) (fun x hx => by
      have h1 := hpf.rng x hx
      have h2 := all_len (m : Int) ls
      omega))
    have HPR := Lib.hid (fun W (hb : Below w.heap.size w W) (gp cp : Nat) (p : List Int) hp (hpf : ProofOk (m : Int).toNat (allOf (m : Int) ls) p) => proves30 m A c ls (some ⟨gp, 0, none⟩) cp p W (Rd.below HR.out hb) hp hrb hsm (fun x hx => by
      have h1 := hpf.rng x hx
      have h2 := all_len (m : Int) ls
      omega))
    have HRB := Lib.hid hrb
    clear hr hf hrb hsm f1
    go_enter Try.func6, Try.ntmps6
    go_wp2_with (go_at_call 16; refine HFEW.out.mono ?_; rintro e w' ⟨rfl, hw⟩; obtain rfl := hw.symm)
    refine HE.out.mono ?_
    rintro e w1 ⟨gp, cp, pf, rfl, hO, hpf, hb⟩
    have HE1 := Lib.hid hO.rd
    have HOK := Lib.hid hpf
    have HB1 := Lib.hid hb
    have hplen := (RdR.len hO.rd).2
    clear hb HE hO hpf
    go_wp2_with fail
    refine (HNET.out w1 HB1.out).mono ?_
    rintro e w2 ⟨rfl, hb⟩
    have HE2 := Lib.hid (Rd.below HE1.out hb)
    have HB2 := Lib.hid (below_then HB1.out HB1.out.size hb)
    clear hb HNET HB1 HE1
    go_wp2_with fail
    refine (HQ.out w2 HB2.out).mono ?_
    rintro e w3 ⟨g2, c2, rfl, hq, hb⟩
    have HE3 := Lib.hid (Rd.below HE2.out hb)
    have HB3 := Lib.hid (below_then HB2.out HB2.out.size hb)
    have hpp := HPR.out w3 HB3.out gp cp pf HE3.out HOK.out
    rw [prove_of_ok HRB.out HOK.out] at hpp
    have HPP3 := Lib.hid hpp
    clear hb HQ HB2 HE2 hq hpp HPR
    go_wp2_with fail
    refine HPP3.out.mono ?_
    rintro e w4 ⟨rfl, hb⟩
    have HB4 := Lib.hid (below_then HB3.out HB3.out.size hb)
    have hpp := HP.out w4 HB4.out gp cp pf (Rd.below HE3.out hb) HOK.out
    rw [prove_of_ok HRB.out HOK.out] at hpp
    have HPP4 := Lib.hid hpp
    clear hb HPP3 HB3 HE3 hpp HP
    go_wp2_with fail
    refine HPP4.out.mono ?_
    rintro e w5 ⟨rfl, hb⟩
    have HB5 := Lib.hid (below_then HB4.out HB4.out.size hb)
    clear hb HPP4 HB4
    go_wp2_with (go_at_call 17; refine (known17 _).mono ?_; rintro e w9 ⟨rfl, hb9⟩)
    go_ret
    exact ⟨rfl, below_then HB5.out HB5.out.size hb9⟩
end Go.Proofs.Ytpknonebnipcgaa.Zn
