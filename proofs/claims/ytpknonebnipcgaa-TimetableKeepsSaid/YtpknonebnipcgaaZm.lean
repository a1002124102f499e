import Derived.Test.YtpknonebnipcgaaProg
import Derived.WalkKit
import Derived.KernelRfl
import Derived.Deep.LoopGhost
import Derived.Deep.QuietTactic
import Derived.BigQuiet
import Derived.Deep.DeepCutAuto
import Derived.Deep.CutBlock
import Derived.Deep.RegionHeld3
import Derived.WalkLawsBesides
import Derived.WalkSpells
import Derived.Outline
import Derived.Deep.DeepFit
import Derived.Lib.Hide
import Derived.Shelf.Abstract
import Derived.Lib.SliceRun
import Derived.Test.YtpknonebnipcgaaZk
import Derived.Test.YtpknonebnipcgaaZl

namespace Go.Proofs.Ytpknonebnipcgaa.Zm
open Go.RowKit Go.Shelf Go.Proofs.Ytpknonebnipcgaa.V Go.Proofs.Ytpknonebnipcgaa.A Go.Proofs.Ytpknonebnipcgaa.B Go.Proofs.Ytpknonebnipcgaa.C Go.Proofs.Ytpknonebnipcgaa.P Go.Proofs.Ytpknonebnipcgaa.D Go.Proofs.Ytpknonebnipcgaa.E Go.Proofs.Ytpknonebnipcgaa.G Go.Proofs.Ytpknonebnipcgaa.K Go.Proofs.Ytpknonebnipcgaa.N Go.Proofs.Ytpknonebnipcgaa.U Go.Proofs.Ytpknonebnipcgaa.W Go.Proofs.Ytpknonebnipcgaa.Y Go.Proofs.Ytpknonebnipcgaa.Rf Go.Proofs.Ytpknonebnipcgaa.Z Go.Proofs.Ytpknonebnipcgaa.Zp Go.Proofs.Ytpknonebnipcgaa.Zk Go.Proofs.Ytpknonebnipcgaa.Zl
set_option linter.unusedVariables false
set_option linter.unusedSimpArgs false

set_option maxRecDepth 100000 in
set_option maxHeartbeats 8000000 in
theorem keeps7 (n : Int) (A : Option Addr) (c : Nat) (ls : List T3) (At : Option Addr) (ct : Nat) (ts : List Int) (Ac : Option Addr) (cc : Nat) (ch : List Int) (w : World)
    (hr : RdT w (.slice A ls.length c) ls) (ht : RdI w (.slice At ts.length ct) ts) (hc : RdI w (.slice Ac ch.length cc) ch) (hts : ∀ x ∈ ts, -9223372036854775808 ≤ x ∧ x ≤ 9223372036854775807) (hch : ∀ x ∈ ch, -9223372036854775808 ≤ x ∧ x ≤ 9223372036854775807) :
    Calls Try.prog 7 #[.int .i64 n, .slice A ls.length c, .slice At ts.length ct, .slice Ac ch.length cc] w fun e w' => e = .returned (.bool true) ∧ Below w.heap.size w w' := by
  have hll := (RdR.len hr).2
  have hlt := (RdR.len ht).2
  have hlc := (RdR.len hc).2
  have HFEW := Lib.hid (few16 n A c ls.length w)
  have HNET := Lib.hid (fun W (hb : Below w.heap.size w W) => net19 n A c ls W (Rd.below hr hb))
  have HR := Lib.hid hr
  have HT := Lib.hid ht
  have HC := Lib.hid hc
  have HTS := Lib.hid hts
  have HCH := Lib.hid hch
  clear hr ht hc hts hch
  obtain ⟨f, hf⟩ : ∃ f, fewB n ls.length = f := ⟨_, rfl⟩
  rw [hf] at HFEW
  cases f
  · clear hf
    go_enter Try.func7, Try.ntmps7
    go_wp2_with (first | (go_at_call 16; refine HFEW.out.mono ?_; rintro e w' ⟨rfl, hw⟩; obtain rfl := hw.symm) | (go_at_call 17; refine (known17 _).mono ?_; rintro e w9 ⟨rfl, hb9⟩))
    go_ret
    exact ⟨rfl, hb9⟩
  cases t1 : decide ((60 : Int) < (ts.length : Int))
  rotate_left
  · clear hf
    go_enter Try.func7, Try.ntmps7
    go_wp2_with (first | (go_at_call 16; refine HFEW.out.mono ?_; rintro e w' ⟨rfl, hw⟩; obtain rfl := hw.symm) | (go_at_call 17; refine (known17 _).mono ?_; rintro e w9 ⟨rfl, hb9⟩))
    go_ret
    exact ⟨rfl, hb9⟩
  cases t2 : decide ((60 : Int) < (ch.length : Int))
  rotate_left
  · clear hf
    go_enter Try.func7, Try.ntmps7
    go_wp2_with (first | (go_at_call 16; refine HFEW.out.mono ?_; rintro e w' ⟨rfl, hw⟩; obtain rfl := hw.symm) | (go_at_call 17; refine (known17 _).mono ?_; rintro e w9 ⟨rfl, hb9⟩))
    go_ret
    exact ⟨rfl, hb9⟩
  have ht60 := of_decide_eq_false t1
  have hc60 := of_decide_eq_false t2
  have HSM := Lib.hid (fun h : rightB n ls = true => (by have := few_small hf h; exact ⟨by omega, by omega⟩ : Small n ls))
  have HK := Lib.hid (fun W (hb : Below w.heap.size w W) => keeps32 n A c ls At ct ts W (Rd.below HR.out hb) (Rd.below HT.out hb) HSM.out HTS.out)
  have HP := Lib.hid (fun W (hb : Below w.heap.size w W) => proves31 n A c ls Ac cc ch W (Rd.below HR.out hb) (Rd.below HC.out hb) HSM.out HCH.out)
  obtain ⟨kt, hkt⟩ : ∃ kt, keepB n ls ts = kt := ⟨_, rfl⟩
  obtain ⟨pv, hpv⟩ : ∃ pv, proveB n ls ch = pv := ⟨_, rfl⟩
  rw [hkt] at HK
  rw [hpv] at HP
  obtain ⟨r, hrb⟩ : ∃ r, rightB n ls = r := ⟨_, rfl⟩
  rw [hrb] at HNET
  cases r
  · obtain rfl : kt = false := by rw [← hkt]; unfold keepB; rw [hrb]; rfl
    obtain rfl : pv = false := by rw [← hpv]; unfold proveB; rw [hrb]; rfl
    clear hf hkt hpv hrb
    go_enter Try.func7, Try.ntmps7
    go_wp2_with (go_at_call 16; refine HFEW.out.mono ?_; rintro e w' ⟨rfl, hw⟩; obtain rfl := hw.symm)
    refine (HK.out _ (Below.refl _ _)).mono ?_
    rintro e w1 ⟨rfl, hb⟩
    have HB1 := Lib.hid hb
    clear hb HK
    go_wp2_with fail
    refine (HP.out w1 HB1.out).mono ?_
    rintro e w2 ⟨rfl, hb⟩
    have HB2 := Lib.hid (below_then HB1.out HB1.out.size hb)
    clear hb HP HB1
    go_wp2_with fail
    refine (HNET.out w2 HB2.out).mono ?_
    rintro e w3 ⟨rfl, hb⟩
    have HB3 := Lib.hid (below_then HB2.out HB2.out.size hb)
    clear hb HNET HB2
    go_wp2_with (go_at_call 17; refine (known17 _).mono ?_; rintro e w9 ⟨rfl, hb9⟩)
    go_ret
    exact ⟨rfl, below_then HB3.out HB3.out.size hb9⟩
  obtain ⟨r1, r2, _, _⟩ := right_out hrb
  obtain ⟨m, rfl⟩ : ∃ m : Nat, n = m := ⟨n.toNat, by omega⟩
  have hsm := HSM.out hrb
  have HRB := Lib.hid hrb
  have HKR := Lib.hid (fun W (hb : Below w.heap.size w W) (hx : ∀ x ∈ ts, x ≤ 1099511627776) => keeps33 m A c ls At ct ts W (Rd.below HR.out hb) (Rd.below HT.out hb) hrb (fun x h => ⟨(HTS.out x h).1, hx x h⟩))
  have HPR := Lib.hid (fun W (hb : Below w.heap.size w W) => proves30 m A c ls Ac cc ch W (Rd.below HR.out hb) (Rd.below HC.out hb) hrb hsm HCH.out)
  rw [hkt] at HKR
  rw [hpv] at HPR
  clear hf hkt hpv hrb hsm
  go_enter Try.func7, Try.ntmps7
  go_wp2_with (go_at_call 16; refine HFEW.out.mono ?_; rintro e w' ⟨rfl, hw⟩; obtain rfl := hw.symm)
  refine (HK.out _ (Below.refl _ _)).mono ?_
  rintro e w1 ⟨rfl, hb⟩
  have HB1 := Lib.hid hb
  clear hb HK
  go_wp2_with fail
  refine (HP.out w1 HB1.out).mono ?_
  rintro e w2 ⟨rfl, hb⟩
  have HB2 := Lib.hid (below_then HB1.out HB1.out.size hb)
  clear hb HP HB1
  go_wp2_with fail
  refine (HNET.out w2 HB2.out).mono ?_
  rintro e w3 ⟨rfl, hb⟩
  have HB3 := Lib.hid (below_then HB2.out HB2.out.size hb)
  clear hb HNET HB2
  go_wp2_with fail
  go_loopg [11] ts.length (fun gg s11 wr => ∃ k : Nat, k ≤ ts.length ∧ ts.length - k ≤ gg ∧ s11 = .int .i64 k ∧ Hid (Below w.heap.size w wr) ∧ Hid (∀ (j : Nat) (x : Int), j < k → ts[j]? = some x → x ≤ 1099511627776))
  case atStart => exact ⟨0, Nat.zero_le _, by omega, rfl, HB3, Lib.hid (fun j x hj => by omega)⟩
  case round =>
    clear HB3
    obtain ⟨k, hk, hgg, rfl, HB, HA⟩ := hrel
    by_cases hlt2 : k < ts.length
    · have hg := getDi hlt2
      obtain ⟨b, o, rfl, hb, hcell⟩ := Rd.i HT.out k _ hg
      replace hcell := (HB.out.cell (p := ⟨b, o + k, none⟩) hb).trans hcell
      have hbd := HTS.out _ (List.mem_of_getElem? hg)
      have HG := Lib.hid hg
      clear hg
      generalize ts.getD k 0 = x at *
      obtain ⟨bd1, bd2⟩ := hbd
      cases d0 : decide ((1099511627776 : Int) < x)
      rotate_left
      · go_wp2_with (go_at_call 17; refine (known17 _).mono ?_; rintro e w9 ⟨rfl, hb9⟩)
        go_ret
        exact ⟨rfl, below_then HB.out HB.out.size hb9⟩
      · go_wp2_with fail
        go_roundg (ts.length - (k + 1))
        case measure => omega
        case rel =>
          refine ⟨k + 1, by omega, by omega, by go_num, HB, Lib.hid (fun j y hj hy => ?_)⟩
          by_cases e : j = k
          · subst e
            rw [HG.out] at hy
            injection hy with hy
            subst hy
            have := of_decide_eq_false d0
            omega
          · exact HA.out j y (by omega) hy
    · obtain rfl : k = ts.length := by omega
      have hall : ∀ x ∈ ts, x ≤ 1099511627776 := fun x hx => by
        obtain ⟨j, hj⟩ := List.getElem?_of_mem hx
        exact HA.out j x (List.getElem?_eq_some_iff.1 hj).1 hj
      have HALL := Lib.hid hall
      clear hall HA hgg hlt2
      go_wp2_with fail
      refine (HKR.out wr HB.out HALL.out).mono ?_
      rintro e w4 ⟨rfl, hb⟩
      have HB4 := Lib.hid (below_then HB.out HB.out.size hb)
      clear hb HKR HB
      cases kt
      · go_wp2_with fail
        refine (HPR.out w4 HB4.out).mono ?_
        rintro e w5 ⟨rfl, hb⟩
        have HB5 := Lib.hid (below_then HB4.out HB4.out.size hb)
        clear hb HPR HB4
        cases pv
        · go_wp2_with (go_at_call 17; refine (known17 _).mono ?_; rintro e w9 ⟨rfl, hb9⟩)
          go_ret
          exact ⟨rfl, below_then HB5.out HB5.out.size hb9⟩
        · go_wp2_with (go_at_call 17; refine (known17 _).mono ?_; rintro e w9 ⟨rfl, hb9⟩)
          go_ret
          exact ⟨rfl, below_then HB5.out HB5.out.size hb9⟩
      · go_wp2_with fail
        refine (HPR.out w4 HB4.out).mono ?_
        rintro e w5 ⟨rfl, hb⟩
        have HB5 := Lib.hid (below_then HB4.out HB4.out.size hb)
        clear hb HPR HB4
        cases pv
        · go_wp2_with (go_at_call 17; refine (known17 _).mono ?_; rintro e w9 ⟨rfl, hb9⟩)
          go_ret
          exact ⟨rfl, below_then HB5.out HB5.out.size hb9⟩
        · go_wp2_with (go_at_call 17; refine (known17 _).mono ?_; rintro e w9 ⟨rfl, hb9⟩)
          go_ret
          exact ⟨rfl, below_then HB5.out HB5.out.size hb9⟩
end Go.Proofs.Ytpknonebnipcgaa.Zm
