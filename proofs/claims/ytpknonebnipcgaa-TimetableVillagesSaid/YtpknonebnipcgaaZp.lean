import Derived.Test.YtpknonebnipcgaaProg
import Derived.WalkKit
import Derived.KernelRfl
import Derived.Deep.LoopGhost
import Derived.Deep.QuietTactic
import Derived.BigQuiet
import Derived.Deep.DeepCutAuto
import Derived.Deep.CutBlock
import Derived.Deep.RegionHeld3
import Derived.WalkLawsBesides
import Derived.WalkSpells
import Derived.Outline
import Derived.Deep.DeepFit
import Derived.Lib.Hide
import Derived.Shelf.Abstract
import Derived.Lib.SliceRun
import Derived.Test.YtpknonebnipcgaaRg
import Derived.Test.YtpknonebnipcgaaZ

namespace Go.Proofs.Ytpknonebnipcgaa.Zp
open Go.RowKit Go.Shelf Go.Proofs.Ytpknonebnipcgaa.V Go.Proofs.Ytpknonebnipcgaa.A Go.Proofs.Ytpknonebnipcgaa.B Go.Proofs.Ytpknonebnipcgaa.C Go.Proofs.Ytpknonebnipcgaa.P Go.Proofs.Ytpknonebnipcgaa.D Go.Proofs.Ytpknonebnipcgaa.E Go.Proofs.Ytpknonebnipcgaa.G Go.Proofs.Ytpknonebnipcgaa.H Go.Proofs.Ytpknonebnipcgaa.K Go.Proofs.Ytpknonebnipcgaa.N Go.Proofs.Ytpknonebnipcgaa.U Go.Proofs.Ytpknonebnipcgaa.W Go.Proofs.Ytpknonebnipcgaa.Y Go.Proofs.Ytpknonebnipcgaa.Rf Go.Proofs.Ytpknonebnipcgaa.Rg Go.Proofs.Ytpknonebnipcgaa.Z
set_option linter.unusedVariables false
set_option linter.unusedSimpArgs false

theorem few_small {n : Int} {ls : List T3} (hf : fewB n ls.length = true) (h : rightB n ls = true) : n ≤ 12 ∧ ls.length ≤ 30 := by
  obtain ⟨h1, h2, h3, _⟩ := right_out h
  unfold fewB at hf
  simp only [Bool.and_eq_true, Bool.or_eq_true, decide_eq_true_eq] at hf
  omega

set_option maxHeartbeats 2000000 in
theorem times36 (n : Int) (A : Option Addr) (c : Nat) (ts : List Int) (w : World) (hr : RdI w (.slice A ts.length c) ts) (h1 : 1 ≤ n) :
    Calls Try.prog 36 #[.slice A ts.length c, .int .i64 n] w fun e w' => e = .returned (.bool (timesB n ts)) ∧ Below w.heap.size w w' := by
  have hll := (RdR.len hr).2
  have HR := Lib.hid hr
  clear hr
  obtain ⟨r, hrr⟩ : ∃ r, timesB n ts = r := ⟨_, rfl⟩
  rw [hrr]
  have HRR := Lib.hid hrr
  clear hrr
  go_enter Try.func36, Try.ntmps36
  go_wp2_with fail
  go_loopg [5] ts.length (fun gg s5 wr => ∃ k : Nat, k ≤ ts.length ∧ ts.length - k ≤ gg ∧ s5 = .int .i64 k ∧ Hid (Below w.heap.size w wr) ∧ Hid (∀ (j : Nat) (x : Int), j < k → ts[j]? = some x → 0 ≤ x ∧ x ≤ 1000000000))
  case atStart => exact ⟨0, Nat.zero_le _, by omega, rfl, Lib.hid (Below.refl _ _), Lib.hid (fun j x hj => by omega)⟩
  case round =>
    obtain ⟨k, hk, hgg, rfl, HB, HA⟩ := hrel
    by_cases hlt : k < ts.length
    · have hg := getDi hlt
      obtain ⟨b, o, rfl, hb, hcell⟩ := Rd.i HR.out k _ hg
      replace hcell := (HB.out.cell (p := ⟨b, o + k, none⟩) hb).trans hcell
      have HG := Lib.hid hg
      clear hg
      generalize ts.getD k 0 = x at *
      have hbad : (x < 0 ∨ 1000000000 < x) → r = false := fun h => by
        rw [← HRR.out]
        unfold timesB
        have : (ts.any fun x => !inB x 0 1000000000) = true := List.any_eq_true.2 ⟨x, List.mem_of_getElem? HG.out, by simp [inB]; omega⟩
        rw [this]
        simp
      by_cases x0 : x < 0
      · have d0 : decide (x < 0) = true := decide_eq_true x0
        have hf := hbad (.inl x0)
        subst hf
        clear hbad
        go_wp2_with fail
        go_ret
        exact ⟨rfl, HB.out⟩
      · have d0 : decide (x < 0) = false := decide_eq_false x0
        by_cases x1 : 1000000000 < x
        · have d1 : decide ((1000000000 : Int) < x) = true := decide_eq_true x1
          have hf := hbad (.inr x1)
          subst hf
          clear hbad
          go_wp2_with fail
          go_ret
          exact ⟨rfl, HB.out⟩
        · have d1 : decide ((1000000000 : Int) < x) = false := decide_eq_false x1
          clear hbad
          go_wp2_with fail
          go_roundg (ts.length - (k + 1))
          case measure => omega
          case rel =>
            refine ⟨k + 1, by omega, by omega, by go_num, HB, Lib.hid (fun j y hj hy => ?_)⟩
            by_cases e : j = k
            · subst e
              rw [HG.out] at hy
              injection hy with hy
              subst hy
              omega
            · exact HA.out j y (by omega) hy
    · obtain rfl : k = ts.length := by omega
      have hany : (ts.any fun x => !inB x 0 1000000000) = false := List.any_eq_false.2 (fun x hx => by
        obtain ⟨j, hj⟩ := List.getElem?_of_mem hx
        have := HA.out j x (List.getElem?_eq_some_iff.1 hj).1 hj
        simp [inB]; omega)
      have hr2 : r = (decide ((ts.length : Int) = n) && (ts.getD 0 0 == 0)) := by
        rw [← HRR.out]
        unfold timesB
        rw [hany]
        simp
      by_cases hle : (ts.length : Int) = n
      · have hpos : 0 < ts.length := by omega
        have he : (((ts.length : Nat) : Int) == n) = true := by simp [hle]
        obtain ⟨b, o, rfl, hb, hcell⟩ := Rd.i HR.out 0 _ (getDi hpos)
        replace hcell := (HB.out.cell (p := ⟨b, o + 0, none⟩) hb).trans hcell
        rw [Nat.add_zero] at hcell
        rw [decide_eq_true hle, Bool.true_and] at hr2
        have HR2 := Lib.hid hr2
        have HLE := Lib.hid hle
        clear hr2 hany hle hgg
        generalize ts.getD 0 0 = z at *
        go_wp2_with fail
        go_ret
        exact ⟨by rw [HR2.out]; rfl, HB.out⟩
      · have he : (((ts.length : Nat) : Int) == n) = false := by simp [hle]
        rw [decide_eq_false hle, Bool.false_and] at hr2
        subst hr2
        have HLE := Lib.hid hle
        clear hany hle hgg
        go_wp2_with fail
        go_ret
        exact ⟨rfl, HB.out⟩

theorem push_none {n : Int} {ls : List T3} {ts : List Int} (h : rightB n ls = true) (hl : (ts.length : Int) = n) (hf : 0 ≤ (earl n ls).raised) : 0 ≤ (pushed n ls ts).raised := by
  obtain ⟨h1, _⟩ := right_out h
  by_cases hp : (pushed n ls ts).raised < 0
  · rcases push_ends (valid_all h) (by omega) (by rw [all_len]; omega) ts (by omega) with ⟨_, _, q, _⟩ | ⟨q, _⟩
    · exact absurd q (earl_none h hf)
    · have e : pushF n.toNat (allOf n ls) ts = pushed n ls ts := rfl
      rw [e] at q
      omega
  · omega

set_option maxRecDepth 100000 in
set_option maxHeartbeats 4000000 in
theorem pushes10 (n : Int) (A : Option Addr) (c : Nat) (ls : List T3) (At : Option Addr) (ct : Nat) (ts : List Int) (w : World) (hr : RdT w (.slice A ls.length c) ls) (ht : RdI w (.slice At ts.length ct) ts) :
    Calls Try.prog 10 #[.int .i64 n, .slice A ls.length c, .slice At ts.length ct] w fun e w' => e = .returned (.bool true) ∧ Below w.heap.size w w' := by
  have hll := (RdR.len hr).2
  have hlt := (RdR.len ht).2
  cases hf : fewB n ls.length
  · clear hr ht
    go_enter Try.func10, Try.ntmps10
    go_wp2_with (first
      | (go_at_call 16; refine (few16 _ _ _ _ _).mono ?_; rintro e w' ⟨rfl, rfl⟩; rw [hf])
      | (go_at_call 17; refine (known17 _).mono ?_; rintro e w9 ⟨rfl, hb9⟩))
    go_ret
    exact ⟨rfl, hb9⟩
  have hfew := few16 n A c ls.length w
  rw [hf] at hfew
  have HFEW := Lib.hid hfew
  cases t1 : decide ((60 : Int) < (ts.length : Int))
  rotate_left
  · clear hr ht hfew hf
    go_enter Try.func10, Try.ntmps10
    go_wp2_with (first
      | (go_at_call 16; refine HFEW.out.mono ?_; rintro e w' ⟨rfl, rfl⟩)
      | (go_at_call 17; refine (known17 _).mono ?_; rintro e w9 ⟨rfl, hb9⟩))
    go_ret
    exact ⟨rfl, hb9⟩
  have HR := Lib.hid hr
  have HT := Lib.hid ht
  obtain ⟨r, hrb⟩ : ∃ r, rightB n ls = r := ⟨_, rfl⟩
  obtain ⟨tb, htb⟩ : ∃ tb, timesB n ts = tb := ⟨_, rfl⟩
  have hnet := fun W (hb : Below w.heap.size w W) => net19 n A c ls W (Rd.below hr hb)
  rw [hrb] at hnet
  have HNET := Lib.hid hnet
  cases r
  · have hp := push35_arg n A c ls At ct ts w hr ht (.inl hrb)
    have HP := Lib.hid hp
    clear hr ht hfew hf hnet hp hrb htb
    go_enter Try.func10, Try.ntmps10
    go_wp2_with (go_at_call 16; refine HFEW.out.mono ?_; rintro e w' ⟨rfl, rfl⟩)
    refine HP.out.mono ?_
    rintro e w2 ⟨rfl, hb⟩
    have HB2 := Lib.hid hb
    clear hb HP
    go_wp2_with fail
    refine (HNET.out w2 HB2.out).mono ?_
    rintro e w3 ⟨rfl, hb⟩
    have HB3 := Lib.hid (below_then HB2.out HB2.out.size hb)
    clear hb HB2
    go_wp2_with (go_at_call 17; refine (known17 _).mono ?_; rintro e w9 ⟨rfl, hb9⟩)
    go_ret
    exact ⟨rfl, below_then HB3.out HB3.out.size hb9⟩
  have hn1 := (right_out hrb).1
  have htm := fun W (hb : Below w.heap.size w W) => times36 n At ct ts W (Rd.below ht hb) hn1
  rw [htb] at htm
  have HTM := Lib.hid htm
  cases tb
  · have hp := push35_arg n A c ls At ct ts w hr ht (.inr htb)
    have HP := Lib.hid hp
    clear hr ht hfew hf hnet hp hrb htb htm
    go_enter Try.func10, Try.ntmps10
    go_wp2_with (go_at_call 16; refine HFEW.out.mono ?_; rintro e w' ⟨rfl, rfl⟩)
    refine HP.out.mono ?_
    rintro e w2 ⟨rfl, hb⟩
    have HB2 := Lib.hid hb
    clear hb HP
    go_wp2_with fail
    refine (HNET.out w2 HB2.out).mono ?_
    rintro e w3 ⟨rfl, hb⟩
    have HB3 := Lib.hid (below_then HB2.out HB2.out.size hb)
    clear hb HB2
    go_wp2_with fail
    refine (HTM.out w3 HB3.out).mono ?_
    rintro e w4 ⟨rfl, hb⟩
    have HB4 := Lib.hid (below_then HB3.out HB3.out.size hb)
    clear hb HB3
    go_wp2_with (go_at_call 17; refine (known17 _).mono ?_; rintro e w9 ⟨rfl, hb9⟩)
    go_ret
    exact ⟨rfl, below_then HB4.out HB4.out.size hb9⟩
  obtain ⟨sm1, sm2⟩ := few_small hf hrb
  obtain ⟨m, rfl⟩ : ∃ m : Nat, n = m := ⟨n.toNat, by omega⟩
  have hsm : Small (m : Int) ls := ⟨by omega, by omega⟩
  obtain ⟨hlen, hz0, hbd⟩ := timesB_out htb
  have hlen' : ts.length = m := by omega
  have hp := push35_go (m : Int) A c ls At ct ts w hr ht hrb hsm htb
  have he := fun W (hb : Below w.heap.size w W) => earliest20 m A c ls W (Rd.below hr hb) hrb hsm
  have hpn := push_none (ts := ts) hrb hlen
  have hpe : pushF m (ls ++ adds m) ts = pushed (m : Int) ls ts := by unfold pushed allOf; rw [Int.toNat_natCast]
  have hq := fun W (hb : Below w.heap.size w W) => push37 m A c ls At ct ts W (Rd.below hr hb) (Rd.below ht hb) (by omega) (by omega) (by omega) (by
    have := valid_all hrb
    unfold allOf at this
    rw [Int.toNat_natCast] at this
    exact this) hlen' hbd
  rw [hpe] at hq
  have hpl : (pushed (m : Int) ls ts).ts.length = m := by rw [← hpe]; exact rounds_len _ hlen'
  generalize pushed (m : Int) ls ts = st at *
  obtain ⟨er, her⟩ : ∃ er, decide ((earl (m : Int) ls).raised < 0) = er := ⟨_, rfl⟩
  rw [her] at he
  have HE := Lib.hid he
  have HQ := Lib.hid hq
  cases er
  · have hpn' := hpn (Int.not_lt.1 (of_decide_eq_false her))
    have HP := Lib.hid (hp.mono (R' := fun e w' => e = .returned (.tuple #[.slice none 0 0, .int .i64 5]) ∧ Below w.heap.size w w') (fun e w' h => ⟨h.1.1 (.inl hpn'), h.2⟩))
    clear hr ht hfew hf hnet hrb htb htm hp he hpn hpn' hq hpl hbd hlen hz0 her hsm hlen' hpe
    go_enter Try.func10, Try.ntmps10
    go_wp2_with (go_at_call 16; refine HFEW.out.mono ?_; rintro e w' ⟨rfl, rfl⟩)
    refine HP.out.mono ?_
    rintro e w2 ⟨rfl, hb⟩
    have HB2 := Lib.hid hb
    clear hb HP
    go_wp2_with fail
    refine (HNET.out w2 HB2.out).mono ?_
    rintro e w3 ⟨rfl, hb⟩
    have HB3 := Lib.hid (below_then HB2.out HB2.out.size hb)
    clear hb HB2
    go_wp2_with fail
    refine (HTM.out w3 HB3.out).mono ?_
    rintro e w4 ⟨rfl, hb⟩
    have HB4 := Lib.hid (below_then HB3.out HB3.out.size hb)
    clear hb HB3
    go_wp2_with fail
    refine (HE.out w4 HB4.out).mono ?_
    rintro e w5 ⟨g, c', rfl, _, hb⟩
    have HB5 := Lib.hid (below_then HB4.out HB4.out.size hb)
    clear hb HB4
    go_wp2_with (go_at_call 17; refine (known17 _).mono ?_; rintro e w9 ⟨rfl, hb9⟩)
    go_ret
    exact ⟨rfl, below_then HB5.out HB5.out.size hb9⟩
  obtain ⟨po, hpo⟩ : ∃ po, pushOk st = po := ⟨_, rfl⟩
  rw [hpo] at HQ
  cases po
  · have hbad : 0 ≤ st.raised ∨ st.ts.getD 0 0 ≠ 0 := by
      unfold pushOk at hpo
      by_cases f : st.raised < 0
      · rw [if_pos f] at hpo
        exact .inr (by simpa using hpo)
      · exact .inl (by omega)
    have HP := Lib.hid (hp.mono (R' := fun e w' => e = .returned (.tuple #[.slice none 0 0, .int .i64 5]) ∧ Below w.heap.size w w') (fun e w' h => ⟨h.1.1 hbad, h.2⟩))
    clear hr ht hfew hf hnet hrb htb htm hp he hpn hq hpl hbd hlen hz0 her hsm hlen' hpe hbad hpo
    go_enter Try.func10, Try.ntmps10
    go_wp2_with (go_at_call 16; refine HFEW.out.mono ?_; rintro e w' ⟨rfl, rfl⟩)
    refine HP.out.mono ?_
    rintro e w2 ⟨rfl, hb⟩
    have HB2 := Lib.hid hb
    clear hb HP
    go_wp2_with fail
    refine (HNET.out w2 HB2.out).mono ?_
    rintro e w3 ⟨rfl, hb⟩
    have HB3 := Lib.hid (below_then HB2.out HB2.out.size hb)
    clear hb HB2
    go_wp2_with fail
    refine (HTM.out w3 HB3.out).mono ?_
    rintro e w4 ⟨rfl, hb⟩
    have HB4 := Lib.hid (below_then HB3.out HB3.out.size hb)
    clear hb HB3
    go_wp2_with fail
    refine (HE.out w4 HB4.out).mono ?_
    rintro e w5 ⟨g, c', rfl, _, hb⟩
    have HB5 := Lib.hid (below_then HB4.out HB4.out.size hb)
    clear hb HB4
    go_wp2_with fail
    refine (HQ.out w5 HB5.out).mono ?_
    rintro e w6 ⟨g2, c2, rfl, _, hb⟩
    have HB6 := Lib.hid (below_then HB5.out HB5.out.size hb)
    clear hb HB5
    go_wp2_with (go_at_call 17; refine (known17 _).mono ?_; rintro e w9 ⟨rfl, hb9⟩)
    go_ret
    exact ⟨rfl, below_then HB6.out HB6.out.size hb9⟩
  · have hgood : st.raised < 0 ∧ st.ts.getD 0 0 = 0 := by
      unfold pushOk at hpo
      by_cases f : st.raised < 0
      · rw [if_pos f] at hpo
        exact ⟨f, by simpa using hpo⟩
      · rw [if_neg f] at hpo
        cases hpo
    have HP := Lib.hid (hp.mono (R' := fun e w' => ∃ g c', e = .returned (.tuple #[.slice (some ⟨g, 0, none⟩) st.ts.length c', .int .i64 0]) ∧ RdI w' (.slice (some ⟨g, 0, none⟩) st.ts.length c') st.ts ∧ Below w.heap.size w w') (fun e w' h => by
      obtain ⟨g, c', e1, e2⟩ := h.1.2 hgood.1 hgood.2
      exact ⟨g, c', e1, e2, h.2⟩))
    have HPL := Lib.hid hpl
    clear hr ht hfew hf hnet hrb htb htm hp he hpn hq hpl hbd hlen hz0 her hsm hlen' hpe hgood hpo
    go_enter Try.func10, Try.ntmps10
    go_wp2_with (go_at_call 16; refine HFEW.out.mono ?_; rintro e w' ⟨rfl, rfl⟩)
    refine HP.out.mono ?_
    rintro e w2 ⟨gp, cp, rfl, hrp, hb⟩
    have HP2 := Lib.hid hrp
    have HB2 := Lib.hid hb
    clear hb hrp HP
    go_wp2_with fail
    refine (HNET.out w2 HB2.out).mono ?_
    rintro e w3 ⟨rfl, hb⟩
    have HP3 := Lib.hid (Rd.below HP2.out hb)
    have HB3 := Lib.hid (below_then HB2.out HB2.out.size hb)
    clear hb HB2 HP2
    go_wp2_with fail
    refine (HTM.out w3 HB3.out).mono ?_
    rintro e w4 ⟨rfl, hb⟩
    have HP4 := Lib.hid (Rd.below HP3.out hb)
    have HB4 := Lib.hid (below_then HB3.out HB3.out.size hb)
    clear hb HB3 HP3
    go_wp2_with fail
    refine (HE.out w4 HB4.out).mono ?_
    rintro e w5 ⟨g, c', rfl, _, hb⟩
    have HP5 := Lib.hid (Rd.below HP4.out hb)
    have HB5 := Lib.hid (below_then HB4.out HB4.out.size hb)
    clear hb HB4 HP4
    go_wp2_with fail
    refine (HQ.out w5 HB5.out).mono ?_
    rintro e w6 ⟨g2, c2, rfl, hq6, hb⟩
    have HB6 := Lib.hid (below_then HB5.out HB5.out.size hb)
    have hsame := same22 (some ⟨gp, 0, none⟩) (some ⟨g2, 0, none⟩) cp c2 st.ts st.ts w6 (Rd.below HP5.out hb) (by rw [HPL.out]; exact hq6)
    rw [decide_eq_true rfl] at hsame
    have hsame' : Calls Try.prog 22 #[.slice (some ⟨gp, 0, none⟩) st.ts.length cp, .slice (some ⟨g2, 0, none⟩) m c2] w6 (fun e w7 => e = .returned (.bool true) ∧ Below w6.heap.size w6 w7) := by
      refine (show ∀ k, k = st.ts.length → Calls Try.prog 22 #[.slice (some ⟨gp, 0, none⟩) st.ts.length cp, .slice (some ⟨g2, 0, none⟩) k c2] w6 (fun e w7 => e = .returned (.bool true) ∧ Below w6.heap.size w6 w7) from ?_) m HPL.out.symm
      rintro k rfl
      exact hsame
    clear hsame
    have HSA := Lib.hid hsame'
    have HB6 := Lib.hid (below_then HB5.out HB5.out.size hb)
    clear hb HB5 HP5 hq6 hsame'
    go_wp2_with fail
    refine HSA.out.mono ?_
    rintro e w7 ⟨rfl, hb⟩
    have HB7 := Lib.hid (below_then HB6.out HB6.out.size hb)
    clear hb HB6 HSA
    go_wp2_with (go_at_call 17; refine (known17 _).mono ?_; rintro e w9 ⟨rfl, hb9⟩)
    go_ret
    exact ⟨rfl, below_then HB7.out HB7.out.size hb9⟩
end Go.Proofs.Ytpknonebnipcgaa.Zp
