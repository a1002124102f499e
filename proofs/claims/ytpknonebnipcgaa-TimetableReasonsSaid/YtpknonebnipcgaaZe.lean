import Derived.Test.YtpknonebnipcgaaProg
import Derived.WalkKit
import Derived.KernelRfl
import Derived.Deep.LoopGhost
import Derived.Deep.QuietTactic
import Derived.BigQuiet
import Derived.Deep.DeepCutAuto
import Derived.Deep.CutBlock
import Derived.Deep.RegionHeld3
import Derived.WalkLawsBesides
import Derived.WalkSpells
import Derived.Outline
import Derived.Deep.DeepFit
import Derived.Lib.Hide
import Derived.Shelf.Abstract
import Derived.Lib.SliceRun
import Derived.Test.YtpknonebnipcgaaZ

namespace Go.Proofs.Ytpknonebnipcgaa.Ze
open Go.RowKit Go.Shelf Go.Proofs.Ytpknonebnipcgaa.V Go.Proofs.Ytpknonebnipcgaa.A Go.Proofs.Ytpknonebnipcgaa.B Go.Proofs.Ytpknonebnipcgaa.C Go.Proofs.Ytpknonebnipcgaa.P Go.Proofs.Ytpknonebnipcgaa.D Go.Proofs.Ytpknonebnipcgaa.E Go.Proofs.Ytpknonebnipcgaa.G Go.Proofs.Ytpknonebnipcgaa.K Go.Proofs.Ytpknonebnipcgaa.N Go.Proofs.Ytpknonebnipcgaa.U Go.Proofs.Ytpknonebnipcgaa.W Go.Proofs.Ytpknonebnipcgaa.Y Go.Proofs.Ytpknonebnipcgaa.Z
set_option linter.unusedVariables false
set_option linter.unusedSimpArgs false
attribute [local go_sem] max2_i max_2

theorem prove_out {n : Int} {ls : List T3} {ch : List Int} (h : proveB n ls ch = true) : rightB n ls = true ∧ ProofOk n.toNat (allOf n ls) ch := by
  unfold proveB at h
  simp only [Bool.and_eq_true, decide_eq_true_eq, beq_iff_eq, List.all_eq_true, List.mem_range] at h
  obtain ⟨h1, h2, h3, h4, h5⟩ := h
  have hb := right_out h1
  simp only [inB, Bool.and_eq_true, decide_eq_true_eq] at h2
  refine ⟨h1, ⟨by omega, by omega, fun c hc => ?_, fun j hj => ?_, h4, ?_⟩⟩
  · obtain ⟨j, hj, rfl⟩ := List.getElem_of_mem hc
    have := h3 j hj
    unfold stepOk at this
    simp only [Bool.and_eq_true, inB, decide_eq_true_eq] at this
    have e : ch.getD j 0 = ch[j] := by rw [List.getD_eq_getElem?_getD, List.getElem?_eq_getElem hj]; rfl
    rw [e] at this
    omega
  · have := h3 (j + 1) hj
    unfold stepOk at this
    simp only [Bool.and_eq_true, Bool.or_eq_true, beq_iff_eq, Nat.add_sub_cancel] at this
    rcases this.2 with h | h
    · omega
    · exact h
  · rw [sumTo_take _ _ _ (Nat.le_refl _), List.take_length] at h5
    exact h5

theorem keep_earl {n : Int} {ls : List T3} (h : rightB n ls = true) (hf : (earl n ls).raised < 0) : keepB n ls (earl n ls).ts = true := by
  obtain ⟨h1, _⟩ := right_out h
  obtain ⟨l1, z, k, p, _⟩ := earl_zero h hf
  exact keepB_mk h (by rw [l1]; omega) (pos_all l1 p) z k

theorem keep_prove {n : Int} {ls : List T3} {ts ch : List Int} (hk : keepB n ls ts = true) (hp : proveB n ls ch = true) : False :=
  proof_no (prove_out hp).2 (keepB_out hk).2.2.2.2

theorem keep_raised {n : Int} {ls : List T3} {ts : List Int} (hk : keepB n ls ts = true) : (earl n ls).raised < 0 := by
  obtain ⟨h, _, _, _, k⟩ := keepB_out hk
  by_cases hf : (earl n ls).raised < 0
  · exact hf
  · exact absurd k (earl_none h (by omega))

/-- the earliest timetable, a timetable, and the latest one -/
theorem keep_between {n : Int} {ls : List T3} {ts : List Int} {last : Int} (hk : keepB n ls ts = true) (hl : ∀ x ∈ ts, x ≤ last) (h0 : 0 ≤ last) :
    top (earl n ls).ts ≤ last ∧ (∀ i : Nat, i < n.toNat → (earl n ls).ts.getD i 0 ≤ ts.getD i 0) ∧ ∀ i : Nat, i < n.toNat → ts.getD i 0 ≤ (lat n ls last).getD i 0 := by
  obtain ⟨h, hlen, hpos, hz, k⟩ := keepB_out hk
  obtain ⟨h1, _⟩ := right_out h
  have hf := keep_raised hk
  obtain ⟨l1, _, _, p1, q⟩ := earl_zero h hf
  have hln : ts.length = n.toNat := by omega
  have hle := q ts k (all_pos hln hpos)
  have hgl : ∀ v : Int, 0 ≤ v → v < n.toNat → gt ts v ≤ last := fun v a b => by
    have hg := getDi (xs := ts) (j := v.toNat) (by omega)
    exact hl _ (List.mem_of_getElem? hg)
  refine ⟨?_, fun i hi => ?_, fun i hi => ?_⟩
  · unfold top
    refine maxTo_le _ _ _ (fun j hj => ?_)
    by_cases hj2 : j < n.toNat
    · have a := hle (j : Int) (by omega) (by omega)
      have b := hgl (j : Int) (by omega) (by omega)
      unfold gt at a b
      simp only [Int.toNat_natCast] at a b
      omega
    · rw [List.getD_eq_getElem?_getD, List.getElem?_eq_none (by omega)]
      exact h0
  · have a := hle (i : Int) (by omega) (by omega)
    unfold gt at a
    simpa using a
  · have hs : LeAt n.toNat ts (startL n.toNat last) := fun v a b => by
      rw [start_get n.toNat last v a b]
      split
      · rename_i e
        rw [e, hz]
        exact Int.le_refl _
      · exact hgl v a b
    have := iterL_ge (valid_all h) k (startL_len n.toNat last) hs n.toNat (i : Int) (by omega) (by omega)
    unfold gt at this
    simp only [Int.toNat_natCast] at this
    exact this

set_option maxRecDepth 100000 in
set_option maxHeartbeats 8000000 in
theorem either8 (n : Int) (A : Option Addr) (c : Nat) (ls : List T3) (At : Option Addr) (ct : Nat) (ts : List Int) (Ac : Option Addr) (cc : Nat) (ch : List Int) (w : World)
    (hr : RdT w (.slice A ls.length c) ls) (ht : RdI w (.slice At ts.length ct) ts) (hc : RdI w (.slice Ac ch.length cc) ch) (hch : ∀ x ∈ ch, -9223372036854775808 ≤ x ∧ x ≤ 9223372036854775807) :
    Calls Try.prog 8 #[.int .i64 n, .slice A ls.length c, .slice At ts.length ct, .slice Ac ch.length cc] w fun e w' => e = .returned (.bool true) ∧ Below w.heap.size w w' := by
  have hll := (RdR.len hr).2
  have hlt := (RdR.len ht).2
  have hlc := (RdR.len hc).2
  have HR := Lib.hid hr
  have HT := Lib.hid ht
  have HC := Lib.hid hc
  have HCH := Lib.hid hch
  have HNET := Lib.hid (net19 n A c ls w hr)
  clear hr ht hc hch
  cases t1 : decide ((12 : Int) < n)
  rotate_left
  · go_enter Try.func8, Try.ntmps8
    go_wp2_with (go_at_call 17; refine (known17 _).mono ?_; rintro e w9 ⟨rfl, hb9⟩)
    go_ret
    exact ⟨rfl, hb9⟩
  cases t2 : decide ((30 : Int) < (ls.length : Int))
  rotate_left
  · go_enter Try.func8, Try.ntmps8
    go_wp2_with (go_at_call 17; refine (known17 _).mono ?_; rintro e w9 ⟨rfl, hb9⟩)
    go_ret
    exact ⟨rfl, hb9⟩
  have hn12 := of_decide_eq_false t1
  have hl30 := of_decide_eq_false t2
  obtain ⟨r, hrb⟩ : ∃ r, rightB n ls = r := ⟨_, rfl⟩
  rw [hrb] at HNET
  cases r
  · clear hn12 hl30 hrb
    go_enter Try.func8, Try.ntmps8
    go_wp2_with (first
      | (go_at_call 19; refine HNET.out.mono ?_; rintro e w' ⟨rfl, hb⟩)
      | (go_at_call 17; refine (known17 _).mono ?_; rintro e w9 ⟨rfl, hb9⟩))
    go_ret
    exact ⟨rfl, below_then hb hb.size hb9⟩
  cases t3 : decide ((12 : Int) < (ts.length : Int))
  rotate_left
  · clear hn12 hl30 hrb
    go_enter Try.func8, Try.ntmps8
    go_wp2_with (first
      | (go_at_call 19; refine HNET.out.mono ?_; rintro e w' ⟨rfl, hb⟩)
      | (go_at_call 17; refine (known17 _).mono ?_; rintro e w9 ⟨rfl, hb9⟩))
    go_ret
    exact ⟨rfl, below_then hb hb.size hb9⟩
  cases t4 : decide ((40 : Int) < (ch.length : Int))
  rotate_left
  · clear hn12 hl30 hrb
    go_enter Try.func8, Try.ntmps8
    go_wp2_with (first
      | (go_at_call 19; refine HNET.out.mono ?_; rintro e w' ⟨rfl, hb⟩)
      | (go_at_call 17; refine (known17 _).mono ?_; rintro e w9 ⟨rfl, hb9⟩))
    go_ret
    exact ⟨rfl, below_then hb hb.size hb9⟩
  have ht12 := of_decide_eq_false t3
  obtain ⟨r1, r2, _, _⟩ := right_out hrb
  obtain ⟨m, rfl⟩ : ∃ m : Nat, n = m := ⟨n.toNat, by omega⟩
  have HRB := Lib.hid hrb
  have hsm : Small (m : Int) ls := ⟨by omega, by omega⟩
  have HSM := Lib.hid hsm
  clear hrb hsm
  go_enter Try.func8, Try.ntmps8
  go_wp2_with (go_at_call 19; refine HNET.out.mono ?_; rintro e w1 ⟨rfl, hb⟩)
  have HB1 := Lib.hid hb
  clear hb HNET
  go_loopg [9, 10] ts.length (fun gg s9 s10 wr => ∃ (k : Nat) (M : Int), k ≤ ts.length ∧ ts.length - k ≤ gg ∧ s9 = .int .i64 M ∧ s10 = .int .i64 k ∧ 0 ≤ M ∧ M ≤ 1000000000 ∧ Hid (Below w.heap.size w wr) ∧ Hid (∀ (j : Nat) (x : Int), j < k → ts[j]? = some x → 0 ≤ x ∧ x ≤ M))
  case atStart => exact ⟨0, 0, Nat.zero_le _, by omega, rfl, rfl, by omega, by omega, HB1, Lib.hid (fun j x hj => by omega)⟩
  case round =>
    clear HB1
    obtain ⟨k, M, hk, hgg, rfl, rfl, hM0, hM1, HB, HA⟩ := hrel
    by_cases hlt2 : k < ts.length
    · have hg := getDi hlt2
      obtain ⟨b, o, rfl, hb, hcell⟩ := Rd.i HT.out k _ hg
      replace hcell := (HB.out.cell (p := ⟨b, o + k, none⟩) hb).trans hcell
      have HG := Lib.hid hg
      clear hg
      generalize ts.getD k 0 = x at *
      by_cases x0 : x < 0
      · have d0 : decide (x < 0) = true := decide_eq_true x0
        go_wp2_with (go_at_call 17; refine (known17 _).mono ?_; rintro e w9 ⟨rfl, hb9⟩)
        go_ret
        exact ⟨rfl, below_then HB.out HB.out.size hb9⟩
      · have d0 : decide (x < 0) = false := decide_eq_false x0
        by_cases x1 : 1000000000 < x
        · have d1 : decide ((1000000000 : Int) < x) = true := decide_eq_true x1
          go_wp2_with (go_at_call 17; refine (known17 _).mono ?_; rintro e w9 ⟨rfl, hb9⟩)
          go_ret
          exact ⟨rfl, below_then HB.out HB.out.size hb9⟩
        · have d1 : decide ((1000000000 : Int) < x) = false := decide_eq_false x1
          go_wp2_with fail
          go_roundg (ts.length - (k + 1))
          case measure => omega
          case rel =>
            refine ⟨k + 1, max M x, by omega, by omega, rfl, by go_num, by omega, by omega, HB, Lib.hid (fun j y hj hy => ?_)⟩
            by_cases e : j = k
            · subst e
              rw [HG.out] at hy
              injection hy with hy
              subst hy
              omega
            · have := HA.out j y (by omega) hy
              omega
    · obtain rfl : k = ts.length := by omega
      have hall : ∀ x ∈ ts, 0 ≤ x ∧ x ≤ M := fun x hx => by
        obtain ⟨j, hj⟩ := List.getElem?_of_mem hx
        exact HA.out j x (List.getElem?_eq_some_iff.1 hj).1 hj
      have HALL := Lib.hid hall
      have HK := Lib.hid (fun W (hb : Below w.heap.size w W) => keeps32 (m : Int) A c ls At ct ts W (Rd.below HR.out hb) (Rd.below HT.out hb) (fun _ => HSM.out) (fun y hy => by have := hall y hy; omega))
      have HP := Lib.hid (fun W (hb : Below w.heap.size w W) => proves31 (m : Int) A c ls Ac cc ch W (Rd.below HR.out hb) (Rd.below HC.out hb) (fun _ => HSM.out) HCH.out)
      obtain ⟨kt, hkt⟩ : ∃ kt, keepB (m : Int) ls ts = kt := ⟨_, rfl⟩
      obtain ⟨pv, hpv⟩ : ∃ pv, proveB (m : Int) ls ch = pv := ⟨_, rfl⟩
      rw [hkt] at HK
      rw [hpv] at HP
      clear hall HA hgg hlt2
      by_cases f1 : (earl (m : Int) ls).raised < 0
      · have hpf : pv = false := by
          rw [← hpv]
          cases hp : proveB (m : Int) ls ch
          · rfl
          · exact (keep_prove (keep_earl HRB.out f1) hp).elim
        subst hpf
        have hke := keep_earl HRB.out f1
        obtain ⟨z1, _⟩ := earl_zero HRB.out f1
        have bd1 := earl_bd HRB.out HSM.out
        have HE := Lib.hid (fun W (hb : Below w.heap.size w W) => earliest29_ok (m : Int) A c ls W (Rd.below HR.out hb) HRB.out HSM.out f1)
        have HKE := Lib.hid (fun W (hb : Below w.heap.size w W) (gt ct : Nat) hq => keeps32 (m : Int) A c ls (some ⟨gt, 0, none⟩) ct (earl (m : Int) ls).ts W (Rd.below HR.out hb) hq (fun _ => HSM.out) (fun y hy => by have := bd1 y hy; omega))
        rw [hke] at HKE
        have hbt : kt = true → top (earl (m : Int) ls).ts ≤ M ∧ (∀ i : Nat, i < m → (earl (m : Int) ls).ts.getD i 0 ≤ ts.getD i 0) ∧ ∀ i : Nat, i < m → ts.getD i 0 ≤ (lat (m : Int) ls M).getD i 0 := fun h => by
          have := keep_between (last := M) (hkt.trans h) (fun x hx => (HALL.out x hx).2) hM0
          simpa using this
        have hlm : kt = true → ts.length = m := fun h => by
          have := (keepB_out (hkt.trans h)).2.1
          omega
        have HL := Lib.hid (fun (hk : kt = true) W (hb : Below w.heap.size w W) => latest34_ok (m : Int) A c ls M W (Rd.below HR.out hb) HRB.out (by simp [inB]; omega) HSM.out f1 (hbt hk).1)
        have hla : (lat (m : Int) ls M).length = m := by rw [lat_len]; simp
        generalize (earl (m : Int) ls).ts = es at *
        generalize lat (m : Int) ls M = la at *
        have hes : es.length = m := by rw [z1]; simp
        have hne1 : (((es.length : Nat) : Int) != (m : Int)) = false := by simp [hes]
        have hne2 : (((la.length : Nat) : Int) != (m : Int)) = false := by simp [hla]
        have HBT := Lib.hid hbt
        have HES := Lib.hid hes
        have HLA := Lib.hid hla
        have HLM := Lib.hid hlm
        clear f1 hkt hpv hke z1 bd1 hbt hes hla hlm
        go_wp2_with fail
        refine (HE.out wr HB.out).mono ?_
        rintro e w2 ⟨gt1, ct1, rfl, hO, hb⟩
        have HE2 := Lib.hid hO.rd
        have HB2 := Lib.hid (below_then HB.out HB.out.size hb)
        clear hO hb HE HB
        go_wp2_with fail
        refine (HK.out w2 HB2.out).mono ?_
        rintro e w3 ⟨rfl, hb⟩
        have HE3 := Lib.hid (Rd.below HE2.out hb)
        have HB3 := Lib.hid (below_then HB2.out HB2.out.size hb)
        clear hb HB2 HE2 HK
        go_wp2_with fail
        refine (HP.out w3 HB3.out).mono ?_
        rintro e w4 ⟨rfl, hb⟩
        have HE4 := Lib.hid (Rd.below HE3.out hb)
        have HB4 := Lib.hid (below_then HB3.out HB3.out.size hb)
        clear hb HB3 HE3 HP
        cases kt
        · go_wp2_with fail
          refine (HKE.out w4 HB4.out gt1 ct1 HE4.out).mono ?_
          rintro e w5 ⟨rfl, hb⟩
          have HB5 := Lib.hid (below_then HB4.out HB4.out.size hb)
          clear hb HB4 HE4 HKE
          go_wp2_with (go_at_call 17; refine (known17 _).mono ?_; rintro e w9 ⟨rfl, hb9⟩)
          go_ret
          exact ⟨rfl, below_then HB5.out HB5.out.size hb9⟩
        · go_wp2_with fail
          refine (HKE.out w4 HB4.out gt1 ct1 HE4.out).mono ?_
          rintro e w5 ⟨rfl, hb⟩
          have HE5 := Lib.hid (Rd.below HE4.out hb)
          have HB5 := Lib.hid (below_then HB4.out HB4.out.size hb)
          clear hb HB4 HE4 HKE
          go_wp2_with fail
          refine (HL.out (by trivial) w5 HB5.out).mono ?_
          rintro e w6 ⟨gl, cl, rfl, hl6, hb⟩
          have HE6 := Lib.hid (Rd.below HE5.out hb)
          have HL6 := Lib.hid hl6
          have HB6 := Lib.hid (below_then HB5.out HB5.out.size hb)
          have hle1 := (RdR.len HE6.out).2
          have hle2 := (RdR.len HL6.out).2
          clear hb HB5 HE5 HL hl6
          go_wp2_with fail
          go_loopg [18] m (fun gg s18 wq => ∃ k : Nat, k ≤ m ∧ m - k ≤ gg ∧ s18 = .int .i64 k ∧ Hid (Below w6.heap.size w6 wq))
          case atStart => exact ⟨0, Nat.zero_le _, by omega, rfl, Lib.hid (below_rf w6)⟩
          case round =>
            obtain ⟨k, hk, hgg, rfl, HBW⟩ := hrel
            by_cases hlt2 : k < m
            · have k1 : k < ts.length := by rw [HLM.out (by trivial)]; exact hlt2
              have k2 : k < es.length := by rw [HES.out]; exact hlt2
              have k3 : k < la.length := by rw [HLA.out]; exact hlt2
              obtain ⟨b, o, rfl, hb, c1⟩ := Rd.i HT.out k _ (getDi k1)
              obtain ⟨b2, o2, e2, hb2, c2⟩ := Rd.i HE6.out k _ (getDi k2)
              obtain ⟨b3, o3, e3, hb3, c3⟩ := Rd.i HL6.out k _ (getDi k3)
              injection e2 with e2
              injection e2 with e21 e22
              subst e21 e22
              injection e3 with e3
              injection e3 with e31 e32
              subst e31 e32
              have hbw := below_then HB6.out HB6.out.size HBW.out
              replace c1 := (hbw.cell (p := ⟨b, o + k, none⟩) hb).trans c1
              replace c2 := (HBW.out.cell (p := ⟨gt1, 0 + k, none⟩) hb2).trans c2
              replace c3 := (HBW.out.cell (p := ⟨gl, 0 + k, none⟩) hb3).trans c3
              rw [Nat.zero_add] at c2 c3
              obtain ⟨_, l1, l2⟩ := HBT.out (by trivial)
              have l1 := l1 k hlt2
              have l2 := l2 k hlt2
              generalize ts.getD k 0 = x at *
              generalize es.getD k 0 = y at *
              generalize la.getD k 0 = z at *
              have d1 : decide (x < y) = false := decide_eq_false (by omega)
              have d2 : decide (z < x) = false := decide_eq_false (by omega)
              clear hbw l1 l2
              go_wp2_with fail
              go_quiet (fail)
              go_wp2_with fail
              go_roundg (m - (k + 1))
              case measure => omega
              case rel => exact ⟨k + 1, by omega, by omega, by go_num, Lib.hid (below_drewN HBW.out _)⟩
            · obtain rfl : k = m := by omega
              have HB7 := Lib.hid (below_then HB6.out HB6.out.size HBW.out)
              clear HBW HB6
              go_wp2_with (go_at_call 17; refine (known17 _).mono ?_; rintro e w9 ⟨rfl, hb9⟩)
              go_ret
              exact ⟨rfl, below_then HB7.out HB7.out.size hb9⟩
      · have f1' := Int.not_lt.1 f1
        have hkf : kt = false := by
          rw [← hkt]
          cases hk : keepB (m : Int) ls ts
          · rfl
          · exact absurd (keep_raised hk) f1
        subst hkf
        have HE := Lib.hid (fun W (hb : Below w.heap.size w W) => earliest29_none (m : Int) A c ls W (Rd.below HR.out hb) HRB.out HSM.out f1')
        have HPP := Lib.hid (fun W (hb : Below w.heap.size w W) (gp cp : Nat) (p : List Int) hp (hpf : ProofOk (m : Int).toNat (allOf (m : Int) ls) p) => proves31 (m : Int) A c ls (some ⟨gp, 0, none⟩) cp p W (Rd.below HR.out hb) hp (fun _ => HSM.out) (fun x hx => by
          have h1 := hpf.rng x hx
          have h2 := all_len (m : Int) ls
          omega))
        clear f1 f1' hkt hpv
        go_wp2_with fail
        refine (HE.out wr HB.out).mono ?_
        rintro e w2 ⟨gp, cp, pf, rfl, hO, hpf, hb⟩
        have HPF := Lib.hid hO.rd
        have HOK := Lib.hid hpf
        have HB2 := Lib.hid (below_then HB.out HB.out.size hb)
        clear hO hpf hb HE HB
        go_wp2_with fail
        refine (HK.out w2 HB2.out).mono ?_
        rintro e w3 ⟨rfl, hb⟩
        have HPF3 := Lib.hid (Rd.below HPF.out hb)
        have HB3 := Lib.hid (below_then HB2.out HB2.out.size hb)
        clear hb HB2 HPF
        go_wp2_with fail
        refine (HP.out w3 HB3.out).mono ?_
        rintro e w4 ⟨rfl, hb⟩
        have HB4 := Lib.hid (below_then HB3.out HB3.out.size hb)
        have hpp := HPP.out w4 HB4.out gp cp pf (Rd.below HPF3.out hb) HOK.out
        rw [prove_of_ok HRB.out HOK.out] at hpp
        have HPP4 := Lib.hid hpp
        clear hb HB3 HPF3 hpp HPP
        go_wp2_with fail
        refine HPP4.out.mono ?_
        rintro e w5 ⟨rfl, hb⟩
        have HB5 := Lib.hid (below_then HB4.out HB4.out.size hb)
        clear hb HB4 HPP4
        go_wp2_with (go_at_call 17; refine (known17 _).mono ?_; rintro e w9 ⟨rfl, hb9⟩)
        go_ret
        exact ⟨rfl, below_then HB5.out HB5.out.size hb9⟩
end Go.Proofs.Ytpknonebnipcgaa.Ze
