import Derived.Test.YtpknonebnipcgaaProg
import Derived.WalkKit
import Derived.KernelRfl
import Derived.Deep.LoopGhost
import Derived.Deep.QuietTactic
import Derived.BigQuiet
import Derived.Deep.DeepCutAuto
import Derived.Deep.CutBlock
import Derived.Deep.RegionHeld3
import Derived.WalkLawsBesides
import Derived.WalkSpells
import Derived.Outline
import Derived.Deep.DeepFit
import Derived.Lib.Hide
import Derived.Shelf.Abstract
import Derived.Lib.SliceRun
import Derived.OwnWalk
import Derived.Test.YtpknonebnipcgaaRl
import Derived.Test.YtpknonebnipcgaaRg
import Derived.Test.YtpknonebnipcgaaZp

namespace Go.Proofs.Ytpknonebnipcgaa.Zq
open Go.RowKit Go.Shelf Go.Proofs.Ytpknonebnipcgaa.V Go.Proofs.Ytpknonebnipcgaa.A Go.Proofs.Ytpknonebnipcgaa.B Go.Proofs.Ytpknonebnipcgaa.C Go.Proofs.Ytpknonebnipcgaa.P Go.Proofs.Ytpknonebnipcgaa.D Go.Proofs.Ytpknonebnipcgaa.E Go.Proofs.Ytpknonebnipcgaa.G Go.Proofs.Ytpknonebnipcgaa.K Go.Proofs.Ytpknonebnipcgaa.N Go.Proofs.Ytpknonebnipcgaa.U Go.Proofs.Ytpknonebnipcgaa.W Go.Proofs.Ytpknonebnipcgaa.Y Go.Proofs.Ytpknonebnipcgaa.Rf Go.Proofs.Ytpknonebnipcgaa.Rg Go.Proofs.Ytpknonebnipcgaa.Rl Go.Proofs.Ytpknonebnipcgaa.Z Go.Proofs.Ytpknonebnipcgaa.Ze Go.Proofs.Ytpknonebnipcgaa.Zp
set_option linter.unusedVariables false
set_option linter.unusedSimpArgs false

/-- the latest timetable is one, between the earliest one and the greatest time -/
theorem lat_keep {n : Int} {ls : List T3} {last : Int} (h : rightB n ls = true) (hl : inB last 0 1000000000 = true) (hf : (earl n ls).raised < 0) (hm : top (earl n ls).ts ≤ last) :
    keepB n ls (lat n ls last) = true ∧ (∀ x ∈ lat n ls last, 0 ≤ x ∧ x ≤ last) ∧ ∀ i : Nat, i < n.toNat → (earl n ls).ts.getD i 0 ≤ (lat n ls last).getD i 0 := by
  obtain ⟨h1, h2, h3, h4⟩ := right_out h
  have hV := valid_all h
  obtain ⟨_, _, _, l4, _⟩ := lat_all h hf hl hm
  obtain ⟨_, z, k, p, _⟩ := earl_zero h hf
  obtain ⟨_, _, e3, _, _⟩ := lat_ends hV (by omega) (by rw [all_len]; omega) last k
  have hle := iterL_le (all := allOf n ls) hV (startL_len n.toNat last) n.toNat
  have hll : (lat n ls last).length = n.toNat := lat_len n ls last
  have hl' : 0 ≤ last ∧ last ≤ 1000000000 := by simpa [inB] using hl
  have hpos : ∀ v : Int, 0 ≤ v → v < n.toNat → 0 ≤ gt (lat n ls last) v := fun v a b => by
    have := l4 v a b
    have := p v a b
    omega
  have hx : ∀ x ∈ lat n ls last, 0 ≤ x ∧ x ≤ last := fun x hx => by
    refine ⟨pos_all hll hpos x hx, ?_⟩
    obtain ⟨v, v1, v2, rfl⟩ := mem_gt hx
    have := hle v v1 (by omega)
    rw [start_get _ _ _ v1 (by omega)] at this
    unfold lat
    split at this <;> omega
  refine ⟨keepB_mk h (by omega) (fun x h => (hx x h).1) ?_ e3, hx, fun i hi => ?_⟩
  · have a := l4 0 (by omega) (by omega)
    have b := hle 0 (by omega) (by omega)
    rw [start_get _ _ _ (by omega) (by omega), if_pos rfl] at b
    unfold lat at a ⊢
    omega
  · have := l4 (i : Int) (by omega) (by omega)
    unfold gt at this
    simpa using this

theorem slk_get {ts la : List Int} {k : Nat} (h1 : k < ts.length) (h2 : k < la.length) : (slk ts la).getD k 0 = la.getD k 0 - ts.getD k 0 := by
  unfold slk
  rw [List.getD_eq_getElem?_getD, List.getD_eq_getElem?_getD, List.getD_eq_getElem?_getD, List.getElem?_zipWith, List.getElem?_eq_getElem h1, List.getElem?_eq_getElem h2]
  rfl

set_option maxRecDepth 100000 in
set_option maxHeartbeats 8000000 in
theorem latest12 (n : Int) (A : Option Addr) (c : Nat) (ls : List T3) (last : Int) (w : World) (hr : RdT w (.slice A ls.length c) ls) :
    Calls Try.prog 12 #[.int .i64 n, .slice A ls.length c, .int .i64 last] w fun e w' => e = .returned (.bool true) ∧ Below w.heap.size w w' := by
  have hll := (RdR.len hr).2
  have HFEW := Lib.hid (few16 n A c ls.length w)
  have HNET := Lib.hid (fun W (hb : Below w.heap.size w W) => net19 n A c ls W (Rd.below hr hb))
  have HR := Lib.hid hr
  obtain ⟨f, hf⟩ : ∃ f, fewB n ls.length = f := ⟨_, rfl⟩
  rw [hf] at HFEW
  cases f
  · clear hf hr
    go_enter Try.func12, Try.ntmps12
    go_wp2_with (first | (go_at_call 16; refine HFEW.out.mono ?_; rintro e w' ⟨rfl, rfl⟩) | (go_at_call 17; refine (known17 _).mono ?_; rintro e w9 ⟨rfl, hb9⟩))
    go_ret
    exact ⟨rfl, hb9⟩
  obtain ⟨r, hrb⟩ : ∃ r, rightB n ls = r := ⟨_, rfl⟩
  rw [hrb] at HNET
  cases r
  · have HE := Lib.hid (latest34_arg n A c ls last w hr (.inl hrb))
    have HS := Lib.hid (fun W (hb : Below w.heap.size w W) => slack40_arg n A c ls W (Rd.below hr hb) last (.inl hrb))
    clear hr hf hrb
    go_enter Try.func12, Try.ntmps12
    go_wp2_with (go_at_call 16; refine HFEW.out.mono ?_; rintro e w' ⟨rfl, hw⟩; obtain rfl := hw.symm)
    refine HE.out.mono ?_
    rintro e w1 ⟨rfl, hb⟩
    have HB1 := Lib.hid hb
    clear hb HE
    go_wp2_with fail
    refine (HS.out w1 HB1.out).mono ?_
    rintro e w2 ⟨rfl, hb⟩
    have HB2 := Lib.hid (below_then HB1.out HB1.out.size hb)
    clear hb HS HB1
    go_wp2_with fail
    refine (HNET.out w2 HB2.out).mono ?_
    rintro e w3 ⟨rfl, hb⟩
    have HB3 := Lib.hid (below_then HB2.out HB2.out.size hb)
    clear hb HNET HB2
    go_wp2_with (go_at_call 17; refine (known17 _).mono ?_; rintro e w9 ⟨rfl, hb9⟩)
    go_ret
    exact ⟨rfl, below_then HB3.out HB3.out.size hb9⟩
  cases q1 : inB last 0 1000000000
  · have HE := Lib.hid (latest34_arg n A c ls last w hr (.inr q1))
    have HS := Lib.hid (fun W (hb : Below w.heap.size w W) => slack40_arg n A c ls W (Rd.below hr hb) last (.inr q1))
    clear hr hf hrb
    cases d1 : decide (last < 0)
    · have d2 : decide ((1000000000 : Int) < last) = true := by
        have := of_decide_eq_false d1
        simp [inB] at q1
        exact decide_eq_true (by omega)
      clear q1
      go_enter Try.func12, Try.ntmps12
      go_wp2_with (go_at_call 16; refine HFEW.out.mono ?_; rintro e w' ⟨rfl, hw⟩; obtain rfl := hw.symm)
      refine HE.out.mono ?_
      rintro e w1 ⟨rfl, hb⟩
      have HB1 := Lib.hid hb
      clear hb HE
      go_wp2_with fail
      refine (HS.out w1 HB1.out).mono ?_
      rintro e w2 ⟨rfl, hb⟩
      have HB2 := Lib.hid (below_then HB1.out HB1.out.size hb)
      clear hb HS HB1
      go_wp2_with fail
      refine (HNET.out w2 HB2.out).mono ?_
      rintro e w3 ⟨rfl, hb⟩
      have HB3 := Lib.hid (below_then HB2.out HB2.out.size hb)
      clear hb HNET HB2
      go_wp2_with (go_at_call 17; refine (known17 _).mono ?_; rintro e w9 ⟨rfl, hb9⟩)
      go_ret
      exact ⟨rfl, below_then HB3.out HB3.out.size hb9⟩
    · clear q1
      go_enter Try.func12, Try.ntmps12
      go_wp2_with (go_at_call 16; refine HFEW.out.mono ?_; rintro e w' ⟨rfl, hw⟩; obtain rfl := hw.symm)
      refine HE.out.mono ?_
      rintro e w1 ⟨rfl, hb⟩
      have HB1 := Lib.hid hb
      clear hb HE
      go_wp2_with fail
      refine (HS.out w1 HB1.out).mono ?_
      rintro e w2 ⟨rfl, hb⟩
      have HB2 := Lib.hid (below_then HB1.out HB1.out.size hb)
      clear hb HS HB1
      go_wp2_with fail
      refine (HNET.out w2 HB2.out).mono ?_
      rintro e w3 ⟨rfl, hb⟩
      have HB3 := Lib.hid (below_then HB2.out HB2.out.size hb)
      clear hb HNET HB2
      go_wp2_with (go_at_call 17; refine (known17 _).mono ?_; rintro e w9 ⟨rfl, hb9⟩)
      go_ret
      exact ⟨rfl, below_then HB3.out HB3.out.size hb9⟩
  obtain ⟨r1, r2, _, _⟩ := right_out hrb
  obtain ⟨m, rfl⟩ : ∃ m : Nat, n = m := ⟨n.toNat, by omega⟩
  have hsm : Small (m : Int) ls := by have := few_small hf hrb; exact ⟨by omega, by omega⟩
  have hl' : 0 ≤ last ∧ last ≤ 1000000000 := by simpa [inB] using q1
  obtain ⟨la1, la2⟩ := hl'
  have d1 : decide (last < 0) = false := decide_eq_false (by omega)
  have d2 : decide ((1000000000 : Int) < last) = false := decide_eq_false (by omega)
  have HQ := Lib.hid (fun W (hb : Below w.heap.size w W) => latest41 m A c ls last W (Rd.below hr hb) hrb hsm q1)
  obtain ⟨R, hR⟩ : ∃ R, latOk (m : Int) ls last = R := ⟨_, rfl⟩
  rw [hR] at HQ
  cases R
  · have hno : 0 ≤ (earl (m : Int) ls).raised ∨ ((earl (m : Int) ls).raised < 0 ∧ last < top (earl (m : Int) ls).ts) := by
      unfold latOk at hR
      by_cases hf : (earl (m : Int) ls).raised < 0
      · rw [decide_eq_true hf, Bool.true_and] at hR
        have := of_decide_eq_false hR
        exact .inr ⟨hf, by omega⟩
      · exact .inl (by omega)
    have HE := Lib.hid (latest34_none (m : Int) A c ls last w hr hrb q1 hsm hno)
    have HS := Lib.hid (fun W (hb : Below w.heap.size w W) => slack40_none (m : Int) A c ls W (Rd.below hr hb) last hrb q1 hsm hno)
    clear hr hf hrb q1 hR hno hsm
    go_enter Try.func12, Try.ntmps12
    go_wp2_with (go_at_call 16; refine HFEW.out.mono ?_; rintro e w' ⟨rfl, hw⟩; obtain rfl := hw.symm)
    refine HE.out.mono ?_
    rintro e w1 ⟨rfl, hb⟩
    have HB1 := Lib.hid hb
    clear hb HE
    go_wp2_with fail
    refine (HS.out w1 HB1.out).mono ?_
    rintro e w2 ⟨rfl, hb⟩
    have HB2 := Lib.hid (below_then HB1.out HB1.out.size hb)
    clear hb HS HB1
    go_wp2_with fail
    refine (HNET.out w2 HB2.out).mono ?_
    rintro e w3 ⟨rfl, hb⟩
    have HB3 := Lib.hid (below_then HB2.out HB2.out.size hb)
    clear hb HNET HB2
    go_wp2_with fail
    refine (HQ.out w3 HB3.out).mono ?_
    rintro e w4 ⟨g, l, c', rfl, _, hb⟩
    have HB4 := Lib.hid (below_then HB3.out HB3.out.size hb)
    clear hb HQ HB3
    go_wp2_with (go_at_call 17; refine (known17 _).mono ?_; rintro e w9 ⟨rfl, hb9⟩)
    go_ret
    exact ⟨rfl, below_then HB4.out HB4.out.size hb9⟩
  have hok : (earl (m : Int) ls).raised < 0 ∧ top (earl (m : Int) ls).ts ≤ last := by
    unfold latOk at hR
    simp only [Bool.and_eq_true, decide_eq_true_eq] at hR
    exact hR
  obtain ⟨f1, f2⟩ := hok
  obtain ⟨k1, k2, k3⟩ := lat_keep hrb q1 f1 f2
  have bd1 := earl_bd hrb hsm
  have hel : (earl (m : Int) ls).ts.length = m := by have := (earl_zero hrb f1).1; simpa using this
  have hll2 : (lat (m : Int) ls last).length = m := by have := lat_len (m : Int) ls last; simpa using this
  have bd2 : ∀ x ∈ (earl (m : Int) ls).ts, -1000000000 ≤ x ∧ x ≤ 1000000000 := fun x hx => by
    have h0 := bd1 x hx
    have hj : x ≤ top (earl (m : Int) ls).ts := by
      obtain ⟨v, v1, v2, rfl⟩ := mem_gt hx
      exact maxTo_ge _ _ v.toNat (by omega)
    omega
  have HE := Lib.hid (latest34_ok (m : Int) A c ls last w hr hrb q1 hsm f1 f2)
  have HS := Lib.hid (fun W (hb : Below w.heap.size w W) => slack40_ok (m : Int) A c ls W (Rd.below hr hb) last hrb q1 hsm f1 f2 (by omega) (by omega) bd2 (fun x hx => by have := k2 x hx; omega))
  have HEA := Lib.hid (fun W (hb : Below w.heap.size w W) => earliest20 m A c ls W (Rd.below hr hb) hrb hsm)
  rw [decide_eq_true f1] at HEA
  have HK := Lib.hid (fun W (hb : Below w.heap.size w W) (gt ct : Nat) hq => keeps32 (m : Int) A c ls (some ⟨gt, 0, none⟩) ct (lat (m : Int) ls last) W (Rd.below hr hb) hq (fun _ => hsm) (fun y hy => by have := k2 y hy; omega))
  rw [k1] at HK
  have HQ2 := Lib.hid (fun W (hb : Below w.heap.size w W) => (HQ.out W hb).mono (R' := fun e w' => ∃ (g : Option Addr) (c' : Nat), e = .returned (.tuple #[.slice g m c', .bool true]) ∧ RdI w' (.slice g m c') (lat (m : Int) ls last) ∧ Below W.heap.size W w') (by
    rintro e w' ⟨g, l, c', rfl, hx, hb⟩
    obtain ⟨rfl, hx⟩ := hx rfl
    exact ⟨g, c', rfl, hx, hb⟩))
  simp only [Int.toNat_natCast] at k3
  have HK2 := Lib.hid k2
  have HK3 := Lib.hid k3
  have HE0 := Lib.hid (fun x hx => (bd1 x hx).1)
  have HEL := Lib.hid hel
  have HLL := Lib.hid hll2
  clear hr hf hrb q1 hR hsm f1 f2 k1 k2 k3 bd1 bd2 hel hll2 HQ
  generalize (earl (m : Int) ls).ts = es at *
  generalize lat (m : Int) ls last = la at *
  go_enter Try.func12, Try.ntmps12
  go_wp2_with (go_at_call 16; refine HFEW.out.mono ?_; rintro e w' ⟨rfl, hw⟩; obtain rfl := hw.symm)
  refine HE.out.mono ?_
  rintro e w1 ⟨gl, cl, rfl, hl1, hb⟩
  have HL1 := Lib.hid hl1
  have HB1 := Lib.hid hb
  have hcl := (RdR.len hl1).2
  clear hb HE hl1
  go_wp2_with fail
  refine (HS.out w1 HB1.out).mono ?_
  rintro e w2 ⟨gs, cs, rfl, hs2, hb⟩
  have HL2 := Lib.hid (Rd.below HL1.out hb)
  have HS2 := Lib.hid hs2
  have HB2 := Lib.hid (below_then HB1.out HB1.out.size hb)
  have hcs : la.length ≤ cs ∧ cs ≤ 9223372036854775807 := by have := (RdR.len hs2).2; exact this
  clear hb HS HB1 HL1 hs2
  go_wp2_with fail
  refine (HNET.out w2 HB2.out).mono ?_
  rintro e w3 ⟨rfl, hb⟩
  have HL3 := Lib.hid (Rd.below HL2.out hb)
  have HS3 := Lib.hid (Rd.below HS2.out hb)
  have HB3 := Lib.hid (below_then HB2.out HB2.out.size hb)
  clear hb HNET HB2 HL2 HS2
  go_wp2_with fail
  refine (HQ2.out w3 HB3.out).mono ?_
  rintro e w4 ⟨g, c', rfl, hq4, hb⟩
  have HL4 := Lib.hid (Rd.below HL3.out hb)
  have HS4 := Lib.hid (Rd.below HS3.out hb)
  have HB4 := Lib.hid (below_then HB3.out HB3.out.size hb)
  have HQ4 := Lib.hid hq4
  have hcq : m ≤ c' ∧ c' ≤ 9223372036854775807 := by have := (RdR.len hq4).2; exact this
  clear hb HQ2 HB3 HL3 HS3 hq4
  go_wp2_with fail
  refine (HEA.out w4 HB4.out).mono ?_
  rintro e w5 ⟨ge, ce, rfl, he5, hb⟩
  have HL5 := Lib.hid (Rd.below HL4.out hb)
  have HS5 := Lib.hid (Rd.below HS4.out hb)
  have HQ5 := Lib.hid (Rd.below HQ4.out hb)
  have HE5 := Lib.hid he5
  have HB5 := Lib.hid (below_then HB4.out HB4.out.size hb)
  have hce : m ≤ ce ∧ ce ≤ 9223372036854775807 := by have := (RdR.len he5).2; exact this
  have hsame := same22 (some ⟨gl, 0, none⟩) g cl c' la la w5 HL5.out (by rw [HLL.out]; exact HQ5.out)
  rw [decide_eq_true rfl] at hsame
  have hsame' : Calls Try.prog 22 #[.slice (some ⟨gl, 0, none⟩) la.length cl, .slice g m c'] w5 (fun e w7 => e = .returned (.bool true) ∧ Below w5.heap.size w5 w7) := by
    refine (show ∀ k, k = la.length → Calls Try.prog 22 #[.slice (some ⟨gl, 0, none⟩) la.length cl, .slice g k c'] w5 (fun e w7 => e = .returned (.bool true) ∧ Below w5.heap.size w5 w7) from ?_) m HLL.out.symm
    rintro k rfl
    exact hsame
  have HSA := Lib.hid hsame'
  clear hb HEA HB4 HL4 HS4 HQ4 he5 hsame hsame'
  go_wp2_with fail
  refine HSA.out.mono ?_
  rintro e w6 ⟨rfl, hb⟩
  have HL6 := Lib.hid (Rd.below HL5.out hb)
  have HS6 := Lib.hid (Rd.below HS5.out hb)
  have HQ6 := Lib.hid (Rd.below HQ5.out hb)
  have HE6 := Lib.hid (Rd.below HE5.out hb)
  have HB6 := Lib.hid (below_then HB5.out HB5.out.size hb)
  clear hb HSA HB5 HL5 HS5 HQ5 HE5
  go_wp2_with fail
  refine (HK.out w6 HB6.out gl cl HL6.out).mono ?_
  rintro e w7 ⟨rfl, hb⟩
  have HL7 := Lib.hid (Rd.below HL6.out hb)
  have HS7 := Lib.hid (Rd.below HS6.out hb)
  have HQ7 := Lib.hid (Rd.below HQ6.out hb)
  have HE7 := Lib.hid (Rd.below HE6.out hb)
  have HB7 := Lib.hid (below_then HB6.out HB6.out.size hb)
  have hne : (((la.length : Nat) : Int) != (m : Int)) = false := by rw [HLL.out]; simp
  clear hb HK HB6 HL6 HS6 HQ6 HE6
  go_wp2_with fail
  go_loopg [15] m (fun gg s15 wq => ∃ k : Nat, k ≤ m ∧ m - k ≤ gg ∧ s15 = .int .i64 k ∧ Hid (Below w7.heap.size w7 wq))
  case atStart => exact ⟨0, Nat.zero_le _, by omega, rfl, Lib.hid (below_rf w7)⟩
  case round =>
    obtain ⟨k, hk, hgg, rfl, HBW⟩ := hrel
    by_cases hlt2 : k < m
    · have k1 : k < la.length := by rw [HLL.out]; exact hlt2
      have k2 : k < es.length := by rw [HEL.out]; exact hlt2
      have k3 : k < (slk es la).length := by unfold slk; rw [List.length_zipWith]; omega
      have gla := getDi k1
      have ges := getDi k2
      have gsl := getDi k3
      have hsk := slk_get k2 k1
      obtain ⟨b1, o1, e1, hb1, c1⟩ := Rd.i HL7.out k _ gla
      obtain ⟨b2, o2, e2, hb2, c2⟩ := Rd.i HE7.out k _ ges
      obtain ⟨b3, o3, e3, hb3, c3⟩ := Rd.i HS7.out k _ gsl
      obtain ⟨b4, o4, rfl, hb4, c4⟩ := Rd.i HQ7.out k _ gla
      injection e1 with e1
      injection e1 with e11 e12
      subst e11 e12
      injection e2 with e2
      injection e2 with e21 e22
      subst e21 e22
      injection e3 with e3
      injection e3 with e31 e32
      subst e31 e32
      replace c1 := (HBW.out.cell (p := ⟨gl, 0 + k, none⟩) hb1).trans c1
      replace c2 := (HBW.out.cell (p := ⟨ge, 0 + k, none⟩) hb2).trans c2
      replace c3 := (HBW.out.cell (p := ⟨gs, 0 + k, none⟩) hb3).trans c3
      replace c4 := (HBW.out.cell (p := ⟨b4, o4 + k, none⟩) hb4).trans c4
      rw [Nat.zero_add] at c1 c2 c3
      rw [hsk] at c3
      have bla := HK2.out _ (List.mem_of_getElem? gla)
      have bes := HK3.out k hlt2
      have gpos : 0 ≤ es.getD k 0 := HE0.out _ (List.mem_of_getElem? ges)
      clear gla ges gsl hsk k3
      generalize la.getD k 0 = x at *
      generalize es.getD k 0 = y at *
      obtain ⟨x1, x2⟩ := bla
      have n1 : ((x - y) != (x - y)) = false := by simp
      have n2 : decide (x - y < 0) = false := decide_eq_false (by omega)
      have n3 : decide (last < x) = false := decide_eq_false (by omega)
      go_wp2_with fail
      go_quiet (fail)
      go_wp2_with fail
      go_roundg (m - (k + 1))
      case measure => omega
      case rel => exact ⟨k + 1, by omega, by omega, by go_num, Lib.hid (below_drewN HBW.out _)⟩
    · obtain rfl : k = m := by omega
      have HB8 := Lib.hid (below_then HB7.out HB7.out.size HBW.out)
      clear HBW HB7
      go_wp2_with (go_at_call 17; refine (known17 _).mono ?_; rintro e w9 ⟨rfl, hb9⟩)
      go_ret
      exact ⟨rfl, below_then HB8.out HB8.out.size hb9⟩
end Go.Proofs.Ytpknonebnipcgaa.Zq
