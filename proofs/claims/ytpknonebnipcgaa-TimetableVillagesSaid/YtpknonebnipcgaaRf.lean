import Derived.Test.YtpknonebnipcgaaProg
import Derived.WalkKit
import Derived.KernelRfl
import Derived.Deep.LoopGhost
import Derived.Deep.QuietTactic
import Derived.BigQuiet
import Derived.Deep.DeepCutAuto
import Derived.Deep.CutBlock
import Derived.Deep.RegionHeld3
import Derived.WalkLawsBesides
import Derived.WalkSpells
import Derived.Outline
import Derived.Deep.DeepFit
import Derived.Lib.Hide
import Derived.Shelf.Abstract
import Derived.Lib.SliceRun
import Derived.Deep.RegionLaw
import Derived.Test.YtpknonebnipcgaaY

namespace Go.Proofs.Ytpknonebnipcgaa.Rf
open Go.RowKit Go.Shelf Go.Proofs.Ytpknonebnipcgaa.V Go.Proofs.Ytpknonebnipcgaa.A Go.Proofs.Ytpknonebnipcgaa.B Go.Proofs.Ytpknonebnipcgaa.C Go.Proofs.Ytpknonebnipcgaa.P Go.Proofs.Ytpknonebnipcgaa.D Go.Proofs.Ytpknonebnipcgaa.E Go.Proofs.Ytpknonebnipcgaa.G Go.Proofs.Ytpknonebnipcgaa.K Go.Proofs.Ytpknonebnipcgaa.N Go.Proofs.Ytpknonebnipcgaa.U Go.Proofs.Ytpknonebnipcgaa.W Go.Proofs.Ytpknonebnipcgaa.Y
set_option linter.unusedVariables false
set_option linter.unusedSimpArgs false

def fewB (n : Int) (l : Nat) : Bool := (decide (n ≤ 12) || decide (500 < n)) && (decide ((l : Int) ≤ 30) || (decide (5000 < (l : Int)) && decide ((l : Int) < 5200)))

theorem few16 (n : Int) (A : Option Addr) (c l : Nat) (w : World) : Calls Try.prog 16 #[.int .i64 n, .slice A l c] w fun e w' => e = .returned (.bool (fewB n l)) ∧ w' = w := by
  unfold fewB
  cases h1 : decide (n ≤ 12) <;> cases h2 : decide ((500 : Int) < n) <;> cases h3 : decide ((l : Int) ≤ 30) <;> cases h4 : decide ((5000 : Int) < (l : Int)) <;> cases h5 : decide ((l : Int) < 5200)
  all_goals
    go_enter Try.func16, Try.ntmps16
    go_wp2
    go_ret
    exact ⟨rfl, rfl⟩

set_option maxRecDepth 100000 in
set_option maxHeartbeats 2000000 in
theorem all64 (m : Nat) (A : Option Addr) (c : Nat) (ls : List T3) (w : World) (hr : RdT w (.slice A ls.length c) ls) (hm : m ≤ 500) (hl : ls.length ≤ 5000) :
    Calls Try.prog 64 #[.int .i64 m, .slice A ls.length c] w fun e w' => ∃ A' c', e = .returned (.slice A' (ls.length + m) c') ∧ RdT w' (.slice A' (ls.length + m) c') (ls ++ adds m) ∧ (∀ q, (Value.slice A' (ls.length + m) c').ownBlock = some q → w.heap.size ≤ q) ∧ Below w.heap.size w w' := by
  have hll := (RdR.len hr).2
  have HR := Lib.hid hr
  clear hr
  go_enter Try.func64, Try.ntmps64
  go_wp2_with (at_builtin; refine wp_append_rd w rfl _ _ 22 rfl w.heap.size 58 _ 3 24 Try.underlying22 info58 rfl (by decide) (.slice none 0 0) 0 [] rfl (World.ownsRow_nil _ _ _ _) T3.enc ls _ rfl HR.out t3_len t3_one ?q1 ?q2 (Nat.le_refl _) ?_)
  case q1 => unfold maxLen; omega
  case q2 => omega
  intro v' w1 hown hgrow _
  try rw [Nat.zero_add, List.nil_append] at hown
  obtain ⟨A1, c1, rfl⟩ := owns_slice hown
  have HB1 := Lib.hid (below_of hgrow)
  have HO1 := Lib.hid hown
  clear hown hgrow
  go_wp2_with fail
  go_loopg [5, 6] m (fun gg s5 s6 wr => ∃ (k : Nat) (Av : Option Addr) (cv : Nat), k ≤ m ∧ m - k ≤ gg ∧ s6 = .int .i64 k ∧ s5 = .slice Av (ls.length + k) cv ∧ Hid (wr.ownsRow w.heap.size 58 3 (.slice Av (ls.length + k) cv) (ls.length + k) ((ls ++ adds k).flatMap T3.enc)) ∧ Hid (Below w.heap.size w wr))
  case atStart => exact ⟨0, A1, c1, Nat.zero_le _, by omega, rfl, rfl, Lib.hid (by simpa [adds] using HO1.out), HB1⟩
  case round =>
    clear HO1 HB1
    obtain ⟨k, Av, cv, hk, hgg, rfl, rfl, HO, HB⟩ := hrel
    by_cases hlt : k < m
    · go_wp2_with (at_builtin; refine wp_append_one wr rfl _ _ 22 rfl w.heap.size 58 _ 3 24 Try.underlying22 info58 rfl (by decide) (.slice Av (ls.length + k) cv) (ls.length + k) _ rfl HO.out T3.enc ⟨0, (k : Int), 0⟩ _ rfl rfl t3_len t3_one ?q1 (by decide) ?q2 ?_)
      case q1 => omega
      case q2 => exact HB.out.size
      intro g2 c2 w2 hown2 hgrow2 _ _ _
      have HO2 := Lib.hid hown2
      have HB2 : Hid (Below w.heap.size w w2) := Lib.hid (HB.out.grown hgrow2 HB.out.size (fun q e => (World.ownsRow.lt HO.out q e).1))
      clear hown2 hgrow2
      go_wp2_with fail
      go_roundg (m - (k + 1))
      case measure => omega
      case rel =>
        refine ⟨k + 1, some ⟨g2, 0, none⟩, c2, by omega, by omega, by go_num, rfl, Lib.hid ?_, HB2⟩
        rw [adds_succ, ← List.append_assoc, List.flatMap_append]
        simpa [List.flatMap_cons, Nat.add_assoc] using HO2.out
    · obtain rfl : k = m := by omega
      go_wp2_with fail
      go_ret
      refine ⟨Av, cv, rfl, ?_, fun q e => (World.ownsRow.lt HO.out q e).1, HB.out⟩
      have := rd_of_owns (xs := ls ++ adds k) t3_len (by rw [List.length_append, adds_length]; exact HO.out)
      try rw [List.length_append, adds_length] at this
      exact this

set_option maxRecDepth 100000 in
set_option maxHeartbeats 8000000 in
theorem raise78 (n : Nat) (A : Option Addr) (c : Nat) (ls : List T3) (w : World) (hr : RdT w (.slice A ls.length c) ls) (base gt cap : Nat) (ts : List Int) (hO : V.Own w base gt cap ts)
    (h1 : 1 ≤ n) (h2 : n ≤ 20) (h3 : ls.length ≤ 80) (hl : ∀ l ∈ ls ++ adds n, okLk n l = true) (htl : ts.length = n) (hts : ∀ x ∈ ts, 0 ≤ x ∧ x ≤ 1000000000) :
    Calls Try.prog 78 #[.int .i64 n, .slice A ls.length c, .slice (some ⟨gt, 0, none⟩) n cap] w fun e w' => e = .returned (.bool (if (pushF n (ls ++ adds n) ts).raised < 0 then (pushF n (ls ++ adds n) ts).ts.getD 0 0 == 0 else false)) ∧
      V.Own w' base gt cap (pushF n (ls ++ adds n) ts).ts ∧ w.grownBy w' (some gt) := by
  have hll := (RdR.len hr).2
  have hal := all64 n A c ls w hr (by omega) (by omega)
  have halen : (ls ++ adds n).length = ls.length + n := by rw [List.length_append, adds_length]
  have HAL := Lib.hid hal
  have HLEN := Lib.hid halen
  have HL := Lib.hid hl
  have HT := Lib.hid hts
  have HTL := Lib.hid htl
  have HO := Lib.hid hO
  have hcap := hO.blk
  obtain ⟨_, _, hgt, _, hcap1, hcap2, _⟩ := hcap
  rw [htl] at hcap1
  obtain ⟨R, hR⟩ : ∃ R, (if (pushF n (ls ++ adds n) ts).raised < 0 then (pushF n (ls ++ adds n) ts).ts.getD 0 0 == 0 else false) = R := ⟨_, rfl⟩
  rw [hR]
  have HR := Lib.hid hR
  have hA100 : (ls ++ adds n).length ≤ 100 := by omega
  have HA100 := Lib.hid hA100
  clear hr hO hl hts htl hal halen hR hA100
  generalize hall : ls ++ adds n = all at *
  clear hall
  obtain ⟨L, hLd⟩ : ∃ L, ls.length + n = L := ⟨_, rfl⟩
  rw [hLd] at HAL HLEN
  have hL100 : L ≤ 100 := by have := HLEN.out; have := HA100.out; omega
  clear hLd
  go_enter Try.func78, Try.ntmps78
  go_wp2_with fail
  refine HAL.out.mono ?_
  rintro e w1 ⟨Av, cv, rfl, hra, hab, hb⟩
  have HRA := Lib.hid hra
  have HAB := Lib.hid hab
  have HG1 := Lib.hid (grown_of hb (some gt))
  have HO1 := Lib.hid (HO.out.kept (grown_of hb none) (by simp))
  have hgt1 := Nat.lt_of_lt_of_le hgt hb.size
  have hlv : L ≤ cv ∧ cv ≤ 9223372036854775807 := by
    have := (RdR.len hra).2
    exact this
  clear hra hab hb HAL HO
  go_wp2_with fail
  go_loopg [8, 9, 10, 11] (n + 1) (fun gg s8 s9 s10 s11 wr => ∃ (r : Nat) (st : St), r ≤ n + 1 ∧ n + 1 - r ≤ gg ∧ s8 = .int .i64 r ∧ Hid (rounds all (n + 1 - r) st = pushF n all ts) ∧ Hid (Bd n (1000000000 + 100000000 * r) st) ∧ Hid (0 < r → 0 ≤ st.raised) ∧ Hid (V.Own wr base gt cap st.ts) ∧ Hid (RdT wr (.slice Av L cv) all) ∧ Hid (w.grownBy wr (some gt)))
  case atStart =>
    refine ⟨0, ⟨ts, List.replicate n (-1), -1⟩, Nat.zero_le _, by omega, rfl, Lib.hid rfl, Lib.hid ⟨HTL.out, by simp, fun x hx => ?_⟩, Lib.hid (fun h => by omega), HO1, HRA, HG1⟩
    have := HT.out x hx
    simp; omega
  case round =>
    obtain ⟨wo, rfl⟩ : ∃ wo : World, wo = wr := ⟨_, rfl⟩
    obtain ⟨r, st, hr, hg, rfl, HF, HBD, HPOS, HO4, HR4, HG4⟩ := hrel
    clear HO1 HRA HG1
    by_cases hlt : r < n + 1
    · have hrt : decide ((r : Int) ≤ (n : Int)) = true := decide_eq_true (by omega)
      have hrt2 : decide (r ≤ n) = true := decide_eq_true (by omega)
      go_wp2_with fail
      go_loopg [9, 10, 11] L (fun gg s9 s10 s11 wq => ∃ kk : Nat, kk ≤ L ∧ L - kk ≤ gg ∧ s10 = .int .i64 kk ∧ s9 = .bool (decide ((B.part all kk ⟨st.ts, st.by_, -1⟩).raised < 0)) ∧ Hid (Bd n (1000000000 + 100000000 * r + 1000000 * kk) (B.part all kk ⟨st.ts, st.by_, -1⟩)) ∧ Hid (V.Own wq base gt cap (B.part all kk ⟨st.ts, st.by_, -1⟩).ts) ∧ Hid (RdT wq (.slice Av L cv) all) ∧ Hid (w.grownBy wq (some gt)))
      case atStart => exact ⟨0, Nat.zero_le _, by omega, rfl, rfl, Lib.hid (by have := HBD.out; simpa [B.part, Bd] using this), HO4, HR4, HG4⟩
      case round =>
        obtain ⟨wp, rfl⟩ : ∃ wp : World, wp = wr := ⟨_, rfl⟩
        obtain ⟨kk, hkk, hg', rfl, rfl, HB6, HO6, HR6, HG6⟩ := hrel
        by_cases hlt2 : kk < L
        · have hlt2' : kk < all.length := by rw [HLEN.out]; exact hlt2
          have hx : all[kk]? = some all[kk] := List.getElem?_eq_getElem hlt2'
          have hok := HL.out _ (List.getElem_mem hlt2')
          have hstep : B.part all (kk + 1) ⟨st.ts, st.by_, -1⟩ = relax (B.part all kk ⟨st.ts, st.by_, -1⟩) kk all[kk] := by simp only [B.part]; rw [hx]
          generalize all[kk] = x at hx hok hstep
          have HST := Lib.hid hstep
          have HX := Lib.hid hx
          clear hstep
          obtain ⟨a1, a2, b1, b2, c1, c2⟩ := okLk_out hok
          have HOK := Lib.hid hok
          clear hok
          obtain ⟨b, off, rfl, hb, l0, l1, l2⟩ := Rd.t3 HR6.out kk x hx
          have hbg : b ≠ gt := fun e => by
            have := HAB.out b rfl
            omega
          have hlen := HB6.out.1
          generalize hP : B.part all kk ⟨st.ts, st.by_, -1⟩ = P at *
          obtain ⟨pt, pb, pr⟩ := P
          have HP := Lib.hid hP
          clear hP
          simp only at HO6 hlen HST
          have hga := getD_get (xs := pt) (j := x.a.toNat) (by omega)
          have hgb := getD_get (xs := pt) (j := x.b.toNat) (by omega)
          have hba := HB6.out.2.2 _ (getD_mem (xs := pt) (j := x.a.toNat) (by omega))
          have hbb := HB6.out.2.2 _ (getD_mem (xs := pt) (j := x.b.toNat) (by omega))
          simp only [relax] at HST
          generalize pt.getD x.a.toNat 0 = va at hga hba HST
          generalize pt.getD x.b.toNat 0 = vb at hgb hbb HST
          have ⟨ca, fa⟩ := V.Own.at HO6.out hga
          have ⟨cb, fb⟩ := V.Own.at HO6.out hgb
          have hgq : gt < wp.heap.size := by obtain ⟨_, _, h, _⟩ := HO6.out.blk; exact h
          obtain ⟨ba1, ba2⟩ := hba
          obtain ⟨bb1, bb2⟩ := hbb
          clear hga hgb hx
          by_cases hlt3 : vb < va + x.c
          · rw [if_pos hlt3] at HST
            go_wp2_with fail
            go_quiet (fail)
            go_wp2_with fail
            have hbq : Below wp.heap.size wp ((wp.alloc (.cells #[.int .i64 x.a, .int .i64 x.b, .int .i64 x.c] 58)).drewN nq) := below_drewN (below_al (below_rf wp) _) nq
            have bx : ((wp.alloc (.cells #[.int .i64 x.a, .int .i64 x.b, .int .i64 x.c] 58)).drewN nq).heap[wp.heap.size]? = some (.cells #[.int .i64 x.a, .int .i64 x.b, .int .i64 x.c] 58 (0, 0)) := blk_new wp _
            have HO6q : Hid (V.Own ((wp.alloc (.cells #[.int .i64 x.a, .int .i64 x.b, .int .i64 x.c] 58)).drewN nq) base gt cap pt) := Lib.hid ((HO6.out.alloc _).drewN _)
            have HR6q := Lib.hid (Rd.below HR6.out hbq)
            have HG6q : Hid (w.grownBy ((wp.alloc (.cells #[.int .i64 x.a, .int .i64 x.b, .int .i64 x.c] 58)).drewN nq) (some gt)) := Lib.hid (gb_drewN (gb_alloc HG6.out _) _)
            generalize (wp.alloc (.cells #[.int .i64 x.a, .int .i64 x.b, .int .i64 x.c] 58)).drewN nq = wq at *
            have x0 := cell_of_blk bx 0
            have x1 := cell_of_blk bx 1
            have x2 := cell_of_blk bx 2
            simp only [List.getElem?_toArray, List.getElem?_cons_succ, List.getElem?_cons_zero] at x0 x1 x2
            have ca2 := (hbq.cell (p := ⟨gt, x.a.toNat, none⟩) hgq).trans ca
            have cb2 := (hbq.cell (p := ⟨gt, x.b.toNat, none⟩) hgq).trans cb
            have hgx := getD_get (xs := pt) (j := x.b.toNat) (by omega)
            have fb2 := (V.Own.at HO6q.out hgx).2
            clear hbq bx HO6 HR6 HG6 l0 l1 l2 ca cb fa fb hgx
            go_cut [] (fun wz => wz = wq.drew.setCell ⟨gt, x.b.toNat, none⟩ (.int .i64 (va + x.c)))
            case first =>
              go_region
              all_goals (go_wp2_with fail; go_meet)
              all_goals rfl
            case rest =>
              subst hcut
              go_wp2_with fail
              go_roundg (L - (kk + 1))
              case measure => omega
              case rel =>
                refine ⟨kk + 1, by omega, by omega, by go_num, ?_, Lib.hid ?_, Lib.hid ?_, Lib.hid ?_, Lib.hid ?_⟩
                · rw [HST.out]
                  have : decide (x.b < 0) = false := decide_eq_false (by omega)
                  rw [this]
                · have := relax_bd (i := kk) HB6.out HOK.out
                  rw [← HP.out] at this
                  rw [← B.part_succ _ _ _ _ HX.out] at this
                  have e : (1000000000 + 100000000 * (r : Int) + 1000000 * ((kk + 1 : Nat) : Int)) = 1000000000 + 100000000 * (r : Int) + 1000000 * (kk : Int) + 1000000 := by omega
                  rw [e]; exact this
                · rw [HST.out]
                  exact (HO6q.out.drewN 1).set _ _
                · exact Rd.grown (Rd.below HR6q.out (below_dr (below_rf wq))) (grown_set _ gt _ _) (fun q hq => by simp [Value.ownBlock] at hq; subst hq; intro e; injection e with e; exact hbg e)
                · exact gb_set (gb_drew HG6q.out) ⟨gt, x.b.toNat, none⟩ (.inl rfl) (.int .i64 (va + x.c))
          · rw [if_neg hlt3] at HST
            go_wp2_with fail
            go_quiet (fail)
            go_wp2
            go_roundg (L - (kk + 1))
            case measure => omega
            case rel =>
              refine ⟨kk + 1, by omega, by omega, by go_num, by rw [HST.out], Lib.hid ?_, Lib.hid ?_, Lib.hid ?_, Lib.hid ?_⟩
              · have := relax_bd (i := kk) HB6.out HOK.out
                rw [← HP.out] at this
                rw [← B.part_succ _ _ _ _ HX.out] at this
                have e : (1000000000 + 100000000 * (r : Int) + 1000000 * ((kk + 1 : Nat) : Int)) = 1000000000 + 100000000 * (r : Int) + 1000000 * (kk : Int) + 1000000 := by omega
                rw [e]; exact this
              · rw [HST.out]
                exact ((HO6.out.alloc _).drewN _)
              · exact Rd.below HR6.out (below_drewN (below_al (below_rf wp) _) _)
              · exact (gb_drewN (gb_alloc HG6.out _) _)
        · obtain rfl : kk = L := by omega
          have hrd : B.round all st = B.part all kk ⟨st.ts, st.by_, -1⟩ := by unfold B.round; rw [HLEN.out]
          have hF := HF.out
          rw [show n + 1 - r = (n - r) + 1 by omega] at hF
          simp only [rounds] at hF
          rw [hrd] at hF
          generalize hP : B.part all kk ⟨st.ts, st.by_, -1⟩ = P at *
          have hPl := HB6.out.1
          clear hP hrd
          by_cases hng : P.raised < 0
          · rw [if_pos hng] at hF
            have d1 : decide (P.raised < 0) = true := decide_eq_true hng
            have hz := getD_get (xs := P.ts) (j := 0) (by omega)
            have ⟨cz, _⟩ := V.Own.at HO6.out hz
            have hRf : R = (P.ts.getD 0 0 == 0) := by rw [← HR.out, ← hF, if_pos hng]
            have HRF := Lib.hid hRf
            have HF2 := Lib.hid hF
            clear hF hz hRf
            generalize P.ts.getD 0 0 = z at *
            go_wp2_with fail
            go_ret
            rw [← HF2.out]
            exact ⟨by rw [HRF.out]; rfl, HO6.out, HG6.out⟩
          · rw [if_neg hng] at hF
            have d1 : decide (P.raised < 0) = false := decide_eq_false hng
            have HF2 := Lib.hid hF
            clear hF
            go_wp2_with fail
            go_roundg (n + 1 - (r + 1))
            case measure => omega
            case rel =>
              refine ⟨r + 1, P, by omega, by omega, by go_num, Lib.hid ?_, Lib.hid ?_, Lib.hid (fun _ => by omega), HO6, HR6, HG6⟩
              · rw [show n + 1 - (r + 1) = n - r by omega]; exact HF2.out
              · obtain ⟨q1, q2, q3⟩ := HB6.out
                exact ⟨q1, q2, fun x hx => by have := q3 x hx; omega⟩
    · obtain rfl : r = n + 1 := by omega
      have hrt : decide ((((n + 1 : Nat) : Int)) ≤ (n : Int)) = false := decide_eq_false (by omega)
      have hF := HF.out
      rw [Nat.sub_self] at hF
      simp only [rounds] at hF
      have HF2 := Lib.hid hF
      have hRf : R = false := by
        rw [← HR.out, if_neg]
        rw [← hF]
        have := HPOS.out (by omega)
        omega
      subst hRf
      clear hF
      go_wp2
      go_ret
      rw [← HF2.out]
      exact ⟨rfl, HO4.out, HG4.out⟩
end Go.Proofs.Ytpknonebnipcgaa.Rf
