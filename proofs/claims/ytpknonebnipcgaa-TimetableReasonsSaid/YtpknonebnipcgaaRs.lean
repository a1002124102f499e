import Derived.Test.YtpknonebnipcgaaProg
import Derived.WalkKit
import Derived.KernelRfl
import Derived.Deep.LoopGhost
import Derived.Deep.QuietTactic
import Derived.BigQuiet
import Derived.Deep.DeepCutAuto
import Derived.Deep.CutBlock
import Derived.Deep.RegionHeld3
import Derived.WalkLawsBesides
import Derived.WalkSpells
import Derived.Outline
import Derived.Deep.DeepFit
import Derived.Lib.Hide
import Derived.Shelf.Abstract
import Derived.Lib.SliceRun
import Derived.OwnWalk
import Derived.Test.YtpknonebnipcgaaPr
import Derived.Test.YtpknonebnipcgaaRf
import Derived.Test.YtpknonebnipcgaaRr

namespace Go.Proofs.Ytpknonebnipcgaa.Rs
open Go.RowKit Go.Shelf Go.Proofs.Ytpknonebnipcgaa.V Go.Proofs.Ytpknonebnipcgaa.A Go.Proofs.Ytpknonebnipcgaa.B Go.Proofs.Ytpknonebnipcgaa.C Go.Proofs.Ytpknonebnipcgaa.P Go.Proofs.Ytpknonebnipcgaa.D Go.Proofs.Ytpknonebnipcgaa.E Go.Proofs.Ytpknonebnipcgaa.G Go.Proofs.Ytpknonebnipcgaa.K Go.Proofs.Ytpknonebnipcgaa.N Go.Proofs.Ytpknonebnipcgaa.U Go.Proofs.Ytpknonebnipcgaa.W Go.Proofs.Ytpknonebnipcgaa.Y Go.Proofs.Ytpknonebnipcgaa.Rf Go.Proofs.Ytpknonebnipcgaa.Z Go.Proofs.Ytpknonebnipcgaa.Zl Go.Proofs.Ytpknonebnipcgaa.Pr Go.Proofs.Ytpknonebnipcgaa.Rr
set_option linter.unusedVariables false
set_option linter.unusedSimpArgs false

theorem Lay.one {W : World} {base n A g : Nat} {r : List Bool} (h1 : W.heap[A]? = some (.cells #[.slice (some ⟨g, 0, none⟩) n n] 94 (0, 0))) (hr : RowB W g n r) (hA : base ≤ A) : Lay W base n A 1 [g] [r] := by
  refine ⟨⟨rfl, .inr ⟨A, 1, _, rfl, hA, h1, Nat.le_refl _, by unfold maxLen; show 1 ≤ 9223372036854775807; omega, rfl, rfl⟩⟩, rfl, fun j g' r' hv hr' => ?_⟩
  cases j with
  | succ j => simp at hv
  | zero =>
    simp at hv hr'
    subst hv hr'
    exact hr

theorem rd_at {w : World} {b off n c : Nat} {xs : List Int} (h : RdI w (.slice (some ⟨b, off, none⟩) n c) xs) {j : Nat} (hj : j < xs.length) : w.cell? ⟨b, off + j, none⟩ = some (.int .i64 (xs.getD j 0)) ∧ b < w.heap.size := by
  obtain ⟨b', o', e, hb, hc⟩ := Rd.i h j _ (getD_get hj)
  injection e with e
  injection e with e1 e2
  subst e1 e2
  exact ⟨hc, hb⟩
theorem own_one (W : World) (base : Nat) (hb : base ≤ W.heap.size) (x : Int) : (W.alloc (.cells #[.int .i64 x] 3)).ownsRow base 3 1 (.slice (some ⟨W.heap.size, 0, none⟩) 1 1) 1 [.int .i64 x] :=
  World.ownsRow_lit (base := base) (e := 3) (size := 1) W #[.int .i64 x] 1 hb (by decide) rfl

/-- what the reference has gathered when it has gone j links back -/
def lstF (n : Nat) (all : List T3) (ts : List Int) (K : Nat) (m : Int) (j : Nat) : List Int := ((List.range j).map fun i => pickF n all ts (K - 1 - i) (momF n all ts K m i)).reverse
theorem lstF_succ (n : Nat) (all : List T3) (ts : List Int) (K : Nat) (m : Int) (j : Nat) : lstF n all ts K m (j + 1) = pickF n all ts (K - 1 - j) (momF n all ts K m j) :: lstF n all ts K m j := by
  unfold lstF
  rw [List.range_succ, List.map_append, List.reverse_append]
  rfl
theorem lstF_len (n : Nat) (all : List T3) (ts : List Int) (K : Nat) (m : Int) (j : Nat) : (lstF n all ts K m j).length = j := by simp [lstF]

theorem idx_at {p : T3 → Bool} {xs : List T3} {i : Nat} (hi : i < xs.length) (hp : p (xs.getD i z3) = true) (hb : ∀ j, j < i → p (xs.getD j z3) = false) : idx p xs = i := by
  have : xs.findIdx? p = some i := by
    rw [List.findIdx?_eq_some_iff_getElem]
    refine ⟨hi, ?_, fun j hj => ?_⟩
    · rwa [List.getD_eq_getElem?_getD, List.getElem?_eq_getElem hi] at hp
    · have := hb j hj
      rw [List.getD_eq_getElem?_getD, List.getElem?_eq_getElem (by omega)] at this
      simpa using this
  unfold idx
  rw [this]

set_option maxRecDepth 100000 in
set_option maxHeartbeats 16000000 in
/-- the reference's Reason -/
theorem reason23 (n : Nat) (A : Option Addr) (c : Nat) (ls : List T3) (At : Option Addr) (ct : Nat) (ts : List Int) (m : Int) (w : World) (hr : RdT w (.slice A ls.length c) ls) (ht : RdI w (.slice At n ct) ts)
    (h : rightB n ls = true) (hs : Small n ls) (hE : Ear n (allOf n ls) ts) (hbd : ∀ x ∈ ts, 0 ≤ x ∧ x ≤ 2100000000) (h0 : 0 ≤ m) (h1 : m < n)
    (K : Nat) (hKn : K ≤ n) (hin : (layF n (allOf n ls) ts K).getD m.toNat false = true) (hmin : ∀ j, j < K → (layF n (allOf n ls) ts j).getD m.toNat false = false) :
    Calls Try.prog 23 #[.int .i64 n, .slice A ls.length c, .slice At n ct, .int .i64 m] w fun e w' => ∃ g c', e = .returned (.slice g K c') ∧ RdI w' (.slice g K c') (reaF n (allOf n ls) ts K m) ∧ Below w.heap.size w w' := by
  obtain ⟨r1, r2, r3, r4⟩ := right_out h
  have hs1 := hs.1
  have hs2 := hs.2
  have hal := all64 n A c ls w hr (by omega) (by omega)
  have hall : ls.length + n = (allOf n ls).length := by rw [all_len]; simp
  have hall2 : ls ++ adds n = allOf n ls := by unfold allOf; simp
  rw [hall, hall2] at hal
  have HAL := Lib.hid hal
  have hl100 : (allOf n ls).length ≤ 100 := by omega
  have hl1 : 1 ≤ (allOf n ls).length := by omega
  have hll := (RdR.len hr).2
  have hlt_ := (RdR.len ht).2
  have HRE := Lib.hid (show reaF n (allOf n ls) ts K m = lstF n (allOf n ls) ts K m K from rfl)
  have hmom := mom_same hE K m h0 h1 hin
  have hpk := pick_at hE K m h0 h1 hin
  have HMO := Lib.hid hmom
  have HPK := Lib.hid hpk
  have HIN := Lib.hid hin
  have HMIN := Lib.hid hmin
  have HV := Lib.hid hE.val
  have htl := hE.len
  have HTL := Lib.hid htl
  have HBD := Lib.hid hbd
  have hn1 := hE.one
  obtain ⟨bt, ot, rfl, hbt0⟩ : ∃ bt ot, At = some ⟨bt, ot, none⟩ ∧ bt < w.heap.size := by
    obtain ⟨b, o, e, hb, _⟩ := Rd.i ht 0 _ (getD_get (by omega))
    exact ⟨b, o, e, hb⟩
  have HT : Hid (∀ W, Below w.heap.size w W → ∀ j, j < n → W.cell? ⟨bt, ot + j, none⟩ = some (.int .i64 (ts.getD j 0)) ∧ 0 ≤ ts.getD j 0 ∧ ts.getD j 0 ≤ 2100000000) := Lib.hid (fun W hb j hj => by
    have hj' : j < ts.length := by omega
    obtain ⟨hc, hlt⟩ := rd_at ht hj'
    have := hbd _ (getD_mem hj')
    exact ⟨(hb.cell (p := ⟨bt, ot + j, none⟩) hlt).trans hc, this.1, this.2⟩)
  clear hr ht h hs hal hall hall2 r4 hE hbd hin hmin hmom hpk htl
  generalize allOf n ls = all at *
  obtain ⟨mn, rfl⟩ : ∃ mn : Nat, m = mn := ⟨m.toNat, by omega⟩
  have hmn : mn < n := by omega
  go_enter Try.func23, Try.ntmps23
  go_wp2_with fail
  refine HAL.out.mono ?_
  rintro e w1 ⟨Av, cv, rfl, hra, hab, hb⟩
  have HRA := Lib.hid hra
  have HB1 := Lib.hid hb
  have hlv := (RdR.len hra).2
  have hsz1 := hb.size
  clear hra hb HAL hab
  go_wp2_with (at_make; refine wp_make_bools _ rfl _ _ 94 rfl Try.underlying94 info4 n rfl rfl ?q1 ?_)
  case q1 => omega
  intro w2 hR2 hb2
  have ⟨b0, f0⟩ := hR2.at (j := 0) (by omega)
  have hlt2 := hR2.lt
  have HR2 := Lib.hid hR2
  have HB2 := Lib.hid hb2
  clear hR2 hb2
  go_wp2_with fail
  go_loopg [10] K (fun gg s10 wr => ∃ (k A' c' : Nat) (gs : List Nat), k ≤ K ∧ K - k ≤ gg ∧ s10 = .slice (some ⟨A', 0, none⟩) (k + 1) c' ∧ Hid (Lay wr w1.heap.size n A' c' gs ((List.range (k + 1)).map (layF n all ts))) ∧ Hid (Below w1.heap.size w1 wr))
  case atStart =>
    refine ⟨0, w2.heap.size, 1, [w1.heap.size], Nat.zero_le _, by omega, rfl, Lib.hid ?_, Lib.hid ?_⟩
    · have hrow : RowB ((w2.setCell ⟨w1.heap.size, 0, none⟩ (.bool true)).alloc (.cells #[.slice (some ⟨w1.heap.size, 0, none⟩) n n] 94)) w1.heap.size n (layF n all ts 0) := (HR2.out.set 0 true).alloc _
      have hblk := blk_new (w2.setCell ⟨w1.heap.size, 0, none⟩ (.bool true)) (.cells #[.slice (some ⟨w1.heap.size, 0, none⟩) n n] 94)
      rw [show (w2.setCell ⟨w1.heap.size, 0, none⟩ (.bool true)).heap.size = w2.heap.size from by simp [World.setCell]] at hblk
      exact Lay.one hblk hrow HB2.out.size
    · exact (HB2.out.setCell (p := ⟨w1.heap.size, 0, none⟩) (Nat.le_refl _) _).alloc (by simp [World.setCell]; exact HB2.out.size) _
  case round =>
    obtain ⟨wo, rfl⟩ : ∃ wo : World, wo = wr := ⟨_, rfl⟩
    clear HR2 HB2 b0 f0 hlt2
    obtain ⟨k, A', c', gs, hk, hgg, rfl, HL, HW⟩ := hrel
    have hgetk : ((List.range (k + 1)).map (layF n all ts))[k]? = some (layF n all ts k) := by simp
    obtain ⟨g, q1, q2, q3, q4⟩ := HL.out.at hgetk
    rw [List.length_map, List.length_range] at q3
    have ⟨m1, mf⟩ := q2.at (j := mn) hmn
    have hA := HL.out.lt
    have hwo := HW.out.size
    obtain ⟨hA1, hA2⟩ := hA
    have hgw := q2.lt
    have kk1 : k < k + 1 := Nat.lt_succ_self k
    have HQ2 := Lib.hid q2
    clear hgetk q2 mf
    by_cases hkK : k < K
    · have hx := HMIN.out k hkK
      rw [Int.toNat_natCast] at hx
      rw [hx] at m1
      clear hx
      go_wp2_with (at_make; refine wp_make_bools _ rfl _ _ 94 rfl Try.underlying94 info4 n rfl rfl ?q2 ?_)
      case q2 => omega
      intro w5 hR5 hb5
      have HR5 := Lib.hid hR5
      have HG5 : Hid (wo.grownBy w5 none) := Lib.hid (grown_of hb5 none)
      clear hR5 hb5 m1
      go_wp2_with fail
      go_loopg [12, 13] all.length (fun gg s12 s13 wr => ∃ kk : Nat, kk ≤ all.length ∧ all.length - kk ≤ gg ∧ s12 = .int .i64 kk ∧ Hid (RowB wr wo.heap.size n (partB all ts (layF n all ts k) kk (List.replicate n false))) ∧ Hid (wo.grownBy wr none))
      case atStart => exact ⟨0, Nat.zero_le _, by omega, rfl, HR5, HG5⟩
      case round =>
        obtain ⟨wp, rfl⟩ : ∃ wp : World, wp = wr := ⟨_, rfl⟩
        clear HR5 HG5
        obtain ⟨kk, hkk, hg', rfl, HO, HG⟩ := hrel
        have hb1p : Below w1.heap.size w1 wp := below_then HW.out HW.out.size (below_of HG.out)
        have hbwp : Below w.heap.size w wp := below_then HB1.out HB1.out.size hb1p
        have q1' := ((below_of HG.out).cell (p := ⟨A', k, none⟩) hA2).trans q1
        by_cases hlt2 : kk < all.length
        · have hx := getD_t3 hlt2
          have hok := HV.out _ (List.mem_of_getElem? hx)
          have hstep := partB_succ all ts (layF n all ts k) kk (List.replicate n false) _ hx
          generalize all.getD kk z3 = x at hx hok hstep
          obtain ⟨a1, a2, b1, b2, c1, c2⟩ := okLk_out hok
          obtain ⟨b, off, rfl, hb, l0, l1, l2⟩ := Rd.t3 HRA.out kk x hx
          replace l0 := (hb1p.cell (p := ⟨b, off + kk * 3, none⟩) hb).trans l0
          replace l1 := (hb1p.cell (p := ⟨b, off + kk * 3 + 1, none⟩) hb).trans l1
          replace l2 := (hb1p.cell (p := ⟨b, off + kk * 3 + 2, none⟩) hb).trans l2
          have hbp := Nat.lt_of_lt_of_le hb hb1p.size
          obtain ⟨ta1, ta2, ta3⟩ := HT.out wp hbwp x.a.toNat (by omega)
          obtain ⟨tb1, tb2, tb3⟩ := HT.out wp hbwp x.b.toNat (by omega)
          have hbtp := Nat.lt_of_lt_of_le hbt0 hbwp.size
          have ⟨la1, la2⟩ := (HQ2.out.grown HG.out (by simp)).at (j := x.a.toNat) (by omega)
          have ⟨nb1, nb2⟩ := HO.out.at (j := x.b.toNat) (by omega)
          have hop := HO.out.lt
          have hgp := Nat.lt_of_lt_of_le hgw HG.out.size
          have hAp := Nat.lt_of_lt_of_le hA2 HG.out.size
          have hT : Pr.tight (layF n all ts k) ts x = ((layF n all ts k).getD x.a.toNat false && (ts.getD x.a.toNat 0 + x.c == ts.getD x.b.toNat 0)) := rfl
          simp only [updB] at hstep
          generalize Pr.tight (layF n all ts k) ts x = T at hT hstep
          obtain ⟨ta, hta⟩ : ∃ t, ts.getD x.a.toNat 0 = t := ⟨_, rfl⟩
          obtain ⟨tb, htb⟩ : ∃ t, ts.getD x.b.toNat 0 = t := ⟨_, rfl⟩
          obtain ⟨la, hla⟩ : ∃ t, (layF n all ts k).getD x.a.toNat false = t := ⟨_, rfl⟩
          rw [hta] at ta1 ta2 ta3
          rw [htb] at tb1 tb2 tb3
          rw [hla] at la1
          rw [hta, htb, hla] at hT
          clear hta htb hla
          have HTT := Lib.hid hT
          clear hT
          have HST := Lib.hid hstep
          clear hstep hx hok q1 la2
          cases la
          · go_wp2_with fail
            go_quiet (fail)
            go_wp2
            go_roundg (all.length - (kk + 1))
            case measure => omega
            case rel =>
              refine ⟨kk + 1, by omega, by omega, by go_num, Lib.hid ?_, Lib.hid ?_⟩
              · rw [HST.out, if_neg (by rw [HTT.out]; simp)]
                exact (HO.out.alloc _).drewN _
              · exact gb_drewN (gb_alloc HG.out _) _
          · cases d : (ta + x.c == tb)
            · go_wp2_with fail
              go_quiet (fail)
              go_wp2
              go_roundg (all.length - (kk + 1))
              case measure => omega
              case rel =>
                refine ⟨kk + 1, by omega, by omega, by go_num, Lib.hid ?_, Lib.hid ?_⟩
                · rw [HST.out, if_neg (by rw [HTT.out, d]; simp)]
                  exact (HO.out.alloc _).drewN _
                · exact gb_drewN (gb_alloc HG.out _) _
            · go_wp2_with fail
              go_quiet (fail)
              go_wp2
              go_roundg (all.length - (kk + 1))
              case measure => omega
              case rel =>
                refine ⟨kk + 1, by omega, by omega, by go_num, Lib.hid ?_, Lib.hid ?_⟩
                · rw [HST.out, if_pos (by rw [HTT.out, d]; rfl)]
                  exact ((HO.out.alloc _).drewN _).set _ _
                · exact gb_set (gb_drewN (gb_alloc HG.out _) _) ⟨wo.heap.size, x.b.toNat, none⟩ (.inr (Nat.le_refl _)) (.bool true)
        · obtain rfl : kk = all.length := by omega
          have hlay := HL.out.below (below_of HG.out)
          have hown := hlay.own
          rw [List.length_map, List.length_range] at hown
          have HLAY := Lib.hid hlay
          have HOW := Lib.hid hown
          have hsz := hb1p.size
          have HBP := Lib.hid hb1p
          clear hlay hown q1 q1' hb1p hbwp hlt2
          go_wp2_with (at_builtin; refine wp_append_one wp rfl _ _ 95 rfl w1.heap.size 94 _ 1 24 Try.underlying95 info94 rfl (by decide) (.slice (some ⟨A', 0, none⟩) (k + 1) c') (k + 1) _ rfl HOW.out (encG n) wo.heap.size _ rfl rfl (encG_len n) (encG_one n) ?q3 (by decide) ?q4 ?_)
          case q3 => omega
          case q4 => exact hsz
          intro g2 c2 w7 hown' hgrow' hb2' hl2' hat'
          have HOW' := Lib.hid hown'
          have HGR := Lib.hid hgrow'
          clear hown' hgrow' hat'
          go_wp2_with fail
          go_roundg (K - (k + 1))
          case measure => omega
          case rel =>
            refine ⟨k + 1, g2, c2, gs ++ [wo.heap.size], by omega, by omega, rfl, Lib.hid ?_, Lib.hid ?_⟩
            · rw [List.range_succ, List.map_append]
              exact HLAY.out.push HGR.out HO.out (by rw [List.length_map, List.length_range]; exact HOW'.out)
            · exact HBP.out.grown HGR.out HBP.out.size (fun q e => by
                have e' : A' = q := by simpa [Value.ownBlock] using e
                omega)
    · obtain rfl : k = K := by omega
      have hx := HIN.out
      rw [Int.toNat_natCast] at hx
      rw [hx] at m1
      have HBO := Lib.hid (below_then HB1.out HB1.out.size HW.out)
      clear hx hgg hkK
      go_wp2_with fail
      clear m1 q1
      go_loopg [3, 14, 15] k (fun gg s3 s14 s15 wr => ∃ (j r : Nat) (Ao : Option Addr) (co : Nat), j + r = k ∧ r ≤ gg ∧ s3 = .int .i64 (momF n all ts k mn j) ∧ s14 = .slice Ao j co ∧ s15 = .int .i64 r ∧ Hid (RdI wr (.slice Ao j co) (lstF n all ts k mn j)) ∧ Hid (Below wo.heap.size wo wr))
      case atStart => exact ⟨0, k, none, 0, by omega, Nat.le_refl _, rfl, rfl, by go_num, Lib.hid (RdR.nil _ _ _), Lib.hid (Below.refl _ _)⟩
      case round =>
        obtain ⟨wp, rfl⟩ : ∃ wp : World, wp = wr := ⟨_, rfl⟩
        obtain ⟨j, r, Ao, co, hjr, hgg, rfl, rfl, rfl, HRD, HBW⟩ := hrel
        by_cases hr0 : r = 0
        · subst hr0
          obtain rfl : j = k := by omega
          go_wp2_with fail
          go_ret
          refine ⟨Ao, co, rfl, ?_, below_then HBO.out HBO.out.size HBW.out⟩
          rw [HRE.out]
          exact HRD.out
        · obtain ⟨q, rfl⟩ : ∃ q, r = q + 1 := ⟨r - 1, by omega⟩
          subst hjr
          obtain ⟨_, mo0, mo1, _⟩ := HMO.out j (by omega)
          obtain ⟨_, p0, p1, _, _⟩ := HPK.out j (by omega)
          have hq : j + (q + 1) - 1 - j = q := by omega
          rw [hq] at p0 p1
          have HLS := Lib.hid (lstF_succ n all ts (j + (q + 1)) mn j)
          have HMS := Lib.hid (show momF n all ts (j + (q + 1)) mn (j + 1) = (all.getD (pickF n all ts (j + (q + 1) - 1 - j) (momF n all ts (j + (q + 1)) mn j)).toNat z3).a from rfl)
          rw [hq] at HLS HMS
          have hgetq : ((List.range (j + (q + 1) + 1)).map (layF n all ts))[q]? = some (layF n all ts q) := by rw [List.getElem?_map, List.getElem?_range (by omega)]; rfl
          obtain ⟨g9, z1, z2, z3', z4⟩ := (HL.out.below HBW.out).at hgetq
          rw [List.length_map, List.length_range] at z3'
          have HZ2 := Lib.hid z2
          have hg9 := z2.lt
          have hpick : pickF n all ts q (momF n all ts (j + (q + 1)) mn j) = idx (pkF (momF n all ts (j + (q + 1)) mn j) (layF n all ts q) ts) all := rfl
          have hll' : (lstF n all ts (j + (q + 1)) mn j).length = j := lstF_len _ _ _ _ _ _
          obtain ⟨LS, hLS⟩ : ∃ LS, lstF n all ts (j + (q + 1)) mn j = LS := ⟨_, rfl⟩
          rw [hLS] at hll' HLS HRD
          clear hLS
          generalize hM : momF n all ts (j + (q + 1)) mn j = M at *
          have HPI := Lib.hid hpick
          have HLL := Lib.hid hll'
          generalize pickF n all ts q M = pi at *
          have HP01 := Lib.hid (⟨p0, p1⟩ : 0 ≤ pi ∧ pi < all.length)
          have hjl := (RdR.len HRD.out).2
          have hA3 := Nat.lt_of_lt_of_le hA2 HBW.out.size
          have hbwp := below_then HBO.out HBO.out.size HBW.out
          have HBWP := Lib.hid hbwp
          clear hM hq hgetq z2 hpick hll' p0 p1 hbwp hr0
          go_wp2_with fail
          go_loopg [3, 14, 16] all.length (fun gg s3 s14 s16 wq => ∃ kk : Nat, kk ≤ all.length ∧ all.length - kk ≤ gg ∧ s3 = .int .i64 M ∧ s14 = .slice Ao j co ∧ s16 = .int .i64 kk ∧ Hid (∀ jj, jj < kk → pkF M (layF n all ts q) ts (all.getD jj z3) = false) ∧ Hid (Below wp.heap.size wp wq))
          case atStart => exact ⟨0, Nat.zero_le _, by omega, rfl, rfl, rfl, Lib.hid (fun jj hjj => absurd hjj (Nat.not_lt_zero _)), Lib.hid (Below.refl _ _)⟩
          case round =>
            obtain ⟨wz, rfl⟩ : ∃ wz : World, wz = wr := ⟨_, rfl⟩
            obtain ⟨kk, hkk, hg', rfl, rfl, rfl, HNO, HBZ⟩ := hrel
            have hb1z : Below w1.heap.size w1 wz := below_then (below_then HW.out HW.out.size HBW.out) (by have := HBW.out.size; omega) HBZ.out
            have hbwz : Below w.heap.size w wz := below_then HBWP.out HBWP.out.size HBZ.out
            have y1 := (HBZ.out.cell (p := ⟨A', q, none⟩) hA3).trans z1
            by_cases hlt2 : kk < all.length
            · have hx := getD_t3 hlt2
              have hok := HV.out _ (List.mem_of_getElem? hx)
              have HAT := Lib.hid (fun hp => idx_at (p := pkF M (layF n all ts q) ts) hlt2 hp HNO.out)
              rw [← HPI.out] at HAT
              have HNN := Lib.hid (fun hp : pkF M (layF n all ts q) ts (all.getD kk z3) = false => (fun jj hjj => by
                by_cases e : jj = kk
                · subst e; exact hp
                · exact HNO.out jj (by omega) : ∀ jj, jj < kk + 1 → pkF M (layF n all ts q) ts (all.getD jj z3) = false))
              have HGD : Hid (∀ i : Int, i = kk → all.getD i.toNat z3 = all.getD kk z3) := Lib.hid (fun i e => by rw [e, Int.toNat_natCast])
              generalize all.getD kk z3 = x at hx hok HAT HNN HGD
              obtain ⟨a1, a2, b1, b2, c1, c2⟩ := okLk_out hok
              obtain ⟨b, off, rfl, hb, l0, l1, l2⟩ := Rd.t3 HRA.out kk x hx
              replace l0 := (hb1z.cell (p := ⟨b, off + kk * 3, none⟩) hb).trans l0
              replace l1 := (hb1z.cell (p := ⟨b, off + kk * 3 + 1, none⟩) hb).trans l1
              replace l2 := (hb1z.cell (p := ⟨b, off + kk * 3 + 2, none⟩) hb).trans l2
              have hbp := Nat.lt_of_lt_of_le hb hb1z.size
              obtain ⟨ta1, ta2, ta3⟩ := HT.out wz hbwz x.a.toNat (by omega)
              obtain ⟨tb1, tb2, tb3⟩ := HT.out wz hbwz x.b.toNat (by omega)
              have hbtp := Nat.lt_of_lt_of_le hbt0 hbwz.size
              have ⟨la1, la2⟩ := (HZ2.out.below HBZ.out).at (j := x.a.toNat) (by omega)
              have hgp := Nat.lt_of_lt_of_le hg9 HBZ.out.size
              have hAp := Nat.lt_of_lt_of_le hA3 HBZ.out.size
              simp only [pkF, Pr.tight] at HAT HNN
              obtain ⟨ta, hta⟩ : ∃ t, ts.getD x.a.toNat 0 = t := ⟨_, rfl⟩
              obtain ⟨tb, htb⟩ : ∃ t, ts.getD x.b.toNat 0 = t := ⟨_, rfl⟩
              obtain ⟨la, hla⟩ : ∃ t, (layF n all ts q).getD x.a.toNat false = t := ⟨_, rfl⟩
              rw [hta] at ta1 ta2 ta3
              rw [htb] at tb1 tb2 tb3
              rw [hla] at la1
              rw [hta, htb, hla] at HAT HNN
              clear hta htb hla
              clear hx hok z1 la2 hb1z hbwz HNO
              cases d1 : (x.b == M)
              · go_wp2_with fail
                go_quiet (fail)
                go_wp2
                go_roundg (all.length - (kk + 1))
                case measure => omega
                case rel => exact ⟨kk + 1, by omega, by omega, rfl, rfl, by go_num, Lib.hid (HNN.out (by rw [d1]; rfl)), Lib.hid (below_drewN (below_then HBZ.out HBZ.out.size (below_al (below_rf wz) _)) _)⟩
              · cases la
                · go_wp2_with fail
                  go_quiet (fail)
                  go_wp2
                  go_roundg (all.length - (kk + 1))
                  case measure => omega
                  case rel => exact ⟨kk + 1, by omega, by omega, rfl, rfl, by go_num, Lib.hid (HNN.out (by rw [d1]; rfl)), Lib.hid (below_drewN (below_then HBZ.out HBZ.out.size (below_al (below_rf wz) _)) _)⟩
                · cases d2 : (ta + x.c == tb)
                  · go_wp2_with fail
                    go_quiet (fail)
                    go_wp2
                    go_roundg (all.length - (kk + 1))
                    case measure => omega
                    case rel => exact ⟨kk + 1, by omega, by omega, rfl, rfl, by go_num, Lib.hid (HNN.out (by rw [d1, d2]; rfl)), Lib.hid (below_drewN (below_then HBZ.out HBZ.out.size (below_al (below_rf wz) _)) _)⟩
                  · have HPK2 := Lib.hid (HAT.out (by rw [d1, d2]; rfl))
                    go_wp2_with fail
                    go_quiet (fail)
                    have hbq : Below wz.heap.size wz (((wz.alloc (.cells #[.int .i64 x.a, .int .i64 x.b, .int .i64 x.c] 58)).alloc (.cells #[.int .i64 kk] 3)).drewN nq) := below_drewN (below_al (below_al (below_rf wz) _) _) nq
                    have hrd0 : RdI (((wz.alloc (.cells #[.int .i64 x.a, .int .i64 x.b, .int .i64 x.c] 58)).alloc (.cells #[.int .i64 kk] 3)).drewN nq) (.slice Ao j co) LS := Rd.below (Rd.below HRD.out HBZ.out) hbq
                    have hob : (((wz.alloc (.cells #[.int .i64 x.a, .int .i64 x.b, .int .i64 x.c] 58)).alloc (.cells #[.int .i64 kk] 3)).drewN nq).ownsRow 0 3 1 (.slice (some ⟨wz.heap.size + 1, 0, none⟩) 1 1) 1 [.int .i64 kk] := by
                      have := own_one (wz.alloc (.cells #[.int .i64 x.a, .int .i64 x.b, .int .i64 x.c] 58)) 0 (Nat.zero_le _) (kk : Int)
                      rw [World.size_alloc] at this
                      exact this
                    have HBQ := Lib.hid hbq
                    have HRD0 := Lib.hid hrd0
                    have HOB := Lib.hid hob
                    clear hrd0 hob hbq
                    go_wp2_with (at_builtin; refine wp_append_rd _ rfl _ _ 25 rfl 0 3 _ 1 8 Try.underlying25 info3 rfl (by decide) _ 1 _ rfl HOB.out encI _ _ rfl HRD0.out i_len i_one ?q5 ?q6 ?q7 ?_)
                    case q5 => rw [HLL.out]; unfold maxLen; omega
                    case q6 => rw [HLL.out]; omega
                    case q7 => exact Nat.zero_le _
                    intro v' w8 hown' hgr' _
                    rw [HLL.out, Nat.add_comm] at hown'
                    obtain ⟨A8, c8, rfl⟩ := owns_slice hown'
                    have HOW8 := Lib.hid hown'
                    have HGR8 := Lib.hid hgr'
                    have hxb : w8.heap[wz.heap.size]? = some (.cells #[.int .i64 x.a, .int .i64 x.b, .int .i64 x.c] 58 (0, 0)) := blk_grown (w := ((wz.alloc (.cells #[.int .i64 x.a, .int .i64 x.b, .int .i64 x.c] 58)).alloc (.cells #[.int .i64 kk] 3)).drewN nq) (blk_alloc (blk_new wz _) _) hgr' (by simp [Value.ownBlock])
                    have x8 := cell_of_blk hxb 0
                    simp only [List.getElem?_toArray, List.getElem?_cons_zero] at x8
                    clear hown' hgr' hxb
                    go_wp2_with fail
                    go_roundg q
                    case measure => omega
                    case rel =>
                      refine ⟨j + 1, q, A8, c8, by omega, Nat.le_refl _, by rw [HMS.out, HGD.out _ HPK2.out], rfl, by go_num, Lib.hid ?_, Lib.hid ?_⟩
                      · rw [HLS.out, HPK2.out]
                        refine rd_of_owns (e := 3) (base := 0) i_len ?_
                        have := HOW8.out
                        rw [show ((kk : Int) :: LS).length = j + 1 by rw [List.length_cons, HLL.out]]
                        exact this
                      · exact below_then HBW.out HBW.out.size (below_then HBZ.out HBZ.out.size (HBQ.out.grown HGR8.out HBQ.out.size (fun k e => by
                          have e' : wz.heap.size + 1 = k := by simpa [Value.ownBlock] using e
                          omega)))
            · obtain rfl : kk = all.length := by omega
              exfalso
              obtain ⟨p0, p1⟩ := HP01.out
              have hs := idx_spec (p := pkF M (layF n all ts q) ts) (xs := all) (by rw [← HPI.out]; exact p0)
              rw [← HPI.out] at hs
              have := HNO.out pi.toNat (by omega)
              rw [hs.2.1] at this
              cases this
end Go.Proofs.Ytpknonebnipcgaa.Rs
