import Derived.Test.YtpknonebnipcgaaProg
import Derived.WalkKit
import Derived.KernelRfl
import Derived.Deep.LoopGhost
import Derived.Deep.QuietTactic
import Derived.BigQuiet
import Derived.Deep.DeepCutAuto
import Derived.Deep.CutBlock
import Derived.Deep.RegionHeld3
import Derived.WalkLawsBesides
import Derived.WalkSpells
import Derived.Outline
import Derived.Deep.DeepFit
import Derived.Lib.Hide
import Derived.Shelf.Abstract
import Derived.Lib.SliceRun
import Derived.OwnWalk
import Derived.Test.YtpknonebnipcgaaZe
import Derived.Test.YtpknonebnipcgaaRf

namespace Go.Proofs.Ytpknonebnipcgaa.Rl
open Go.RowKit Go.Shelf Go.Proofs.Ytpknonebnipcgaa.V Go.Proofs.Ytpknonebnipcgaa.A Go.Proofs.Ytpknonebnipcgaa.B Go.Proofs.Ytpknonebnipcgaa.C Go.Proofs.Ytpknonebnipcgaa.P Go.Proofs.Ytpknonebnipcgaa.D Go.Proofs.Ytpknonebnipcgaa.E Go.Proofs.Ytpknonebnipcgaa.G Go.Proofs.Ytpknonebnipcgaa.K Go.Proofs.Ytpknonebnipcgaa.N Go.Proofs.Ytpknonebnipcgaa.U Go.Proofs.Ytpknonebnipcgaa.W Go.Proofs.Ytpknonebnipcgaa.Y Go.Proofs.Ytpknonebnipcgaa.Rf Go.Proofs.Ytpknonebnipcgaa.Z Go.Proofs.Ytpknonebnipcgaa.Ze
set_option linter.unusedVariables false
set_option linter.unusedSimpArgs false

def latOk (n : Int) (ls : List T3) (last : Int) : Bool := decide ((earl n ls).raised < 0) && decide (top (earl n ls).ts ≤ last)

theorem lat_settle {n : Int} {ls : List T3} {last : Int} (h : rightB n ls = true) (hl : inB last 0 1000000000 = true) {r : Nat} (hr : (roundL (allOf n ls) (iterL (allOf n ls) r (startL n.toNat last))).ch = false) :
    ((iterL (allOf n ls) r (startL n.toNat last)).getD 0 0 == 0) = latOk n ls last ∧ iterL (allOf n ls) r (startL n.toNat last) = lat n ls last := by
  obtain ⟨h1, h2, h3, h4⟩ := right_out h
  have hk := low_keeps hr
  have hV := valid_all h
  have hf : (earl n ls).raised < 0 := by
    by_cases hf : (earl n ls).raised < 0
    · exact hf
    · exact absurd hk (earl_none h (by omega))
  obtain ⟨e1, e2, e3, e4, e5⟩ := lat_ends hV (by omega) (by rw [all_len]; omega) last hk
  have hX := e2 r hr
  have hl' : 0 ≤ last ∧ last ≤ 1000000000 := by simpa [inB] using hl
  refine ⟨?_, hX⟩
  have hXl : (iterL (allOf n ls) r (startL n.toNat last)).length = n.toNat := iterL_len (startL_len _ _) _
  have hle := iterL_le hV (startL_len n.toNat last) r
  generalize iterL (allOf n ls) r (startL n.toNat last) = X at *
  unfold latOk
  rw [decide_eq_true hf, Bool.true_and]
  have h0 := hle 0 (by omega) (by omega)
  rw [start_get _ _ _ (by omega) (by omega), if_pos rfl] at h0
  have eg : gt X 0 = X.getD 0 0 := rfl
  by_cases hm : top (earl n ls).ts ≤ last
  · rw [decide_eq_true hm]
    obtain ⟨_, _, _, l4, _⟩ := lat_all h hf hl hm
    have a := l4 0 (by omega) (by omega)
    have b := (earl_zero h hf).2.1
    have : lat n ls last = X := hX.symm
    rw [this] at a
    rw [beq_iff_eq]
    omega
  · rw [decide_eq_false hm]
    have : ¬ X.getD 0 0 = 0 := fun hz => by
      apply hm
      have hpos : ∀ v : Int, 0 ≤ v → v < n.toNat → 0 ≤ gt X v := fun v a b => by
        have := keeps_adds (n := n.toNat) (ls := ls) hk v a b
        omega
      have hkb : keepB n ls X = true := keepB_mk h (by omega) (pos_all hXl hpos) (by rw [eg, hz]) hk
      refine (keep_between hkb (fun x hx => ?_) hl'.1).1
      obtain ⟨v, v1, v2, rfl⟩ := mem_gt hx
      have := hle v v1 (by omega)
      rw [start_get _ _ _ v1 (by omega)] at this
      split at this <;> omega
    simpa using this

theorem lat_never {n : Int} {ls : List T3} {last : Int} (h : rightB n ls = true) (hr : ∀ r, r ≤ n.toNat → (roundL (allOf n ls) (iterL (allOf n ls) r (startL n.toNat last))).ch = true) : latOk n ls last = false := by
  obtain ⟨h1, h2, h3, h4⟩ := right_out h
  unfold latOk
  by_cases hf : (earl n ls).raised < 0
  · have hk := (earl_zero h hf).2.2.1
    have := (lat_ends (valid_all h) (by omega) (by rw [all_len]; omega) last hk).1
    rw [hr _ (Nat.le_refl _)] at this
    cases this
  · rw [decide_eq_false hf]
    rfl

def BdL (n : Nat) (M : Int) (xs : List Int) : Prop := xs.length = n ∧ ∀ x ∈ xs, -M ≤ x ∧ x ≤ 1000000000

theorem lower_bd {n : Nat} {M : Int} {s : Lo} {l : T3} (hM : 0 ≤ M) (h : BdL n M s.xs) (hl : okLk n l = true) : BdL n (M + 1000000) (lower s l).xs := by
  obtain ⟨h1, h3⟩ := h
  obtain ⟨a1, a2, b1, b2, c1, c2⟩ := okLk_out hl
  unfold lower
  split
  · rename_i hlt
    refine ⟨by simpa using h1, fun x hx => ?_⟩
    rcases List.mem_or_eq_of_mem_set hx with hx | rfl
    · have := h3 x hx; omega
    · have ha := h3 _ (getD_mem (xs := s.xs) (j := l.a.toNat) (by omega))
      have hb := h3 _ (getD_mem (xs := s.xs) (j := l.b.toNat) (by omega))
      omega
  · exact ⟨h1, fun x hx => by have := h3 x hx; omega⟩

set_option maxRecDepth 100000 in
set_option maxHeartbeats 8000000 in
/-- the reference's Latest -/
theorem latest41 (n : Nat) (A : Option Addr) (c : Nat) (ls : List T3) (last : Int) (w : World) (hr : RdT w (.slice A ls.length c) ls) (h : rightB n ls = true) (hs : Small n ls) (hla : inB last 0 1000000000 = true) :
    Calls Try.prog 41 #[.int .i64 n, .slice A ls.length c, .int .i64 last] w fun e w' => ∃ g l c', e = .returned (.tuple #[.slice g l c', .bool (latOk n ls last)]) ∧ (latOk n ls last = true → l = n ∧ RdI w' (.slice g n c') (lat n ls last)) ∧ Below w.heap.size w w' := by
  obtain ⟨r1, r2, r3, r4⟩ := right_out h
  have hs1 := hs.1
  have hs2 := hs.2
  have hV := valid_all h
  have hal := all64 n A c ls w hr (by omega) (by omega)
  have hall : ls.length + n = (allOf n ls).length := by rw [all_len]; simp
  have hall2 : ls ++ adds n = allOf n ls := by unfold allOf; simp
  rw [hall, hall2] at hal
  have HAL := Lib.hid hal
  have HV := Lib.hid hV
  have hl100 : (allOf n ls).length ≤ 100 := by omega
  have hl1 : 1 ≤ (allOf n ls).length := by omega
  have hll := (RdR.len hr).2
  have hla' : 0 ≤ last ∧ last ≤ 1000000000 := by simpa [inB] using hla
  obtain ⟨la1, la2⟩ := hla'
  have HSE := Lib.hid (fun r hr => lat_settle h hla (r := r) hr)
  have HNE := Lib.hid (fun hr => lat_never (last := last) h hr)
  simp only [Int.toNat_natCast] at HSE HNE
  clear hr h hs hV hal hall hall2 r4
  generalize latOk n ls last = R at *
  generalize lat n ls last = la at *
  generalize allOf n ls = all at *
  go_enter Try.func41, Try.ntmps41
  go_wp2_with fail
  refine HAL.out.mono ?_
  rintro e w1 ⟨Av, cv, rfl, hra, hab, hb⟩
  have HRA := Lib.hid hra
  have HB1 := Lib.hid hb
  have hlv := (RdR.len hra).2
  have hsz1 := hb.size
  clear hra hb HAL hab
  go_wp2_with (at_make; refine wp_make_ints _ rfl _ _ 25 rfl w1.heap.size Try.underlying25 info3 n rfl rfl ?q1 ?q2 ?_)
  case q1 => omega
  case q2 => exact Nat.le_refl _
  intro w2 HO2' HG2'
  have HO2 := Lib.hid HO2'
  have HG2 := Lib.hid HG2'
  clear HO2' HG2'
  go_wp2_with fail
  go_loopg [10] n (fun gg s10 wr => ∃ kk : Nat, 1 ≤ kk ∧ kk ≤ n ∧ n - kk ≤ gg ∧ s10 = .int .i64 kk ∧ Hid (V.Own wr w1.heap.size w1.heap.size n ((List.replicate kk last ++ List.replicate (n - kk) 0).set 0 0)) ∧ Hid (w1.grownBy wr none))
  case atStart =>
    refine ⟨1, by omega, by omega, by omega, rfl, Lib.hid ?_, HG2⟩
    have e : (List.replicate 1 last ++ List.replicate (n - 1) 0).set 0 0 = List.replicate n 0 := by
      obtain ⟨m, rfl⟩ : ∃ m, n = m + 1 := ⟨n - 1, by omega⟩
      simp [List.replicate_succ]
    rw [e]; exact HO2.out
  case round =>
    clear HO2 HG2
    obtain ⟨kk, hk1, hkk, hg, rfl, HO2, HG2⟩ := hrel
    by_cases hlt : kk < n
    · have hget : ((List.replicate kk last ++ List.replicate (n - kk) 0).set 0 0)[kk]? = some 0 := by
        rw [List.getElem?_set_ne (by omega), List.getElem?_append_right (by simp), List.length_replicate, Nat.sub_self, List.getElem?_replicate, if_pos (by omega)]
      have ⟨c1, f1⟩ := V.Own.at HO2.out hget
      clear hget
      go_wp2
      go_roundg (n - (kk + 1))
      case measure => omega
      case rel =>
        refine ⟨kk + 1, by omega, by omega, by omega, by go_num, Lib.hid ?_, Lib.hid ?_⟩
        · have := V.Own.set HO2.out kk last
          rw [List.set_comm _ _ (by omega), List.set_append_right _ _ (by simp), List.length_replicate, Nat.sub_self, show n - kk = (n - (kk + 1)) + 1 by omega, List.replicate_succ, List.set_cons_zero] at this
          rw [List.replicate_succ', List.append_assoc]
          exact this
        · exact gb_set HG2.out _ (.inr (Nat.le_refl _)) _
    · obtain rfl : n = kk := by omega
      have HO3 : Hid (V.Own wr w1.heap.size w1.heap.size n (startL n last)) := Lib.hid (by have := HO2.out; unfold startL; simpa using this)
      clear hlt hkk hg HO2
      go_wp2_with fail
      go_loopg [11, 12, 13, 14] (n + 1) (fun gg s11 s12 s13 s14 wq => ∃ r : Nat, r ≤ n + 1 ∧ n + 1 - r ≤ gg ∧ s11 = .int .i64 r ∧ Hid (∀ j, j < r → (roundL all (iterL all j (startL n last))).ch = true) ∧ Hid (BdL n (100000000 * r) (iterL all r (startL n last))) ∧ Hid (V.Own wq w1.heap.size w1.heap.size n (iterL all r (startL n last))) ∧ Hid (w1.grownBy wq none))
      case atStart =>
        refine ⟨0, Nat.zero_le _, by omega, rfl, Lib.hid (fun j hj => by omega), Lib.hid ⟨startL_len _ _, fun x hx => ?_⟩, HO3, HG2⟩
        have hx' : x ∈ startL n last := hx
        unfold startL at hx'
        rcases List.mem_or_eq_of_mem_set hx' with hx' | rfl
        · have := List.eq_of_mem_replicate hx'
          omega
        · omega
      case round =>
        obtain ⟨wo, rfl⟩ : ∃ wo : World, wo = wr := ⟨_, rfl⟩
        obtain ⟨r, hr, hg, rfl, HCH, HBD, HO4, HG4⟩ := hrel
        clear HO3 HG2
        have hlr := iterL_len (all := all) (startL_len n last) r
        have HIT : Hid (∀ r', r' = r + 1 → iterL all r' (startL n last) = (roundL all (iterL all r (startL n last))).xs) := Lib.hid (fun r' h => by rw [h]; rfl)
        have HSR := Lib.hid (HSE.out r)
        have HCR := Lib.hid (fun h : (roundL all (iterL all r (startL n last))).ch = true => (fun j hj => by
          by_cases e : j = r
          · subst e; exact h
          · exact HCH.out j (by omega) : ∀ j, j < r + 1 → (roundL all (iterL all j (startL n last))).ch = true))
        generalize hX : iterL all r (startL n last) = X at *
        have HLR := Lib.hid hlr
        clear hX hlr
        by_cases hlt : r < n + 1
        · have hrt : decide ((r : Int) ≤ (n : Int)) = true := decide_eq_true (by omega)
          have hrt2 : decide (r ≤ n) = true := decide_eq_true (by omega)
          go_wp2_with fail
          go_loopg [12, 13, 14] all.length (fun gg s12 s13 s14 wq => ∃ kk : Nat, kk ≤ all.length ∧ all.length - kk ≤ gg ∧ s13 = .int .i64 kk ∧ s12 = .bool (!(partL all kk ⟨X, false⟩).ch) ∧ Hid (BdL n (100000000 * r + 1000000 * kk) (partL all kk ⟨X, false⟩).xs) ∧ Hid (V.Own wq w1.heap.size w1.heap.size n (partL all kk ⟨X, false⟩).xs) ∧ Hid (w1.grownBy wq none))
          case atStart => exact ⟨0, Nat.zero_le _, by omega, rfl, rfl, Lib.hid (by have := HBD.out; simpa [partL] using this), HO4, HG4⟩
          case round =>
            obtain ⟨wp, rfl⟩ : ∃ wp : World, wp = wr := ⟨_, rfl⟩
            clear HO4 HG4
            obtain ⟨kk, hkk, hg', rfl, rfl, HB6, HO6, HG6⟩ := hrel
            by_cases hlt2 : kk < all.length
            · have hx := getDt hlt2
              have hok := HV.out _ (List.mem_of_getElem? hx)
              simp only [Int.toNat_natCast] at hok
              have hstep := partL_succ all kk ⟨X, false⟩ _ hx
              generalize all.getD kk z3 = x at hx hok hstep
              have HST := Lib.hid hstep
              have HX := Lib.hid hx
              clear hstep
              obtain ⟨a1, a2, b1, b2, c1, c2⟩ := okLk_out hok
              have HOK := Lib.hid hok
              clear hok
              obtain ⟨b, off, rfl, hb, l0, l1, l2⟩ := Rd.t3 HRA.out kk x hx
              replace l0 := (World.cell?_of_block (w := w1) (a := ⟨b, off + kk * 3, none⟩) (HG6.out.block b hb (by simp))).trans l0
              replace l1 := (World.cell?_of_block (w := w1) (a := ⟨b, off + kk * 3 + 1, none⟩) (HG6.out.block b hb (by simp))).trans l1
              replace l2 := (World.cell?_of_block (w := w1) (a := ⟨b, off + kk * 3 + 2, none⟩) (HG6.out.block b hb (by simp))).trans l2
              have hbw := Nat.lt_of_lt_of_le hb HG6.out.size
              have hlen := HB6.out.1
              generalize hP : partL all kk ⟨X, false⟩ = P at *
              obtain ⟨px, pc⟩ := P
              have HP := Lib.hid hP
              clear hP
              simp only at HO6 hlen HST HB6
              have hga := getD_get (xs := px) (j := x.a.toNat) (by omega)
              have hgb := getD_get (xs := px) (j := x.b.toNat) (by omega)
              have hba := HB6.out.2 _ (getD_mem (xs := px) (j := x.a.toNat) (by omega))
              have hbb := HB6.out.2 _ (getD_mem (xs := px) (j := x.b.toNat) (by omega))
              have hlow := lower_bd (s := ⟨px, pc⟩) (by omega) HB6.out HOK.out
              rw [← HST.out] at hlow
              have HLOW := Lib.hid hlow
              clear hlow
              simp only [lower] at HST
              generalize px.getD x.a.toNat 0 = va at hga hba HST
              generalize px.getD x.b.toNat 0 = vb at hgb hbb HST
              have ⟨ca, fa⟩ := V.Own.at HO6.out hga
              have ⟨cb, fb⟩ := V.Own.at HO6.out hgb
              have hgq : w1.heap.size < wp.heap.size := by obtain ⟨_, _, h, _⟩ := HO6.out.blk; exact h
              obtain ⟨ba1, ba2⟩ := hba
              obtain ⟨bb1, bb2⟩ := hbb
              clear hga hgb hx
              by_cases hlt3 : vb - x.c < va
              · rw [if_pos hlt3] at HST
                go_wp2_with fail
                go_quiet (fail)
                go_wp2_with fail
                have hbq : Below wp.heap.size wp ((wp.alloc (.cells #[.int .i64 x.a, .int .i64 x.b, .int .i64 x.c] 58)).drewN nq) := below_drewN (below_al (below_rf wp) _) nq
                have bx : ((wp.alloc (.cells #[.int .i64 x.a, .int .i64 x.b, .int .i64 x.c] 58)).drewN nq).heap[wp.heap.size]? = some (.cells #[.int .i64 x.a, .int .i64 x.b, .int .i64 x.c] 58 (0, 0)) := blk_new wp _
                have HO6q : Hid (V.Own ((wp.alloc (.cells #[.int .i64 x.a, .int .i64 x.b, .int .i64 x.c] 58)).drewN nq) w1.heap.size w1.heap.size n px) := Lib.hid ((HO6.out.alloc _).drewN _)
                have HG6q : Hid (w1.grownBy ((wp.alloc (.cells #[.int .i64 x.a, .int .i64 x.b, .int .i64 x.c] 58)).drewN nq) none) := Lib.hid (gb_drewN (gb_alloc HG6.out _) _)
                generalize (wp.alloc (.cells #[.int .i64 x.a, .int .i64 x.b, .int .i64 x.c] 58)).drewN nq = wq at *
                have x0 := cell_of_blk bx 0
                have x1 := cell_of_blk bx 1
                have x2 := cell_of_blk bx 2
                simp only [List.getElem?_toArray, List.getElem?_cons_succ, List.getElem?_cons_zero] at x0 x1 x2
                have ca2 := (hbq.cell (p := ⟨w1.heap.size, x.a.toNat, none⟩) hgq).trans ca
                have cb2 := (hbq.cell (p := ⟨w1.heap.size, x.b.toNat, none⟩) hgq).trans cb
                have hgx := getD_get (xs := px) (j := x.a.toNat) (by omega)
                have fa2 := (V.Own.at HO6q.out hgx).2
                clear hbq bx HO6 HG6 l0 l1 l2 ca cb fa fb hgx
                go_cut [] (fun wz => wz = wq.drew.setCell ⟨w1.heap.size, x.a.toNat, none⟩ (.int .i64 (vb - x.c)))
                case first =>
                  go_region
                  all_goals (go_wp2_with fail; go_meet)
                  all_goals rfl
                case rest =>
                  subst hcut
                  go_wp2_with fail
                  go_roundg (all.length - (kk + 1))
                  case measure => omega
                  case rel =>
                    refine ⟨kk + 1, by omega, by omega, by go_num, by rw [HST.out]; rfl, Lib.hid ?_, Lib.hid ?_, Lib.hid ?_⟩
                    · have := HLOW.out
                      have e : (100000000 * (r : Int) + 1000000 * ((kk + 1 : Nat) : Int)) = 100000000 * (r : Int) + 1000000 * (kk : Int) + 1000000 := by omega
                      rw [e]; exact this
                    · rw [HST.out]
                      exact (HO6q.out.drewN 1).set _ _
                    · exact gb_set (gb_drew HG6q.out) ⟨w1.heap.size, x.a.toNat, none⟩ (.inr (Nat.le_refl _)) (.int .i64 (vb - x.c))
              · rw [if_neg hlt3] at HST
                go_wp2_with fail
                go_quiet (fail)
                go_wp2
                go_roundg (all.length - (kk + 1))
                case measure => omega
                case rel =>
                  refine ⟨kk + 1, by omega, by omega, by go_num, by rw [HST.out], Lib.hid ?_, Lib.hid ?_, Lib.hid ?_⟩
                  · have := HLOW.out
                    have e : (100000000 * (r : Int) + 1000000 * ((kk + 1 : Nat) : Int)) = 100000000 * (r : Int) + 1000000 * (kk : Int) + 1000000 := by omega
                    rw [e]; exact this
                  · rw [HST.out]
                    exact ((HO6.out.alloc _).drewN _)
                  · exact (gb_drewN (gb_alloc HG6.out _) _)
            · obtain rfl : kk = all.length := by omega
              have hrd : roundL all X = partL all all.length ⟨X, false⟩ := rfl
              have hsame := fun h : (roundL all X).ch = false => (roundL_same h).1
              rw [hrd] at HSR HCR HIT hsame
              generalize partL all all.length ⟨X, false⟩ = P at *
              obtain ⟨px, pc⟩ := P
              simp only at HB6 HO6 HSR HCR HIT hsame
              have HSA := Lib.hid hsame
              have hl1' := HB6.out.1
              clear hrd hsame hlt2
              cases pc
              · have hpx := HSA.out rfl
                injection hpx with hpx _
                subst hpx
                obtain ⟨hz1, hz2⟩ := HSR.out rfl
                have hz := getD_get (xs := px) (j := 0) (by omega)
                have ⟨cz, _⟩ := V.Own.at HO6.out hz
                have HZ1 := Lib.hid hz1
                have HZ2 := Lib.hid hz2
                clear hz1 hz2 hz
                generalize px.getD 0 0 = z at *
                go_wp2_with fail
                go_quiet (fail)
                go_wp2_with fail
                go_ret2
                refine ⟨some ⟨w1.heap.size, 0, none⟩, n, n, by rw [HZ1.out]; rfl, fun _ => ⟨rfl, ?_⟩, below_drewN (below_then HB1.out HB1.out.size (below_of HG6.out)) _⟩
                have hrd := (HO6.out.drewN nq).rd
                rw [hl1', HZ2.out] at hrd
                exact hrd
              · go_wp2_with fail
                go_roundg (n + 1 - (r + 1))
                case measure => omega
                case rel =>
                  refine ⟨r + 1, by omega, by omega, by go_num, Lib.hid (HCR.out (by trivial)), Lib.hid ?_, Lib.hid ?_, HG6⟩
                  · rw [HIT.out _ rfl]
                    obtain ⟨q1, q3⟩ := HB6.out
                    exact ⟨q1, fun x hx => by have := q3 x hx; omega⟩
                  · rw [HIT.out _ rfl]
                    exact HO6.out
        · obtain rfl : r = n + 1 := by omega
          have hrt : decide ((((n + 1 : Nat) : Int)) ≤ (n : Int)) = false := decide_eq_false (by omega)
          have hRf : R = false := HNE.out (fun j hj => HCH.out j (by omega))
          subst hRf
          go_wp2
          go_ret2
          refine ⟨⟨none, 0, 0, rfl⟩, below_then HB1.out HB1.out.size (below_of HG4.out)⟩
end Go.Proofs.Ytpknonebnipcgaa.Rl
