import Derived.Test.YtpknonebnipcgaaProg
import Derived.WalkKit
import Derived.KernelRfl
import Derived.Deep.LoopGhost
import Derived.Deep.QuietTactic
import Derived.BigQuiet
import Derived.Deep.DeepCutAuto
import Derived.Deep.CutBlock
import Derived.Deep.RegionHeld3
import Derived.WalkLawsBesides
import Derived.WalkSpells
import Derived.Outline
import Derived.Deep.DeepFit
import Derived.Lib.Hide
import Derived.Shelf.Abstract
import Derived.RangeFuncFrom
import Derived.RangeFuncLeaves
import Derived.OwnWalkIn
import Derived.TacticsInMore
import Derived.LoopNIn
import Derived.LoopIn
import Derived.Sort.LoopGhostIn
import Derived.Sort.QuietIn
import Derived.Test.YtpknonebnipcgaaR
import Derived.Test.YtpknonebnipcgaaSp

namespace Go.Proofs.Ytpknonebnipcgaa.Sg
open Go.RowKit Go.Shelf Go.Proofs.Ytpknonebnipcgaa.V Go.Proofs.Ytpknonebnipcgaa.A Go.Proofs.Ytpknonebnipcgaa.B Go.Proofs.Ytpknonebnipcgaa.C Go.Proofs.Ytpknonebnipcgaa.P Go.Proofs.Ytpknonebnipcgaa.D Go.Proofs.Ytpknonebnipcgaa.E Go.Proofs.Ytpknonebnipcgaa.G Go.Proofs.Ytpknonebnipcgaa.H Go.Proofs.Ytpknonebnipcgaa.I Go.Proofs.Ytpknonebnipcgaa.J Go.Proofs.Ytpknonebnipcgaa.K Go.Proofs.Ytpknonebnipcgaa.L Go.Proofs.Ytpknonebnipcgaa.M Go.Proofs.Ytpknonebnipcgaa.N Go.Proofs.Ytpknonebnipcgaa.S Go.Proofs.Ytpknonebnipcgaa.Sp Go.Proofs.Ytpknonebnipcgaa.X
set_option linter.unusedVariables false
set_option linter.unusedSimpArgs false
attribute [local go_sem] Oper.semAt_some

/-! ### all cells of W0's blocks lie as they lay -/
theorem cell_cells {W : World} {a : Addr} {u : Value} (h : W.cell? a = some u) : ∃ o, W.heap[a.block]? = some o ∧ o.isCells = true := by
  unfold World.cell? at h
  split at h
  · rename_i c t f e
    exact ⟨_, e, rfl⟩
  · cases h
def KO (W0 W : World) : Prop := W0.heap.size ≤ W.heap.size ∧ ∀ (k : Nat) (o : Obj), W0.heap[k]? = some o → o.isCells = true → W.heap[k]? = some o
theorem KO.cell {W0 W : World} (h : KO W0 W) {a : Addr} {u : Value} (hc : W0.cell? a = some u) : W.cell? a = some u := by
  obtain ⟨o, h1, h2⟩ := cell_cells hc
  have h3 := h.2 _ o h1 h2
  unfold World.cell? at hc ⊢
  rw [h3]
  rw [h1] at hc
  exact hc
theorem KO.rd {α : Type} {k : Nat} {enc : α → List Value} {W0 W : World} {v : Value} {xs : List α} (h : KO W0 W) (hr : Rd k enc W0 v xs) : Rd k enc W v xs := by
  obtain ⟨A, c, rfl, h1, h2, h3, hc⟩ := hr
  refine ⟨A, c, rfl, h1, h2, h3, fun j x hx => ?_⟩
  obtain ⟨b, off, cs, rfl, hb, hr2, hcell⟩ := hc j x hx
  exact ⟨b, off, cs, rfl, Nat.lt_of_lt_of_le hb h.1, hr2, fun i u hu => h.cell (hcell i u hu)⟩
theorem KO.rdw {W0 W : World} {v : Value} {xs : List WayT} (h : KO W0 W) (hr : RdW W0 v xs) : RdW W v xs := by
  obtain ⟨A, c, rfl, h1, h2, h3, hc⟩ := hr
  refine ⟨A, c, rfl, h1, h2, h3, fun j x hx => ?_⟩
  obtain ⟨b, off, cs, rfl, hb, ⟨v, hv, hr2⟩, hcell⟩ := hc j x hx
  exact ⟨b, off, cs, rfl, Nat.lt_of_lt_of_le hb h.1, ⟨v, hv, h.rd hr2⟩, fun i u hu => h.cell (hcell i u hu)⟩
theorem KO.of_below {W0 W : World} (h : Below W0.heap.size W0 W) : KO W0 W := ⟨h.size, fun k o hk _ => blk_below hk h⟩
theorem KO.grown {W0 W W' : World} (h : KO W0 W) {row : Option Nat} (hg : W.grownBy W' row) (hr : ∀ r, row = some r → W0.heap.size ≤ r) : KO W0 W' :=
  ⟨Nat.le_trans h.1 hg.size, fun k o hk hc => blk_grown (h.2 k o hk hc) hg (fun e => by have := hr k e.symm; have := blk_lt hk; omega)⟩
theorem KO.below {W0 W W' : World} (h : KO W0 W) (hb : Below W.heap.size W W') : KO W0 W' := h.grown (grown_of hb none) (fun r e => by cases e)
theorem KO.kp {W0 W W' : World} {t : Nat} (h : KO W0 W) (hk : KpC t W W') (ht : W0.heap.size ≤ t) : KO W0 W' :=
  ⟨Nat.le_trans h.1 hk.1, fun k o hk0 hc => hk.2 k o (by have := blk_lt hk0; omega) (h.2 k o hk0 hc) hc⟩
theorem own_kp {W W' : World} {t base g cap : Nat} {xs : List Int} (h : V.Own W base g cap xs) (hk : KpC t W W') (hg : g ≠ t) : V.Own W' base g cap xs := by
  refine ⟨h.1, ?_⟩
  rcases h.2 with ⟨h1, h2⟩ | ⟨g', cap', cur, e, hb, hh, h1, h2, h3, h4⟩
  · exact .inl ⟨h1, h2⟩
  · injection e with e1 e2 e3
    injection e1 with e1
    injection e1 with e1
    subst e1 e3
    exact .inr ⟨g, cap, cur, rfl, hb, hk.2 _ _ hg hh rfl, h1, h2, h3, h4⟩

/-- what is handed to the body -/
def handN (p : PlanT) (N0 : Nat) (pre : List (Value × List Int)) (x : Value × List Int) (W : World) : Prop := nthC p pre.length = some x.2 ∧ (∃ g, N0 ≤ g ∧ x.1 = .slice (some ⟨g, 0, none⟩) p.roads.length p.roads.length) ∧ RdI W x.1 x.2

set_option maxRecDepth 100000 in
set_option maxHeartbeats 8000000 in
theorem choices_all (n : Nat) (hn : 1 ≤ n) (p : PlanT) (hlen : 1 ≤ p.roads.length ∧ p.roads.length ≤ 60) (Ar : Option Addr) (cr bp t N : Nat) (W0 w0 : World)
    (hbp : w0.heap[bp]? = some (.cells #[.int .i64 p.cars, .int .i64 p.first, .slice Ar p.roads.length cr] 38 (0, 0))) (hbt : bp ≠ t) (hR : RdW W0 (.slice Ar p.roads.length cr) p.roads) (hKO : KO W0 w0) (ht : W0.heap.size ≤ t) (htl : t < w0.heap.size) :
    SeqStopsT Fence.wide n Try.prog 96 #[.pointer (some ⟨bp, 0, none⟩)] (fun x : Value × List Int => #[x.1]) (handN p w0.heap.size) (KpC t) (fun xs => nthC p xs.length = none) (fun _ => True) N w0 := by
  intro l J Jx W hW hJ hJx hN hY h0
  have hb := blk_below hbp hW
  have hWs := hW.size
  have hkw := hKO.below hW
  have hRW := hkw.rdw hR
  have p2 := cell_of_blk hb 2
  simp only [List.getElem?_toArray, List.getElem?_cons_succ, List.getElem?_cons_zero] at p2
  have hll := (RdR.len hRW).2
  have HR := Lib.hid hRW
  have HR0 := Lib.hid hR
  have HB := Lib.hid hb
  have HKW := Lib.hid hkw
  clear hb hbp hR hRW hW hkw hKO
  obtain ⟨l1, l2⟩ := hlen
  refine callsIn_of_wp Try.func96 rfl trivial ?_ rfl
  simp only [Try.ntmps96, List.size_toArray, List.length_cons, List.length_nil, Nat.reduceAdd, Nat.reduceSub, Array.replicate_succ, Array.replicate_zero, List.push_toArray, List.append_toArray, List.nil_append, List.cons_append]
  gi_wp2_with (gi_at_make; refine wpIn_make_ints _ rfl _ _ 25 rfl W.heap.size Try.underlying25 info3 p.roads.length rfl rfl ?q1 ?q2 ?_)
  · omega
  intro W2 hO2 hg2
  have hO0 : Hid (V.Own W2 W.heap.size W.heap.size p.roads.length (firstK p 0)) := Lib.hid hO2
  have hJ0 : Hid (J [] W2) := Lib.hid (hJ _ _ _ none h0 hg2 (fun r e => by cases e))
  have hB0 : Hid (Below W.heap.size W W2) := Lib.hid (below_of hg2)
  have p2' := (hB0.out.cell (p := ⟨bp, 2, none⟩) (blk_lt HB.out)).trans p2
  have hbpl := blk_lt HB.out
  have HJ := Lib.hid hJ
  have HY := Lib.hid hY
  have HN := Lib.hid hN
  have HJX := Lib.hid hJx
  clear p2 hO2 hg2 h0 hJ hY hN hJx
  gi_wp2
  clear p2'
  gi_loopw [4, 5, 14] (fun _ _ s14 wr => ∃ k : Nat, k ≤ p.roads.length ∧ s14 = .int .i64 k ∧ Hid (J [] wr) ∧ Hid (V.Own wr W.heap.size W.heap.size p.roads.length (firstK p k)) ∧ Hid (Below W.heap.size W wr))
    (fun _ _ s14 _ => p.roads.length - (intOf s14).toNat)
  case atStart => exact ⟨0, Nat.zero_le _, rfl, hJ0, hO0, hB0⟩
  case round =>
    clear hJ0 hO0 hB0
    obtain ⟨k, hk, rfl, HJs, HO, HBW⟩ := hrel
    by_cases hlt : k < p.roads.length
    · have hx := getD_w hlt
      obtain ⟨b, off, Ah, c', rfl, hb0, hh, d0, d1, d2, d3, d4, d5, d6, d7⟩ := Rd.way HR.out k _ hx
      have hbl0 := HBW.out
      replace d0 := (hbl0.cell (p := ⟨b, off + k * 8, none⟩) hb0).trans d0
      replace d1 := (hbl0.cell (p := ⟨b, off + k * 8 + 1, none⟩) hb0).trans d1
      replace d2 := (hbl0.cell (p := ⟨b, off + k * 8 + 2, none⟩) hb0).trans d2
      replace d3 := (hbl0.cell (p := ⟨b, off + k * 8 + 3, none⟩) hb0).trans d3
      replace d4 := (hbl0.cell (p := ⟨b, off + k * 8 + 4, none⟩) hb0).trans d4
      replace d5 := (hbl0.cell (p := ⟨b, off + k * 8 + 5, none⟩) hb0).trans d5
      replace d6 := (hbl0.cell (p := ⟨b, off + k * 8 + 6, none⟩) hb0).trans d6
      replace d7 := (hbl0.cell (p := ⟨b, off + k * 8 + 7, none⟩) hb0).trans d7
      have hhl := (RdR.len hh).2
      have HFS : Hid (firstK p (k + 1) = if (p.roads.getD k zw).hrs.length = 0 then (firstK p k).set k (-1) else firstK p k) := Lib.hid rfl
      have hrow : W.heap.size < wr.heap.size := by obtain ⟨_, _, h, _⟩ := HO.out.blk; exact h
      have hne : W.heap.size ≠ wr.heap.size := by omega
      have hat := HO.out.at (getD_i (xs := firstK p k) (j := k) (by rw [firstK_len]; exact hlt))
      obtain ⟨hat1, hat2⟩ := hat
      clear hh hx hbl0
      generalize p.roads.getD k zw = x at *
      by_cases hz : x.hrs.length = 0
      · have hz1 : (((x.hrs.length : Nat) : Int) == 0) = true := by simp [hz]
        gi_wp2
        go_roundw
        case measure => simp [intOf]; omega
        case rel =>
          refine ⟨k + 1, by omega, by go_num, Lib.hid ?_, Lib.hid ?_, Lib.hid ?_⟩
          · exact HJ.out _ _ _ none (HJ.out _ _ _ (some W.heap.size) HJs.out (grown_set wr W.heap.size k (.int .i64 (-1))) (fun r e => by cases e; exact Nat.le_refl _)) (World.grownBy_alloc _ _ none) (fun r e => by cases e)
          · rw [HFS.out, if_pos hz]
            exact (HO.out.set k (-1)).alloc _
          · exact (HBW.out.setCell (p := ⟨W.heap.size, k, none⟩) (Nat.le_refl _) _).alloc (by show W.heap.size ≤ (wr.setCell _ _).heap.size; rw [show (wr.setCell ⟨W.heap.size, k, none⟩ (.int .i64 (-1))).heap.size = wr.heap.size from by simp [World.setCell]]; exact HBW.out.size) _
      · have hz1 : (((x.hrs.length : Nat) : Int) == 0) = false := by rw [beq_eq_false_iff_ne]; omega
        gi_wp2
        go_roundw
        case measure => simp [intOf]; omega
        case rel =>
          refine ⟨k + 1, by omega, by go_num, Lib.hid ?_, Lib.hid ?_, Lib.hid ?_⟩
          · exact HJ.out _ _ _ none HJs.out (World.grownBy_alloc _ _ none) (fun r e => by cases e)
          · rw [HFS.out, if_neg hz]
            exact HO.out.alloc _
          · exact HBW.out.alloc (by omega) _
    · obtain rfl : k = p.roads.length := by omega
      have HK1 := Lib.hid (HKW.out.below HBW.out)
      have HB1 := Lib.hid (blk_below HB.out HBW.out)
      have HOK := Lib.hid (first_ok p)
      gi_wp2
      gi_loopg [] (N + 1) (fun gg wr => ∃ (pre : List (Value × List Int)) (ch : List Int), N + 1 - pre.length ≤ gg ∧ Hid (nthC p pre.length = some ch) ∧ Hid (J pre wr) ∧ Hid (V.Own wr W.heap.size W.heap.size p.roads.length ch) ∧ Hid (KO W0 wr) ∧ Hid (wr.heap[bp]? = some (.cells #[.int .i64 p.cars, .int .i64 p.first, .slice Ar p.roads.length cr] 38 (0, 0))))
      case atStart => exact ⟨[], _, by simp, Lib.hid rfl, HJs, HO, HK1, HB1⟩
      case round =>
        clear HJs HO HBW HK1 HB1 HOK
        obtain ⟨pre, ch, hgg, HNT, HJs, HO, HK1, HB1⟩ := hrel
        have hok := nth_ok HNT.out
        have HOK := Lib.hid hok
        have hcl := hok.1
        have hpn := HN.out _ _ HJs.out
        have hrd := HO.out.rd
        rw [hcl] at hrd
        obtain ⟨fn, tmps, assign, body, hy, hR⟩ := HY.out pre (.slice (some ⟨W.heap.size, 0, none⟩) p.roads.length p.roads.length, ch) wr ⟨HNT.out, ⟨_, hWs, rfl⟩, hrd⟩ HJs.out
        dsimp only at hy
        have HCL := Lib.hid hcl
        clear hrd hok hcl
        gi_wp2
        refine hR.mono ?_
        rintro e W' (⟨rfl, hJ', hk⟩ | ⟨rfl, hJx'⟩)
        · have ho' := own_kp HO.out hk (by omega)
          have hk' := HK1.out.kp hk ht
          have hb' := hk.2 _ _ hbt HB1.out rfl
          have hpn' := HN.out _ _ hJ'
          rw [List.length_append, List.length_singleton] at hpn'
          have hnx : nthC p (pre ++ [((.slice (some ⟨W.heap.size, 0, none⟩) p.roads.length p.roads.length, ch) : Value × List Int)]).length = nextC p ch := by
            rw [List.length_append, List.length_singleton]
            show (nthC p pre.length).bind (nextC p) = _
            rw [HNT.out]
            rfl
          generalize hpp : pre ++ [((.slice (some ⟨W.heap.size, 0, none⟩) p.roads.length p.roads.length, ch) : Value × List Int)] = pre' at *
          have hpl : pre'.length = pre.length + 1 := by rw [← hpp]; simp
          have HPL := Lib.hid hpl
          have HNX := Lib.hid hnx
          have HO' := Lib.hid ho'
          have HK' := Lib.hid hk'
          have HB' := Lib.hid hb'
          have HJ' := Lib.hid hJ'
          clear ho' hk' hb' hJ' hk hR hy HJs HO HK1 HB1 hpp hpl hnx HNT
          gi_wp2_with fail
          gi_loopg [6] p.roads.length (fun gg s6 wr => ∃ (j : Int) (c : List Int), -1 ≤ j ∧ j < p.roads.length ∧ (j + 1).toNat ≤ gg ∧ s6 = .int .i64 j ∧ Hid (nextC p ch = advC p (j + 1).toNat c) ∧ Hid (okC p c) ∧ Hid (J pre' wr) ∧ Hid (V.Own wr W.heap.size W.heap.size p.roads.length c) ∧ Hid (KO W0 wr) ∧ Hid (wr.heap[bp]? = some (.cells #[.int .i64 p.cars, .int .i64 p.first, .slice Ar p.roads.length cr] 38 (0, 0))))
          case atStart => exact ⟨(p.roads.length : Int) - 1, ch, by omega, by omega, by omega, by first | rfl | go_num, Lib.hid (by rw [show ((p.roads.length : Int) - 1 + 1).toNat = p.roads.length by omega]; rfl), HOK, HJ', HO', HK', HB'⟩
          case round =>
            clear HO' HK' HB' HJ' HOK
            obtain ⟨j, c, hj0, hj1, hg, rfl, HAD, HOC, HJs, HO, HK1, HB1⟩ := hrel
            by_cases hj : 0 ≤ j
            · obtain ⟨q, rfl⟩ : ∃ q : Nat, j = q := ⟨j.toNat, by omega⟩
              have hq : q < p.roads.length := by omega
              have hcl := HOC.out.1
              have hcq := HOC.out.2 q hq
              have hat := HO.out.at (getD_i (xs := c) (j := q) (by omega))
              obtain ⟨ca, fa⟩ := hat
              have p2 := cell_of_blk HB1.out 2
              simp only [List.getElem?_toArray, List.getElem?_cons_succ, List.getElem?_cons_zero] at p2
              have hRw := HK1.out.rdw HR0.out
              obtain ⟨b, off, Ah, c', rfl, hb0, hh, d0, d1, d2, d3, d4, d5, d6, d7⟩ := Rd.way hRw q _ (getD_w hq)
              have hhl := (RdR.len hh).2
              have hrow : W.heap.size < wr.heap.size := by obtain ⟨_, _, h, _⟩ := HO.out.blk; exact h
              rw [show ((q : Int) + 1).toNat = q + 1 by omega] at HAD
              have had : advC p (q + 1) c = if (nw p q : Int) - 1 ≤ c.getD q 0 then advC p q (backC c q) else some (c.set q (c.getD q 0 + 1)) := rfl
              rw [had] at HAD
              have HBC : Hid (backC c q = if 0 < c.getD q 0 then c.set q 0 else c) := Lib.hid rfl
              have HBO := Lib.hid (back_ok HOC.out hq)
              have hnw : nw p q = (p.roads.getD q zw).hrs.length := rfl
              rw [hnw] at HAD hcq
              clear hRw hh d0 d1 d2 d3 d4 d5 d6 had hcl hnw
              generalize (p.roads.getD q zw).hrs.length = hl at *
              obtain ⟨y, hy⟩ : ∃ y, c.getD q 0 = y := ⟨_, rfl⟩
              rw [hy] at ca hcq HAD HBC
              clear hy
              have hy1 : -1 ≤ y := by omega
              have hy2 : y < 9223372036854775807 := by omega
              have hne : W.heap.size ≠ bp := by have := hbpl; omega
              have HGR : Hid (∀ nq, wr.grownBy (wr.drewN nq) none) := Lib.hid (fun nq => gb_drewN (gb_refl wr none) nq)
              have hne2 : ∀ r, some W.heap.size = some r → W.heap.size ≤ r := fun r e => by injection e with e; omega
              have hKr : ∀ r, some W.heap.size = some r → W0.heap.size ≤ r := fun r e => by injection e with e; have := HKW.out.1; omega
              have HNE2 := Lib.hid hne2
              have HKR := Lib.hid hKr
              have HNB := Lib.hid hne
              clear hcq hne2 hKr hne
              by_cases e : (hl : Int) - 1 ≤ y
              · rw [if_pos e] at HAD
                gi_wp2_with fail
                gi_quiet (fail)
                by_cases e2 : 0 < y
                · rw [if_pos e2] at HBC
                  rw [HBC.out] at HAD HBO
                  gi_wp2_with fail
                  gi_roundg q
                  case measure => omega
                  case rel =>
                    refine ⟨(q : Int) - 1, c.set q 0, by omega, by omega, by omega, rfl, Lib.hid ?_, HBO, Lib.hid ?_, Lib.hid ?_, Lib.hid ?_, Lib.hid ?_⟩
                    · rw [show ((q : Int) - 1 + 1).toNat = q by omega]
                      exact HAD.out
                    · exact HJ.out _ _ _ (some W.heap.size) (HJ.out _ _ _ none HJs.out (HGR.out nq) (fun r e => by cases e)) (grown_set (wr.drewN nq) W.heap.size q (.int .i64 0)) HNE2.out
                    · exact (HO.out.drewN nq).set q 0
                    · exact (HK1.out.grown (HGR.out nq) (fun r e => by cases e)).grown (grown_set (wr.drewN nq) W.heap.size q (.int .i64 0)) HKR.out
                    · exact blk_grown (w := wr.drewN nq) HB1.out (grown_set (wr.drewN nq) W.heap.size q (.int .i64 0)) (fun e => HNB.out (Option.some.inj e).symm)
                · rw [if_neg e2] at HBC
                  rw [HBC.out] at HAD HBO
                  gi_wp2_with fail
                  gi_roundg q
                  case measure => omega
                  case rel =>
                    refine ⟨(q : Int) - 1, c, by omega, by omega, by omega, rfl, Lib.hid ?_, HBO, Lib.hid ?_, Lib.hid ?_, Lib.hid ?_, Lib.hid ?_⟩
                    · rw [show ((q : Int) - 1 + 1).toNat = q by omega]
                      exact HAD.out
                    · exact HJ.out _ _ _ none HJs.out (HGR.out nq) (fun r e => by cases e)
                    · exact HO.out.drewN nq
                    · exact HK1.out.grown (HGR.out nq) (fun r e => by cases e)
                    · exact HB1.out
              · rw [if_neg e] at HAD
                gi_wp2_with fail
                gi_quiet (fail)
                gi_wp2_with fail
                gi_roundg (N + 1 - pre'.length)
                case measure => have := HPL.out; omega
                case rel =>
                  refine ⟨pre', c.set q (y + 1), Nat.le_refl _, Lib.hid ?_, Lib.hid ?_, Lib.hid ?_, Lib.hid ?_, Lib.hid ?_⟩
                  · rw [HNX.out, HAD.out]
                  · exact HJ.out _ _ _ (some W.heap.size) (HJ.out _ _ _ none HJs.out (HGR.out nq) (fun r e => by cases e)) (grown_set (wr.drewN nq) W.heap.size q (.int .i64 (y + 1))) HNE2.out
                  · exact (HO.out.drewN nq).set q (y + 1)
                  · exact (HK1.out.grown (HGR.out nq) (fun r e => by cases e)).grown (grown_set (wr.drewN nq) W.heap.size q (.int .i64 (y + 1))) HKR.out
                  · exact blk_grown (w := wr.drewN nq) HB1.out (grown_set (wr.drewN nq) W.heap.size q (.int .i64 (y + 1))) (fun e => HNB.out (Option.some.inj e).symm)
            · obtain rfl : j = -1 := by omega
              have HGR : Hid (∀ nq, wr.grownBy (wr.drewN nq) none) := Lib.hid (fun nq => gb_drewN (gb_refl wr none) nq)
              gi_wp2_with fail
              gi_quiet (fail)
              gi_wp2
              refine bodyPost_ret (results_none rfl _ _ _) rfl ?_
              exact ⟨⟨_, rfl⟩, .inl ⟨pre', by rw [HNX.out, HAD.out]; rfl, HJ.out _ _ _ none HJs.out (HGR.out _) (fun r e => by cases e)⟩⟩
        · gi_wp2
          refine bodyPost_ret (results_none rfl _ _ _) rfl ?_
          exact ⟨⟨_, rfl⟩, .inr ⟨_, trivial, hJx'⟩⟩
end Go.Proofs.Ytpknonebnipcgaa.Sg
