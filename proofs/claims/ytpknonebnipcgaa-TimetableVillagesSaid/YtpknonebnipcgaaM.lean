import Derived.Test.YtpknonebnipcgaaProg
import Derived.WalkKit
import Derived.KernelRfl
import Derived.Deep.LoopGhost
import Derived.Deep.QuietTactic
import Derived.BigQuiet
import Derived.Deep.DeepCutAuto
import Derived.Deep.CutBlock
import Derived.Deep.RegionHeld3
import Derived.WalkLawsBesides
import Derived.WalkSpells
import Derived.Outline
import Derived.Deep.DeepFit
import Derived.Lib.Hide
import Derived.Shelf.Abstract
import Derived.Lib.SliceRun
import Derived.Recover
import Derived.Test.YtpknonebnipcgaaK

namespace Go.Proofs.Ytpknonebnipcgaa.M
open Go.RowKit Go.Shelf Go.Proofs.Ytpknonebnipcgaa.V Go.Proofs.Ytpknonebnipcgaa.A Go.Proofs.Ytpknonebnipcgaa.B Go.Proofs.Ytpknonebnipcgaa.C Go.Proofs.Ytpknonebnipcgaa.P Go.Proofs.Ytpknonebnipcgaa.D Go.Proofs.Ytpknonebnipcgaa.E Go.Proofs.Ytpknonebnipcgaa.G Go.Proofs.Ytpknonebnipcgaa.H Go.Proofs.Ytpknonebnipcgaa.I Go.Proofs.Ytpknonebnipcgaa.J Go.Proofs.Ytpknonebnipcgaa.K
set_option linter.unusedVariables false
set_option linter.unusedSimpArgs false

/-- a rule: the beginning; behind the road j; the closing of the road j, with a window that lies at q -/
inductive RuleT where
  | beg (f : Int)
  | aft (j : Int)
  | clo (j : Int) (q : Option (Nat × Nat))
def ptrQ : Option (Nat × Nat) → Option Addr
  | none => none
  | some (b, o) => some ⟨b, o, none⟩
def RuleT.v : RuleT → Value
  | .beg f => .iface 144 (.agg #[.int .i64 f])
  | .aft j => .iface 146 (.agg #[.int .i64 j])
  | .clo j q => .iface 149 (.agg #[.int .i64 j, .pointer (ptrQ q)])
def encU (r : RuleT) : List Value := [r.v]
theorem u_len (x : RuleT) : (encU x).length = 1 := rfl
theorem u_one (x : RuleT) : ∀ u ∈ encU x, u.oneCell' = true := by
  intro u hu
  simp [encU] at hu
  subst hu
  cases x <;> rfl
theorem info133 : (Try.prog.info? 133).map (fun i => (i.zero, i.size, i.bytes)) = some (some .nilIface, 1, 16) := by kernel_rfl

def rulesK (f : Int) (qs : Nat → Option (Nat × Nat)) : Nat → List RuleT
  | 0 => [.beg f]
  | k + 1 => rulesK f qs k ++ [.aft ((k : Int) + 1), .clo k (qs k)]
theorem rulesK_len (f : Int) (qs : Nat → Option (Nat × Nat)) : ∀ k, (rulesK f qs k).length = 1 + 2 * k
  | 0 => rfl
  | k + 1 => by simp only [rulesK, List.length_append, rulesK_len f qs k, List.length_cons, List.length_nil]; omega
theorem rulesK_congr {f : Int} {qs qs' : Nat → Option (Nat × Nat)} : ∀ {k : Nat}, (∀ j, j < k → qs j = qs' j) → rulesK f qs k = rulesK f qs' k
  | 0, _ => rfl
  | k + 1, h => by simp only [rulesK]; rw [rulesK_congr (fun j hj => h j (by omega)), h k (by omega)]

theorem rulesK_flat (f : Int) (qs : Nat → Option (Nat × Nat)) (k : Nat) : (rulesK f qs (k + 1)).flatMap encU = (rulesK f qs k).flatMap encU ++ encU (.aft ((k : Int) + 1)) ++ encU (.clo k (qs k)) := by
  simp [rulesK, List.flatMap_append, List.flatMap_cons]

/-- where the chosen window lies -/
def winOk (p : PlanT) (ch : List Int) (w : World) (j : Nat) (q : Option (Nat × Nat)) : Prop :=
  (ch.getD j 0 < 0 ∧ q = none) ∨ (0 ≤ ch.getD j 0 ∧ ∃ b o h, q = some (b, o) ∧ (p.roads.getD j zw).hrs[(ch.getD j 0).toNat]? = some h ∧ b < w.heap.size ∧
    w.cell? ⟨b, o, none⟩ = some (.int .i64 h.a) ∧ w.cell? ⟨b, o + 1, none⟩ = some (.int .i64 h.b) ∧ w.cell? ⟨b, o + 2, none⟩ = some (.int .i64 h.c))

/-- the windows that a choice names are there -/
def chOk (p : PlanT) (ch : List Int) : Prop := ch.length = p.roads.length ∧ ∀ j, j < p.roads.length → ch.getD j 0 < (p.roads.getD j zw).hrs.length
theorem winOk.below {p : PlanT} {ch : List Int} {w W : World} {j : Nat} {q : Option (Nat × Nat)} (h : winOk p ch w j q) (hb : Below w.heap.size w W) : winOk p ch W j q := by
  rcases h with h | ⟨h0, b, o, h, e1, e2, e3, e4, e5, e6⟩
  · exact .inl h
  · exact .inr ⟨h0, b, o, h, e1, e2, Nat.lt_of_lt_of_le e3 hb.size, (hb.cell (p := ⟨b, o, none⟩) e3).trans e4, (hb.cell (p := ⟨b, o + 1, none⟩) e3).trans e5, (hb.cell (p := ⟨b, o + 2, none⟩) e3).trans e6⟩

/-- where the window of the road j lies, if there is one -/
theorem win_at (p : PlanT) (ch : List Int) (hch : chOk p ch) (Ar : Option Addr) (cr : Nat) (w : World) (hR : RdW w (.slice Ar p.roads.length cr) p.roads) (j : Nat) (hj : j < p.roads.length) : ∃ q, winOk p ch w j q ∧
    (0 ≤ ch.getD j 0 → ∃ b off bh oh ch' , Ar = some ⟨b, off, none⟩ ∧ w.cell? ⟨b, off + j * 8 + 7, none⟩ = some (.slice (some ⟨bh, oh, none⟩) (p.roads.getD j zw).hrs.length ch') ∧ q = some (bh, oh + (ch.getD j 0).toNat * 3)) := by
  by_cases h0 : ch.getD j 0 < 0
  · exact ⟨none, .inl ⟨h0, rfl⟩, fun h => by omega⟩
  · obtain ⟨b, off, Ah, c', hA, hb, hh, _, _, _, _, _, _, _, d7⟩ := Rd.way hR j _ (getD_w hj)
    have hlt := hch.2 j hj
    have hg : (p.roads.getD j zw).hrs[(ch.getD j 0).toNat]? = some (p.roads.getD j zw).hrs[(ch.getD j 0).toNat] := List.getElem?_eq_getElem (by omega)
    obtain ⟨bh, oh, rfl, e1, e2, e3, e4⟩ := Rd.t3 hh _ _ hg
    exact ⟨some (bh, oh + (ch.getD j 0).toNat * 3), .inr ⟨by omega, bh, _, _, rfl, hg, e1, e2, e3, e4⟩, fun _ => ⟨b, off, bh, oh, c', hA, d7, rfl⟩⟩

theorem getD_i {xs : List Int} {j : Nat} (h : j < xs.length) : xs[j]? = some (xs.getD j 0) := by
  rw [List.getD_eq_getElem?_getD, List.getElem?_eq_getElem h]; rfl

set_option maxHeartbeats 8000000 in
theorem rules98 (p : PlanT) (hP : PBd p) (Ar : Option Addr) (cr : Nat) (ch : List Int) (Ac : Option Addr) (cc : Nat) (w0 w : World) (hb0 : Below w0.heap.size w0 w) (hR : RdW w0 (.slice Ar p.roads.length cr) p.roads) (hC : RdI w (.slice Ac p.roads.length cc) ch) (hch : chOk p ch) :
    Calls Try.prog 98 #[.agg #[.int .i64 p.cars, .int .i64 p.first, .slice Ar p.roads.length cr], .slice Ac p.roads.length cc] w fun e w' =>
      ∃ (qs : Nat → Option (Nat × Nat)) (g c : Nat), e = .returned (.slice (some ⟨g, 0, none⟩) (1 + 2 * p.roads.length) c) ∧ (∀ j, j < p.roads.length → winOk p ch w0 j (qs j)) ∧
      Rd 1 encU w' (.slice (some ⟨g, 0, none⟩) (1 + 2 * p.roads.length) c) (rulesK p.first qs p.roads.length) ∧ Below w.heap.size w w' := by
  have hw := fun j hj => win_at p ch hch Ar cr w0 hR j hj
  obtain ⟨qs, hqs⟩ : ∃ qs : Nat → Option (Nat × Nat), ∀ j, j < p.roads.length → winOk p ch w0 j (qs j) ∧
      (0 ≤ ch.getD j 0 → ∃ b off bh oh ch' , Ar = some ⟨b, off, none⟩ ∧ w0.cell? ⟨b, off + j * 8 + 7, none⟩ = some (.slice (some ⟨bh, oh, none⟩) (p.roads.getD j zw).hrs.length ch') ∧ qs j = some (bh, oh + (ch.getD j 0).toNat * 3)) :=
    ⟨fun j => if h : j < p.roads.length then (hw j h).choose else none, fun j hj => by simp only [hj, dif_pos]; exact (hw j hj).choose_spec⟩
  have hlen := hP.len
  have hll := (RdR.len hR).2
  have hlc := (RdR.len hC).1
  have HR := Lib.hid hR
  have HC := Lib.hid hC
  have HCH := Lib.hid hch
  have HQ := Lib.hid hqs
  have HLC := Lib.hid hlc
  have HZ0 := Lib.hid hb0
  clear hR hC hch hqs hw hP hlc hb0
  obtain ⟨cars, first, roads⟩ := p
  simp only at *
  obtain ⟨l1, l2⟩ := hlen
  go_enter Try.func98, Try.ntmps98
  go_wp2_with fail
  have hB0 := below_al (below_al (below_rf w) (.cells #[.int .i64 cars, .int .i64 first, .slice Ar roads.length cr] 38)) (.cells #[.iface 144 (.agg #[.int .i64 first])] 133)
  have hO0 := World.ownsRow_lit (base := w.heap.size) (e := 133) (size := 1) (w.alloc (.cells #[.int .i64 cars, .int .i64 first, .slice Ar roads.length cr] 38)) #[.iface 144 (.agg #[.int .i64 first])] 1 (by simp) (by unfold maxLen; omega) rfl
  have HB0 := Lib.hid hB0
  have HO0 := Lib.hid hO0
  clear hB0 hO0
  have hO1 : Hid (((w.alloc (.cells #[.int .i64 cars, .int .i64 first, .slice Ar roads.length cr] 38)).alloc (.cells #[.iface 144 (.agg #[.int .i64 first])] 133)).ownsRow w.heap.size 133 1 (.slice (some ⟨w.heap.size + 1, 0, none⟩) (1 + 2 * 0) 1) (1 + 2 * 0) ((rulesK first qs 0).flatMap encU)) := by
    have := HO0.out
    rw [World.size_alloc] at this
    exact Lib.hid this
  clear HO0
  generalize ((w.alloc (.cells #[.int .i64 cars, .int .i64 first, .slice Ar roads.length cr] 38)).alloc (.cells #[.iface 144 (.agg #[.int .i64 first])] 133)) = wv at *
  go_loopg [5, 17] roads.length (fun gg s5 s17 wr => ∃ (k g c : Nat), k ≤ roads.length ∧ roads.length - k ≤ gg ∧ s17 = .int .i64 k ∧ s5 = .slice (some ⟨g, 0, none⟩) (1 + 2 * k) c ∧ Hid (Below w.heap.size w wr) ∧
    Hid (wr.ownsRow w.heap.size 133 1 (.slice (some ⟨g, 0, none⟩) (1 + 2 * k) c) (1 + 2 * k) ((rulesK first qs k).flatMap encU)))
  case atStart => exact ⟨0, w.heap.size + 1, 1, Nat.zero_le _, by omega, rfl, rfl, HB0, hO1⟩
  case round =>
    clear HB0 hO1
    obtain ⟨k, g, c, hk, hgg, rfl, rfl, HBW, HOW⟩ := hrel
    by_cases hlt : k < roads.length
    · have hx := getD_w hlt
      obtain ⟨b, off, Ah, c', hA, hb0, hh, d0, d1, d2, d3, d4, d5, d6, d7⟩ := Rd.way HR.out k _ hx
      have hbl0 := below_then HZ0.out HZ0.out.size HBW.out
      have hb := Nat.lt_of_lt_of_le hb0 hbl0.size
      have D7 := Lib.hid d7
      replace d0 := (hbl0.cell (p := ⟨b, off + k * 8, none⟩) hb0).trans d0
      replace d1 := (hbl0.cell (p := ⟨b, off + k * 8 + 1, none⟩) hb0).trans d1
      replace d2 := (hbl0.cell (p := ⟨b, off + k * 8 + 2, none⟩) hb0).trans d2
      replace d3 := (hbl0.cell (p := ⟨b, off + k * 8 + 3, none⟩) hb0).trans d3
      replace d4 := (hbl0.cell (p := ⟨b, off + k * 8 + 4, none⟩) hb0).trans d4
      replace d5 := (hbl0.cell (p := ⟨b, off + k * 8 + 5, none⟩) hb0).trans d5
      replace d6 := (hbl0.cell (p := ⟨b, off + k * 8 + 6, none⟩) hb0).trans d6
      replace d7 := (hbl0.cell (p := ⟨b, off + k * 8 + 7, none⟩) hb0).trans d7
      have HHH := Lib.hid hh
      have HQK := Lib.hid (HQ.out k hlt)
      have HZL0 : Hid (ch.getD k 0 < (((roads.getD k zw).hrs.length : Nat) : Int)) := Lib.hid (HCH.out.2 k hlt)
      have HX := Lib.hid hx
      subst hA
      obtain ⟨bc, oc, hAc, hbc, hcc⟩ := Rd.i HC.out k _ (getD_i (xs := ch) (j := k) (by rw [← HLC.out]; exact hlt))
      subst hAc
      have hcc' := (HBW.out.cell (p := ⟨bc, oc + k, none⟩) hbc).trans hcc
      have hbc' := Nat.lt_of_lt_of_le hbc HBW.out.size
      have HBC := Lib.hid (⟨hbc, hb⟩ : bc < w.heap.size ∧ b < wr.heap.size)
      clear hcc hh hx hb hbc hb0 hbl0
      generalize roads.getD k zw = x at *
      go_wp2_with (at_builtin; refine wp_append_one (wr.alloc (.cells #[.int .i64 x.tar, .int .i64 x.lead, .int .i64 x.lag, .int .i64 x.gap, .bool x.grp, .int .i64 x.wait, .int .i64 x.most, .slice Ah x.hrs.length c'] 41)) rfl _ _ 130 rfl w.heap.size 133 _ 1 16 Try.underlying130 info133 rfl (by decide) (.slice (some ⟨g, 0, none⟩) (1 + 2 * k) c) (1 + 2 * k) _ rfl (HOW.out.alloc _) encU (.aft ((k : Int) + 1)) _ (by rw [World.size_alloc]; rfl) rfl u_len u_one ?_ (by decide) ?_ ?_)
      · omega
      · have := HBW.out.size; simp; omega
      intro g1 c1 w1 hown1 hgrow1 hb1 hl1 hat1
      have hf1 : w1.heap[wr.heap.size]? = some (.cells #[.int .i64 x.tar, .int .i64 x.lead, .int .i64 x.lag, .int .i64 x.gap, .bool x.grp, .int .i64 x.wait, .int .i64 x.most, .slice Ah x.hrs.length c'] 41 (0, 0)) :=
        blk_grown (blk_new wr _) hgrow1 (by simp only [Value.ownBlock]; intro e; injection e with e; have := World.ownsRow.lt HOW.out g rfl; omega)
      have c7 := cell_of_blk hf1 7
      simp only [List.getElem?_toArray, List.getElem?_cons_succ, List.getElem?_cons_zero] at c7
      have HOW1 := Lib.hid hown1
      have HBW1 : Hid (Below w.heap.size w w1) := Lib.hid ((below_al HBW.out _).grown hgrow1 (by have := HBW.out.size; simp; omega) (by intro k' hk'; simp only [Value.ownBlock] at hk'; injection hk' with hk'; have := World.ownsRow.lt HOW.out g rfl; omega))
      have cc1 := (HBW1.out.cell (p := ⟨bc, oc + k, none⟩) HBC.out.1).trans ((HBW.out.cell (p := ⟨bc, oc + k, none⟩) HBC.out.1).symm.trans hcc')
      have hb1c : bc < w1.heap.size := Nat.lt_of_lt_of_le HBC.out.1 HBW1.out.size
      have hwr1 : wr.heap.size < w1.heap.size := blk_lt hf1
      clear hown1 hgrow1 hat1 hf1 hcc' d0 d1 d2 d3 d4 d5 d6 d7 hbc'
      by_cases hneg : ch.getD k 0 < 0
      · have hq0 : qs k = none := by
          rcases HQK.out.1 with h | h
          · exact h.2
          · omega
        have HQ0 := Lib.hid hq0
        have hd : decide (0 ≤ ch.getD k 0) = false := decide_eq_false (by omega)
        clear hq0 c7
        generalize ch.getD k 0 = z at *
        go_wp2_with (at_builtin; refine wp_append_one (w1.alloc (.cells #[.int .i64 k, .pointer none] 149)) rfl _ _ 130 rfl w.heap.size 133 _ 1 16 Try.underlying130 info133 rfl (by decide) (.slice (some ⟨g1, 0, none⟩) (1 + 2 * k + 1) c1) (1 + 2 * k + 1) _ rfl (HOW1.out.alloc _) encU (.clo k none) _ (by rw [World.size_alloc]; rfl) rfl u_len u_one ?_ (by decide) ?_ ?_)
        · omega
        · have := HBW1.out.size; simp; omega
        intro g2 c2 w2 hown2 hgrow2 hb2 hl2 hat2
        have HOW2 := Lib.hid hown2
        have HBW2 : Hid (Below w.heap.size w w2) := Lib.hid ((below_al HBW1.out _).grown hgrow2 (by have := HBW1.out.size; simp; omega) (by intro k' hk'; simp only [Value.ownBlock] at hk'; injection hk' with hk'; have := World.ownsRow.lt HOW1.out g1 rfl; omega))
        clear hown2 hgrow2 hat2
        go_wp2_with fail
        go_roundg (roads.length - (k + 1))
        case measure => omega
        case rel =>
          refine ⟨k + 1, g2, c2, by omega, by omega, by go_num, ?_, HBW2, ?_⟩
          · rw [show 1 + 2 * (k + 1) = 1 + 2 * k + 1 + 1 by omega]
          · have h := HOW2.out
            rw [rulesK_flat, HQ0.out, List.append_assoc, show 1 + 2 * (k + 1) = 1 + 2 * k + 1 + 1 by omega]
            exact Lib.hid h
      · obtain ⟨h1, h2⟩ := HQK.out
        obtain ⟨b', off', bh, oh, c'', e1, e2, e3⟩ := h2 (by omega)
        injection e1 with e1
        injection e1 with e1 e1'
        subst e1 e1'
        have e4 := D7.out.symm.trans e2
        injection e4 with e4
        injection e4 with e4 _ e5
        subst e4 e5
        obtain ⟨z, hz⟩ : ∃ z : Nat, ch.getD k 0 = z := ⟨(ch.getD k 0).toNat, by omega⟩
        have hzl := HZL0.out
        rw [hz] at hzl e3 cc1
        have hhl := (RdR.len HHH.out).2
        rw [Int.toNat_natCast] at e3
        have HQ0 := Lib.hid e3
        have HZ := Lib.hid hz
        have hzl' : z < x.hrs.length := by omega
        have hd : decide ((0 : Int) ≤ (z : Int)) = true := decide_eq_true (by omega)
        clear e3 e2 hz h1 hzl hneg
        go_wp2_with fail
        go_region
        have hbl : Below w1.heap.size w1 (w1.alloc (.cells #[.int .i64 k, .pointer (some ⟨bh, oh + z * 3, none⟩)] 149)).drew := below_dr (below_al (below_rf w1) _)
        have hbk : (w1.alloc (.cells #[.int .i64 k, .pointer (some ⟨bh, oh + z * 3, none⟩)] 149)).drew.heap[w1.heap.size]? = some (.cells #[.int .i64 k, .pointer (some ⟨bh, oh + z * 3, none⟩)] 149 (0, 0)) := blk_new w1 _
        generalize (w1.alloc (.cells #[.int .i64 k, .pointer (some ⟨bh, oh + z * 3, none⟩)] 149)).drew = wa at *
        have k0 := cell_of_blk hbk 0
        have k1 := cell_of_blk hbk 1
        simp only [List.getElem?_toArray, List.getElem?_cons_succ, List.getElem?_cons_zero] at k0 k1
        have HBLa := Lib.hid hbl
        have HOWa : Hid (wa.ownsRow w.heap.size 133 1 (.slice (some ⟨g1, 0, none⟩) (1 + 2 * k + 1) c1) (1 + 2 * k + 1) _) := Lib.hid (HOW1.out.kept (grown_of hbl (some w1.heap.size)) (.inr (by intro e; simp [Value.ownBlock] at e; omega)))
        have HBWa : Hid (Below w.heap.size w wa) := Lib.hid (below_then HBW1.out HBW1.out.size hbl)
        have hsa : w1.heap.size < wa.heap.size := blk_lt hbk
        clear hbl hbk c7 cc1 HOW1
        go_wp2_with (at_builtin; refine wp_append_one wa rfl _ _ 130 rfl w.heap.size 133 _ 1 16 Try.underlying130 info133 rfl (by decide) (.slice (some ⟨g1, 0, none⟩) (1 + 2 * k + 1) c1) (1 + 2 * k + 1) _ rfl HOWa.out encU (.clo k (some (bh, oh + z * 3))) _ rfl rfl u_len u_one ?_ (by decide) ?_ ?_)
        · omega
        · exact HBWa.out.size
        intro g2 c2 w2 hown2 hgrow2 hb2 hl2 hat2
        have HOW2 := Lib.hid hown2
        have HBW2 : Hid (Below w.heap.size w w2) := Lib.hid (HBWa.out.grown hgrow2 HBWa.out.size (by intro k' hk'; simp only [Value.ownBlock] at hk'; injection hk' with hk'; have := World.ownsRow.lt HOWa.out g1 rfl; omega))
        clear hown2 hgrow2 hat2
        go_wp2_with fail
        go_roundg (roads.length - (k + 1))
        case measure => omega
        case rel =>
          refine ⟨k + 1, g2, c2, by omega, by omega, by go_num, ?_, HBW2, ?_⟩
          · rw [show 1 + 2 * (k + 1) = 1 + 2 * k + 1 + 1 by omega]
          · have h := HOW2.out
            rw [rulesK_flat, HQ0.out, List.append_assoc, show 1 + 2 * (k + 1) = 1 + 2 * k + 1 + 1 by omega]
            exact Lib.hid h
    · obtain rfl : k = roads.length := by omega
      go_wp2_with fail
      go_ret
      refine ⟨qs, g, c, rfl, fun j hj => (HQ.out j hj).1, ?_, HBW.out⟩
      have h := rd_of_owns (xs := rulesK first qs roads.length) (base := w.heap.size) (e := 133) (v := .slice (some ⟨g, 0, none⟩) (1 + 2 * roads.length) c) u_len (by rw [rulesK_len]; exact HOW.out)
      exact h
end Go.Proofs.Ytpknonebnipcgaa.M
