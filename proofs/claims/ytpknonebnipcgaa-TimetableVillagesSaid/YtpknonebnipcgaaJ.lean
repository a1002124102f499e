import Derived.Test.YtpknonebnipcgaaProg
import Derived.WalkKit
import Derived.KernelRfl
import Derived.Deep.LoopGhost
import Derived.Deep.QuietTactic
import Derived.BigQuiet
import Derived.Deep.DeepCutAuto
import Derived.Deep.CutBlock
import Derived.Deep.RegionHeld3
import Derived.WalkLawsBesides
import Derived.WalkSpells
import Derived.Outline
import Derived.Deep.DeepFit
import Derived.Lib.Hide
import Derived.Shelf.Abstract
import Derived.Lib.SliceRun
import Derived.Test.YtpknonebnipcgaaG
import Derived.Test.YtpknonebnipcgaaH
import Derived.Test.YtpknonebnipcgaaI

namespace Go.Proofs.Ytpknonebnipcgaa.J
open Go.RowKit Go.Shelf Go.Proofs.Ytpknonebnipcgaa.V Go.Proofs.Ytpknonebnipcgaa.A Go.Proofs.Ytpknonebnipcgaa.B Go.Proofs.Ytpknonebnipcgaa.C Go.Proofs.Ytpknonebnipcgaa.P Go.Proofs.Ytpknonebnipcgaa.D Go.Proofs.Ytpknonebnipcgaa.E Go.Proofs.Ytpknonebnipcgaa.G Go.Proofs.Ytpknonebnipcgaa.H Go.Proofs.Ytpknonebnipcgaa.I
set_option linter.unusedVariables false
set_option linter.unusedSimpArgs false

theorem hrs_grown {w w' : World} {v : Value} {xs : List T3} (h : RdT w v xs) (hb : Below w.heap.size w w') : RdT w' v xs := Rd.below h hb
theorem RdW.below {w w' : World} {v : Value} {xs : List WayT} (h : RdW w v xs) (hb : Below w.heap.size w w') : RdW w' v xs := by
  obtain ⟨A, c, e, h1, h2, h3, h4⟩ := h
  refine ⟨A, c, e, h1, h2, h3, fun j x hx => ?_⟩
  obtain ⟨b, off, cs, hA, hbl, ⟨v', rfl, hv⟩, hc⟩ := h4 j x hx
  exact ⟨b, off, _, hA, Nat.lt_of_lt_of_le hbl hb.size, ⟨v', rfl, Rd.below hv hb⟩, fun i u hu => (hb.cell (p := ⟨b, off + j * 8 + i, none⟩) hbl).trans (hc i u hu)⟩

def zw : WayT := ⟨0, 0, 0, 0, false, 0, 0, []⟩
def befG (rs : List WayT) : Nat → Option Int
  | 0 => none
  | j + 1 => some (rs.getD j zw).gap
def okAt (rs : List WayT) (j : Nat) : Bool := okWay (rs.getD j zw) (befG rs j)
/-- a plan is as defined -/
def okPlan (p : PlanT) : Bool := inB p.cars 1 200 && (inB p.roads.length 1 60 && (inB p.first 0 100000 && (List.range p.roads.length).all (okAt p.roads)))
def errB (b : Bool) : Value := if b then .int .i64 0 else .int .i64 2

theorem getD_w {xs : List WayT} {j : Nat} (h : j < xs.length) : xs[j]? = some (xs.getD j zw) := by
  rw [List.getD_eq_getElem?_getD, List.getElem?_eq_getElem h]
  rfl

set_option maxRecDepth 100000 in
set_option maxHeartbeats 2000000 in
theorem check42 (p : PlanT) (Ar : Option Addr) (cr : Nat) (w : World) (hR : RdW w (.slice Ar p.roads.length cr) p.roads) :
    Calls Try.prog 42 #[p.val (.slice Ar p.roads.length cr)] w fun e w' => e = .returned (errB (okPlan p)) ∧ Below w.heap.size w w' := by
  obtain ⟨cars, first, roads⟩ := p
  simp only at hR
  show Calls Try.prog 42 #[.agg #[.int .i64 cars, .int .i64 first, .slice Ar roads.length cr]] w _
  unfold okPlan
  simp only
  have hlen := (RdR.len hR).2
  have hB0 : Below w.heap.size w (w.alloc (.cells #[.int .i64 cars, .int .i64 first, .slice Ar roads.length cr] 38)) := (Below.refl _ _).alloc (Nat.le_refl _) _
  have HB0 := Lib.hid hB0
  have HR := Lib.hid hR
  clear hR hB0
  cases h1 : inB cars 1 200
  · go_enter Try.func42, Try.ntmps42
    go_wp2_with (go_at_call 57; refine (within57 _ _ _ _).mono ?_; rintro e w' ⟨rfl, rfl⟩)
    go_ret
    exact ⟨rfl, HB0.out⟩
  cases h2 : inB (roads.length : Int) 1 60
  · go_enter Try.func42, Try.ntmps42
    go_wp2_with (go_at_call 57; refine (within57 _ _ _ _).mono ?_; rintro e w' ⟨rfl, rfl⟩)
    go_ret
    exact ⟨rfl, HB0.out⟩
  cases h3 : inB first 0 100000
  · go_enter Try.func42, Try.ntmps42
    go_wp2_with (go_at_call 57; refine (within57 _ _ _ _).mono ?_; rintro e w' ⟨rfl, rfl⟩)
    go_ret
    exact ⟨rfl, HB0.out⟩
  obtain ⟨res, hres⟩ : ∃ r, (List.range roads.length).all (okAt roads) = r := ⟨_, rfl⟩
  rw [hres]
  have HRES := Lib.hid hres
  clear hres
  go_enter Try.func42, Try.ntmps42
  go_wp2_with (go_at_call 57; refine (within57 _ _ _ _).mono ?_; rintro e w' ⟨rfl, rfl⟩)
  go_loopg [3, 4, 5, 26] (roads.length) (fun gg s3 _ _ s26 wr => ∃ k : Nat, k ≤ roads.length ∧ roads.length - k ≤ gg ∧ s26 = .int .i64 k ∧ Hid (∃ bef, s3 = befV bef ∧ (bef.map fun t => t.2.2) = befG roads k ∧ ∀ b o g, bef = some (b, o, g) → b < w.heap.size ∧ w.cell? ⟨b, o + 3, none⟩ = some (.int .i64 g)) ∧
    Hid (∀ j, j < k → okAt roads j = true) ∧ Hid (Below (w.alloc (.cells #[.int .i64 cars, .int .i64 first, .slice Ar roads.length cr] 38)).heap.size (w.alloc (.cells #[.int .i64 cars, .int .i64 first, .slice Ar roads.length cr] 38)) wr))
  case atStart => exact ⟨0, Nat.zero_le _, by omega, rfl, Lib.hid ⟨none, rfl, rfl, fun b o g h => by cases h⟩, Lib.hid (fun j hj => absurd hj (Nat.not_lt_zero _)), Lib.hid (Below.refl _ _)⟩
  case round =>
    obtain ⟨k, hk, hg, rfl, HBF, HST, HW⟩ := hrel
    have HBW := Lib.hid (below_then HB0.out HB0.out.size HW.out)
    by_cases hlt : k < roads.length
    · obtain ⟨bef, rfl, hbm, hbc⟩ := HBF.out
      have hx := getD_w (xs := roads) hlt
      obtain ⟨b, off, Ah, ch, rfl, hb, hh, c0, c1, c2, c3, c4, c5, c6, c7⟩ := Rd.way (RdW.below HR.out HBW.out) k _ hx
      obtain ⟨b', off', Ah', ch', e', hb', hh', d0, d1, d2, d3, d4, d5, d6, d7⟩ := Rd.way HR.out k _ hx
      injection e' with e'
      injection e' with e1 e2
      subst e1 e2
      have hs := HW.out.size
      simp at hs
      have pc0 : wr.cell? ⟨w.heap.size, 2, none⟩ = some (.slice (some ⟨b, off, none⟩) roads.length cr) := (HW.out.cell (p := ⟨w.heap.size, 2, none⟩) (by simp)).trans (by simp)
      have hroad : ∀ W, Below w.heap.size w W → Calls Try.prog 80 #[.agg #[.int .i64 (roads.getD k zw).tar, .int .i64 (roads.getD k zw).lead, .int .i64 (roads.getD k zw).lag, .int .i64 (roads.getD k zw).gap, .bool (roads.getD k zw).grp, .int .i64 (roads.getD k zw).wait, .int .i64 (roads.getD k zw).most, .slice Ah (roads.getD k zw).hrs.length ch], befV bef] W fun e w' => e = .returned (.bool (okAt roads k)) ∧ Below W.heap.size W w' := fun W hbW => by
        have hv : RdT W (.slice Ah (roads.getD k zw).hrs.length ch) (roads.getD k zw).hrs := by
          have e7 : (Value.slice Ah (roads.getD k zw).hrs.length ch) = .slice Ah' (roads.getD k zw).hrs.length ch' := by
            have hq := HBW.out.cell (p := ⟨b, off + k * 8 + 7, none⟩) hb'
            rw [c7, d7] at hq
            injection hq
          rw [e7]
          exact Rd.below hh' hbW
        have := road80 (roads.getD k zw) Ah ch bef W hv (fun b o g h => by
          obtain ⟨q1, q2⟩ := hbc b o g h
          exact ⟨Nat.lt_of_lt_of_le q1 hbW.size, (hbW.cell (p := ⟨b, o + 3, none⟩) q1).trans q2⟩)
        rw [hbm] at this
        exact this
      have HROAD := Lib.hid hroad
      have hgap : befG roads (k + 1) = some (roads.getD k zw).gap := rfl
      have HGAP := Lib.hid hgap
      have D3 := Lib.hid d3
      clear hroad hgap d0 d1 d2 d3 d4 d5 d6 d7 hh' hbm hbc hx HBF
      generalize roads.getD k zw = x at *
      go_wp2_with fail
      refine (HROAD.out _ ?hbw).mono ?_
      case hbw => exact HBW.out.alloc HBW.out.size _
      rintro e w2 ⟨rfl, hb2⟩
      have hb2' : Below (w.alloc (.cells #[.int .i64 cars, .int .i64 first, .slice (some ⟨b, off, none⟩) roads.length cr] 38)).heap.size (w.alloc (.cells #[.int .i64 cars, .int .i64 first, .slice (some ⟨b, off, none⟩) roads.length cr] 38)) w2 :=
        below_then (HW.out.alloc HW.out.size _) (by have := HW.out.size; simp at this ⊢; omega) hb2
      have HB2 := Lib.hid hb2'
      have pc2 : w2.cell? ⟨w.heap.size, 2, none⟩ = some (.slice (some ⟨b, off, none⟩) roads.length cr) := (hb2'.cell (p := ⟨w.heap.size, 2, none⟩) (by simp)).trans (by simp)
      clear hb2 hb2' hh c0 c1 c2 c3 c4 c5 c6 c7 pc0
      cases hok : okAt roads k
      · have hf := all_range_false (p := okAt roads) hlt hok
        have hr0 : res = false := by rw [← HRES.out, hf]
        go_wp2
        go_ret
        exact ⟨by rw [hr0]; rfl, below_then HB0.out HB0.out.size HB2.out⟩
      · have HOK := Lib.hid hok
        go_wp2
        go_roundg (roads.length - (k + 1))
        case measure => omega
        case rel =>
          refine ⟨k + 1, by omega, by omega, by go_num, Lib.hid ⟨some (b, off + k * 8, x.gap), rfl, HGAP.out.symm, fun b' o' g' h => ?_⟩, Lib.hid (fun j hj => ?_), HB2⟩
          · injection h with h
            injection h with h1 h2
            injection h2 with h2 h3
            subst h1 h2 h3
            exact ⟨hb', D3.out⟩
          · by_cases hjk : j = k
            · subst hjk; exact HOK.out
            · exact HST.out j (by omega)
    · obtain rfl : k = roads.length := by omega
      have hr1 : res = true := by rw [← HRES.out, all_range_true HST.out]
      go_wp2
      go_ret
      exact ⟨by rw [hr1]; rfl, HBW.out⟩
end Go.Proofs.Ytpknonebnipcgaa.J
