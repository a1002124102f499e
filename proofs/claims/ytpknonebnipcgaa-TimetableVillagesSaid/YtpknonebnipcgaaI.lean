import Derived.Test.YtpknonebnipcgaaProg
import Derived.WalkKit
import Derived.KernelRfl
import Derived.Deep.LoopGhost
import Derived.Deep.QuietTactic
import Derived.BigQuiet
import Derived.Deep.DeepCutAuto
import Derived.Deep.CutBlock
import Derived.Deep.RegionHeld3
import Derived.WalkLawsBesides
import Derived.WalkSpells
import Derived.Outline
import Derived.Deep.DeepFit
import Derived.Lib.Hide
import Derived.Shelf.Abstract
import Derived.Lib.SliceRun
import Derived.Test.YtpknonebnipcgaaE

namespace Go.Proofs.Ytpknonebnipcgaa.I
open Go.RowKit Go.Shelf Go.Proofs.Ytpknonebnipcgaa.V Go.Proofs.Ytpknonebnipcgaa.A Go.Proofs.Ytpknonebnipcgaa.B Go.Proofs.Ytpknonebnipcgaa.C Go.Proofs.Ytpknonebnipcgaa.P Go.Proofs.Ytpknonebnipcgaa.D Go.Proofs.Ytpknonebnipcgaa.E
set_option linter.unusedVariables false
set_option linter.unusedSimpArgs false

/-! ### plans -/
structure WayT where
  tar : Int
  lead : Int
  lag : Int
  gap : Int
  grp : Bool
  wait : Int
  most : Int
  hrs : List T3

def WayT.cells (x : WayT) (v : Value) : List Value := [.int .i64 x.tar, .int .i64 x.lead, .int .i64 x.lag, .int .i64 x.gap, .bool x.grp, .int .i64 x.wait, .int .i64 x.most, v]
def wayR (w : World) (x : WayT) (cs : List Value) : Prop := ∃ v, cs = x.cells v ∧ RdT w v x.hrs
abbrev RdW := RdR 8 wayR

structure PlanT where
  cars : Int
  first : Int
  roads : List WayT
def PlanT.val (p : PlanT) (v : Value) : Value := .agg #[.int .i64 p.cars, .int .i64 p.first, v]

theorem Rd.way {w : World} {A : Option Addr} {n c : Nat} {xs : List WayT} (h : RdW w (.slice A n c) xs) (j : Nat) (x : WayT) (hx : xs[j]? = some x) :
    ∃ b off Ah ch, A = some ⟨b, off, none⟩ ∧ b < w.heap.size ∧ RdT w (.slice Ah x.hrs.length ch) x.hrs ∧ w.cell? ⟨b, off + j * 8, none⟩ = some (.int .i64 x.tar) ∧ w.cell? ⟨b, off + j * 8 + 1, none⟩ = some (.int .i64 x.lead) ∧ w.cell? ⟨b, off + j * 8 + 2, none⟩ = some (.int .i64 x.lag) ∧
      w.cell? ⟨b, off + j * 8 + 3, none⟩ = some (.int .i64 x.gap) ∧ w.cell? ⟨b, off + j * 8 + 4, none⟩ = some (.bool x.grp) ∧ w.cell? ⟨b, off + j * 8 + 5, none⟩ = some (.int .i64 x.wait) ∧ w.cell? ⟨b, off + j * 8 + 6, none⟩ = some (.int .i64 x.most) ∧ w.cell? ⟨b, off + j * 8 + 7, none⟩ = some (.slice Ah x.hrs.length ch) := by
  obtain ⟨b, off, cs, hA, hb, ⟨v, rfl, hv⟩, hc⟩ := RdR.at h j x hx
  obtain ⟨Ah, ch, rfl, _⟩ := RdR.form hv
  exact ⟨b, off, Ah, ch, hA, hb, hv, hc 0 _ rfl, hc 1 _ rfl, hc 2 _ rfl, hc 3 _ rfl, hc 4 _ rfl, hc 5 _ rfl, hc 6 _ rfl, hc 7 _ rfl⟩

/-- one window -/
def okHr (h : T3) : Bool := !(decide (h.a < 0) || (decide (h.b < h.a) || (decide (200000 < h.b) || !inB h.c 0 200000)))

theorem road105 (h : T3) (w : World) : Calls Try.prog 105 #[.agg h.enc.toArray] w fun e w' => e = .returned (.bool (!okHr h)) ∧ Below w.heap.size w w' := by
  obtain ⟨a, b, c⟩ := h
  show Calls Try.prog 105 #[.agg #[.int .i64 a, .int .i64 b, .int .i64 c]] w _
  unfold okHr
  simp only [Bool.not_not]
  cases h1 : decide (a < 0) <;> cases h2 : decide (b < a) <;> cases h3 : decide (200000 < b)
  all_goals
    go_enter Try.func105, Try.ntmps105
    go_wp2_with (go_at_call 57; refine (within57 _ _ _ _).mono ?_; rintro e w' ⟨rfl, rfl⟩)
    go_ret
    exact ⟨by simp, (Below.refl _ _).alloc (Nat.le_refl _) _⟩

def midB (x : WayT) (bg : Option Int) : Bool := match bg with | none => !x.grp && ((x.wait == 0) && (x.most == 0)) | some g => x.grp || ((x.wait == 0) && ((x.most == 0) && (x.gap == g)))
/-- a road; the gap of the road before it -/
def okWay (x : WayT) (bg : Option Int) : Bool :=
  inB x.tar 1 1000 && (inB x.lead 0 600 && (inB x.lag 0 600 && (inB x.gap 1 60 && (inB x.wait 0 1000 && (inB x.most x.wait 1000 && (!decide (10 < (x.hrs.length : Int)) &&
    (midB x bg && x.hrs.all okHr)))))))

def befV : Option (Nat × Nat × Int) → Value
  | none => .pointer none
  | some (b, o, _) => .pointer (some ⟨b, o, none⟩)

set_option maxHeartbeats 2000000 in
theorem road80 (x : WayT) (Ah : Option Addr) (ch : Nat) (bef : Option (Nat × Nat × Int)) (w : World) (hR : RdT w (.slice Ah x.hrs.length ch) x.hrs) (hb : ∀ b o g, bef = some (b, o, g) → b < w.heap.size ∧ w.cell? ⟨b, o + 3, none⟩ = some (.int .i64 g)) :
    Calls Try.prog 80 #[.agg (x.cells (.slice Ah x.hrs.length ch)).toArray, befV bef] w fun e w' => e = .returned (.bool (okWay x (bef.map fun t => t.2.2))) ∧ Below w.heap.size w w' := by
  obtain ⟨tar, lead, lag, gap, grp, wait, most, hrs⟩ := x
  simp only at hR
  show Calls Try.prog 80 #[.agg #[.int .i64 tar, .int .i64 lead, .int .i64 lag, .int .i64 gap, .bool grp, .int .i64 wait, .int .i64 most, .slice Ah hrs.length ch], befV bef] w _
  unfold okWay
  simp only
  have hlen := (RdR.len hR).2
  have hall : ∀ W, Below w.heap.size w W → Calls Try.prog 104 #[.slice Ah hrs.length ch, .func (.func 105) #[] #[]] W fun e w' => e = .returned (.bool (!hrs.all okHr)) ∧ Below W.heap.size W w' := fun W hb2 => by
    rw [← any_not_all]
    exact containsFunc104 105 #[] (enters_of Try.func105 (by kernel_rfl) rfl) (fun h => !okHr h) Ah ch hrs W (Rd.below hR hb2) (fun W y hy hb3 => road105 y W)
  have HALL := Lib.hid hall
  have hB0 : Below w.heap.size w (w.alloc (.cells #[.int .i64 tar, .int .i64 lead, .int .i64 lag, .int .i64 gap, .bool grp, .int .i64 wait, .int .i64 most, .slice Ah hrs.length ch] 41)) := (Below.refl _ _).alloc (Nat.le_refl _) _
  have HB0 := Lib.hid hB0
  generalize hrs.all okHr = res at *
  obtain ⟨mid, hmid⟩ : ∃ r, midB ⟨tar, lead, lag, gap, grp, wait, most, hrs⟩ (bef.map fun t => t.2.2) = r := ⟨_, rfl⟩
  rw [hmid]
  clear hall hB0 hR
  have HM := Lib.hid hmid
  clear hmid
  cases h1 : inB tar 1 1000
  · go_enter Try.func80, Try.ntmps80
    go_wp2_with (go_at_call 57; refine (within57 _ _ _ _).mono ?_; rintro e w' ⟨rfl, rfl⟩)
    go_ret
    exact ⟨rfl, (Below.refl _ _).alloc (Nat.le_refl _) _⟩
  cases h2 : inB lead 0 600
  · go_enter Try.func80, Try.ntmps80
    go_wp2_with (go_at_call 57; refine (within57 _ _ _ _).mono ?_; rintro e w' ⟨rfl, rfl⟩)
    go_ret
    exact ⟨rfl, (Below.refl _ _).alloc (Nat.le_refl _) _⟩
  cases h3 : inB lag 0 600
  · go_enter Try.func80, Try.ntmps80
    go_wp2_with (go_at_call 57; refine (within57 _ _ _ _).mono ?_; rintro e w' ⟨rfl, rfl⟩)
    go_ret
    exact ⟨rfl, (Below.refl _ _).alloc (Nat.le_refl _) _⟩
  cases h4 : inB gap 1 60
  · go_enter Try.func80, Try.ntmps80
    go_wp2_with (go_at_call 57; refine (within57 _ _ _ _).mono ?_; rintro e w' ⟨rfl, rfl⟩)
    go_ret
    exact ⟨rfl, (Below.refl _ _).alloc (Nat.le_refl _) _⟩
  cases h5 : inB wait 0 1000
  · go_enter Try.func80, Try.ntmps80
    go_wp2_with (go_at_call 57; refine (within57 _ _ _ _).mono ?_; rintro e w' ⟨rfl, rfl⟩)
    go_ret
    exact ⟨rfl, (Below.refl _ _).alloc (Nat.le_refl _) _⟩
  cases h6 : inB most wait 1000
  · go_enter Try.func80, Try.ntmps80
    go_wp2_with (go_at_call 57; refine (within57 _ _ _ _).mono ?_; rintro e w' ⟨rfl, rfl⟩)
    go_ret
    exact ⟨rfl, (Below.refl _ _).alloc (Nat.le_refl _) _⟩
  cases h7 : decide (10 < (hrs.length : Int))
  rotate_left
  · go_enter Try.func80, Try.ntmps80
    go_wp2_with (go_at_call 57; refine (within57 _ _ _ _).mono ?_; rintro e w' ⟨rfl, rfl⟩)
    go_ret
    exact ⟨rfl, (Below.refl _ _).alloc (Nat.le_refl _) _⟩
  rcases bef with _ | ⟨b, o, g⟩
  · show Calls Try.prog 80 #[_, .pointer none] w _
    cases grp
    · cases h8 : (wait == 0)
      · have h8' : (wait != 0) = true := by simp [bne, h8]
        have hm : mid = false := by rw [← HM.out]; simp_all [midB]
        clear HM
        go_enter Try.func80, Try.ntmps80
        go_wp2_with (go_at_call 57; refine (within57 _ _ _ _).mono ?_; rintro e w' ⟨rfl, rfl⟩)
        go_quiet (fail)
        go_wp2
        go_ret
        exact ⟨by rw [hm]; rfl, below_drewN HB0.out _⟩
      · have h8' : (wait != 0) = false := by simp [bne, h8]
        cases h9 : (most == 0)
        · have h9' : (most != 0) = true := by simp [bne, h9]
          have hm : mid = false := by rw [← HM.out]; simp_all [midB]
          clear HM
          go_enter Try.func80, Try.ntmps80
          go_wp2_with (go_at_call 57; refine (within57 _ _ _ _).mono ?_; rintro e w' ⟨rfl, rfl⟩)
          go_quiet (fail)
          go_wp2
          go_ret
          exact ⟨by rw [hm]; rfl, below_drewN HB0.out _⟩
        · have h9' : (most != 0) = false := by simp [bne, h9]
          have hm : mid = true := by rw [← HM.out]; simp_all [midB]
          clear HM
          go_enter Try.func80, Try.ntmps80
          go_wp2_with (go_at_call 57; refine (within57 _ _ _ _).mono ?_; rintro e w' ⟨rfl, rfl⟩)
          go_quiet (fail)
          go_wp2_with fail
          refine (HALL.out _ (below_drewN HB0.out _)).mono ?_
          rintro e w2 ⟨rfl, hb2⟩
          go_wp2
          go_ret
          exact ⟨by rw [hm]; simp, below_then (below_drewN HB0.out _) HB0.out.size hb2⟩
    · have hm : mid = false := by rw [← HM.out]; simp_all [midB]
      clear HM
      go_enter Try.func80, Try.ntmps80
      go_wp2_with (go_at_call 57; refine (within57 _ _ _ _).mono ?_; rintro e w' ⟨rfl, rfl⟩)
      go_quiet (fail)
      go_wp2
      go_ret
      exact ⟨by rw [hm]; rfl, below_drewN HB0.out _⟩
  · obtain ⟨hbl, hbc⟩ := hb b o g rfl
    show Calls Try.prog 80 #[_, .pointer (some ⟨b, o, none⟩)] w _
    cases grp
    · cases h8 : (wait == 0)
      · have h8' : (wait != 0) = true := by simp [bne, h8]
        have hm : mid = false := by rw [← HM.out]; simp_all [midB]
        clear HM
        go_enter Try.func80, Try.ntmps80
        go_wp2_with (go_at_call 57; refine (within57 _ _ _ _).mono ?_; rintro e w' ⟨rfl, rfl⟩)
        go_quiet (fail)
        go_wp2
        go_ret
        exact ⟨by rw [hm]; rfl, below_drewN HB0.out _⟩
      · have h8' : (wait != 0) = false := by simp [bne, h8]
        cases h9 : (most == 0)
        · have h9' : (most != 0) = true := by simp [bne, h9]
          have hm : mid = false := by rw [← HM.out]; simp_all [midB]
          clear HM
          go_enter Try.func80, Try.ntmps80
          go_wp2_with (go_at_call 57; refine (within57 _ _ _ _).mono ?_; rintro e w' ⟨rfl, rfl⟩)
          go_quiet (fail)
          go_wp2
          go_ret
          exact ⟨by rw [hm]; rfl, below_drewN HB0.out _⟩
        · have h9' : (most != 0) = false := by simp [bne, h9]
          cases h10 : (gap == g)
          · have h10' : (gap != g) = true := by simp [bne, h10]
            have hm : mid = false := by rw [← HM.out]; simp_all [midB]
            clear HM
            go_enter Try.func80, Try.ntmps80
            go_wp2_with (go_at_call 57; refine (within57 _ _ _ _).mono ?_; rintro e w' ⟨rfl, rfl⟩)
            go_quiet (fail)
            go_wp2
            go_ret
            exact ⟨by rw [hm]; rfl, below_drewN HB0.out _⟩
          · have h10' : (gap != g) = false := by simp [bne, h10]
            have hm : mid = true := by rw [← HM.out]; simp_all [midB]
            clear HM
            go_enter Try.func80, Try.ntmps80
            go_wp2_with (go_at_call 57; refine (within57 _ _ _ _).mono ?_; rintro e w' ⟨rfl, rfl⟩)
            go_quiet (fail)
            go_wp2_with fail
            refine (HALL.out _ (below_drewN HB0.out _)).mono ?_
            rintro e w2 ⟨rfl, hb2⟩
            go_wp2
            go_ret
            exact ⟨by rw [hm]; simp, below_then (below_drewN HB0.out _) HB0.out.size hb2⟩
    · have hm : mid = true := by rw [← HM.out]; simp_all [midB]
      clear HM
      go_enter Try.func80, Try.ntmps80
      go_wp2_with (go_at_call 57; refine (within57 _ _ _ _).mono ?_; rintro e w' ⟨rfl, rfl⟩)
      go_quiet (fail)
      go_wp2_with fail
      refine (HALL.out _ (below_drewN HB0.out _)).mono ?_
      rintro e w2 ⟨rfl, hb2⟩
      go_wp2
      go_ret
      exact ⟨by rw [hm]; simp, below_then (below_drewN HB0.out _) HB0.out.size hb2⟩
end Go.Proofs.Ytpknonebnipcgaa.I
