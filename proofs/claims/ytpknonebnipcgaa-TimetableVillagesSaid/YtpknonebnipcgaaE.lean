/- The net of the program: slices.Max, both, Latest. -/
import Derived.Test.YtpknonebnipcgaaProg
import Derived.WalkKit
import Derived.KernelRfl
import Derived.Deep.LoopGhost
import Derived.Deep.QuietTactic
import Derived.BigQuiet
import Derived.Deep.DeepCutAuto
import Derived.Deep.CutBlock
import Derived.Deep.RegionHeld3
import Derived.WalkLawsBesides
import Derived.WalkSpells
import Derived.Outline
import Derived.Deep.DeepFit
import Derived.Lib.Hide
import Derived.Shelf.Abstract
import Derived.Lib.SliceRun
import Derived.Test.YtpknonebnipcgaaQ
namespace Go.Proofs.Ytpknonebnipcgaa.E
open Go.RowKit Go.Shelf Go.Proofs.Ytpknonebnipcgaa.V Go.Proofs.Ytpknonebnipcgaa.A Go.Proofs.Ytpknonebnipcgaa.B Go.Proofs.Ytpknonebnipcgaa.C Go.Proofs.Ytpknonebnipcgaa.P Go.Proofs.Ytpknonebnipcgaa.D
set_option linter.unusedVariables false
set_option linter.unusedSimpArgs false

theorem max2_i (x y : Int) : Builtin.max2 (.int .i64 x) (.int .i64 y) = pure (.int .i64 (max x y)) := by
  simp only [Builtin.max2, gt_iff_lt]
  rw [show max x y = if x < y then y else x by split <;> omega]
theorem max_2 (ats : Array TypeId) (ty : TypeId) (a b : Value) : Builtin.max_ ats ty #[a, b] = (Builtin.max2 a b >>= fun s => pure s) := by simp only [Builtin.max_, List.foldlM_cons, List.foldlM_nil]
attribute [local go_sem] max2_i max_2

/-- the greatest of the first k + 1 elements -/
def maxTo (xs : List Int) : Nat → Int
  | 0 => xs.getD 0 0
  | k + 1 => max (maxTo xs k) (xs.getD (k + 1) 0)

theorem max100 (A : Option Addr) (c : Nat) (xs : List Int) (w : World) (hr : RdI w (.slice A xs.length c) xs) (h1 : 1 ≤ xs.length) :
    Calls Try.prog 100 #[.slice A xs.length c] w fun e w' => e = .returned (.int .i64 (maxTo xs (xs.length - 1))) ∧ w = w' := by
  have hlc := (RdR.len hr).2
  obtain ⟨b, off, rfl, hb, c0⟩ := Rd.i hr 0 _ (getD_get (by omega))
  rw [Nat.add_zero] at c0
  have hd : decide ((xs.length : Int) < 1) = false := decide_eq_false (by omega)
  have HR := Lib.hid hr
  clear hr
  go_enter Try.func100, Try.ntmps100
  go_wp2
  go_loopg [3, 4] (xs.length) (fun gg s3 s4 wr => ∃ k : Nat, 1 ≤ k ∧ k ≤ xs.length ∧ xs.length - k ≤ gg ∧ s4 = .int .i64 k ∧ s3 = .int .i64 (maxTo xs (k - 1)) ∧ wr = w)
  case atStart => exact ⟨1, by omega, by omega, by omega, rfl, rfl, rfl⟩
  case round =>
    obtain ⟨k, hk1, hk, hg, rfl, rfl, rfl⟩ := hrel
    by_cases hlt : k < xs.length
    · obtain ⟨b', off', e, hb', ck⟩ := Rd.i HR.out k _ (getD_get hlt)
      obtain ⟨rfl, rfl⟩ : b = b' ∧ off = off' := by injection e with e; injection e with e1 e2; exact ⟨e1, e2⟩
      have hm : maxTo xs k = max (maxTo xs (k - 1)) (xs.getD k 0) := by
        obtain ⟨j, rfl⟩ : ∃ j, k = j + 1 := ⟨k - 1, by omega⟩
        rfl
      have HM := Lib.hid hm
      clear hm e
      generalize xs.getD k 0 = x at ck HM
      go_wp2
      go_roundg (xs.length - (k + 1))
      case measure => omega
      case rel => exact ⟨k + 1, by omega, by omega, by omega, by go_num, by rw [show k + 1 - 1 = k by omega, HM.out], rfl⟩
    · obtain rfl : k = xs.length := by omega
      go_wp2
      go_ret
      exact ⟨rfl, rfl⟩

/-! ### both, Latest, Slack -/
theorem q25 : ∀ (w : World) (a : Option Addr) (n c n' c' : Nat), (binOp .eql 25 (.slice a n c) (.slice none n' c')).run Try.prog w = .ok (.bool a.isNone) w := fun w a n c n' c' => Lib.run_eql_slice_nil w _ _ a n c n' c' Try.underlying25

section
variable (n : Int) (A : Option Addr) (c : Nat) (ls : List T3) (last : Int) (w : World) (hr : RdT w (.slice A ls.length c) ls)
include hr

theorem both74_arg (h : rightB n ls = false ∨ inB last 0 1000000000 = false) : Calls Try.prog 74 #[.int .i64 n, .slice A ls.length c, .int .i64 last] w fun e w' => e = .returned (.tuple #[.slice none 0 0, .slice none 0 0, .int .i64 2]) ∧ Below w.heap.size w w' := by
  have hc := right56 n A c ls w hr
  clear hr
  cases h5 : rightB n ls
  · rw [h5] at hc
    go_enter Try.func74, Try.ntmps74
    go_wp2_with (go_at_call 56; refine hc.mono ?_; rintro e w1 ⟨rfl, hb⟩)
    go_ret3
    exact ⟨rfl, hb⟩
  · have h6 : inB last 0 1000000000 = false := by rcases h with h | h; rw [h5] at h; cases h; exact h
    rw [h5] at hc
    go_enter Try.func74, Try.ntmps74
    go_wp2_with (first | (go_at_call 56; refine hc.mono ?_; rintro e w1 ⟨rfl, hb⟩) | (go_at_call 57; refine (within57 _ _ _ _).mono ?_; rintro e w' ⟨rfl, rfl⟩))
    go_ret3
    exact ⟨rfl, hb⟩

/-- what open and earliest do one behind the other -/
theorem opens (h : rightB n ls = true) (hs : Small n ls) : ∀ W, Below w.heap.size w W → Calls Try.prog 58 #[.int .i64 n, .slice A ls.length c] W fun e w' => ∃ g, e = .returned (.pointer (some ⟨g, 0, none⟩)) ∧ NetAt w' g n (allOf n ls) (fun q => W.heap.size ≤ q) ∧ NetAt w' g n (allOf n ls) (fun q => q < w'.heap.size) ∧ W.heap.size ≤ g ∧ Below W.heap.size W w' := by
  intro W hb
  obtain ⟨h1, h2, h3, h4⟩ := right_out h
  obtain ⟨m, rfl⟩ : ∃ m : Nat, n = m := ⟨n.toNat, by omega⟩
  have := open58 m A c ls W (Rd.below hr hb) (by omega) (by have := hs.2; omega)
  refine this.mono ?_
  rintro e w' ⟨g, rfl, hN, hg1, hg2, hb2⟩
  refine ⟨g, rfl, hN, ?_, hg1, hb2⟩
  obtain ⟨v, a1, a2, a3, a4⟩ := hN
  exact ⟨v, a1, a2, a3, fun q hq => ⟨(a4 q hq).2, (a4 q hq).2⟩⟩
end

theorem ear_ok (n : Int) (ls : List T3) (h : rightB n ls = true) (hs : Small n ls) (hf : (earl n ls).raised < 0) (W : World) (g : Nat) (S : Nat → Prop) (hN : NetAt W g n (allOf n ls) S) (hS : ∀ q, S q → q < W.heap.size) :
    Calls Try.prog 59 #[.pointer (some ⟨g, 0, none⟩)] W fun e w' => ∃ gt ct, e = .returned (.tuple #[.slice (some ⟨gt, 0, none⟩) (earl n ls).ts.length ct, .slice none 0 0]) ∧ Own w' W.heap.size gt ct (earl n ls).ts ∧ Below W.heap.size W w' := by
  obtain ⟨h1, h2, h3, h4⟩ := right_out h
  have hV := valid_all h
  have hal := all_len n ls
  obtain ⟨m, rfl⟩ : ∃ m : Nat, n = m := ⟨n.toNat, by omega⟩
  have hlen : (earl m ls).ts.length = m := rounds_len _ (by simp)
  rw [hlen]
  exact earliest59 m (allOf m ls) g S W hN hS (by omega) (by have := hs.1; omega) (by have := hs.2; have := hs.1; rw [hal]; simp; omega) hV (earl m ls) rfl hf

theorem ear_none (n : Int) (ls : List T3) (h : rightB n ls = true) (hs : Small n ls) (hf : 0 ≤ (earl n ls).raised) (W : World) (g : Nat) (S : Nat → Prop) (hN : NetAt W g n (allOf n ls) S) (hS : ∀ q, S q → q < W.heap.size) :
    Calls Try.prog 59 #[.pointer (some ⟨g, 0, none⟩)] W fun e w' => ∃ gp cp m, e = .returned (.tuple #[.slice none 0 0, .slice (some ⟨gp, 0, none⟩) m cp]) ∧ Below W.heap.size W w' := by
  obtain ⟨h1, h2, h3, h4⟩ := right_out h
  have hV := valid_all h
  have hal := all_len n ls
  obtain ⟨m, rfl⟩ : ∃ m : Nat, n = m := ⟨n.toNat, by omega⟩
  obtain ⟨p1, p2, p3, p4, p5⟩ := push_cyc hV (by omega) (by omega) (List.replicate m 0) (by simp) (earl m ls) rfl hf
  have := earliest59c m (allOf m ls) g S W hN hS (by omega) (by have := hs.1; omega) (by have := hs.2; have := hs.1; rw [hal]; simp; omega) hV (earl m ls) rfl ⟨hf, p1⟩ p2 p3 p4
  refine this.mono ?_
  rintro e w' ⟨gp, cp, k, rfl, _, _, _, _, hb⟩
  exact ⟨gp, cp, k, rfl, hb⟩

section
variable (n : Int) (A : Option Addr) (c : Nat) (ls : List T3) (last : Int) (w : World) (hr : RdT w (.slice A ls.length c) ls)
include hr

theorem both74_none (h : rightB n ls = true) (hl : inB last 0 1000000000 = true) (hs : Small n ls) (hf : 0 ≤ (earl n ls).raised ∨ ((earl n ls).raised < 0 ∧ last < maxTo (earl n ls).ts ((earl n ls).ts.length - 1))) :
    Calls Try.prog 74 #[.int .i64 n, .slice A ls.length c, .int .i64 last] w fun e w' => e = .returned (.tuple #[.slice none 0 0, .slice none 0 0, .int .i64 5]) ∧ Below w.heap.size w w' := by
  have hc := right56 n A c ls w hr
  rw [h] at hc
  have HOP := Lib.hid (opens n A c ls w hr h hs)
  have hq := q25
  clear hr
  rcases hf with hf | ⟨hf, hm⟩
  · have HEA := Lib.hid (ear_none n ls h hs hf)
    clear hf h hs
    go_enter Try.func74, Try.ntmps74
    go_wp2_with fail
    refine hc.mono ?_
    rintro e w1 ⟨rfl, hb⟩
    go_wp2_with (go_at_call 57; refine (within57 _ _ _ _).mono ?_; rintro e w' ⟨rfl, rfl⟩)
    refine (HOP.out w1 hb).mono ?_
    rintro e w2 ⟨g, rfl, _, hN, _, hb2⟩
    have HN := Lib.hid hN
    clear hN
    go_wp2_with fail
    refine (HEA.out w2 g _ HN.out (fun q hq => hq)).mono ?_
    rintro e w3 ⟨gp, cp, m, rfl, hb3⟩
    go_wp2
    go_ret3
    exact ⟨rfl, below_then (below_then hb hb.size hb2) (Nat.le_trans hb.size hb2.size) hb3⟩
  · have HEA := Lib.hid (ear_ok n ls h hs hf)
    obtain ⟨h1, h2, h3, h4⟩ := right_out h
    have hlen : (earl n ls).ts.length = n.toNat := rounds_len _ (by simp)
    have hmb : decide (last < maxTo (earl n ls).ts ((earl n ls).ts.length - 1)) = true := decide_eq_true hm
    have hpos : 1 ≤ (earl n ls).ts.length := by omega
    clear hf h hs h4 hlen hm
    generalize (earl n ls).ts = ts at HEA hmb hpos
    go_enter Try.func74, Try.ntmps74
    go_wp2_with fail
    refine hc.mono ?_
    rintro e w1 ⟨rfl, hb⟩
    go_wp2_with (go_at_call 57; refine (within57 _ _ _ _).mono ?_; rintro e w' ⟨rfl, rfl⟩)
    refine (HOP.out w1 hb).mono ?_
    rintro e w2 ⟨g, rfl, _, hN, _, hb2⟩
    have HN := Lib.hid hN
    clear hN
    go_wp2_with fail
    refine (HEA.out w2 g _ HN.out (fun q hq => hq)).mono ?_
    rintro e w3 ⟨gt, ct, rfl, hO, hb3⟩
    have hmx := max100 (some ⟨gt, 0, none⟩) ct ts w3 hO.rd hpos
    clear hO
    generalize maxTo ts (ts.length - 1) = mx at hmx hmb
    go_wp2_with (go_at_call 100; refine hmx.mono ?_; rintro e w' ⟨rfl, rfl⟩)
    go_ret3
    exact ⟨rfl, below_then (below_then hb hb.size hb2) (Nat.le_trans hb.size hb2.size) hb3⟩
end

theorem maxTo_ge (xs : List Int) : ∀ (k j : Nat), j ≤ k → xs.getD j 0 ≤ maxTo xs k
  | 0, j, h => by obtain rfl : j = 0 := by omega
                  exact Int.le_refl _
  | k + 1, j, h => by
    simp only [maxTo]
    rcases Nat.lt_or_ge j (k + 1) with h1 | h1
    · have := maxTo_ge xs k j (by omega)
      omega
    · obtain rfl : j = k + 1 := by omega
      omega

theorem maxTo_le (xs : List Int) (m : Int) : ∀ (k : Nat), (∀ j, j ≤ k → xs.getD j 0 ≤ m) → maxTo xs k ≤ m
  | 0, h => h 0 (Nat.le_refl _)
  | k + 1, h => by
    simp only [maxTo]
    have := maxTo_le xs m k (fun j hj => h j (by omega))
    have := h (k + 1) (Nat.le_refl _)
    omega

/-- the greatest of all -/
def top (xs : List Int) : Int := maxTo xs (xs.length - 1)

theorem lat_all {n : Int} {ls : List T3} (h : rightB n ls = true) (hf : (earl n ls).raised < 0) {last : Int} (hl : inB last 0 1000000000 = true) (hm : top (earl n ls).ts ≤ last) :
    (roundL (allOf n ls) (lat n ls last)).ch = false ∧ (∀ r, (roundL (allOf n ls) (iterL (allOf n ls) r (startL n.toNat last))).ch = false → iterL (allOf n ls) r (startL n.toNat last) = lat n ls last) ∧
    (∀ r k, ∀ x ∈ (partL (allOf n ls) k ⟨iterL (allOf n ls) r (startL n.toNat last), false⟩).xs, 0 ≤ x ∧ x ≤ 1000000000) ∧ LeAt n.toNat (earl n ls).ts (lat n ls last) ∧ LeAt n.toNat (earl n ls).ts (startL n.toNat last) := by
  obtain ⟨h1, h2, h3, h4⟩ := right_out h
  have hV := valid_all h
  obtain ⟨z1, z2, z3, z4, z5⟩ := earl_zero h hf
  have hl' : 0 ≤ last ∧ last ≤ 1000000000 := by simpa [inB] using hl
  have hle : LeAt n.toNat (earl n ls).ts (startL n.toNat last) := fun v a b => by
    rw [start_get _ _ _ a b]
    split
    · rename_i e; rw [e, z2]; exact Int.le_refl _
    · have := maxTo_ge (earl n ls).ts ((earl n ls).ts.length - 1) v.toNat (by omega)
      show (earl n ls).ts.getD v.toNat 0 ≤ last
      unfold top at hm
      omega
  obtain ⟨e1, e2, e3, e4, e5⟩ := lat_ends hV (by omega) (by rw [all_len]; omega) last z3
  exact ⟨e1, e2, low_bounds hV last hl'.1 hl'.2 z3 z4 hle, e5 _ z3 hle, hle⟩

theorem lat_len (n : Int) (ls : List T3) (last : Int) : (lat n ls last).length = n.toNat := iterL_len (startL_len _ _) _

section
variable (n : Int) (A : Option Addr) (c : Nat) (ls : List T3) (last : Int) (w : World) (hr : RdT w (.slice A ls.length c) ls)
include hr

set_option maxHeartbeats 1000000 in
theorem both74_ok (h : rightB n ls = true) (hl : inB last 0 1000000000 = true) (hs : Small n ls) (hf : (earl n ls).raised < 0) (hm : top (earl n ls).ts ≤ last) :
    Calls Try.prog 74 #[.int .i64 n, .slice A ls.length c, .int .i64 last] w fun e w' => ∃ gt ct gl cl, e = .returned (.tuple #[.slice (some ⟨gt, 0, none⟩) (earl n ls).ts.length ct, .slice (some ⟨gl, 0, none⟩) (lat n ls last).length cl, .int .i64 0]) ∧
      RdI w' (.slice (some ⟨gt, 0, none⟩) (earl n ls).ts.length ct) (earl n ls).ts ∧ (∃ B, w.heap.size ≤ B ∧ Own w' B gl cl (lat n ls last) ∧ gt < B) ∧ w.heap.size ≤ gt ∧ Below w.heap.size w w' := by
  obtain ⟨h1, h2, h3, h4⟩ := right_out h
  obtain ⟨l1, l2, l3, _⟩ := lat_all h hf hl hm
  have hc := right56 n A c ls w hr
  rw [h] at hc
  have HOP := Lib.hid (opens n A c ls w hr h hs)
  have HEA := Lib.hid (ear_ok n ls h hs hf)
  have hq := q25
  have hlen : (earl n ls).ts.length = n.toNat := rounds_len _ (by simp)
  have hpos : 1 ≤ (earl n ls).ts.length := by omega
  have hmb : decide (last < maxTo (earl n ls).ts ((earl n ls).ts.length - 1)) = false := decide_eq_false (by unfold top at hm; omega)
  have hl' : 0 ≤ last ∧ last ≤ 1000000000 := by simpa [inB] using hl
  have hlat : ∀ W g (S : Nat → Prop), NetAt W g n (allOf n ls) S → (∀ q, S q → q < W.heap.size) → Calls Try.prog 101 #[.pointer (some ⟨g, 0, none⟩), .int .i64 last] W fun e w' => ∃ gl cl, e = .returned (.slice (some ⟨gl, 0, none⟩) (lat n ls last).length cl) ∧ Own w' W.heap.size gl cl (lat n ls last) ∧ Below W.heap.size W w' := by
    intro W g S hN hS
    have hV := valid_all h
    have hal := all_len n ls
    obtain ⟨m, rfl⟩ : ∃ m : Nat, n = m := ⟨n.toNat, by omega⟩
    have hs1 := hs.1
    have hs2 := hs.2
    have := latest101 m (allOf m ls) g S W hN hS (by omega) (by omega) (by rw [hal]; simp; omega) hV last hl'.1 hl'.2 m l1 l3
    refine this.mono ?_
    rintro e w' ⟨gl, cl, r, rfl, hO, hch, hb⟩
    rw [show iterL (allOf m ls) r (startL m last) = lat m ls last from l2 r hch] at hO
    exact ⟨gl, cl, by rw [lat_len]; rfl, hO, hb⟩
  have HLA := Lib.hid hlat
  clear hr hf h hs h4 hlen hm l1 l2 l3 hlat hl'
  generalize (earl n ls).ts = ts at HEA hmb hpos ⊢
  generalize lat n ls last = la at HLA ⊢
  go_enter Try.func74, Try.ntmps74
  go_wp2_with fail
  refine hc.mono ?_
  rintro e w1 ⟨rfl, hb⟩
  go_wp2_with (go_at_call 57; refine (within57 _ _ _ _).mono ?_; rintro e w' ⟨rfl, rfl⟩)
  refine (HOP.out w1 hb).mono ?_
  rintro e w2 ⟨g, rfl, _, hN, _, hb2⟩
  have HN := Lib.hid hN
  clear hN
  go_wp2_with fail
  refine (HEA.out w2 g _ HN.out (fun q hq => hq)).mono ?_
  rintro e w3 ⟨gt, ct, rfl, hO, hb3⟩
  have hmx := max100 (some ⟨gt, 0, none⟩) ct ts w3 hO.rd hpos
  have hgt : w2.heap.size ≤ gt ∧ gt < w3.heap.size := by obtain ⟨_, q1, q2, _⟩ := hO.blk; exact ⟨q1, q2⟩
  have HRT := Lib.hid hO.rd
  have HN3 := Lib.hid (HN.out.below hb3)
  clear hO
  generalize maxTo ts (ts.length - 1) = mx at hmx hmb
  go_wp2_with (go_at_call 100; refine hmx.mono ?_; rintro e w' ⟨rfl, rfl⟩)
  refine (HLA.out w3 g _ HN3.out (fun q hq => Nat.lt_of_lt_of_le hq hb3.size)).mono ?_
  rintro e w4 ⟨gl, cl, rfl, hOl, hb4⟩
  go_wp2
  go_ret3
  have hs2 := hb2.size
  have hs1 := hb.size
  exact ⟨gt, ct, gl, cl, rfl, Rd.below HRT.out hb4, ⟨w3.heap.size, by have := hb3.size; omega, hOl, hgt.2⟩, by omega, below_then (below_then (below_then hb hb.size hb2) (by omega) hb3) (by have := hb3.size; omega) hb4⟩
end

section
variable (n : Int) (A : Option Addr) (c : Nat) (ls : List T3) (last : Int) (w : World) (hr : RdT w (.slice A ls.length c) ls)
include hr

theorem latest34_arg (h : rightB n ls = false ∨ inB last 0 1000000000 = false) : Calls Try.prog 34 #[.int .i64 n, .slice A ls.length c, .int .i64 last] w fun e w' => e = .returned (.tuple #[.slice none 0 0, .int .i64 2]) ∧ Below w.heap.size w w' := by
  have hb := both74_arg n A c ls last w hr h
  clear hr h
  go_enter Try.func34, Try.ntmps34
  go_wp2_with (go_at_call 74; refine hb.mono ?_; rintro e w1 ⟨rfl, hb⟩)
  go_ret2
  exact ⟨rfl, hb⟩

theorem latest34_none (h : rightB n ls = true) (hl : inB last 0 1000000000 = true) (hs : Small n ls) (hf : 0 ≤ (earl n ls).raised ∨ ((earl n ls).raised < 0 ∧ last < top (earl n ls).ts)) : Calls Try.prog 34 #[.int .i64 n, .slice A ls.length c, .int .i64 last] w fun e w' => e = .returned (.tuple #[.slice none 0 0, .int .i64 5]) ∧ Below w.heap.size w w' := by
  have hb := both74_none n A c ls last w hr h hl hs hf
  clear hr h hl hs hf
  go_enter Try.func34, Try.ntmps34
  go_wp2_with (go_at_call 74; refine hb.mono ?_; rintro e w1 ⟨rfl, hb⟩)
  go_ret2
  exact ⟨rfl, hb⟩

theorem latest34_ok (h : rightB n ls = true) (hl : inB last 0 1000000000 = true) (hs : Small n ls) (hf : (earl n ls).raised < 0) (hm : top (earl n ls).ts ≤ last) :
    Calls Try.prog 34 #[.int .i64 n, .slice A ls.length c, .int .i64 last] w fun e w' => ∃ gl cl, e = .returned (.tuple #[.slice (some ⟨gl, 0, none⟩) (lat n ls last).length cl, .int .i64 0]) ∧ RdI w' (.slice (some ⟨gl, 0, none⟩) (lat n ls last).length cl) (lat n ls last) ∧ Below w.heap.size w w' := by
  have hb := both74_ok n A c ls last w hr h hl hs hf hm
  clear hr h hl hs hf hm
  generalize lat n ls last = la at hb ⊢
  generalize (earl n ls).ts = ts at hb
  go_enter Try.func34, Try.ntmps34
  go_wp2_with (go_at_call 74; refine hb.mono ?_; rintro e w1 ⟨gt, ct, gl, cl, rfl, _, ⟨B, hB, hO, _⟩, _, hb⟩)
  go_ret2
  exact ⟨gl, cl, rfl, hO.rd, hb⟩
end
end Go.Proofs.Ytpknonebnipcgaa.E
