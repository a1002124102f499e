import Derived.Test.YtpknonebnipcgaaProg
import Derived.WalkKit
import Derived.KernelRfl
import Derived.Deep.LoopGhost
import Derived.Deep.QuietTactic
import Derived.BigQuiet
import Derived.Deep.DeepCutAuto
import Derived.Deep.CutBlock
import Derived.Deep.RegionHeld3
import Derived.WalkLawsBesides
import Derived.WalkSpells
import Derived.Outline
import Derived.Deep.DeepFit
import Derived.Lib.Hide
import Derived.Shelf.Abstract
import Derived.Lib.SliceRun
import Derived.Test.YtpknonebnipcgaaE

namespace Go.Proofs.Ytpknonebnipcgaa.H
open Go.RowKit Go.Shelf Go.Proofs.Ytpknonebnipcgaa.V Go.Proofs.Ytpknonebnipcgaa.A Go.Proofs.Ytpknonebnipcgaa.B Go.Proofs.Ytpknonebnipcgaa.C Go.Proofs.Ytpknonebnipcgaa.P Go.Proofs.Ytpknonebnipcgaa.D Go.Proofs.Ytpknonebnipcgaa.E
set_option linter.unusedVariables false
set_option linter.unusedSimpArgs false

/-! ### push -/
theorem push75 (x : Int) (w : World) : Calls Try.prog 75 #[.int .i64 x] w fun e w' => e = .returned (.bool (!inB x 0 1000000000)) ∧ w = w' := by
  go_enter Try.func75, Try.ntmps75
  go_wp2_with (go_at_call 57; refine (within57 _ _ _ _).mono ?_; rintro e w' ⟨rfl, rfl⟩)
  go_ret
  exact ⟨rfl, rfl⟩

/-- times from which one may push -/
def timesB (n : Int) (ts : List Int) : Bool := decide ((ts.length : Int) = n) && ((ts.getD 0 0 == 0) && !(ts.any fun x => !inB x 0 1000000000))

theorem timesB_out {n : Int} {ts : List Int} (h : timesB n ts = true) : (ts.length : Int) = n ∧ ts.getD 0 0 = 0 ∧ ∀ x ∈ ts, 0 ≤ x ∧ x ≤ 1000000000 := by
  unfold timesB at h
  simp only [Bool.and_eq_true, decide_eq_true_eq, beq_iff_eq, Bool.not_eq_true', List.any_eq_false] at h
  refine ⟨h.1, h.2.1, fun x hx => ?_⟩
  have := h.2.2 x hx
  simpa [inB] using this

section
variable (n : Int) (A : Option Addr) (c : Nat) (ls : List T3) (At : Option Addr) (ct : Nat) (ts : List Int) (w : World) (hr : RdT w (.slice A ls.length c) ls) (ht : RdI w (.slice At ts.length ct) ts)
include hr ht

theorem push35_arg (h : rightB n ls = false ∨ timesB n ts = false) : Calls Try.prog 35 #[.int .i64 n, .slice A ls.length c, .slice At ts.length ct] w fun e w' => e = .returned (.tuple #[.slice none 0 0, .int .i64 2]) ∧ Below w.heap.size w w' := by
  have hc' := right56 n A c ls w hr
  have hlt := (RdR.len ht).2
  clear hr
  cases h5 : rightB n ls
  · rw [h5] at hc'
    clear ht
    go_enter Try.func35, Try.ntmps35
    go_wp2_with (go_at_call 56; refine hc'.mono ?_; rintro e w1 ⟨rfl, hb⟩)
    go_ret2
    exact ⟨rfl, hb⟩
  · have h6 : timesB n ts = false := by rcases h with h | h; rw [h5] at h; cases h; exact h
    obtain ⟨h1, h2, _, h4⟩ := right_out h5
    rw [h5] at hc'
    clear h h4 h5
    by_cases hlen : (ts.length : Int) = n
    · subst hlen
      have d1 : ((ts.length : Int) != (ts.length : Int)) = false := by rw [bne_eq_false_iff_eq]
      have hz := getD_get (xs := ts) (j := 0) (by omega)
      obtain ⟨b0, o0, rfl, hb0, z0⟩ := Rd.i ht 0 _ hz
      rw [Nat.add_zero] at z0
      unfold timesB at h6
      have HT := Lib.hid ht
      rw [decide_eq_true rfl, Bool.true_and] at h6
      generalize ts.getD 0 0 = z at h6 z0
      clear ht hz
      cases hz0 : (z == 0)
      · have hz1 : (z != 0) = true := by simp [bne, hz0]
        go_enter Try.func35, Try.ntmps35
        go_wp2_with fail
        refine hc'.mono ?_
        rintro e w1 ⟨rfl, hb⟩
        have z1 : w1.cell? ⟨b0, o0, none⟩ = some (.int .i64 z) := (hb.cell (p := ⟨b0, o0, none⟩) hb0).trans z0
        go_wp2
        go_ret2
        exact ⟨rfl, hb⟩
      · have hz1 : (z != 0) = false := by simp [bne, hz0]
        rw [hz0, Bool.true_and] at h6
        go_enter Try.func35, Try.ntmps35
        go_wp2_with fail
        refine hc'.mono ?_
        rintro e w1 ⟨rfl, hb⟩
        have z1 : w1.cell? ⟨b0, o0, none⟩ = some (.int .i64 z) := (hb.cell (p := ⟨b0, o0, none⟩) hb0).trans z0
        have hcon := containsFunc70 75 #[] (enters_of Try.func75 (by kernel_rfl) rfl) (fun x => !inB x 0 1000000000) (some ⟨b0, o0, none⟩) ct ts w1 (Rd.below HT.out hb) (fun W x hx hb => (push75 x W).mono (by rintro e w' ⟨rfl, rfl⟩; exact ⟨rfl, Below.refl _ _⟩))
        have h7 : (ts.any fun x => !inB x 0 1000000000) = true := by simpa using h6
        rw [h7] at hcon
        go_wp2_with (go_at_call 70; refine hcon.mono ?_; rintro e w2 ⟨rfl, hb2⟩)
        go_ret2
        exact ⟨rfl, below_then hb hb.size hb2⟩
    · have d1 : ((ts.length : Int) != n) = true := by rw [bne_iff_ne]; exact hlen
      clear h6 ht
      go_enter Try.func35, Try.ntmps35
      go_wp2_with fail
      refine hc'.mono ?_
      rintro e w1 ⟨rfl, hb⟩
      go_wp2
      go_ret2
      exact ⟨rfl, hb⟩

/-- what pushing comes to -/
def pushed (n : Int) (ls : List T3) (ts : List Int) : St := pushF n.toNat (allOf n ls) ts

theorem push35_go (h : rightB n ls = true) (hs : Small n ls) (hts : timesB n ts = true) :
    Calls Try.prog 35 #[.int .i64 n, .slice A ls.length c, .slice At ts.length ct] w fun e w' =>
      (((0 ≤ (pushed n ls ts).raised ∨ (pushed n ls ts).ts.getD 0 0 ≠ 0) → e = .returned (.tuple #[.slice none 0 0, .int .i64 5])) ∧
       ((pushed n ls ts).raised < 0 → (pushed n ls ts).ts.getD 0 0 = 0 → ∃ g c', e = .returned (.tuple #[.slice (some ⟨g, 0, none⟩) (pushed n ls ts).ts.length c', .int .i64 0]) ∧ RdI w' (.slice (some ⟨g, 0, none⟩) (pushed n ls ts).ts.length c') (pushed n ls ts).ts)) ∧
      Below w.heap.size w w' := by
  have hc' := right56 n A c ls w hr
  have hlt := (RdR.len ht).2
  obtain ⟨h1, h2, _, h4⟩ := right_out h
  obtain ⟨hlen, hz0, hbd⟩ := timesB_out hts
  have hop := opens n A c ls w hr h hs
  have hV := valid_all h
  have hal := all_len n ls
  rw [h] at hc'
  subst hlen
  have hz := getD_get (xs := ts) (j := 0) (by omega)
  rw [hz0] at hz
  obtain ⟨b0, o0, rfl, hb0, z0⟩ := Rd.i ht 0 _ hz
  rw [Nat.add_zero] at z0
  have hany : (ts.any fun x => !inB x 0 1000000000) = false := by
    unfold timesB at hts
    simp only [Bool.and_eq_true, Bool.not_eq_true'] at hts
    exact hts.2.2
  have hn20 := hs.1
  have hl80 := hs.2
  simp only [Int.toNat_natCast] at hal hV
  have hall : (allOf ts.length ls).length ≤ 100 := by omega
  have hplen : (pushed ts.length ls ts).ts.length = ts.length := by
    unfold pushed pushF
    rw [Int.toNat_natCast]
    exact (rounds_len _ (by simp))
  have HPL := Lib.hid hplen
  have hpu : pushed ts.length ls ts = pushF ts.length (allOf ts.length ls) ts := by unfold pushed; rw [Int.toNat_natCast]
  have HPU := Lib.hid hpu
  have HOP := Lib.hid hop
  have HT := Lib.hid ht
  have HV := Lib.hid hV
  have HBD := Lib.hid hbd
  generalize pushed ts.length ls ts = st at *
  generalize allOf ts.length ls = all at *
  clear hr h4 hop ht hV hal hbd h hs hts hz0 hz hplen hpu
  obtain ⟨z, hzv⟩ : ∃ z, st.ts.getD 0 0 = z := ⟨_, rfl⟩
  rw [hzv]
  have HZV := Lib.hid hzv
  clear hzv
  go_enter Try.func35, Try.ntmps35
  go_wp2_with fail
  refine hc'.mono ?_
  rintro e w1 ⟨rfl, hb⟩
  have z1 : w1.cell? ⟨b0, o0, none⟩ = some (.int .i64 0) := (hb.cell (p := ⟨b0, o0, none⟩) hb0).trans z0
  have hcon := containsFunc70 75 #[] (enters_of Try.func75 (by kernel_rfl) rfl) (fun x => !inB x 0 1000000000) (some ⟨b0, o0, none⟩) ct ts w1 (Rd.below HT.out hb) (fun W x hx hb => (push75 x W).mono (by rintro e w' ⟨rfl, rfl⟩; exact ⟨rfl, Below.refl _ _⟩))
  rw [hany] at hcon
  have HB1 := Lib.hid hb
  clear hb
  go_wp2_with (go_at_call 70; refine hcon.mono ?_; rintro e w2 ⟨rfl, hb2⟩)
  have HB2 := Lib.hid (below_then HB1.out HB1.out.size hb2)
  clear hb2 hcon z1
  refine (clone76 _ _ ts w2 (Rd.below HT.out HB2.out) (by omega)).mono ?_
  rintro e w3 ⟨A3, c3, rfl, hO3, hb3⟩
  obtain ⟨g3, c3', hv, hg31, hg32, hg33⟩ := owns_pos hO3 (by omega)
  injection hv with hv1 hv2 hv3
  subst hv1 hv3
  have HO3 : Hid (Own w3 w2.heap.size g3 c3 ts) := Lib.hid hO3
  have HB3 := Lib.hid (below_then HB2.out HB2.out.size hb3)
  clear hO3 hb3
  go_wp2_with fail
  refine (HOP.out w3 HB3.out).mono ?_
  rintro e w4 ⟨g, rfl, hN1, hN, hg1, hb4⟩
  have HN := Lib.hid hN1
  have HO4 := Lib.hid (HO3.out.below hb4)
  have HB4 := Lib.hid (below_then HB3.out HB3.out.size hb4)
  have hs4 := hb4.size
  clear hN1 hN hb4
  have hpush := push77 ts.length all g w4 _ HN.out w2.heap.size g3 c3 (fun q hq => by have : w3.heap.size ≤ q := hq; omega) ts HO4.out (by omega) (by omega) hall (by have := HV.out; exact this) rfl HBD.out
  rw [← HPU.out] at hpush
  have HP := Lib.hid hpush
  clear hpush
  go_wp2_with fail
  refine HP.out.mono ?_
  rintro e w5 ⟨gb, cb, rfl, hO5, _, hg5⟩
  have hB5 : Below w.heap.size w w5 := HB4.out.grown hg5 HB4.out.size (by intro k' hk'; injection hk' with hk'; have := HB2.out.size; omega)
  have HB5 := Lib.hid hB5
  have HO5 := Lib.hid hO5
  have hzz := getD_get (xs := st.ts) (j := 0) (by rw [HPL.out]; omega)
  rw [HZV.out] at hzz
  have ⟨y0, _⟩ := Own.at hO5 hzz
  clear hO5 hB5 hg5 hzz
  by_cases hra : 0 ≤ st.raised
  · have d : decide (0 ≤ st.raised) = true := decide_eq_true hra
    go_wp2
    go_ret2
    exact ⟨⟨fun _ => rfl, fun h => by omega⟩, HB5.out⟩
  · have d : decide (0 ≤ st.raised) = false := decide_eq_false hra
    cases hz9 : (z == 0)
    · have hz8 : (z != 0) = true := by simp [bne, hz9]
      go_wp2
      go_ret2
      refine ⟨⟨fun _ => rfl, fun _ h => ?_⟩, HB5.out⟩
      rw [h] at hz9
      cases hz9
    · have hz8 : (z != 0) = false := by simp [bne, hz9]
      go_wp2
      go_ret2
      refine ⟨⟨fun h => ?_, fun _ _ => ⟨g3, c3, ?_, ?_⟩⟩, HB5.out⟩
      · rcases h with h | h
        · omega
        · exact absurd (beq_iff_eq.1 hz9) h
      · rw [HPL.out]; rfl
      · exact HO5.out.rd
end
end Go.Proofs.Ytpknonebnipcgaa.H
