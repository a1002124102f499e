import Derived.Test.YtpknonebnipcgaaProg
import Derived.WalkKit
import Derived.KernelRfl
import Derived.Deep.LoopGhost
import Derived.Deep.QuietTactic
import Derived.BigQuiet
import Derived.Deep.DeepCutAuto
import Derived.Deep.CutBlock
import Derived.Deep.RegionHeld3
import Derived.WalkLawsBesides
import Derived.WalkSpells
import Derived.Outline
import Derived.Deep.DeepFit
import Derived.Lib.Hide
import Derived.Shelf.Abstract
import Derived.Lib.SliceRun
import Derived.Test.YtpknonebnipcgaaW

namespace Go.Proofs.Ytpknonebnipcgaa.Y
open Go.RowKit Go.Shelf Go.Proofs.Ytpknonebnipcgaa.V Go.Proofs.Ytpknonebnipcgaa.A Go.Proofs.Ytpknonebnipcgaa.B Go.Proofs.Ytpknonebnipcgaa.C Go.Proofs.Ytpknonebnipcgaa.P Go.Proofs.Ytpknonebnipcgaa.D Go.Proofs.Ytpknonebnipcgaa.E Go.Proofs.Ytpknonebnipcgaa.G Go.Proofs.Ytpknonebnipcgaa.K Go.Proofs.Ytpknonebnipcgaa.N Go.Proofs.Ytpknonebnipcgaa.U Go.Proofs.Ytpknonebnipcgaa.W
set_option linter.unusedVariables false
set_option linter.unusedSimpArgs false

theorem getDt {xs : List T3} {j : Nat} (h : j < xs.length) : xs[j]? = some (xs.getD j z3) := by
  rw [List.getD_eq_getElem?_getD, List.getElem?_eq_getElem h]; rfl

set_option maxHeartbeats 4000000 in
theorem net19 (n : Int) (A : Option Addr) (c : Nat) (ls : List T3) (w : World) (hr : RdT w (.slice A ls.length c) ls) :
    Calls Try.prog 19 #[.int .i64 n, .slice A ls.length c] w fun e w' => e = .returned (.bool (rightB n ls)) ∧ Below w.heap.size w w' := by
  have hll := (RdR.len hr).2
  have HR := Lib.hid hr
  clear hr
  obtain ⟨r, hrr⟩ : ∃ r, rightB n ls = r := ⟨_, rfl⟩
  rw [hrr]
  have HRR := Lib.hid hrr
  clear hrr
  cases h1 : inB n 1 500
  · have hf : r = false := by rw [← HRR.out]; unfold rightB; rw [h1]; rfl
    subst hf
    go_enter Try.func19, Try.ntmps19
    go_wp2_with (go_at_call 63; refine (in63 _ _ _ _).mono ?_; rintro e w' ⟨rfl, rfl⟩)
    go_ret
    exact ⟨rfl, Below.refl _ _⟩
  have hn : 1 ≤ n ∧ n ≤ 500 := by simpa [inB] using h1
  cases h2 : decide ((5000 : Int) < (ls.length : Int))
  rotate_left
  · have hf : r = false := by
      rw [← HRR.out]
      have := of_decide_eq_true h2
      have h3 : decide (ls.length ≤ 5000) = false := decide_eq_false (by omega)
      unfold rightB
      rw [h1, h3]
      rfl
    subst hf
    go_enter Try.func19, Try.ntmps19
    go_wp2_with (go_at_call 63; refine (in63 _ _ _ _).mono ?_; rintro e w' ⟨rfl, rfl⟩)
    go_ret
    exact ⟨rfl, Below.refl _ _⟩
  have hr2 : r = ls.all (okLk n) := by
    rw [← HRR.out]
    have := of_decide_eq_false h2
    have h3 : decide (ls.length ≤ 5000) = true := decide_eq_true (by omega)
    unfold rightB
    rw [h1, h3]
    rfl
  have HR2 := Lib.hid hr2
  clear hr2
  go_enter Try.func19, Try.ntmps19
  go_wp2_with (go_at_call 63; refine (in63 _ _ _ _).mono ?_; rintro e w' ⟨rfl, rfl⟩)
  go_loopg [5, 6] ls.length (fun gg s5 s6 wr => ∃ k : Nat, k ≤ ls.length ∧ ls.length - k ≤ gg ∧ s5 = .int .i64 k ∧ Hid (Below w.heap.size w wr) ∧ Hid (∀ j x, j < k → ls[j]? = some x → okLk n x = true))
  case atStart => exact ⟨0, Nat.zero_le _, by omega, rfl, Lib.hid (Below.refl _ _), Lib.hid (fun j x hj => by omega)⟩
  case round =>
    obtain ⟨k, hk, hgg, rfl, HB, HA⟩ := hrel
    by_cases hlt : k < ls.length
    · have hx := getDt hlt
      obtain ⟨b, o, rfl, hb, c0, c1, c2⟩ := Rd.t3 HR.out k _ hx
      replace c0 := (HB.out.cell (p := ⟨b, o + k * 3, none⟩) hb).trans c0
      replace c1 := (HB.out.cell (p := ⟨b, o + k * 3 + 1, none⟩) hb).trans c1
      replace c2 := (HB.out.cell (p := ⟨b, o + k * 3 + 2, none⟩) hb).trans c2
      have hbw := Nat.lt_of_lt_of_le hb HB.out.size
      have HX := Lib.hid hx
      clear hx
      generalize ls.getD k z3 = x at *
      have hsz := HB.out.size
      have hbad : okLk n x = false → r = false := fun h => by
        rw [HR2.out, List.all_eq_false]
        exact ⟨x, List.mem_of_getElem? HX.out, by simp [h]⟩
      have HBAD := Lib.hid hbad
      clear hbad
      cases q1 : inB x.a 0 (n - 1)
      · have hf : r = false := HBAD.out (by unfold okLk; rw [q1]; rfl)
        subst hf
        go_wp2_with (go_at_call 63; refine (in63 _ _ _ _).mono ?_; rintro e w' ⟨rfl, rfl⟩)
        go_ret
        exact ⟨rfl, HB.out.alloc hsz _⟩
      cases q2 : inB x.b 0 (n - 1)
      · have hf : r = false := HBAD.out (by unfold okLk; rw [q1, q2]; rfl)
        subst hf
        go_wp2_with (go_at_call 63; refine (in63 _ _ _ _).mono ?_; rintro e w' ⟨rfl, rfl⟩)
        go_ret
        exact ⟨rfl, HB.out.alloc hsz _⟩
      cases q3 : inB x.c (-1000000) 1000000
      · have hf : r = false := HBAD.out (by unfold okLk; rw [q1, q2, q3]; rfl)
        subst hf
        go_wp2_with (go_at_call 63; refine (in63 _ _ _ _).mono ?_; rintro e w' ⟨rfl, rfl⟩)
        go_ret
        exact ⟨rfl, HB.out.alloc hsz _⟩
      go_wp2_with (go_at_call 63; refine (in63 _ _ _ _).mono ?_; rintro e w' ⟨rfl, rfl⟩)
      go_roundg (ls.length - (k + 1))
      case measure => omega
      case rel =>
        refine ⟨k + 1, by omega, by omega, by go_num, Lib.hid (HB.out.alloc hsz _), Lib.hid (fun j y hj hy => ?_)⟩
        by_cases e : j = k
        · subst e
          rw [HX.out] at hy
          injection hy with hy
          subst hy
          unfold okLk
          rw [q1, q2, q3]
          rfl
        · exact HA.out j y (by omega) hy
    · obtain rfl : k = ls.length := by omega
      have ht : r = true := by
        rw [HR2.out, List.all_eq_true]
        intro x hx
        obtain ⟨j, hj⟩ := List.getElem?_of_mem hx
        exact HA.out j x (List.getElem?_eq_some_iff.1 hj).1 hj
      subst ht
      go_wp2_with fail
      go_ret
      exact ⟨rfl, HB.out⟩
end Go.Proofs.Ytpknonebnipcgaa.Y
