/- PROVED: for every net, list of times and chain that can be given to it, TimetableKeeps returns true, does not panic, and leaves its arguments as they were; there is no further condition. -/
import Derived.Test.YtpknonebnipcgaaRows
import Derived.Test.YtpknonebnipcgaaZm
import Derived.Test.YtpknonebnipcgaaRa
import Derived.WalkKit
import Derived.ProofKit
import Derived.OpenShut
import Derived.ShutString
import Derived.ChangeOld
import Derived.Below
import Derived.SizedLaws
namespace Go.Proofs.Ytpknonebnipcgaa.timetableKeeps
open Go.ChangeShapes Go.WideShapes Go.ChangeAt Go.RowKit Go.Proofs.Ytpknonebnipcgaa.V Go.Proofs.Ytpknonebnipcgaa.Ra
set_option linter.unusedVariables false
set_option maxRecDepth 100000 in
theorem lifted (os : Os) (started : os.Started) (H : Type) (enc : TypeId × Value → H) :
    ReturnsInHanded {} Try.checked os 7 .any (Rows.timetableKeepsSpec.pre6 enc Try.prog Try.f7 Rows.timetableKeepsRow.domain false) (Rows.timetableKeepsSpec.post enc Try.prog Try.f7 false true false false) := by
  refine returnsInHanded_of_change_sized (C := Try.checked) own started (by kernel_rfl) Try.func7
    (ChangeSpec.witness6 (enc := enc) (C := Try.checked) false ⟨#[], #[.int .i64 0, .slice none 0 0, .slice none 0 0, .slice none 0 0], []⟩ 8 (by kernel_rfl) (by kernel_rfl) (by kernel_rfl) (by kernel_rfl)) ?_
  intro W base args ds gs before hval0 hW hcnd hsz0 _
  have hsz : (DataW.weightsEach Try.prog (Try.f7.params.toList ++ Rows.timetableKeepsSpec.plain.varTypes Try.prog) (ds ++ gs)).all (· ≤ reachBytes) = true := hsz0
  have hval : ∀ (j : Nat) t v, Try.f7.params[j]? = some t → args[j]? = some v → Value.okWide Try.prog W .any base t v := hval0
  have hW' := hW
  obtain ⟨p, q, hA0, hV, rfl, hfz, hnd⟩ := hW
  have hA : DataW.TrodAll enc Try.prog W 0 (fun _ => true) true Try.f7.params.toList args.toList ds p := hA0
  rw [Try.params7] at hA hval hsz
  obtain ⟨v0, vs0, d0, ds0, p0, q0, hargs, rfl, rfl, h0, r0⟩ := trodAll_cons hA
  obtain ⟨v1, vs1, d1, ds1, p1, q1, rfl, rfl, rfl, h1, r1⟩ := trodAll_cons r0
  obtain ⟨v2, vs2, d2, ds2, p2, q2, rfl, rfl, rfl, h2, r2⟩ := trodAll_cons r1
  obtain ⟨v3, vs3, d3, ds3, p3, q3, rfl, rfl, rfl, h3, r3⟩ := trodAll_cons r2
  obtain ⟨rfl, rfl, rfl⟩ := trodAll_nil r3
  obtain rfl : args = #[v0, v1, v2, v3] := by cases args; simp_all
  obtain ⟨rfl, rfl⟩ := trodVars_none hV
  obtain ⟨a0, rfl, rfl, rfl, w0⟩ := open_int Try.underlying3 (hval 0 3 v0 rfl rfl) h0
  have k1 := h1
  have lt1 : ∀ x ∈ p1, x.block < W.heap.size := by obtain ⟨m, hm⟩ := k1; exact DataW.trod_lt m _ _ _ hm
  obtain ⟨a1, len1, cap1, rfl⟩ := okWide_slice Try.underlying22 (hval 1 22 v1 rfl rfl)
  obtain ⟨fuel1, hf1⟩ := h1
  obtain ⟨z1, hl1, hr1, hs1⟩ := open_t3s Try.underlying22 cells58 (fun n cs y h => open_t3 Try.underlying58 cells58 rfl rfl rfl rfl rfl rfl h) hf1
  have y1 : z1.length * 24 ≤ 140737488351232 := by
    rcases hs1 with h | ⟨el, sp, e1, e2⟩
    · omega
    · have hz := sized_slice hsz (j := 1) (t := 22) (e := 58) rfl (by show some d1 = _; rw [show d1 = _ from e1]) Try.underlying22
      rw [bytes58, reach] at hz
      omega
  subst hl1
  have k2 := h2
  have lt2 : ∀ x ∈ p2, x.block < W.heap.size := by obtain ⟨m, hm⟩ := k2; exact DataW.trod_lt m _ _ _ hm
  obtain ⟨a2, len2, cap2, rfl⟩ := okWide_slice Try.underlying25 (hval 2 25 v2 rfl rfl)
  obtain ⟨fuel2, hf2⟩ := h2
  obtain ⟨z2, hl2, hr2, hb2, hs2⟩ := open_is hf2
  have y2 : z2.length * 8 ≤ 140737488351232 := by
    rcases hs2 with h | ⟨el, sp, e1, e2⟩
    · omega
    · have hz := sized_slice hsz (j := 2) (t := 25) (e := 3) rfl (by show some d2 = _; rw [show d2 = _ from e1]) Try.underlying25
      rw [bytes3, reach] at hz
      omega
  subst hl2
  have k3 := h3
  have lt3 : ∀ x ∈ p3, x.block < W.heap.size := by obtain ⟨m, hm⟩ := k3; exact DataW.trod_lt m _ _ _ hm
  obtain ⟨a3, len3, cap3, rfl⟩ := okWide_slice Try.underlying25 (hval 3 25 v3 rfl rfl)
  obtain ⟨fuel3, hf3⟩ := h3
  obtain ⟨z3, hl3, hr3, hb3, hs3⟩ := open_is hf3
  have y3 : z3.length * 8 ≤ 140737488351232 := by
    rcases hs3 with h | ⟨el, sp, e1, e2⟩
    · omega
    · have hz := sized_slice hsz (j := 3) (t := 25) (e := 3) rfl (by show some d3 = _; rw [show d3 = _ from e1]) Try.underlying25
      rw [bytes3, reach] at hz
      omega
  subst hl3
  clear hA0 hval0 hsz0 hsz
  refine (Zm.keeps7 a0 a1 cap1 z1 a2 cap2 z2 a3 cap3 z3 W hr1 hr2 hr3 hb2 hb3).mono fun e W' ⟨he, bel⟩ => ?_
  subst he
  exact ⟨_, rfl, _, _, _, [], _, [], hW', trodAll_mk1 (shut_bool Try.underlying4 _), (trodAll_cons_mk (shut_int Try.underlying3 w0) (trodAll_cons_mk (Below.trod laidOut (by kernel_rfl) (of_decide_eq_true (by kernel_rfl)) k1 bel lt1) (trodAll_cons_mk (Below.trod laidOut (by kernel_rfl) (of_decide_eq_true (by kernel_rfl)) k2 bel lt2) (trodAll_cons_mk (Below.trod laidOut (by kernel_rfl) (of_decide_eq_true (by kernel_rfl)) k3 bel lt3) trodAll_mk0)))), rfl, bel.frame _, fun h => by cases h⟩
theorem over : Rows.timetableKeepsRow.holds Try.pinned (OpenSpec.ofChange Rows.timetableKeepsSpec) :=
  OpenClaim.holds_of_wide 7 Try.f7 rfl rfl rfl rfl rfl rfl rfl ⟨rfl, rfl, rfl, rfl, rfl⟩ rfl rfl rfl rfl rfl (by kernel_rfl) Try.func7 (by kernel_rfl)
    (of_decide_eq_true (by kernel_rfl)) (by unfold Func.isWrapper; first | (rw [if_pos (by decide +kernel)]; kernel_rfl) | (rw [if_neg (by decide +kernel)]; exact ⟨rfl, rfl⟩))
    (fun os started H enc _ => lifted os started H enc)
theorem proved : Rows.TimetableKeepsSaid := over
end Go.Proofs.Ytpknonebnipcgaa.timetableKeeps
namespace Go.Proofs.Ytpknonebnipcgaa
/-- The row, under a short name, for the claim. -/
theorem timetableKeeps_holds : Rows.TimetableKeepsSaid := timetableKeeps.proved
end Go.Proofs.Ytpknonebnipcgaa

