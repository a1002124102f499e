/- The arguments of this seat's laws, opened: links, windows, numbers, and what their sizes are. -/
import Derived.Test.YtpknonebnipcgaaProg
import Derived.WalkKit
import Derived.ProofKit
import Derived.OpenShut
import Derived.ShutString
import Derived.ChangeOld
import Derived.Below
import Derived.SizedLaws
import Derived.Deep.Slices
import Derived.Deep.Strs
import Derived.Test.YtpknonebnipcgaaV
namespace Go.Proofs.Ytpknonebnipcgaa.Ra
open Go.ChangeShapes Go.WideShapes Go.ChangeAt Go.RowKit Go.Deep Go.Proofs.Ytpknonebnipcgaa.V
set_option linter.unusedVariables false
set_option linter.unusedSimpArgs false

theorem cells58 : Try.prog.cellsOf 58 = 3 := by kernel_rfl
theorem cells3 : Try.prog.cellsOf 3 = 1 := by kernel_rfl
theorem bytes58 : Try.prog.bytesOf 58 = 24 := by kernel_rfl
theorem bytes3 : Try.prog.bytesOf 3 = 8 := by kernel_rfl
theorem reach : reachBytes = 140737488351232 := by decide
theorem laidOut : laidOutB Try.prog = true := by kernel_rfl
theorem own : ownKnob Try.prog.godebug = none := by kernel_rfl

theorem plain_of_cell {w : World} {a : Addr} {v : Value} (h : w.cell? a = some v) : a = ⟨a.block, a.off, none⟩ := by
  obtain ⟨b, o, s⟩ := a
  cases s with
  | none => rfl
  | some s =>
    unfold World.cell? at h
    cases hh : w.heap[b]? with
    | none => simp [hh] at h
    | some ob => cases ob <;> simp [hh] at h

section
variable {H : Type} {enc : TypeId × Value → H}

/-- three numbers in a row, of whatever struct type that has three int fields of one cell -/
theorem open_t3 {W : World} {t : TypeId} {f0 f1 f2 : Field} {fuel : Nat} {cs : List Value} {x : DataW H × List MemPlace} (ht : Try.prog.underlying t = some (.struct #[f0, f1, f2])) (hc : Try.prog.cellsOf t = 3)
    (t0 : f0.type = 3) (t1 : f1.type = 3) (t2 : f2.type = 3) (o0 : f0.offset = 0) (o1 : f1.offset = 1) (o2 : f2.offset = 2)
    (h : DataW.trod enc Try.prog W 0 (fun _ => true) true fuel t cs = some x) : ∃ y : T3, cs = y.enc := by
  obtain ⟨y0, y1, y2, n, _, hl, u0, u1, u2⟩ := trod_struct3 ht h
  rw [hc] at hl
  rw [t0, o0, cells3] at u0
  rw [t1, o1, cells3] at u1
  rw [t2, o2, cells3] at u2
  match cs, hl with
  | [v0, v1, v2], _ =>
    simp only [List.drop, List.take] at u0 u1 u2
    obtain ⟨a, e0, _⟩ := DataW.trod_int Try.underlying3 u0
    obtain ⟨b, e1, _⟩ := DataW.trod_int Try.underlying3 u1
    obtain ⟨c, e2, _⟩ := DataW.trod_int Try.underlying3 u2
    simp only [List.cons.injEq, and_true] at e0 e1 e2
    subst e0 e1 e2
    exact ⟨⟨a, b, c⟩, rfl⟩

/-- a slice of structs of three numbers -/
theorem open_t3s {W : World} {t e : TypeId} {fuel : Nat} {a : Option Addr} {len cap : Nat} {x : DataW H × List MemPlace} (ht : Try.prog.underlying t = some (.slice e)) (hc : Try.prog.cellsOf e = 3)
    (hop : ∀ (n : Nat) (cs : List Value) (y : DataW H × List MemPlace), DataW.trod enc Try.prog W 0 (fun _ => true) true n e cs = some y → ∃ z : T3, cs = z.enc)
    (h : DataW.trod enc Try.prog W 0 (fun _ => true) true fuel t [.slice a len cap] = some x) :
    ∃ ls : List T3, len = ls.length ∧ RdT W (.slice a ls.length cap) ls ∧ (len = 0 ∨ ∃ elems spare, x.1 = .slice elems spare ∧ len ≤ elems.length + spare.length) := by
  rcases open_slice ht h with ⟨h0, h1⟩ | ⟨a', len', cap', m, n, D, Pl, h0, hb, hl, hm, hmm, rfl, hx⟩
  · simp only [List.cons.injEq, Value.slice.injEq, and_true] at h0
    obtain ⟨rfl, rfl, rfl⟩ := h0
    exact ⟨[], rfl, RdR.nil _ _ _, .inl rfl⟩
  · simp only [List.cons.injEq, Value.slice.injEq, and_true] at h0
    obtain ⟨rfl, rfl, rfl⟩ := h0
    have hmm2 : m = cap := hmm
    rw [hmm2, hc] at hx
    have each : ∀ i, i < len → ∃ z : T3, W.cells? 0 (a'.add (i * 3)) 3 = some z.enc := fun i hi => by
      obtain ⟨cs, h1, h2⟩ := hx i (by omega)
      obtain ⟨z, rfl⟩ := hop _ _ _ h2
      exact ⟨z, h1⟩
    have : Inhabited T3 := ⟨⟨0, 0, 0⟩⟩
    obtain ⟨Z, hZ⟩ := choose_lt each
    refine ⟨(List.range len).map Z, by simp, ?_, .inr ⟨_, _, rfl, by simp⟩⟩
    have hlen : ((List.range len).map Z).length = len := by simp
    rw [hlen]
    refine ⟨some a', cap, by rw [hlen], by rw [hlen]; exact hl, hm, by simp, fun j z hj => ?_⟩
    have hjl : j < len := by have := (List.getElem?_eq_some_iff.1 hj).1; omega
    rw [List.getElem?_map, List.getElem?_range hjl] at hj
    injection hj with hj
    subst hj
    obtain ⟨_, _, hc0⟩ := World.cells?_some (hZ 0 (by omega))
    have p0 := hc0 0 (by decide)
    rw [Nat.zero_mul] at p0
    have p1 : W.cell? a' = some (.int .i64 (Z 0).a) := p0
    have ha : a' = ⟨a'.block, a'.off, none⟩ := plain_of_cell p1
    obtain ⟨_, _, hcj⟩ := World.cells?_some (hZ j hjl)
    refine ⟨a'.block, a'.off, _, by rw [← ha], ?_, rfl, fun i u hu => ?_⟩
    · exact World.block_lt_of_cell? W _ p1
    · have hi : i < 3 := (List.getElem?_eq_some_iff.1 hu).1
      have := hcj i hi
      rw [add_add, ha, Addr.add_lit] at this
      rw [hu] at this
      rw [Nat.add_assoc]
      exact this

/-- a slice of numbers -/
theorem open_is {W : World} {fuel : Nat} {a : Option Addr} {len cap : Nat} {x : DataW H × List MemPlace} (h : DataW.trod enc Try.prog W 0 (fun _ => true) true fuel 25 [.slice a len cap] = some x) :
    ∃ ls : List Int, len = ls.length ∧ RdI W (.slice a ls.length cap) ls ∧ (∀ y ∈ ls, -9223372036854775808 ≤ y ∧ y ≤ 9223372036854775807) ∧ (len = 0 ∨ ∃ elems spare, x.1 = .slice elems spare ∧ len ≤ elems.length + spare.length) := by
  rcases open_slice1 Try.underlying25 cells3 h with ⟨h0, h1⟩ | ⟨a', len', cap', m, n, Vf, D, Pl, h0, hb, hl, hm, hmm, rfl, hx⟩
  · simp only [List.cons.injEq, Value.slice.injEq, and_true] at h0
    obtain ⟨rfl, rfl, rfl⟩ := h0
    exact ⟨[], rfl, RdR.nil _ _ _, (fun y hy => by cases hy), .inl rfl⟩
  · simp only [List.cons.injEq, Value.slice.injEq, and_true] at h0
    obtain ⟨rfl, rfl, rfl⟩ := h0
    have hmm2 : m = cap := hmm
    rw [hmm2] at hx
    have each : ∀ i, i < len → ∃ z : Int, W.cell? (a'.add i) = some (.int .i64 z) ∧ (Lit.int .i64 z).wf = true := fun i hi => by
      obtain ⟨h1, h2⟩ := hx i (by omega)
      obtain ⟨z, e, _, hw⟩ := DataW.trod_int Try.underlying3 h2
      simp only [List.cons.injEq, and_true] at e
      rw [e] at h1
      exact ⟨z, h1, hw⟩
    obtain ⟨Z, hZ⟩ := choose_lt each
    refine ⟨(List.range len).map Z, by simp, ?_, fun y hy => ?_, .inr ⟨_, _, rfl, by simp⟩⟩
    · have hlen : ((List.range len).map Z).length = len := by simp
      rw [hlen]
      refine ⟨some a', cap, by rw [hlen], by rw [hlen]; exact hl, hm, by simp, fun j z hj => ?_⟩
      have hjl : j < len := by have := (List.getElem?_eq_some_iff.1 hj).1; omega
      rw [List.getElem?_map, List.getElem?_range hjl] at hj
      injection hj with hj
      subst hj
      have p1 : W.cell? a' = some (.int .i64 (Z 0)) := (hZ 0 (by omega)).1
      have ha : a' = ⟨a'.block, a'.off, none⟩ := plain_of_cell p1
      have hcj := (hZ j hjl).1
      refine ⟨a'.block, a'.off, _, by rw [← ha], World.block_lt_of_cell? W _ p1, rfl, fun i u hu => ?_⟩
      cases i with
      | zero =>
        simp [encI] at hu
        subst hu
        rw [ha, Addr.add_lit] at hcj
        simpa using hcj
      | succ i => simp [encI] at hu
    · obtain ⟨j, hj, rfl⟩ := List.mem_map.1 hy
      have hw := (hZ j (List.mem_range.1 hj)).2
      have hw2 : IntKind.i64.min ≤ Z j ∧ Z j ≤ 9223372036854775807 := by simpa [Lit.wf] using hw
      have hm : IntKind.i64.min = -9223372036854775808 := by kernel_rfl
      omega
end
end Go.Proofs.Ytpknonebnipcgaa.Ra
