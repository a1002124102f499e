/- The plan and the table of a law's arguments, opened. -/
import Derived.Test.YtpknonebnipcgaaRa
import Derived.Test.YtpknonebnipcgaaI
import Derived.Test.YtpknonebnipcgaaFb
namespace Go.Proofs.Ytpknonebnipcgaa.Rb
open Go.ChangeShapes Go.WideShapes Go.ChangeAt Go.RowKit Go.Deep Go.Proofs.Ytpknonebnipcgaa.V Go.Proofs.Ytpknonebnipcgaa.I Go.Proofs.Ytpknonebnipcgaa.Ra Go.Proofs.Ytpknonebnipcgaa.Fb
set_option linter.unusedVariables false
set_option linter.unusedSimpArgs false

theorem cells43 : Try.prog.cellsOf 43 = 3 := by kernel_rfl
theorem cells41 : Try.prog.cellsOf 41 = 8 := by kernel_rfl
theorem cells38 : Try.prog.cellsOf 38 = 3 := by kernel_rfl
theorem cells45 : Try.prog.cellsOf 45 = 4 := by kernel_rfl
theorem cells4 : Try.prog.cellsOf 4 = 1 := by kernel_rfl
theorem cells39 : Try.prog.cellsOf 39 = 1 := by kernel_rfl
theorem cells36 : Try.prog.cellsOf 36 = 1 := by kernel_rfl
theorem cells25 : Try.prog.cellsOf 25 = 1 := by kernel_rfl

section
variable {H : Type} {enc : TypeId × Value → H}

theorem trod_fields {W : World} {t : TypeId} {fs : Array Field} {fuel : Nat} {cs : List Value} {x : DataW H × List MemPlace} (ht : Try.prog.underlying t = some (.struct fs)) (h : DataW.trod enc Try.prog W 0 (fun _ => true) true fuel t cs = some x) :
    cs.length = Try.prog.cellsOf t ∧ ∃ n, ∀ (i : Nat) (f : Field), fs[i]? = some f → ∃ y, DataW.trod enc Try.prog W 0 (fun _ => true) true n f.type ((cs.drop f.offset).take (Try.prog.cellsOf f.type)) = some y := by
  obtain ⟨xs, n, _, rfl, hl, hlen, hf⟩ := DataW.trod_struct ht h
  refine ⟨hl, n, fun i f hi => ?_⟩
  have hi2 : i < xs.length := by rw [hlen]; exact (Array.getElem?_eq_some_iff.1 hi).1
  exact ⟨xs[i], by rw [hf i f hi, List.getElem?_eq_getElem hi2]⟩

theorem slice_of {W : World} {t e : TypeId} {fuel : Nat} {cs : List Value} {x : DataW H × List MemPlace} (ht : Try.prog.underlying t = some (.slice e)) (h : DataW.trod enc Try.prog W 0 (fun _ => true) true fuel t cs = some x) : ∃ a len cap, cs = [.slice a len cap] := by
  rcases open_slice ht h with ⟨h0, _⟩ | ⟨a, len, cap, _, _, _, _, h0, _⟩
  · exact ⟨_, _, _, h0⟩
  · exact ⟨_, _, _, h0⟩

theorem list8 {α : Type} {cs : List α} (h : cs.length = 8) : ∃ c0 c1 c2 c3 c4 c5 c6 c7, cs = [c0, c1, c2, c3, c4, c5, c6, c7] := by
  match cs, h with
  | [c0, c1, c2, c3, c4, c5, c6, c7], _ => exact ⟨c0, c1, c2, c3, c4, c5, c6, c7, rfl⟩
set_option maxRecDepth 100000 in
/-- a road -/
theorem open_way {W : World} {fuel : Nat} {cs : List Value} {x : DataW H × List MemPlace} (h : DataW.trod enc Try.prog W 0 (fun _ => true) true fuel 41 cs = some x) : ∃ y : WayT, wayR W y cs := by
  obtain ⟨hl, n, hf⟩ := trod_fields Try.underlying41 h
  rw [cells41] at hl
  obtain ⟨v0, v1, v2, v3, v4, v5, v6, v7, rfl⟩ := list8 hl
  obtain ⟨y0, u0⟩ := hf 0 _ rfl
  obtain ⟨y1, u1⟩ := hf 1 _ rfl
  obtain ⟨y2, u2⟩ := hf 2 _ rfl
  obtain ⟨y3, u3⟩ := hf 3 _ rfl
  obtain ⟨y4, u4⟩ := hf 4 _ rfl
  obtain ⟨y5, u5⟩ := hf 5 _ rfl
  obtain ⟨y6, u6⟩ := hf 6 _ rfl
  obtain ⟨y7, u7⟩ := hf 7 _ rfl
  change DataW.trod enc Try.prog W 0 (fun _ => true) true n 3 (([v0, v1, v2, v3, v4, v5, v6, v7].drop 0).take (Try.prog.cellsOf 3)) = some y0 at u0
  change DataW.trod enc Try.prog W 0 (fun _ => true) true n 3 (([v0, v1, v2, v3, v4, v5, v6, v7].drop 1).take (Try.prog.cellsOf 3)) = some y1 at u1
  change DataW.trod enc Try.prog W 0 (fun _ => true) true n 3 (([v0, v1, v2, v3, v4, v5, v6, v7].drop 2).take (Try.prog.cellsOf 3)) = some y2 at u2
  change DataW.trod enc Try.prog W 0 (fun _ => true) true n 3 (([v0, v1, v2, v3, v4, v5, v6, v7].drop 3).take (Try.prog.cellsOf 3)) = some y3 at u3
  change DataW.trod enc Try.prog W 0 (fun _ => true) true n 4 (([v0, v1, v2, v3, v4, v5, v6, v7].drop 4).take (Try.prog.cellsOf 4)) = some y4 at u4
  change DataW.trod enc Try.prog W 0 (fun _ => true) true n 3 (([v0, v1, v2, v3, v4, v5, v6, v7].drop 5).take (Try.prog.cellsOf 3)) = some y5 at u5
  change DataW.trod enc Try.prog W 0 (fun _ => true) true n 3 (([v0, v1, v2, v3, v4, v5, v6, v7].drop 6).take (Try.prog.cellsOf 3)) = some y6 at u6
  change DataW.trod enc Try.prog W 0 (fun _ => true) true n 39 (([v0, v1, v2, v3, v4, v5, v6, v7].drop 7).take (Try.prog.cellsOf 39)) = some y7 at u7
  simp only [cells3, cells4, cells39, List.drop_zero, List.drop_succ_cons, List.take_succ_cons, List.take_zero] at u0 u1 u2 u3 u4 u5 u6 u7
  obtain ⟨n0, e0, _⟩ := DataW.trod_int Try.underlying3 u0
  obtain ⟨n1, e1, _⟩ := DataW.trod_int Try.underlying3 u1
  obtain ⟨n2, e2, _⟩ := DataW.trod_int Try.underlying3 u2
  obtain ⟨n3, e3, _⟩ := DataW.trod_int Try.underlying3 u3
  obtain ⟨n4, e4, _⟩ := DataW.trod_bool Try.underlying4 u4
  obtain ⟨n5, e5, _⟩ := DataW.trod_int Try.underlying3 u5
  obtain ⟨n6, e6, _⟩ := DataW.trod_int Try.underlying3 u6
  obtain ⟨a, len, cap, e7⟩ := slice_of Try.underlying39 u7
  rw [e7] at u7
  obtain ⟨ls, hll, hr, _⟩ := open_t3s Try.underlying39 cells43 (fun n cs y h => open_t3 Try.underlying43 cells43 rfl rfl rfl rfl rfl rfl h) u7
  simp only [List.cons.injEq, and_true] at e0 e1 e2 e3 e4 e5 e6 e7
  subst e0 e1 e2 e3 e4 e5 e6 e7 hll
  exact ⟨⟨n0, n1, n2, n3, n4, n5, n6, ls⟩, _, rfl, hr⟩

/-- roads -/
theorem open_ways {W : World} {fuel : Nat} {a : Option Addr} {len cap : Nat} {x : DataW H × List MemPlace} (h : DataW.trod enc Try.prog W 0 (fun _ => true) true fuel 36 [.slice a len cap] = some x) :
    ∃ ls : List WayT, len = ls.length ∧ RdW W (.slice a ls.length cap) ls := by
  rcases open_slice Try.underlying36 h with ⟨h0, h1⟩ | ⟨a', len', cap', m, n, D, Pl, h0, hb, hl, hm, hmm, rfl, hx⟩
  · simp only [List.cons.injEq, Value.slice.injEq, and_true] at h0
    obtain ⟨rfl, rfl, rfl⟩ := h0
    exact ⟨[], rfl, RdR.nil _ _ _⟩
  · simp only [List.cons.injEq, Value.slice.injEq, and_true] at h0
    obtain ⟨rfl, rfl, rfl⟩ := h0
    have hmm2 : m = cap := hmm
    rw [hmm2, cells41] at hx
    have each : ∀ i, i < len → ∃ z : WayT × List Value, W.cells? 0 (a'.add (i * 8)) 8 = some z.2 ∧ wayR W z.1 z.2 := fun i hi => by
      obtain ⟨cs, h1, h2⟩ := hx i (by omega)
      obtain ⟨z, hz⟩ := open_way h2
      exact ⟨⟨z, cs⟩, h1, hz⟩
    have : Inhabited (WayT × List Value) := ⟨⟨⟨0, 0, 0, 0, false, 0, 0, []⟩, []⟩⟩
    obtain ⟨Z, hZ⟩ := choose_lt each
    refine ⟨(List.range len).map fun i => (Z i).1, by simp, ?_⟩
    have hlen : ((List.range len).map fun i => (Z i).1).length = len := by simp
    rw [hlen]
    refine ⟨some a', cap, by rw [hlen], by rw [hlen]; exact hl, hm, by simp, fun j z hj => ?_⟩
    have hjl : j < len := by have := (List.getElem?_eq_some_iff.1 hj).1; omega
    rw [List.getElem?_map, List.getElem?_range hjl] at hj
    injection hj with hj
    subst hj
    obtain ⟨v0, hv0, _⟩ := (hZ 0 (by omega)).2
    obtain ⟨_, _, hc0⟩ := World.cells?_some (hZ 0 (by omega)).1
    have p0 := hc0 0 (by decide)
    rw [Nat.zero_mul, hv0] at p0
    have p1 : W.cell? a' = some (.int .i64 (Z 0).1.tar) := p0
    have ha : a' = ⟨a'.block, a'.off, none⟩ := plain_of_cell p1
    obtain ⟨hcl, _, hcj⟩ := World.cells?_some (hZ j hjl).1
    refine ⟨a'.block, a'.off, (Z j).2, by rw [← ha], ?_, (hZ j hjl).2, fun i u hu => ?_⟩
    · exact World.block_lt_of_cell? W _ p1
    · obtain ⟨v, hv, _⟩ := (hZ j hjl).2
      have hi : i < 8 := by have := (List.getElem?_eq_some_iff.1 hu).1; rw [hv] at this; exact this
      have := hcj i hi
      rw [add_add, ha, Addr.add_lit] at this
      rw [hu] at this
      rw [Nat.add_assoc]
      exact this

theorem arr3 {α : Type} {cs : Array α} (h : cs.size = 3) : ∃ c0 c1 c2, cs = #[c0, c1, c2] := by
  obtain ⟨l⟩ := cs
  match l, h with
  | [c0, c1, c2], _ => exact ⟨c0, c1, c2, rfl⟩
theorem arr4 {α : Type} {cs : Array α} (h : cs.size = 4) : ∃ c0 c1 c2 c3, cs = #[c0, c1, c2, c3] := by
  obtain ⟨l⟩ := cs
  match l, h with
  | [c0, c1, c2, c3], _ => exact ⟨c0, c1, c2, c3, rfl⟩

set_option maxRecDepth 100000 in
/-- a plan -/
theorem open_plan {W : World} {v : Value} {r : Reach} {b0 : Nat} {d : DataW H} {q : List MemPlace} (hv : Value.okWide Try.prog W r b0 38 v) (h : DataW.Trod enc Try.prog W 0 (fun _ => true) true 38 v d q) :
    ∃ (p : PlanT) (A : Option Addr) (c : Nat), v = .agg #[.int .i64 p.cars, .int .i64 p.first, .slice A p.roads.length c] ∧ RdW W (.slice A p.roads.length c) p.roads := by
  obtain ⟨cs, rfl, hsz⟩ := okWide_struct Try.underlying38 hv
  rw [cells38] at hsz
  obtain ⟨c0, c1, c2, rfl⟩ := arr3 hsz
  obtain ⟨fuel, hf⟩ := h
  obtain ⟨_, n, hx⟩ := trod_fields Try.underlying38 hf
  obtain ⟨y0, u0⟩ := hx 0 _ rfl
  obtain ⟨y1, u1⟩ := hx 1 _ rfl
  obtain ⟨y2, u2⟩ := hx 2 _ rfl
  change DataW.trod enc Try.prog W 0 (fun _ => true) true n 3 (([c0, c1, c2].drop 0).take (Try.prog.cellsOf 3)) = some y0 at u0
  change DataW.trod enc Try.prog W 0 (fun _ => true) true n 3 (([c0, c1, c2].drop 1).take (Try.prog.cellsOf 3)) = some y1 at u1
  change DataW.trod enc Try.prog W 0 (fun _ => true) true n 36 (([c0, c1, c2].drop 2).take (Try.prog.cellsOf 36)) = some y2 at u2
  simp only [Value.cells, cells3, cells36, List.drop_zero, List.drop_succ_cons, List.take_succ_cons, List.take_zero] at u0 u1 u2
  obtain ⟨n0, e0, _⟩ := DataW.trod_int Try.underlying3 u0
  obtain ⟨n1, e1, _⟩ := DataW.trod_int Try.underlying3 u1
  obtain ⟨a, len, cap, e2⟩ := slice_of Try.underlying36 u2
  rw [e2] at u2
  obtain ⟨ls, hll, hr⟩ := open_ways u2
  simp only [List.cons.injEq, and_true] at e0 e1 e2
  subst e0 e1 e2 hll
  exact ⟨⟨n0, n1, ls⟩, a, cap, rfl, hr⟩

set_option maxRecDepth 100000 in
/-- a table -/
theorem open_table {W : World} {v : Value} {r : Reach} {b0 : Nat} {d : DataW H} {q : List MemPlace} (hv : Value.okWide Try.prog W r b0 45 v) (h : DataW.Trod enc Try.prog W 0 (fun _ => true) true 45 v d q) :
    ∃ (t : TabT) (A0 A1 A2 A3 : Option Addr) (c0 c1 c2 c3 : Nat), v = .agg #[.slice A0 t.dues.length c0, .slice A1 t.closed.length c1, .slice A2 t.opened.length c2, .slice A3 t.choice.length c3] ∧
      (RdI W (.slice A0 t.dues.length c0) t.dues ∧ RdI W (.slice A1 t.closed.length c1) t.closed ∧ RdI W (.slice A2 t.opened.length c2) t.opened ∧ RdI W (.slice A3 t.choice.length c3) t.choice) ∧
      ((∀ y ∈ t.dues, -9223372036854775808 ≤ y ∧ y ≤ 9223372036854775807) ∧ (∀ y ∈ t.closed, -9223372036854775808 ≤ y ∧ y ≤ 9223372036854775807) ∧ (∀ y ∈ t.opened, -9223372036854775808 ≤ y ∧ y ≤ 9223372036854775807) ∧ (∀ y ∈ t.choice, -9223372036854775808 ≤ y ∧ y ≤ 9223372036854775807)) := by
  obtain ⟨cs, rfl, hsz⟩ := okWide_struct Try.underlying45 hv
  rw [cells45] at hsz
  obtain ⟨c0, c1, c2, c3, rfl⟩ := arr4 hsz
  obtain ⟨fuel, hf⟩ := h
  obtain ⟨_, n, hx⟩ := trod_fields Try.underlying45 hf
  obtain ⟨y0, u0⟩ := hx 0 _ rfl
  obtain ⟨y1, u1⟩ := hx 1 _ rfl
  obtain ⟨y2, u2⟩ := hx 2 _ rfl
  obtain ⟨y3, u3⟩ := hx 3 _ rfl
  change DataW.trod enc Try.prog W 0 (fun _ => true) true n 25 (([c0, c1, c2, c3].drop 0).take (Try.prog.cellsOf 25)) = some y0 at u0
  change DataW.trod enc Try.prog W 0 (fun _ => true) true n 25 (([c0, c1, c2, c3].drop 1).take (Try.prog.cellsOf 25)) = some y1 at u1
  change DataW.trod enc Try.prog W 0 (fun _ => true) true n 25 (([c0, c1, c2, c3].drop 2).take (Try.prog.cellsOf 25)) = some y2 at u2
  change DataW.trod enc Try.prog W 0 (fun _ => true) true n 25 (([c0, c1, c2, c3].drop 3).take (Try.prog.cellsOf 25)) = some y3 at u3
  simp only [Value.cells, cells25, List.drop_zero, List.drop_succ_cons, List.take_succ_cons, List.take_zero] at u0 u1 u2 u3
  obtain ⟨a0, l0, k0, e0⟩ := slice_of Try.underlying25 u0
  obtain ⟨a1, l1, k1, e1⟩ := slice_of Try.underlying25 u1
  obtain ⟨a2, l2, k2, e2⟩ := slice_of Try.underlying25 u2
  obtain ⟨a3, l3, k3, e3⟩ := slice_of Try.underlying25 u3
  rw [e0] at u0
  rw [e1] at u1
  rw [e2] at u2
  rw [e3] at u3
  obtain ⟨z0, h0, r0, b0, _⟩ := open_is u0
  obtain ⟨z1, h1, r1, b1, _⟩ := open_is u1
  obtain ⟨z2, h2, r2, b2, _⟩ := open_is u2
  obtain ⟨z3, h3, r3, b3, _⟩ := open_is u3
  simp only [List.cons.injEq, and_true] at e0 e1 e2 e3
  subst e0 e1 e2 e3 h0 h1 h2 h3
  exact ⟨⟨z0, z1, z2, z3⟩, _, _, _, _, _, _, _, _, rfl, ⟨r0, r1, r2, r3⟩, ⟨b0, b1, b2, b3⟩⟩
end
end Go.Proofs.Ytpknonebnipcgaa.Rb
