import Derived.Test.YtpknonebnipcgaaProg
import Derived.WalkKit
import Derived.KernelRfl
import Derived.Deep.LoopGhost
import Derived.Deep.QuietTactic
import Derived.BigQuiet
import Derived.Deep.DeepCutAuto
import Derived.Deep.CutBlock
import Derived.Deep.RegionHeld3
import Derived.WalkLawsBesides
import Derived.WalkSpells
import Derived.Outline
import Derived.Deep.DeepFit
import Derived.Lib.Hide
import Derived.Shelf.Abstract
import Derived.Test.YtpknonebnipcgaaTf
import Derived.Test.YtpknonebnipcgaaPm

namespace Go.Proofs.Ytpknonebnipcgaa.Mt
open Go.RowKit Go.Shelf Go.Proofs.Ytpknonebnipcgaa.V Go.Proofs.Ytpknonebnipcgaa.A Go.Proofs.Ytpknonebnipcgaa.B Go.Proofs.Ytpknonebnipcgaa.C Go.Proofs.Ytpknonebnipcgaa.P Go.Proofs.Ytpknonebnipcgaa.D Go.Proofs.Ytpknonebnipcgaa.E Go.Proofs.Ytpknonebnipcgaa.G Go.Proofs.Ytpknonebnipcgaa.H Go.Proofs.Ytpknonebnipcgaa.I Go.Proofs.Ytpknonebnipcgaa.J Go.Proofs.Ytpknonebnipcgaa.K Go.Proofs.Ytpknonebnipcgaa.L Go.Proofs.Ytpknonebnipcgaa.M Go.Proofs.Ytpknonebnipcgaa.N Go.Proofs.Ytpknonebnipcgaa.O Go.Proofs.Ytpknonebnipcgaa.S Go.Proofs.Ytpknonebnipcgaa.Sp Go.Proofs.Ytpknonebnipcgaa.Sg Go.Proofs.Ytpknonebnipcgaa.Nd Go.Proofs.Ytpknonebnipcgaa.T Go.Proofs.Ytpknonebnipcgaa.Tg Go.Proofs.Ytpknonebnipcgaa.Tf Go.Proofs.Ytpknonebnipcgaa.Fa Go.Proofs.Ytpknonebnipcgaa.Fb Go.Proofs.Ytpknonebnipcgaa.Pm
set_option linter.unusedVariables false
set_option linter.unusedSimpArgs false

/-- a table at four slices that lie in blocks not below B -/
structure TabIn (t : TabT) (B : Nat) (W : World) (A0 A1 A2 A3 : Option Addr) (c0 c1 c2 c3 : Nat) : Prop where
  r0 : RdI W (.slice A0 t.dues.length c0) t.dues
  r1 : RdI W (.slice A1 t.closed.length c1) t.closed
  r2 : RdI W (.slice A2 t.opened.length c2) t.opened
  r3 : RdI W (.slice A3 t.choice.length c3) t.choice
  f0 : Fr B (.slice A0 t.dues.length c0)
  f1 : Fr B (.slice A1 t.closed.length c1)
  f2 : Fr B (.slice A2 t.opened.length c2)
  f3 : Fr B (.slice A3 t.choice.length c3)
theorem TabIn.below {t : TabT} {B : Nat} {W W' : World} {A0 A1 A2 A3 : Option Addr} {c0 c1 c2 c3 : Nat} (h : TabIn t B W A0 A1 A2 A3 c0 c1 c2 c3) (hb : Below W.heap.size W W') : TabIn t B W' A0 A1 A2 A3 c0 c1 c2 c3 :=
  ⟨Rd.below h.r0 hb, Rd.below h.r1 hb, Rd.below h.r2 hb, Rd.below h.r3 hb, h.f0, h.f1, h.f2, h.f3⟩
theorem TabIn.grown {t : TabT} {B g : Nat} {W W' : World} {A0 A1 A2 A3 : Option Addr} {c0 c1 c2 c3 : Nat} (h : TabIn t B W A0 A1 A2 A3 c0 c1 c2 c3) (hg : W.grownBy W' (some g)) (hlt : g < B) : TabIn t B W' A0 A1 A2 A3 c0 c1 c2 c3 := by
  have key : ∀ v : Value, Fr B v → ∀ q, v.ownBlock = some q → some q ≠ some g := fun v hv q hq e => by injection e with e; have := hv q hq; omega
  exact ⟨Rd.grown h.r0 hg (key _ h.f0), Rd.grown h.r1 hg (key _ h.f1), Rd.grown h.r2 hg (key _ h.f2), Rd.grown h.r3 hg (key _ h.f3), h.f0, h.f1, h.f2, h.f3⟩

/-- what Make gives back -/
def TabPost (p : PlanT) (B : Nat) (W : World) (vd vc vo vch : Value) (er : Int) : Prop :=
  (∃ ch A0 A1 A2 A3 c0 c1 c2 c3, mk p = .ok ch ∧ er = 0 ∧ vd = .slice A0 (tabOf p ch).dues.length c0 ∧ vc = .slice A1 (tabOf p ch).closed.length c1 ∧ vo = .slice A2 (tabOf p ch).opened.length c2 ∧ vch = .slice A3 (tabOf p ch).choice.length c3 ∧ TabIn (tabOf p ch) B W A0 A1 A2 A3 c0 c1 c2 c3) ∨
  ((er = 5 ∨ er = 9) ∧ vd = .slice none 0 0 ∧ vc = .slice none 0 0 ∧ vo = .slice none 0 0 ∧ vch = .slice none 0 0)

theorem make_tab (p : PlanT) (hok : okPlan p = true) (h8 : p.roads.length ≤ 8) (Ar : Option Addr) (cr : Nat) (w : World) (hR : RdW w (.slice Ar p.roads.length cr) p.roads) :
    Calls Try.prog 24 #[.agg #[.int .i64 p.cars, .int .i64 p.first, .slice Ar p.roads.length cr]] w fun e w' => (∃ vd vc vo vch er, e = .returned (.tuple #[.agg #[vd, vc, vo, vch], .int .i64 er]) ∧ TabPost p w.heap.size w' vd vc vo vch er) ∧ Below w.heap.size w w' := by
  refine (make24f p hok h8 Ar cr w hR).mono ?_
  rintro e w' ⟨⟨vd, vc, vo, vch, er, rfl, hm⟩, hb⟩
  refine ⟨⟨vd, vc, vo, vch, er, rfl, ?_⟩, hb⟩
  unfold MKF at hm
  cases hk : mk p with
  | ok ch =>
    rw [hk] at hm
    obtain ⟨⟨r0, r1, r2, r3⟩, rfl, f0, f1, f2, f3⟩ := hm
    obtain ⟨A0, c0, rfl, _⟩ := RdR.form r0
    obtain ⟨A1, c1, rfl, _⟩ := RdR.form r1
    obtain ⟨A2, c2, rfl, _⟩ := RdR.form r2
    obtain ⟨A3, c3, rfl, _⟩ := RdR.form r3
    exact .inl ⟨ch, A0, A1, A2, A3, c0, c1, c2, c3, hk, rfl, rfl, rfl, rfl, rfl, r0, r1, r2, r3, f0, f1, f2, f3⟩
  | none => rw [hk] at hm; obtain ⟨a, b, c, d, e⟩ := hm; exact .inr ⟨.inl e, a, b, c, d⟩
  | opened => rw [hk] at hm; obtain ⟨a, b, c, d, e⟩ := hm; exact .inr ⟨.inr e, a, b, c, d⟩

theorem choice_bd {p : PlanT} (hP : PBd p) {ch : List Int} (h : okC p ch) : ∀ x ∈ ch, -1 ≤ x ∧ x ≤ 10 := by
  intro x hx
  obtain ⟨j, hj, rfl⟩ := List.getElem_of_mem hx
  have hl := h.1
  have hg : ch.getD j 0 = ch[j] := by rw [List.getD_eq_getElem?_getD, List.getElem?_eq_getElem hj]; rfl
  have hx2 := getD_w (xs := p.roads) (j := j) (by omega)
  have hh := (hP.road _ (List.mem_of_getElem? hx2)).hrs
  have := h.2 j (by omega)
  unfold nw at this
  rw [hg] at this
  omega

theorem fits_mk (p : PlanT) (hok : okPlan p = true) (h8 : p.roads.length ≤ 8) {ch : List Int} (hk : mk p = .ok ch) {A0 A1 A2 A3 : Option Addr} {c0 c1 c2 c3 : Nat} {B : Nat} {W : World} (Ar : Option Addr) (cr : Nat) (hR : RdW W (.slice Ar p.roads.length cr) p.roads) (hT : TabIn (tabOf p ch) B W A0 A1 A2 A3 c0 c1 c2 c3) :
    Calls Try.prog 28 #[.agg #[.int .i64 p.cars, .int .i64 p.first, .slice Ar p.roads.length cr], .agg #[.slice A0 (tabOf p ch).dues.length c0, .slice A1 (tabOf p ch).closed.length c1, .slice A2 (tabOf p ch).opened.length c2, .slice A3 (tabOf p ch).choice.length c3]] W fun e w' => e = .returned (.bool true) ∧ Below W.heap.size W w' := by
  obtain ⟨hP, _⟩ := okPlan_out hok
  have h := fits28 p hP Ar cr (tabOf p ch) A0 A1 A2 A3 c0 c1 c2 c3 W hR hT.r0 hT.r1 hT.r2 hT.r3 (fun x hx => by have := choice_bd hP (mk_ok hk).1 x hx; omega)
  rw [mk_fits hP h8 hk] at h
  exact h

theorem later_ok {p : PlanT} {more : Int} (hok : okPlan p = true) (h1 : 0 ≤ more) (h2 : p.first + more ≤ 100000) : okPlan (later p more) = true := by
  obtain ⟨hP, _⟩ := okPlan_out hok
  have hf := hP.first
  unfold okPlan at hok ⊢
  simp only [Bool.and_eq_true] at hok ⊢
  simp only [later]
  have : inB (p.first + more) 0 100000 = true := by simp only [inB, Bool.and_eq_true, decide_eq_true_eq]; omega
  rw [this]
  have h3 : inB p.first 0 100000 = true := by simp only [inB, Bool.and_eq_true, decide_eq_true_eq]; omega
  rw [h3] at hok
  exact hok

theorem tab_len {p : PlanT} (ch : List Int) : (tabOf p ch).dues.length = p.roads.length + 1 := by
  unfold tabOf
  simp only
  rw [List.length_drop, show (dueSt p ch).ts.length = p.roads.length + 2 from rounds_len _ (by simp)]
  omega
end Go.Proofs.Ytpknonebnipcgaa.Mt
