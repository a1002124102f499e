import Derived.Test.YtpknonebnipcgaaProg
import Derived.WalkKit
import Derived.KernelRfl
import Derived.Deep.LoopGhost
import Derived.Deep.QuietTactic
import Derived.BigQuiet
import Derived.Deep.DeepCutAuto
import Derived.Deep.CutBlock
import Derived.Deep.RegionHeld3
import Derived.WalkLawsBesides
import Derived.WalkSpells
import Derived.Outline
import Derived.Deep.DeepFit
import Derived.Lib.Hide
import Derived.Shelf.Abstract
import Derived.Lib.SliceRun
import Derived.OwnWalk
import Derived.Test.YtpknonebnipcgaaTg
import Derived.Test.YtpknonebnipcgaaW

namespace Go.Proofs.Ytpknonebnipcgaa.Zt
open Go.RowKit Go.Shelf Go.Proofs.Ytpknonebnipcgaa.V Go.Proofs.Ytpknonebnipcgaa.A Go.Proofs.Ytpknonebnipcgaa.B Go.Proofs.Ytpknonebnipcgaa.C Go.Proofs.Ytpknonebnipcgaa.P Go.Proofs.Ytpknonebnipcgaa.D Go.Proofs.Ytpknonebnipcgaa.E Go.Proofs.Ytpknonebnipcgaa.G Go.Proofs.Ytpknonebnipcgaa.H Go.Proofs.Ytpknonebnipcgaa.I Go.Proofs.Ytpknonebnipcgaa.J Go.Proofs.Ytpknonebnipcgaa.K Go.Proofs.Ytpknonebnipcgaa.L Go.Proofs.Ytpknonebnipcgaa.M Go.Proofs.Ytpknonebnipcgaa.N Go.Proofs.Ytpknonebnipcgaa.O Go.Proofs.Ytpknonebnipcgaa.S Go.Proofs.Ytpknonebnipcgaa.Sp Go.Proofs.Ytpknonebnipcgaa.Sg Go.Proofs.Ytpknonebnipcgaa.Nd Go.Proofs.Ytpknonebnipcgaa.T Go.Proofs.Ytpknonebnipcgaa.Tg Go.Proofs.Ytpknonebnipcgaa.W
set_option linter.unusedVariables false
set_option linter.unusedSimpArgs false

theorem info43 : (Try.prog.info? 43).map (fun i => (i.zero, i.size, i.bytes)) = some (some (.agg #[.int .i64 0, .int .i64 0, .int .i64 0]), 3, 24) := by kernel_rfl
theorem info41 : (Try.prog.info? 41).map (fun i => (i.zero, i.size, i.bytes)) = some (some (.agg #[.int .i64 0, .int .i64 0, .int .i64 0, .int .i64 0, .bool false, .int .i64 0, .int .i64 0, .slice none 0 0]), 8, 80) := by kernel_rfl

/-! ### the plan that the law makes -/
def hx : T3 := ⟨0, 100, 5⟩
def wayX (k : Nat) : WayT := ⟨10, 0, 0, 1, false, 0, 0, List.replicate k hx⟩
def planX (ws : List Int) : PlanT := ⟨1, 10, ws.map fun k => wayX k.toNat⟩

theorem planX_len (ws : List Int) : (planX ws).roads.length = ws.length := by simp [planX]
theorem planX_get (ws : List Int) {j : Nat} (hj : j < ws.length) : (planX ws).roads.getD j zw = wayX (ws.getD j 0).toNat := by
  simp only [planX]
  rw [List.getD_eq_getElem?_getD, List.getElem?_map, List.getD_eq_getElem?_getD, List.getElem?_eq_getElem hj]
  rfl
theorem planX_nw (ws : List Int) {j : Nat} (hj : j < ws.length) : nw (planX ws) j = (ws.getD j 0).toNat := by
  unfold nw
  rw [planX_get ws hj]
  simp [wayX]

theorem way_ok {k : Nat} (h : k ≤ 10) (bg : Option Int) (hg : bg = none ∨ bg = some 1) : okWay (wayX k) bg = true := by
  have hl : (wayX k).hrs.length = k := by simp [wayX]
  have ha : (wayX k).hrs.all okHr = true := by
    rw [List.all_eq_true]
    intro x hx'
    have := List.eq_of_mem_replicate hx'
    subst this
    rfl
  unfold okWay
  rw [hl, ha]
  have h1 : (!decide (10 < (k : Int))) = true := by simp; omega
  rw [h1]
  rcases hg with rfl | rfl <;> rfl

theorem planX_ok {ws : List Int} (h1 : 1 ≤ ws.length) (h5 : ws.length ≤ 5) (hb : ∀ x ∈ ws, 1 ≤ x ∧ x ≤ 10) : okPlan (planX ws) = true := by
  unfold okPlan
  rw [planX_len]
  have hall : (List.range ws.length).all (okAt (planX ws).roads) = true := by
    rw [List.all_eq_true]
    intro j hj
    have hj := List.mem_range.1 hj
    unfold okAt
    rw [planX_get ws hj]
    have := hb _ (getD_mem hj)
    refine way_ok (by omega) _ ?_
    cases j with
    | zero => exact .inl rfl
    | succ j =>
      right
      simp only [befG]
      rw [planX_get ws (by omega)]
      rfl
  rw [hall]
  have a : inB (planX ws).cars 1 200 = true := rfl
  have b : inB (ws.length : Int) 1 60 = true := by simp [inB]; omega
  have c : inB (planX ws).first 0 100000 = true := rfl
  rw [a, b, c]
  rfl

theorem bad_all {ws : List Int} (h1 : 1 ≤ ws.length) (hb : ∀ x ∈ ws, 1 ≤ x ∧ x ≤ 10) : ∀ ch, okC (planX ws) ch → goodC (planX ws) ch = false := by
  intro ch h
  have hl := planX_len ws
  have h0 := h.2 0 (by omega)
  have hw := hb _ (getD_mem (xs := ws) (j := 0) (by omega))
  rw [planX_nw ws (by omega)] at h0
  have hbad : badW (planX ws) ch 0 = true := by
    unfold badW winT
    rw [if_neg (by omega), planX_get ws (by omega)]
    have : (wayX (ws.getD 0 0).toNat).hrs[(ch.getD 0 0).toNat]? = some hx := by
      simp only [wayX]
      rw [List.getElem?_replicate, if_pos (by omega)]
    rw [this]
    rfl
  unfold goodC
  have : (List.range (planX ws).roads.length).all (fun k => !badW (planX ws) ch k) = false := by
    rw [List.all_eq_false]
    exact ⟨0, List.mem_range.2 (by omega), by rw [hbad]; simp⟩
  rw [this]
  rfl

theorem mk_planX {ws : List Int} (h1 : 1 ≤ ws.length) (hb : ∀ x ∈ ws, 1 ≤ x ∧ x ≤ 10) : mk (planX ws) = if 20000 < prodC (planX ws) ws.length then .opened else .none := by
  have hl := planX_len ws
  unfold mk
  rw [make_bad (bad_all h1 hb) 20000 _ (first_ok _), rank_first _ _ (Nat.le_refl _), hl, Nat.zero_add]
  by_cases e : 20000 < prodC (planX ws) ws.length
  · rw [if_pos e, if_pos e]
  · rw [if_neg e, if_neg e, if_neg (by omega)]

theorem prod_succ {ws : List Int} (hb : ∀ x ∈ ws, 1 ≤ x ∧ x ≤ 10) {i : Nat} (hi : i < ws.length) : (prodC (planX ws) (i + 1) : Int) = (prodC (planX ws) i : Int) * ws.getD i 0 := by
  have := hb _ (getD_mem hi)
  simp only [prodC, cnt]
  rw [planX_nw ws hi, show max 1 (ws.getD i 0).toNat = (ws.getD i 0).toNat by omega, Int.natCast_mul, Int.toNat_of_nonneg (by omega)]
theorem prod_le {ws : List Int} (hb : ∀ x ∈ ws, 1 ≤ x ∧ x ≤ 10) : ∀ i, i ≤ ws.length → prodC (planX ws) i ≤ 10 ^ i
  | 0, _ => Nat.le_refl _
  | i + 1, hi => by
    have ih := prod_le hb i (by omega)
    have hw := hb _ (getD_mem (xs := ws) (j := i) (by omega))
    simp only [prodC, cnt]
    rw [planX_nw ws (by omega), Nat.pow_succ]
    exact Nat.mul_le_mul ih (by omega)

/-- a road with where its windows lie -/
abbrev WV := WayT × (Option Addr × Nat × Nat)
def encX (x : WV) : List Value := x.1.cells (.slice x.2.1 x.2.2.1 x.2.2.2)
theorem x_len (x : WV) : (encX x).length = 8 := rfl
theorem x_one (x : WV) : ∀ u ∈ encX x, u.oneCell' = true := by
  intro u hu
  simp [encX, WayT.cells] at hu
  rcases hu with rfl | rfl | rfl | rfl | rfl | rfl | rfl | rfl <;> rfl

structure TI (w : World) (xs : List WV) (Av : Option Addr) (cv N : Nat) (W : World) : Prop where
  box : W.heap[w.heap.size]? = some (.cells #[.int .i64 1, .int .i64 10, .slice Av xs.length cv] 38 (0, 0))
  own : W.ownsRow (w.heap.size + 1) 41 8 (.slice Av xs.length cv) xs.length (xs.flatMap encX)
  ownN : ∀ q, (Value.slice Av xs.length cv).ownBlock = some q → q < N
  hrs : ∀ x ∈ xs, RdT W (.slice x.2.1 x.2.2.1 x.2.2.2) x.1.hrs ∧ ∀ q, (Value.slice x.2.1 x.2.2.1 x.2.2.2).ownBlock = some q → w.heap.size + 1 ≤ q ∧ q < N ∧ (Value.slice Av xs.length cv).ownBlock ≠ some q
  bel : Below w.heap.size w W
  sz : w.heap.size + 1 ≤ N ∧ N ≤ W.heap.size

theorem TI.grown {w : World} {xs : List WV} {Av : Option Addr} {cv N : Nat} {W W' : World} (h : TI w xs Av cv N W) {row : Option Nat} (hg : W.grownBy W' row) (hr : ∀ q, row = some q → N ≤ q) : TI w xs Av cv N W' := by
  obtain ⟨b1, b2⟩ := h.sz
  have hne : ∀ q, q < N → some q ≠ row := fun q hq e => by have := hr q e.symm; omega
  refine ⟨blk_grown h.box hg (hne _ (by omega)), h.own.kept hg ?_, h.ownN, fun x hx => ⟨Rd.grown (h.hrs x hx).1 hg (fun q hq => hne q ((h.hrs x hx).2 q hq).2.1), (h.hrs x hx).2⟩, h.bel.grown hg h.bel.size (fun k hk => by have := hr k hk; omega), ⟨b1, Nat.le_trans b2 hg.size⟩⟩
  cases hv : (Value.slice Av xs.length cv).ownBlock with
  | none => exact .inl rfl
  | some q => exact .inr (hne q (h.ownN q hv))
theorem TI.raise {w : World} {xs : List WV} {Av : Option Addr} {cv N : Nat} {W : World} (h : TI w xs Av cv N W) : TI w xs Av cv W.heap.size W :=
  ⟨h.box, h.own, fun q hq => Nat.lt_of_lt_of_le (h.ownN q hq) h.sz.2, fun x hx => ⟨(h.hrs x hx).1, fun q hq => ⟨((h.hrs x hx).2 q hq).1, Nat.lt_of_lt_of_le ((h.hrs x hx).2 q hq).2.1 h.sz.2, ((h.hrs x hx).2 q hq).2.2⟩⟩, h.bel, ⟨by have := h.sz; omega, Nat.le_refl _⟩⟩

theorem TI.push {w : World} {xs : List WV} {Av : Option Addr} {cv N : Nat} {W W3 : World} (h : TI w xs Av cv N W) (m : Nat) (Ah : Option Addr) (ch g3 c3 : Nat) (hrd : RdT W (.slice Ah m ch) (List.replicate m hx)) (hq : ∀ q, (Value.slice Ah m ch).ownBlock = some q → N ≤ q ∧ q < W.heap.size)
    (hown : W3.ownsRow (w.heap.size + 1) 41 8 (.slice (some ⟨g3, 0, none⟩) (xs.length + 1) c3) (xs.length + 1) (xs.flatMap encX ++ encX (wayX m, (Ah, m, ch)))) (hgrow : W.grownBy W3 (Value.slice Av xs.length cv).ownBlock) (hat : (Value.slice Av xs.length cv).ownBlock = some g3 ∨ W.heap.size ≤ g3) (hl3 : g3 < W3.heap.size) (hg0 : w.heap.size + 1 ≤ g3) :
    TI w (xs ++ [(wayX m, (Ah, m, ch))]) (some ⟨g3, 0, none⟩) c3 W3.heap.size (W3.setCell ⟨w.heap.size, 2, none⟩ (.slice (some ⟨g3, 0, none⟩) (xs.length + 1) c3)) := by
  obtain ⟨b1, b2⟩ := h.sz
  have hs := grown_set W3 w.heap.size 2 (.slice (some ⟨g3, 0, none⟩) (xs.length + 1) c3)
  have hrow : ∀ q, (Value.slice Av xs.length cv).ownBlock = some q → w.heap.size + 1 ≤ q ∧ q < N := fun q hq => ⟨(World.ownsRow.lt h.own q hq).1, h.ownN q hq⟩
  have hneb : some w.heap.size ≠ (Value.slice Av xs.length cv).ownBlock := fun e => by have := hrow _ e.symm; omega
  have hsz : (W3.setCell ⟨w.heap.size, 2, none⟩ (.slice (some ⟨g3, 0, none⟩) (xs.length + 1) c3)).heap.size = W3.heap.size := by simp [World.setCell]
  have hgs := hgrow.size
  have old : ∀ (v : Value) (ys : List T3), RdT W v ys → (∀ q, v.ownBlock = some q → w.heap.size + 1 ≤ q ∧ (Value.slice Av xs.length cv).ownBlock ≠ some q) → RdT (W3.setCell ⟨w.heap.size, 2, none⟩ (.slice (some ⟨g3, 0, none⟩) (xs.length + 1) c3)) v ys := fun v ys hr h2 =>
    Rd.grown (Rd.grown hr hgrow (fun q hq e => (h2 q hq).2 e.symm)) hs (fun q hq e => by have := (h2 q hq).1; have := Option.some.inj e; omega)
  refine ⟨?_, ?_, fun q hq => ?_, fun x hx => ?_, ?_, ⟨by omega, by rw [hsz]; exact Nat.le_refl _⟩⟩
  · rw [List.length_append]
    exact (blk_set (blk_grown h.box hgrow hneb) 2 _).trans rfl
  · rw [List.length_append, List.flatMap_append]
    have := World.ownsRow.kept hown hs (.inr (by simp [Value.ownBlock]; omega))
    simpa [List.flatMap_cons] using this
  · simp [Value.ownBlock] at hq
    omega
  · have hown3 : ∀ q, (Value.slice (some ⟨g3, 0, none⟩) (xs ++ [(wayX m, (Ah, m, ch))]).length c3).ownBlock = some q → q = g3 := fun q hq => by simp [Value.ownBlock] at hq; exact hq.symm
    rcases List.mem_append.1 hx with hx | hx
    · obtain ⟨r1, r2⟩ := h.hrs x hx
      refine ⟨old _ _ r1 (fun q hq => ⟨(r2 q hq).1, (r2 q hq).2.2⟩), fun q hq => ⟨(r2 q hq).1, by have := (r2 q hq).2.1; omega, fun e => ?_⟩⟩
      have e2 := hown3 q e
      subst e2
      rcases hat with hat | hat
      · exact (r2 q hq).2.2 hat
      · have := (r2 q hq).2.1; omega
    · simp at hx
      subst hx
      refine ⟨old _ _ hrd (fun q hq' => ⟨by have := (hq q hq').1; omega, fun e => by have := (hrow q e).2; have := (hq q hq').1; omega⟩), fun q hq' => ⟨by have := (hq q hq').1; omega, by have := (hq q hq').2; omega, fun e => ?_⟩⟩
      have e2 := hown3 q e
      subst e2
      rcases hat with hat | hat
      · have := (hrow q hat).2; have := (hq q hq').1; omega
      · have := (hq q hq').2; omega
  · exact (h.bel.grown hgrow h.bel.size (fun k e => by have := hrow k e; omega)).setCell (p := ⟨w.heap.size, 2, none⟩) (Nat.le_refl _) _

/-- what was gathered reads as roads -/
theorem TI.read {w : World} {xs : List WV} {Av : Option Addr} {cv N : Nat} {W : World} (h : TI w xs Av cv N W) : RdW W (.slice Av xs.length cv) (xs.map (·.1)) := by
  have hr := rd_of_owns x_len h.own
  obtain ⟨A, c, e, h1, h2, h3, hc⟩ := hr
  refine ⟨A, c, by rw [e, List.length_map], by rwa [List.length_map], h2, h3, fun j x hx => ?_⟩
  rw [List.getElem?_map] at hx
  cases hy : xs[j]? with
  | none => rw [hy] at hx; cases hx
  | some y =>
    rw [hy] at hx
    simp at hx
    subst hx
    obtain ⟨b, off, cs, e1, e2, rfl, e3⟩ := hc j y hy
    exact ⟨b, off, _, e1, e2, ⟨_, rfl, (h.hrs y (List.mem_of_getElem? hy)).1⟩, e3⟩

theorem empty25_nil (w : World) : Calls Try.prog 25 #[.agg #[.slice none 0 0, .slice none 0 0, .slice none 0 0, .slice none 0 0]] w fun e w' => e = .returned (.bool true) ∧ Below w.heap.size w w' := by
  go_enter Try.func25, Try.ntmps25
  go_wp2
  go_ret
  exact ⟨rfl, below_al (below_rf w) _⟩

def errX (ws : List Int) : Int := if 20000 < prodC (planX ws) ws.length then 9 else 5
theorem make_tries {ws : List Int} (h1 : 1 ≤ ws.length) (h5 : ws.length ≤ 5) (hb : ∀ x ∈ ws, 1 ≤ x ∧ x ≤ 10) (A : Option Addr) (c : Nat) (w : World) (hR : RdW w (.slice A ws.length c) (planX ws).roads) :
    Calls Try.prog 24 #[.agg #[.int .i64 1, .int .i64 10, .slice A ws.length c]] w fun e w' => e = .returned (.tuple #[.agg #[.slice none 0 0, .slice none 0 0, .slice none 0 0, .slice none 0 0], .int .i64 (errX ws)]) ∧ Below w.heap.size w w' := by
  have hl := planX_len ws
  have h := make24 (planX ws) (planX_ok h1 h5 hb) (by omega) A c w (by rw [hl]; exact hR)
  rw [hl] at h
  refine h.mono ?_
  rintro e w' ⟨⟨vd, vc, vo, vch, er, rfl, hm⟩, hb'⟩
  unfold MK at hm
  rw [mk_planX h1 hb] at hm
  unfold errX
  by_cases e : 20000 < prodC (planX ws) ws.length
  · rw [if_pos e] at hm ⊢
    obtain ⟨rfl, rfl, rfl, rfl, rfl⟩ := hm
    exact ⟨rfl, hb'⟩
  · rw [if_neg e] at hm ⊢
    obtain ⟨rfl, rfl, rfl, rfl, rfl⟩ := hm
    exact ⟨rfl, hb'⟩

set_option maxRecDepth 100000 in
set_option maxHeartbeats 8000000 in
theorem tries4 (A : Option Addr) (c : Nat) (ws : List Int) (w : World) (hr : RdI w (.slice A ws.length c) ws) (hbd : ∀ x ∈ ws, -9223372036854775808 ≤ x ∧ x ≤ 9223372036854775807) :
    Calls Try.prog 4 #[.slice A ws.length c] w fun e w' => e = .returned (.bool true) ∧ Below w.heap.size w w' := by
  have hll := (RdR.len hr).2
  cases d1 : decide ((ws.length : Int) < 1)
  case true =>
    clear hr hbd
    go_enter Try.func4, Try.ntmps4
    go_wp2_with (go_at_call 17; refine (known17 _).mono ?_; rintro e w9 ⟨rfl, hb9⟩)
    go_ret
    exact ⟨rfl, hb9⟩
  cases d2 : decide ((5 : Int) < (ws.length : Int))
  case true =>
    clear hr hbd
    go_enter Try.func4, Try.ntmps4
    go_wp2_with (go_at_call 17; refine (known17 _).mono ?_; rintro e w9 ⟨rfl, hb9⟩)
    go_ret
    exact ⟨rfl, hb9⟩
  have h1 : 1 ≤ ws.length := by have := of_decide_eq_false d1; omega
  have h5 : ws.length ≤ 5 := by have := of_decide_eq_false d2; omega
  obtain ⟨bt, ot, rfl, hbt⟩ : ∃ bt ot, A = some ⟨bt, ot, none⟩ ∧ bt < w.heap.size := by
    obtain ⟨b, o, e, hb, _⟩ := Rd.i hr 0 _ (getD_get (by omega))
    exact ⟨b, o, e, hb⟩
  have HT : Hid (∀ W, Below w.heap.size w W → ∀ j, j < ws.length → W.cell? ⟨bt, ot + j, none⟩ = some (.int .i64 (ws.getD j 0)) ∧ -9223372036854775808 ≤ ws.getD j 0 ∧ ws.getD j 0 ≤ 9223372036854775807) := Lib.hid (fun W hb j hj => by
    obtain ⟨b', o', e, hlt, hc⟩ := Rd.i hr j _ (getD_get hj)
    injection e with e
    injection e with e1 e2
    subst e1 e2
    have := hbd _ (getD_mem hj)
    exact ⟨(hb.cell (p := ⟨bt, ot + j, none⟩) hlt).trans hc, this.1, this.2⟩)
  clear hr hbd
  go_enter Try.func4, Try.ntmps4
  go_wp2_with fail
  go_loopg [4, 5] ws.length (fun gg s4 s5 wr => ∃ (i : Nat) (xs : List WV) (Av : Option Addr) (cv N : Nat), i ≤ ws.length ∧ ws.length - i ≤ gg ∧ s5 = .int .i64 i ∧ s4 = .int .i64 (prodC (planX ws) i : Nat) ∧ Hid (∀ j, j < i → 1 ≤ ws.getD j 0 ∧ ws.getD j 0 ≤ 10) ∧ Hid (xs.map (·.1) = (ws.take i).map fun k => wayX k.toNat) ∧ Hid (TI w xs Av cv N wr) ∧ xs.length = i)
  case atStart =>
    refine ⟨0, [], none, 0, w.heap.size + 1, Nat.zero_le _, by omega, rfl, rfl, Lib.hid (fun j hj => absurd hj (Nat.not_lt_zero _)), Lib.hid rfl, Lib.hid ⟨?_, World.ownsRow_nil _ _ _ _, fun q hq => (by cases hq), fun x hx => (by cases hx), below_al (below_rf w) _, ⟨Nat.le_refl _, by simp⟩⟩, rfl⟩
    exact blk_new w _
  case round =>
    obtain ⟨wo, rfl⟩ : ∃ wo : World, wo = wr := ⟨_, rfl⟩
    obtain ⟨i, xs, Av, cv, N, hi, hgg, rfl, rfl, HPR, HXS, HTI0, hxl⟩ := hrel
    subst hxl
    have hbel := HTI0.out.bel
    by_cases hlt : xs.length < ws.length
    · obtain ⟨y0, y1, y2⟩ := HT.out wo hbel xs.length hlt
      have HPS : Hid ((∀ j, j < xs.length + 1 → 1 ≤ ws.getD j 0 ∧ ws.getD j 0 ≤ 10) → (prodC (planX ws) (xs.length + 1) : Int) = (prodC (planX ws) xs.length : Int) * ws.getD xs.length 0) := Lib.hid (fun h => by
        have := h xs.length (by omega)
        simp only [prodC, cnt]
        rw [planX_nw ws hlt, show max 1 (ws.getD xs.length 0).toNat = (ws.getD xs.length 0).toNat by omega, Int.natCast_mul, Int.toNat_of_nonneg (by omega)])
      have HPL : Hid (prodC (planX ws) xs.length ≤ 10000) := Lib.hid (by
        have key : ∀ i, i ≤ xs.length → prodC (planX ws) i ≤ 10 ^ i := by
          intro i
          induction i with
          | zero => intro _; exact Nat.le_refl _
          | succ i ih =>
            intro hi
            have ih := ih (by omega)
            have hw := HPR.out i (by omega)
            simp only [prodC, cnt]
            rw [planX_nw ws (by omega), Nat.pow_succ]
            exact Nat.mul_le_mul ih (by omega)
        exact Nat.le_trans (key _ (Nat.le_refl _)) (Nat.pow_le_pow_right (by decide) (show xs.length ≤ 4 by omega)))
      have HTK : Hid ((ws.take (xs.length + 1)).map (fun k => wayX k.toNat) = (ws.take xs.length).map (fun k => wayX k.toNat) ++ [wayX (ws.getD xs.length 0).toNat]) := Lib.hid (by
        rw [List.take_add_one, getD_get hlt, List.map_append]
        rfl)
      have HPN := Lib.hid (fun h : 1 ≤ ws.getD xs.length 0 ∧ ws.getD xs.length 0 ≤ 10 => (fun j hj => by
        by_cases e : j = xs.length
        · subst e; exact h
        · exact HPR.out j (by omega) : ∀ j, j < xs.length + 1 → 1 ≤ ws.getD j 0 ∧ ws.getD j 0 ≤ 10))
      have HYC : Hid (∀ W, Below w.heap.size w W → W.cell? ⟨bt, ot + xs.length, none⟩ = some (.int .i64 (ws.getD xs.length 0))) := Lib.hid (fun W hb => (HT.out W hb xs.length hlt).1)
      have hbt2 := Nat.lt_of_lt_of_le hbt hbel.size
      have HBEL := Lib.hid hbel
      generalize ws.getD xs.length 0 = y at *
      clear hbel
      cases d3 : decide (y < 1)
      case true =>
        go_wp2_with (go_at_call 17; refine (known17 _).mono ?_; rintro e w9 ⟨rfl, hb9⟩)
        go_ret
        exact ⟨rfl, below_then HBEL.out HBEL.out.size hb9⟩
      cases d4 : decide (10 < y)
      case true =>
        go_wp2_with (go_at_call 17; refine (known17 _).mono ?_; rintro e w9 ⟨rfl, hb9⟩)
        go_ret
        exact ⟨rfl, below_then HBEL.out HBEL.out.size hb9⟩
      have hy1 : 1 ≤ y := by have := of_decide_eq_false d3; omega
      have hy2 : y ≤ 10 := by have := of_decide_eq_false d4; omega
      obtain ⟨m, rfl⟩ : ∃ m : Nat, y = m := ⟨y.toNat, by omega⟩
      have hps := HPS.out (HPN.out ⟨hy1, hy2⟩)
      obtain ⟨P, hP⟩ : ∃ P, prodC (planX ws) xs.length = P := ⟨_, rfl⟩
      rw [hP] at HPL hps ⊢
      have hpl := HPL.out
      have hpm1 : 0 ≤ (P : Int) * (m : Int) := Int.mul_nonneg (by omega) (by omega)
      have hpm2 : (P : Int) * (m : Int) ≤ 100000 := by
        have : (P : Int) * (m : Int) ≤ 10000 * 10 := Int.mul_le_mul (by omega) (by omega) (by omega) (by omega)
        omega
      have HPSS := Lib.hid hps
      have HPN2 := Lib.hid (HPN.out ⟨hy1, hy2⟩)
      have HTI1 := Lib.hid HTI0.out.raise
      clear hP hps HPN HPS HTI0
      go_wp2_with fail
      go_loopg [7] m (fun gg s7 wq => ∃ (k : Nat) (Ah : Option Addr) (ch : Nat), k ≤ m ∧ m - k ≤ gg ∧ s7 = .int .i64 k ∧ Hid (wq.heap[wo.heap.size]? = some (.cells #[.int .i64 10, .int .i64 0, .int .i64 0, .int .i64 1, .bool false, .int .i64 0, .int .i64 0, .slice Ah k ch] 41 (0, 0))) ∧ Hid (wq.ownsRow (wo.heap.size + 1) 43 3 (.slice Ah k ch) k ((List.replicate k hx).flatMap T3.enc)) ∧ Hid (TI w xs Av cv wo.heap.size wq) ∧ wo.heap.size + 1 ≤ wq.heap.size)
      case atStart => exact ⟨0, none, 0, Nat.zero_le _, by omega, rfl, Lib.hid (blk_new wo _), Lib.hid (World.ownsRow_nil _ _ _ _), Lib.hid (HTI1.out.grown (gb_alloc (gb_refl wo none) _) (fun q e => by cases e)), by simp⟩
      case round =>
        obtain ⟨k, Ah, ch, hk, hg, rfl, HBX, HOH, HTI, hsz⟩ := hrel
        have y0 := HYC.out wr HTI.out.bel
        by_cases hlt2 : k < m
        · have b7 := cell_of_blk HBX.out 7
          simp only [List.getElem?_toArray, List.getElem?_cons_succ, List.getElem?_cons_zero] at b7
          go_wp2_with (at_builtin; refine wp_append_one wr rfl _ _ 39 rfl (wo.heap.size + 1) 43 _ 3 24 Try.underlying39 info43 rfl (by decide) (.slice Ah k ch) k _ rfl HOH.out T3.enc hx _ rfl rfl t3_len t3_one ?q1 (by decide) ?q2 ?_)
          case q1 => omega
          case q2 => exact hsz
          intro g2 c2 w2 hown hgrow hb2 hl2 _
          have hbx2 := blk_grown HBX.out hgrow (owns_ne_blk HOH.out HBX.out (by decide))
          have b72 := cell_of_blk hbx2 7
          have f72 := frozen_of_blk hbx2 7
          simp only [List.getElem?_toArray, List.getElem?_cons_succ, List.getElem?_cons_zero] at b72
          have HBX2 := Lib.hid hbx2
          have HOWN := Lib.hid hown
          have HGROW := Lib.hid hgrow
          clear b7 hbx2 hown hgrow
          go_wp2_with fail
          go_roundg (m - (k + 1))
          case measure => omega
          case rel =>
            have hs := grown_set w2 wo.heap.size 7 (.slice (some ⟨g2, 0, none⟩) (k + 1) c2)
            refine ⟨k + 1, some ⟨g2, 0, none⟩, c2, by omega, by omega, by go_num, Lib.hid ?_, Lib.hid ?_, Lib.hid ?_, ?_⟩
            · exact (blk_set HBX2.out 7 _).trans rfl
            · have := World.ownsRow.kept HOWN.out hs (.inr (fun e => owns_ne_blk HOWN.out HBX2.out (by decide) e.symm))
              rw [List.replicate_succ', List.flatMap_append]
              simpa [List.flatMap_cons] using this
            · exact (HTI.out.grown HGROW.out (fun q hq => by have := (World.ownsRow.lt HOH.out q hq).1; omega)).grown hs (fun q e => by have := Option.some.inj e; omega)
            · have := HGROW.out.size
              have : (w2.setCell ⟨wo.heap.size, 7, none⟩ (.slice (some ⟨g2, 0, none⟩) (k + 1) c2)).heap.size = w2.heap.size := by simp [World.setCell]
              omega
        · obtain rfl : k = m := by omega
          have b0 := cell_of_blk HBX.out 0
          have b1 := cell_of_blk HBX.out 1
          have b2 := cell_of_blk HBX.out 2
          have b3 := cell_of_blk HBX.out 3
          have b4 := cell_of_blk HBX.out 4
          have b5 := cell_of_blk HBX.out 5
          have b6 := cell_of_blk HBX.out 6
          have b7 := cell_of_blk HBX.out 7
          have p2 := cell_of_blk HTI.out.box 2
          simp only [List.getElem?_toArray, List.getElem?_cons_succ, List.getElem?_cons_zero] at b0 b1 b2 b3 b4 b5 b6 b7 p2
          have hw1 : w.heap.size + 1 ≤ wr.heap.size := by have := HTI.out.sz; omega
          go_wp2_with (at_builtin; refine wp_append_one wr rfl _ _ 36 rfl (w.heap.size + 1) 41 _ 8 80 Try.underlying36 info41 rfl (by decide) (.slice Av xs.length cv) xs.length _ rfl HTI.out.own encX (wayX k, (Ah, k, ch)) _ rfl rfl x_len x_one ?q3 (by decide) ?q4 ?_)
          case q3 => omega
          case q4 => exact hw1
          intro g3 c3 w3 hown3 hgrow3 hb3 hl3 hat3
          have hpush := HTI.out.push k Ah ch g3 c3 (rd_of_owns t3_len (by rw [List.length_replicate]; exact HOH.out)) (fun q hq => by have := World.ownsRow.lt HOH.out q hq; omega) hown3 hgrow3 hat3 hl3 hb3
          have hb3' := blk_grown HTI.out.box hgrow3 (owns_ne_blk HTI.out.own HTI.out.box (by decide))
          have c32 := cell_of_blk hb3' 2
          have f32 := frozen_of_blk hb3' 2
          simp only [List.getElem?_toArray, List.getElem?_cons_succ, List.getElem?_cons_zero] at c32
          have HPU := Lib.hid hpush
          clear hpush hb3' hown3 hgrow3 hat3 b0 b1 b2 b3 b4 b5 b6 b7 p2
          go_wp2_with fail
          go_roundg (ws.length - (xs.length + 1))
          case measure => omega
          case rel =>
            refine ⟨xs.length + 1, xs ++ [(wayX k, (Ah, k, ch))], some ⟨g3, 0, none⟩, c3, w3.heap.size, by omega, by omega, by go_num, by rw [HPSS.out], HPN2, Lib.hid ?_, HPU, by simp⟩
            rw [HTK.out, List.map_append, HXS.out]
            rfl
    · have hxl : xs.length = ws.length := by omega
      have HALL : Hid (∀ x ∈ ws, 1 ≤ x ∧ x ≤ 10) := Lib.hid (fun x hx => by
        obtain ⟨j, hj, rfl⟩ := List.getElem_of_mem hx
        have := HPR.out j (by omega)
        rwa [List.getD_eq_getElem?_getD, List.getElem?_eq_getElem hj] at this)
      have hrd := HTI0.out.read
      rw [HXS.out, hxl, List.take_length] at hrd
      have hbox := HTI0.out.box
      rw [hxl] at hbox
      have HMK := Lib.hid (make_tries h1 h5 HALL.out Av cv wo hrd)
      have HER : Hid (errX ws = if 20000 < prodC (planX ws) ws.length then 9 else 5) := Lib.hid rfl
      have hple : prodC (planX ws) ws.length ≤ 100000 := Nat.le_trans (prod_le HALL.out _ (Nat.le_refl _)) (Nat.pow_le_pow_right (by decide) h5)
      rw [hxl]
      have p0 := cell_of_blk hbox 0
      have p1 := cell_of_blk hbox 1
      have p2 := cell_of_blk hbox 2
      simp only [List.getElem?_toArray, List.getElem?_cons_succ, List.getElem?_cons_zero] at p0 p1 p2
      have HBEL := Lib.hid HTI0.out.bel
      clear hbel hrd hbox hxl hlt HTI0 HXS HPR
      generalize prodC (planX ws) ws.length = P at *
      generalize errX ws = er at *
      by_cases hP : 20000 < P
      · have hP2 : decide ((20000 : Int) < (P : Int)) = true := decide_eq_true (by omega)
        have he : er = 9 := by rw [HER.out, if_pos hP]
        subst he
        go_wp2_with fail
        refine HMK.out.mono ?_
        rintro e w1 ⟨rfl, hb1⟩
        have HB1 := Lib.hid (below_then HBEL.out HBEL.out.size hb1)
        clear hb1 HMK HBEL
        go_wp2_with fail
        refine (empty25_nil _).mono ?_
        rintro e w5 ⟨rfl, hb5⟩
        have hX := below_al HB1.out (.cells #[.slice none 0 0, .slice none 0 0, .slice none 0 0, .slice none 0 0] 45)
        have HB5 := Lib.hid (below_then hX hX.size hb5)
        clear hb5 hX HB1
        go_wp2_with fail
        refine (known17 _).mono ?_
        rintro e w9 ⟨rfl, hb9⟩
        have HB9 := Lib.hid (below_then HB5.out HB5.out.size hb9)
        clear hb9 HB5
        go_wp2
        go_ret
        exact ⟨rfl, HB9.out⟩
      · have hP2 : decide ((20000 : Int) < (P : Int)) = false := decide_eq_false (by omega)
        have he : er = 5 := by rw [HER.out, if_neg hP]
        subst he
        go_wp2_with fail
        refine HMK.out.mono ?_
        rintro e w1 ⟨rfl, hb1⟩
        have HB1 := Lib.hid (below_then HBEL.out HBEL.out.size hb1)
        clear hb1 HMK HBEL
        go_wp2_with fail
        refine (empty25_nil _).mono ?_
        rintro e w5 ⟨rfl, hb5⟩
        have hX := below_al HB1.out (.cells #[.slice none 0 0, .slice none 0 0, .slice none 0 0, .slice none 0 0] 45)
        have HB5 := Lib.hid (below_then hX hX.size hb5)
        clear hb5 hX HB1
        go_wp2_with fail
        refine (known17 _).mono ?_
        rintro e w9 ⟨rfl, hb9⟩
        have HB9 := Lib.hid (below_then HB5.out HB5.out.size hb9)
        clear hb9 HB5
        go_wp2
        go_ret
        exact ⟨rfl, HB9.out⟩
end Go.Proofs.Ytpknonebnipcgaa.Zt
