import Derived.Test.YtpknonebnipcgaaProg
import Derived.WalkKit
import Derived.KernelRfl
import Derived.Deep.LoopGhost
import Derived.Deep.QuietTactic
import Derived.BigQuiet
import Derived.Deep.DeepCutAuto
import Derived.Deep.CutBlock
import Derived.Deep.RegionHeld3
import Derived.WalkLawsBesides
import Derived.WalkSpells
import Derived.Outline
import Derived.Deep.DeepFit
import Derived.Lib.Hide
import Derived.Shelf.Abstract
import Derived.Lib.SliceRun
import Derived.Recover
import Derived.Defers
import Derived.Deep.RegionLaw
import Derived.Test.YtpknonebnipcgaaL
import Derived.Test.YtpknonebnipcgaaM

namespace Go.Proofs.Ytpknonebnipcgaa.N
open Go.RowKit Go.Shelf Go.Proofs.Ytpknonebnipcgaa.V Go.Proofs.Ytpknonebnipcgaa.A Go.Proofs.Ytpknonebnipcgaa.B Go.Proofs.Ytpknonebnipcgaa.C Go.Proofs.Ytpknonebnipcgaa.P Go.Proofs.Ytpknonebnipcgaa.D Go.Proofs.Ytpknonebnipcgaa.E Go.Proofs.Ytpknonebnipcgaa.G Go.Proofs.Ytpknonebnipcgaa.H Go.Proofs.Ytpknonebnipcgaa.I Go.Proofs.Ytpknonebnipcgaa.J Go.Proofs.Ytpknonebnipcgaa.K Go.Proofs.Ytpknonebnipcgaa.L Go.Proofs.Ytpknonebnipcgaa.M
set_option linter.unusedVariables false
set_option linter.unusedSimpArgs false

/-! ### the deferred closure of dues -/
theorem idle97 (p q : Addr) (w : World) :
    CallsD Try.prog 97 #[.pointer (some p), .pointer (some q)] .returning w fun e u' w' => e = .returned (.tuple #[]) ∧ u' = .returning ∧ w' = w := by
  refine callsD_of_wpS Try.func97 rfl fun c₀ cs hu => ?_
  apply wpS_seq
  apply wpS_region
  simp [wpOpsS, go_sem, recoverD, hu, Try.ntmps97, Exit.thenS]
  apply wpS_seq
  apply wpS_region
  simp [wpOpsS, go_sem, recoverD, hu, Try.ntmps97, Exit.thenS]
  refine wpS_cond (t := false) (by simp [Act.eval, Array.replicate]) ?_
  simp only [Bool.false_eq_true, if_false]
  refine wpS_of_wp (wp_skip ?_)
  cases c₀
  simp_all [bodyPostS, results, Try.results97]

/-! ### steps of a region that draws -/
section
variable {P : Program} {ops : Array Oper} {o : Oper} {a : Act} {w : World} {K : Act → World → Prop} {Q : Exit → Act → World → Prop} {E : Prop}
theorem step_calls (hg : o.guard = none) (f : FuncId) (args : Array Value) (hrun : (execOp a.eval o).run P w = .ok (.enter f args) w) {R : Ending → World → Prop} (hC : Calls P f args w R)
    (hret : ∀ e w', R e w' → ∃ v, e = .returned v ∧ K (a.put o.dst v) w') : if Region.wanted o (yielded ops a.tmps) = true then Oper.wp P o a w K Q else E := by
  have hw : Region.wanted o (yielded ops a.tmps) = true := by simp [Region.wanted, hg]
  rw [if_pos hw]
  unfold Oper.wp
  rw [hrun]
  simp only [Oper.upon]
  refine hC.mono ?_
  intro e w' h
  obtain ⟨v, rfl, hK⟩ := hret e w' h
  exact hK

theorem step_append_rd {α : Type} (hg : o.guard = none) (s x : Operand) (t : TypeId) (hop : o.op = Op.call { callee := Callee.builtin Builtin.append, args := #[s, x], argTypes := #[t, t] })
    (base : Nat) (e : TypeId) (z : Value) (size bytes : Nat) (ht : P.underlying t = some (.slice e)) (hinfo : (P.info? e).map (fun i => (i.zero, i.size, i.bytes)) = some (some z, size, bytes)) (hzs : z.cells.size = size) (hsz : 0 < size)
    (v : Value) (n : Nat) (cells : List Value) (hs : a.eval s = v) (hown : w.ownsRow base e size v n cells)
    (enc : α → List Value) (xs : List α) (b off c : Nat) (hx : a.eval x = .slice (some ⟨b, off, none⟩) xs.length c) (hr : Rd size enc w (.slice (some ⟨b, off, none⟩) xs.length c) xs) (hk : ∀ x, (enc x).length = size) (h1 : ∀ x, ∀ u ∈ enc x, u.oneCell' = true)
    (h63 : n + xs.length ≤ maxLen) (hbytes : (n + xs.length) * bytes ≤ 140737488355328) (hbase : base ≤ w.heap.size)
    (hK : ∀ v' w', w'.ownsRow base e size v' (n + xs.length) (cells ++ xs.flatMap enc) → w.grownBy w' v.ownBlock → K (a.put o.dst v') w') :
    if Region.wanted o (yielded ops a.tmps) = true then Oper.wp P o a w K Q else E := by
  have hw : Region.wanted o (yielded ops a.tmps) = true := by simp [Region.wanted, hg]
  rw [if_pos hw]
  obtain ⟨i, hi, hz0, hz1, hz2⟩ := info_parts hinfo
  obtain ⟨v', w', hrun, r1, r2, _⟩ := run_append_own (P := P) w base t o.type e i z size bytes ht hi hz0 hz1 hz2 hzs hsz v n cells hown ⟨b, off, none⟩ xs.length c (xs.flatMap enc) (flat_len hk xs) (Rd.flat hk hsz hr) (fun u hu => by
      obtain ⟨y, _, hy⟩ := List.mem_flatMap.1 hu
      exact h1 y u hy) h63 hbytes hbase
  unfold Oper.wp
  simp [execOp, hop, resolve, invoke, builtin, hs, hx, hrun, Result.andThen]
  exact hK v' w' r1 r2
end

section
variable {P : Program} {ops : Array Oper} {rest : List Oper} {o : Oper} {a : Act} {Q : Exit → Act → World → Prop}
theorem wp_copy_nil (w : World) (hgd : o.guard = none) (d x : Operand) (t : TypeId) (ho : o.op = .call { callee := .builtin .copy, args := #[d, x], argTypes := #[t, t] }) (e : TypeId) (ht : P.underlying t = some (.slice e)) (hs : ((P.info? e).map (·.size)).isSome = true)
    (A : Addr) (l c : Nat) (hd : a.eval d = .slice (some A) l c) (hx : a.eval x = .slice none 0 0) (h : wpList P ops Q rest (a.put o.dst (goInt 0)) w) : wpList P ops Q (o :: rest) a w := by
  refine wpList_plain hgd fun K hK' => ?_
  have hrun := run_copy_nil (P := P) w t t o.type e A l c ht hs
  unfold Oper.wp
  simp [execOp, ho, resolve, invoke, builtin, hd, hx, hrun, Result.andThen]
  exact hK' _ _ h
end

/-! ### the call through the interface -/
def fid : RuleT → Nat
  | .beg _ => 128
  | .aft _ => 131
  | .clo _ _ => 132
def pl : RuleT → Value
  | .beg f => .agg #[.int .i64 f]
  | .aft j => .agg #[.int .i64 j]
  | .clo j q => .agg #[.int .i64 j, .pointer (ptrQ q)]
theorem call_links (r : RuleT) (pv : Value) (w : World) : (callMethod r.v "hairpin/timetable.links" #[pv]).run Try.prog w = .ok (.enter (fid r) #[pl r, pv]) w := by
  cases r with
  | beg f => exact by as_aux_lemma => kernel_rfl
  | aft j => exact by as_aux_lemma => kernel_rfl
  | clo j q => exact by as_aux_lemma => kernel_rfl
theorem exec_links (r : RuleT) (pv : Value) (w : World) (a : Act) (o : Oper) (hop : o.op = Op.call { callee := .invoke (.tmp 35) "hairpin/timetable.links", args := #[.tmp 36], argTypes := #[38] }) (h35 : a.eval (.tmp 35) = r.v) (h36 : a.eval (.tmp 36) = pv) :
    (execOp a.eval o).run Try.prog w = .ok (.enter (fid r) #[pl r, pv]) w := by
  have h := call_links r pv w
  simp [execOp, hop, resolve, invoke, h35, h36, Result.andThen, h]
/-- the window that a choice names -/
def winT (p : PlanT) (ch : List Int) (j : Nat) : Option T3 := if ch.getD j 0 < 0 then none else (p.roads.getD j zw).hrs[(ch.getD j 0).toNat]?
/-- the window of the road j cannot be kept, whenever the road is used -/
def badW (p : PlanT) (ch : List Int) (j : Nat) : Bool := match winT p ch j with | none => false | some h => decide (h.c < (p.roads.getD j zw).lead + busyOf p (p.roads.getD j zw))
def linkR (p : PlanT) (ch : List Int) : RuleT → List T3
  | .beg _ => lkBegin p
  | .aft j => lkAfter p (j - 1).toNat
  | .clo j _ => lkClosed p j.toNat (winT p ch j.toNat)
def badR (p : PlanT) (ch : List Int) : RuleT → Bool
  | .clo j _ => badW p ch j.toNat
  | _ => false
def ruleOk (p : PlanT) (ch : List Int) (w : World) : RuleT → Prop
  | .beg f => f = p.first
  | .aft j => ∃ k : Nat, k < p.roads.length ∧ j = (k : Int) + 1
  | .clo j q => ∃ k : Nat, k < p.roads.length ∧ j = k ∧ winOk p ch w k q

theorem winOk_out {p : PlanT} {ch : List Int} {w : World} {k : Nat} {q : Option (Nat × Nat)} (h : winOk p ch w k q) : (q = none ∧ winT p ch k = none) ∨ ∃ b o h, q = some (b, o) ∧ winT p ch k = some h ∧ h ∈ (p.roads.getD k zw).hrs ∧ b < w.heap.size ∧
    w.cell? ⟨b, o, none⟩ = some (.int .i64 h.a) ∧ w.cell? ⟨b, o + 1, none⟩ = some (.int .i64 h.b) ∧ w.cell? ⟨b, o + 2, none⟩ = some (.int .i64 h.c) := by
  unfold winT
  rcases h with ⟨h1, h2⟩ | ⟨h0, b, o, h, e1, e2, e3, e4, e5, e6⟩
  · exact .inl ⟨h2, by rw [if_pos h1]⟩
  · exact .inr ⟨b, o, h, e1, by rw [if_neg (by omega), e2], List.mem_of_getElem? e2, e3, e4, e5, e6⟩

theorem lkAfter_len (p : PlanT) (j : Nat) : (lkAfter p j).length = 2 := by unfold lkAfter; dsimp only; split <;> rfl

theorem rule_links (p : PlanT) (hP : PBd p) (ch : List Int) (Ar : Option Addr) (cr : Nat) (w : World) (hR : RdW w (.slice Ar p.roads.length cr) p.roads) (r : RuleT) (hr : ruleOk p ch w r) :
    Calls Try.prog (fid r) #[pl r, .agg #[.int .i64 p.cars, .int .i64 p.first, .slice Ar p.roads.length cr]] w fun e w' =>
      ((badR p ch r = true ∧ e = .panicked [{ v := .iface 128 (.agg #[]), recovered := false }]) ∨
       (badR p ch r = false ∧ ∃ g, e = .returned (.slice (some ⟨g, 0, none⟩) (linkR p ch r).length (linkR p ch r).length) ∧ RdT w' (.slice (some ⟨g, 0, none⟩) (linkR p ch r).length (linkR p ch r).length) (linkR p ch r))) ∧ Below w.heap.size w w' := by
  cases r with
  | beg f =>
    obtain rfl : f = p.first := hr
    refine (links128 p hP _ w).mono ?_
    rintro e w' ⟨g, rfl, h1, h2⟩
    exact ⟨.inr ⟨rfl, g, rfl, h1⟩, h2⟩
  | aft j =>
    obtain ⟨k, hk, rfl⟩ := hr
    refine (links131 p hP Ar cr w hR k hk).mono ?_
    rintro e w' ⟨g, rfl, h1, h2⟩
    have e1 : ((k : Int) + 1 - 1).toNat = k := by omega
    refine ⟨.inr ⟨rfl, g, ?_, ?_⟩, h2⟩
    · simp only [linkR, e1, lkAfter_len]
    · simp only [linkR, e1, lkAfter_len]
      exact h1
  | clo j q =>
    obtain ⟨k, hk, rfl, hq⟩ := hr
    rcases winOk_out hq with ⟨rfl, hw⟩ | ⟨b, o, h, rfl, hw, hm, e3, e4, e5, e6⟩
    · refine (links132_none p hP Ar cr w hR k hk).mono ?_
      rintro e w' ⟨g, rfl, h1, h2⟩
      refine ⟨.inr ⟨by simp only [badR, badW, Int.toNat_natCast, hw], g, ?_, ?_⟩, h2⟩
      · simp only [linkR, Int.toNat_natCast, hw]; rfl
      · simp only [linkR, Int.toNat_natCast, hw]; exact h1
    · refine (links132_some p hP Ar cr w hR k hk b o h e3 e4 e5 e6 ((hP.road _ (List.mem_of_getElem? (getD_w hk))).hok h hm)).mono ?_
      rintro e w' ⟨⟨h1, rfl⟩ | ⟨h1, g, rfl, h2⟩, h3⟩
      · exact ⟨.inl ⟨by simp only [badR, badW, Int.toNat_natCast, hw, decide_eq_true h1], rfl⟩, h3⟩
      · refine ⟨.inr ⟨by simp only [badR, badW, Int.toNat_natCast, hw, decide_eq_false h1], g, ?_, ?_⟩, h3⟩
        · simp only [linkR, Int.toNat_natCast, hw]; rfl
        · simp only [linkR, Int.toNat_natCast, hw]; exact h2

/-- all rules are as they should be -/
theorem rules_ok {p : PlanT} {ch : List Int} {w : World} {qs : Nat → Option (Nat × Nat)} : ∀ k, k ≤ p.roads.length → (∀ j, j < p.roads.length → winOk p ch w j (qs j)) → ∀ r ∈ rulesK p.first qs k, ruleOk p ch w r
  | 0, _, _, r, h => by
    simp only [rulesK, List.mem_singleton] at h
    subst h
    rfl
  | k + 1, hk, hq, r, h => by
    simp only [rulesK, List.mem_append, List.mem_cons, List.not_mem_nil, or_false] at h
    rcases h with h | rfl | rfl
    · exact rules_ok k (by omega) hq r h
    · exact ⟨k, by omega, rfl⟩
    · exact ⟨k, by omega, rfl, hq k (by omega)⟩

/-- the links of a plan with a choice -/
def lksK (p : PlanT) (ch : List Int) : Nat → List T3
  | 0 => lkBegin p
  | k + 1 => lksK p ch k ++ (lkAfter p k ++ lkClosed p k (winT p ch k))
theorem lks_flat (p : PlanT) (ch : List Int) (qs : Nat → Option (Nat × Nat)) : ∀ k, (rulesK p.first qs k).flatMap (linkR p ch) = lksK p ch k
  | 0 => by simp [rulesK, lksK, linkR]
  | k + 1 => by
    simp only [rulesK, lksK, List.flatMap_append, List.flatMap_cons, List.flatMap_nil, List.append_nil, lks_flat p ch qs k, linkR, Int.toNat_natCast]
    rw [show ((k : Int) + 1 - 1).toNat = k by omega]
theorem lkClosed_len (p : PlanT) (j : Nat) (o : Option T3) : (lkClosed p j o).length ≤ 2 := by cases o <;> simp [lkClosed]
theorem lksK_len (p : PlanT) (ch : List Int) : ∀ k, (lksK p ch k).length ≤ 1 + 4 * k
  | 0 => by simp [lksK, lkBegin]
  | k + 1 => by
    have := lksK_len p ch k
    have := lkClosed_len p k (winT p ch k)
    have := lkAfter_len p k
    simp only [lksK, List.length_append]
    omega
theorem linkR_len (p : PlanT) (ch : List Int) (r : RuleT) : (linkR p ch r).length ≤ 2 := by
  cases r with
  | beg f => simp [linkR, lkBegin]
  | aft j => simp only [linkR, lkAfter_len]; omega
  | clo j q => exact lkClosed_len _ _ _
theorem flat_le (p : PlanT) (ch : List Int) (rs : List RuleT) : ∀ i, ((rs.take i).flatMap (linkR p ch)).length ≤ 2 * i := by
  induction rs with
  | nil => intro i; simp
  | cons r rs ih =>
    intro i
    cases i with
    | zero => simp
    | succ i =>
      have := ih i
      have := linkR_len p ch r
      simp only [List.take_succ_cons, List.flatMap_cons, List.length_append]
      omega
/-- what stays while the links of the rules are gathered -/
structure DI (w : World) (base : Nat) (plan : Array Value) (m : Int) (ls : List T3) (rv : Value) (rs : List RuleT) (W : World) (Av : Option Addr) (cv : Nat) : Prop where
  net : W.heap[w.heap.size + 3]? = some (.cells #[.int .i64 m, .slice Av ls.length cv] 89 (0, 0))
  own : W.ownsRow base 58 3 (.slice Av ls.length cv) ls.length (ls.flatMap T3.enc)
  bel : Below w.heap.size w W
  box : W.heap[w.heap.size]? = some (.cells plan 38 (0, 0))
  r6 : W.heap[w.heap.size + 1]? = some (.cells #[.slice none 0 0] 25 (0, 0))
  r7 : W.heap[w.heap.size + 2]? = some (.cells #[.bool false] 4 (0, 0))
  rul : Rd 1 encU W rv rs
  rb : ∀ q, rv.ownBlock = some q → q < base ∧ q ≠ w.heap.size + 3
  bs : w.heap.size + 4 ≤ base ∧ base ≤ W.heap.size

theorem DI.grown {w : World} {base : Nat} {plan : Array Value} {m : Int} {ls : List T3} {rv : Value} {rs : List RuleT} {W W' : World} {Av : Option Addr} {cv : Nat} (h : DI w base plan m ls rv rs W Av cv) {row : Option Nat} (hg : W.grownBy W' row) (hr : ∀ q, row = some q → base ≤ q ∧ some q ≠ (Value.slice Av ls.length cv).ownBlock) : DI w base plan m ls rv rs W' Av cv := by
  obtain ⟨b1, b2⟩ := h.bs
  have hne : ∀ q, q < base → some q ≠ row := fun q hq e => by have := (hr q e.symm).1; omega
  refine ⟨blk_grown h.net hg (hne _ (by omega)), h.own.kept hg ?_, h.bel.grown hg h.bel.size (fun k hk => by have := (hr k hk).1; omega), blk_grown h.box hg (hne _ (by omega)), blk_grown h.r6 hg (hne _ (by omega)), blk_grown h.r7 hg (hne _ (by omega)), Rd.grown h.rul hg (fun q hq => hne q (h.rb q hq).1), h.rb, ⟨b1, Nat.le_trans b2 hg.size⟩⟩
  cases hv : (Value.slice Av ls.length cv).ownBlock with
  | none => exact .inl rfl
  | some q => exact .inr (fun e => (hr q e.symm).2 hv.symm)
theorem DI.below {w : World} {base : Nat} {plan : Array Value} {m : Int} {ls : List T3} {rv : Value} {rs : List RuleT} {W W' : World} {Av : Option Addr} {cv : Nat} (h : DI w base plan m ls rv rs W Av cv) (hb : Below W.heap.size W W') : DI w base plan m ls rv rs W' Av cv := h.grown (grown_of hb none) (fun q e => by cases e)

theorem DI.push {w : World} {base : Nat} {plan : Array Value} {m : Int} {ls xs : List T3} {rv : Value} {rs : List RuleT} {W W3 : World} {Av A3 : Option Addr} {cv c3 : Nat} (h : DI w base plan m ls rv rs W Av cv)
    (hown : W3.ownsRow base 58 3 (.slice A3 (ls.length + xs.length) c3) (ls.length + xs.length) (ls.flatMap T3.enc ++ xs.flatMap T3.enc)) (hgrow : W.grownBy W3 (Value.slice Av ls.length cv).ownBlock) :
    DI w base plan m (ls ++ xs) rv rs (W3.setCell ⟨w.heap.size + 3, 1, none⟩ (.slice A3 (ls.length + xs.length) c3)) A3 c3 := by
  obtain ⟨b1, b2⟩ := h.bs
  have hrow : ∀ q, (Value.slice Av ls.length cv).ownBlock = some q → base ≤ q := fun q hq => (World.ownsRow.lt h.own q hq).1
  have hn : ∀ q, q < base → some q ≠ (Value.slice Av ls.length cv).ownBlock := fun q hq e => by have := hrow q e.symm; omega
  have net3 := blk_grown h.net hgrow (hn _ (by omega))
  have hne3 := owns_ne_blk hown net3 (by decide)
  have hs := grown_set W3 (w.heap.size + 3) 1 (.slice A3 (ls.length + xs.length) c3)
  refine ⟨?_, ?_, ?_, blk_grown (blk_grown h.box hgrow (hn _ (by omega))) hs (by simp), blk_grown (blk_grown h.r6 hgrow (hn _ (by omega))) hs (by simp), blk_grown (blk_grown h.r7 hgrow (hn _ (by omega))) hs (by simp), ?_, h.rb, ⟨b1, ?_⟩⟩
  · rw [List.length_append]
    exact (blk_set net3 1 _).trans rfl
  · rw [List.length_append, List.flatMap_append]
    exact World.ownsRow.kept hown hs (.inr (fun e => hne3 e.symm))
  · exact (h.bel.grown hgrow h.bel.size (fun k hk => by have := hrow k hk; omega)).setCell (p := ⟨w.heap.size + 3, 1, none⟩) (by show w.heap.size ≤ w.heap.size + 3; omega) _
  · exact Rd.grown (Rd.grown h.rul hgrow (fun q hq => hn q (h.rb q hq).1)) hs (fun q hq => by have := (h.rb q hq).2; intro e; injection e with e; exact this e)
  · have := hgrow.size
    simp [World.setCell]
    omega

theorem own_tail {w : World} {base g cap m : Nat} {xs : List Int} (h : Own w base g cap xs) (hm : xs.length = m + 1) (hc : cap = m + 1) : RdI w (.slice (some ⟨g, 1, none⟩) m m) xs.tail := by
  subst hc
  have hr := h.rd
  obtain ⟨_, _, hlt, _, _, hcap, _⟩ := h.blk
  refine ⟨_, m, by rw [List.length_tail, hm]; rfl, by rw [List.length_tail, hm]; omega, by unfold maxLen; omega, by simp, fun j x hx => ⟨g, 1, _, rfl, hlt, rfl, fun i u hu => ?_⟩⟩
  rw [List.getElem?_tail] at hx
  have hc := (h.at hx).1
  cases i with
  | zero =>
    simp [encI] at hu
    subst hu
    rw [Nat.mul_one, Nat.add_zero, Nat.add_comm]
    exact hc
  | succ i => simp [encI] at hu

/-- the links of the net that dues pushes, and what comes of it -/
def netK (p : PlanT) (ch : List Int) : List T3 := lksK p ch p.roads.length ++ adds (p.roads.length + 2)
def dueSt (p : PlanT) (ch : List Int) : St := pushF (p.roads.length + 2) (netK p ch) (List.replicate (p.roads.length + 2) 0)

theorem netK_valid (p : PlanT) (hP : PBd p) (h8 : p.roads.length ≤ 8) (ch : List Int) : ∀ l ∈ netK p ch, okLk ((p.roads.length + 2 : Nat) : Int) l = true := by
  have hf := hP.first
  have mk : ∀ (a b c : Int), 0 ≤ a → a ≤ (p.roads.length : Int) + 1 → 0 ≤ b → b ≤ (p.roads.length : Int) + 1 → -1000000 ≤ c → c ≤ 1000000 → okLk ((p.roads.length + 2 : Nat) : Int) ⟨a, b, c⟩ = true := fun a b c h1 h2 h3 h4 h5 h6 => by
    simp only [okLk, inB, Bool.and_eq_true, decide_eq_true_eq]
    omega
  have hk : ∀ k, k ≤ p.roads.length → ∀ l ∈ lksK p ch k, okLk ((p.roads.length + 2 : Nat) : Int) l = true := by
    intro k
    induction k with
    | zero =>
      intro _ l hl
      simp only [lksK, lkBegin, List.mem_singleton] at hl
      subst hl
      exact mk _ _ _ (by omega) (by omega) (by omega) (by omega) (by omega) (by omega)
    | succ k ih =>
      intro hk l hl
      have hx := getD_w (show k < p.roads.length by omega)
      have hw := hP.road _ (List.mem_of_getElem? hx)
      have hs := hP.span hw
      have h1 := hw.tar
      have h2 := hw.lead
      have h3 := hw.lag
      simp only [lksK, List.mem_append] at hl
      rcases hl with hl | hl | hl
      · exact ih (by omega) l hl
      · unfold lkAfter at hl
        dsimp only at hl
        split at hl
        · rename_i hg
          have hy := getD_w hg.1
          have hw2 := (hP.road _ (List.mem_of_getElem? hy)).wait
          simp only [List.mem_cons, List.not_mem_nil, or_false] at hl
          rcases hl with rfl | rfl
          · exact mk _ _ _ (by omega) (by omega) (by omega) (by omega) (by omega) (by omega)
          · exact mk _ _ _ (by omega) (by omega) (by omega) (by omega) (by omega) (by omega)
        · simp only [List.mem_cons, List.not_mem_nil, or_false] at hl
          rcases hl with rfl | rfl
          · exact mk _ _ _ (by omega) (by omega) (by omega) (by omega) (by omega) (by omega)
          · exact mk _ _ _ (by omega) (by omega) (by omega) (by omega) (by omega) (by omega)
      · cases hwt : winT p ch k with
        | none =>
          rw [hwt] at hl
          simp only [lkClosed, List.mem_singleton] at hl
          subst hl
          exact mk _ _ _ (by omega) (by omega) (by omega) (by omega) (by omega) (by omega)
        | some h =>
          rw [hwt] at hl
          have hm : h ∈ (p.roads.getD k zw).hrs := by
            unfold winT at hwt
            split at hwt
            · cases hwt
            · exact List.mem_of_getElem? hwt
          have hok := hw.hok h hm
          simp only [lkClosed, busyOf, List.mem_cons, List.not_mem_nil, or_false] at hl
          rcases hl with rfl | rfl
          · exact mk _ _ _ (by omega) (by omega) (by omega) (by omega) (by omega) (by omega)
          · exact mk _ _ _ (by omega) (by omega) (by omega) (by omega) (by omega) (by omega)
  intro l hl
  simp only [netK, List.mem_append] at hl
  rcases hl with hl | hl
  · exact hk _ (Nat.le_refl _) l hl
  · simp only [adds, List.mem_map, List.mem_range] at hl
    obtain ⟨i, hi, rfl⟩ := hl
    exact mk _ _ _ (by omega) (by omega) (by simp) (by simp; omega) (by omega) (by omega)

set_option maxRecDepth 100000 in
set_option maxHeartbeats 8000000 in
theorem dues66_ok (p : PlanT) (hP : PBd p) (h8 : p.roads.length ≤ 8) (ch : List Int) (hch : chOk p ch) (Ar : Option Addr) (cr : Nat) (Ac : Option Addr) (cc : Nat) (w : World) (hR : RdW w (.slice Ar p.roads.length cr) p.roads) (hC : RdI w (.slice Ac p.roads.length cc) ch)
    (hgood : ∀ k, k < p.roads.length → badW p ch k = false) :
    Calls Try.prog 66 #[.agg #[.int .i64 p.cars, .int .i64 p.first, .slice Ar p.roads.length cr], .slice Ac p.roads.length cc, .slice none 0 0] w fun e w' =>
      (((0 ≤ (dueSt p ch).raised ∨ (dueSt p ch).ts.getD 0 0 ≠ 0) → e = .returned (.tuple #[.slice none 0 0, .bool false])) ∧
       ((dueSt p ch).raised < 0 → (dueSt p ch).ts.getD 0 0 = 0 → ∃ g c, e = .returned (.tuple #[.slice (some ⟨g, 1, none⟩) (p.roads.length + 1) c, .bool true]) ∧ RdI w' (.slice (some ⟨g, 1, none⟩) (p.roads.length + 1) c) ((dueSt p ch).ts.drop 1))) ∧ Below w.heap.size w w' := by
  have hll := (RdR.len hR).2
  have hlen := hP.len
  have HNV := Lib.hid (netK_valid p hP h8 ch)
  have HRC := Lib.hid (fun W hb => rules98 p hP Ar cr ch Ac cc w W hb hR (Rd.below hC hb) hch)
  have HRL := Lib.hid (fun W (hb : Below w.heap.size w W) (r : RuleT) (hr : ruleOk p ch W r) => rule_links p hP ch Ar cr W (RdW.below hR hb) r hr)
  have HGD := Lib.hid hgood
  have hmf : ∀ (fn : Fn) (first cap : Array Value) (w : World), (Instr.makeFunc fn first cap).run Try.prog w = .ok (.func fn first cap) w := fun _ _ _ _ => rfl
  clear hR hC hch hgood hP
  obtain ⟨z, hz⟩ : ∃ z, (dueSt p ch).ts.getD 0 0 = z := ⟨_, rfl⟩
  rw [hz]
  have HZZ := Lib.hid hz
  clear hz
  go_enter_defers Try.func66, Try.ntmps66
  go_wp2_with fail
  have hb4 : Below w.heap.size w ((((w.alloc (.cells #[.int .i64 p.cars, .int .i64 p.first, .slice Ar p.roads.length cr] 38)).alloc (.cells #[.slice none 0 0] 25)).alloc (.cells #[.bool false] 4)).alloc (.cells #[.int .i64 ((p.roads.length : Int) + 2), .slice none 0 0] 89)) := below_al (below_al (below_al (below_al (below_rf w) _) _) _) _
  have a0 : ((((w.alloc (.cells #[.int .i64 p.cars, .int .i64 p.first, .slice Ar p.roads.length cr] 38)).alloc (.cells #[.slice none 0 0] 25)).alloc (.cells #[.bool false] 4)).alloc (.cells #[.int .i64 ((p.roads.length : Int) + 2), .slice none 0 0] 89)).heap[w.heap.size]? = some (.cells #[.int .i64 p.cars, .int .i64 p.first, .slice Ar p.roads.length cr] 38 (0, 0)) := blk_alloc (blk_alloc (blk_alloc (blk_new w _) _) _) _
  have a1 : ((((w.alloc (.cells #[.int .i64 p.cars, .int .i64 p.first, .slice Ar p.roads.length cr] 38)).alloc (.cells #[.slice none 0 0] 25)).alloc (.cells #[.bool false] 4)).alloc (.cells #[.int .i64 ((p.roads.length : Int) + 2), .slice none 0 0] 89)).heap[w.heap.size + 1]? = some (.cells #[.slice none 0 0] 25 (0, 0)) := by
    have := blk_alloc (blk_alloc (blk_new (w.alloc (.cells #[.int .i64 p.cars, .int .i64 p.first, .slice Ar p.roads.length cr] 38)) (.cells #[.slice none 0 0] 25)) (.cells #[.bool false] 4)) (.cells #[.int .i64 ((p.roads.length : Int) + 2), .slice none 0 0] 89)
    rwa [World.size_alloc] at this
  have a2 : ((((w.alloc (.cells #[.int .i64 p.cars, .int .i64 p.first, .slice Ar p.roads.length cr] 38)).alloc (.cells #[.slice none 0 0] 25)).alloc (.cells #[.bool false] 4)).alloc (.cells #[.int .i64 ((p.roads.length : Int) + 2), .slice none 0 0] 89)).heap[w.heap.size + 2]? = some (.cells #[.bool false] 4 (0, 0)) := by
    have := blk_alloc (blk_new ((w.alloc (.cells #[.int .i64 p.cars, .int .i64 p.first, .slice Ar p.roads.length cr] 38)).alloc (.cells #[.slice none 0 0] 25)) (.cells #[.bool false] 4)) (.cells #[.int .i64 ((p.roads.length : Int) + 2), .slice none 0 0] 89)
    rwa [World.size_alloc, World.size_alloc] at this
  have a3 : ((((w.alloc (.cells #[.int .i64 p.cars, .int .i64 p.first, .slice Ar p.roads.length cr] 38)).alloc (.cells #[.slice none 0 0] 25)).alloc (.cells #[.bool false] 4)).alloc (.cells #[.int .i64 ((p.roads.length : Int) + 2), .slice none 0 0] 89)).heap[w.heap.size + 3]? = some (.cells #[.int .i64 ((p.roads.length : Int) + 2), .slice none 0 0] 89 (0, 0)) := by
    have := blk_new (((w.alloc (.cells #[.int .i64 p.cars, .int .i64 p.first, .slice Ar p.roads.length cr] 38)).alloc (.cells #[.slice none 0 0] 25)).alloc (.cells #[.bool false] 4)) (.cells #[.int .i64 ((p.roads.length : Int) + 2), .slice none 0 0] 89)
    rwa [World.size_alloc, World.size_alloc, World.size_alloc] at this
  have a4 : ((((w.alloc (.cells #[.int .i64 p.cars, .int .i64 p.first, .slice Ar p.roads.length cr] 38)).alloc (.cells #[.slice none 0 0] 25)).alloc (.cells #[.bool false] 4)).alloc (.cells #[.int .i64 ((p.roads.length : Int) + 2), .slice none 0 0] 89)).heap.size = w.heap.size + 4 := by simp
  generalize ((((w.alloc (.cells #[.int .i64 p.cars, .int .i64 p.first, .slice Ar p.roads.length cr] 38)).alloc (.cells #[.slice none 0 0] 25)).alloc (.cells #[.bool false] 4)).alloc (.cells #[.int .i64 ((p.roads.length : Int) + 2), .slice none 0 0] 89)) = w4 at *
  refine (HRC.out w4 hb4).mono ?_
  rintro e w1 ⟨qs, gR, cR, rfl, hqs, hrd, hbl⟩
  have hrule := rules_ok (p := p) (ch := ch) (w := w) p.roads.length (Nat.le_refl _) hqs
  have hflat := lks_flat p ch qs p.roads.length
  have hrl := rulesK_len p.first qs p.roads.length
  have hbadR : ∀ r ∈ rulesK p.first qs p.roads.length, badR p ch r = false := fun r hr => by
    have h := hrule r hr
    cases r with
    | beg f => rfl
    | aft j => rfl
    | clo j q =>
      obtain ⟨k, hk, rfl, _⟩ := h
      exact HGD.out k hk
  have hr0 : (rulesK p.first qs p.roads.length)[0]? = some (rulesK p.first qs p.roads.length)[0] := List.getElem?_eq_getElem (by omega)
  have hgR : gR < w1.heap.size ∧ gR ≠ w.heap.size + 3 := by
    obtain ⟨b', off', cs, e1, e2, rfl, e3⟩ := RdR.at hrd 0 _ hr0
    injection e1 with e1
    injection e1 with e1 e1'
    subst e1 e1'
    refine ⟨e2, ?_⟩
    rintro rfl
    have h1 := e3 0 _ rfl
    have h2 := cell_of_blk (blk_below a3 hbl) 0
    simp only [Nat.zero_add, Nat.zero_mul, Nat.add_zero] at h1
    rw [h1] at h2
    cases hr : (rulesK p.first qs p.roads.length)[0] <;> rw [hr] at h2 <;> simp [RuleT.v] at h2
  have hDI : DI w w1.heap.size #[.int .i64 p.cars, .int .i64 p.first, .slice Ar p.roads.length cr] ((p.roads.length : Int) + 2) [] (.slice (some ⟨gR, 0, none⟩) (1 + 2 * p.roads.length) cR) (rulesK p.first qs p.roads.length) w1 none 0 :=
    ⟨blk_below a3 hbl, World.ownsRow_nil _ _ _ _, below_then hb4 hb4.size hbl, blk_below a0 hbl, blk_below a1 hbl, blk_below a2 hbl, hrd, fun q hq => by simp [Value.ownBlock] at hq; subst hq; exact hgR, by have := hbl.size; omega, Nat.le_refl _⟩
  have HDI := Lib.hid hDI
  have HBAD := Lib.hid hbadR
  have HRU : Hid (∀ r ∈ rulesK p.first qs p.roads.length, ∀ W, Below w.heap.size w W → ruleOk p ch W r) := Lib.hid (fun r hr W hb => by
    have h := hrule r hr
    cases r with
    | beg f => exact h
    | aft j => exact h
    | clo j q =>
      obtain ⟨k, h1, h2, h3⟩ := h
      exact ⟨k, h1, h2, h3.below hb⟩)
  have HFL := Lib.hid hflat
  have HRLEN := Lib.hid hrl
  have hlR := (RdR.len hrd).2
  have HB4 := Lib.hid (⟨hb4, hbl⟩ : Below w.heap.size w w4 ∧ Below w4.heap.size w4 w1)
  have HA4 := Lib.hid a4
  clear hb4 a0 a1 a2 a3 a4 hqs hrd hbl hrule hflat hrl hbadR hr0 hDI HRC HGD
  obtain ⟨hgR1, hgR2⟩ := hgR
  generalize hrsg : rulesK p.first qs p.roads.length = rs at *
  clear hrsg
  go_wp2_with fail
  go_loopg [10, 26] (1 + 2 * p.roads.length) (fun gg s10 s26 wr => ∃ (i : Nat) (Av : Option Addr) (cv : Nat), i ≤ 1 + 2 * p.roads.length ∧ 1 + 2 * p.roads.length - i ≤ gg ∧ s26 = .int .i64 i ∧
    Hid (DI w w1.heap.size #[.int .i64 p.cars, .int .i64 p.first, .slice Ar p.roads.length cr] ((p.roads.length : Int) + 2) ((rs.take i).flatMap (linkR p ch)) (.slice (some ⟨gR, 0, none⟩) (1 + 2 * p.roads.length) cR) rs wr Av cv))
  case atStart => exact ⟨0, none, 0, Nat.zero_le _, by omega, rfl, HDI⟩
  case round =>
    clear HDI
    obtain ⟨i, Av, cv, hi, hgg, rfl, HD⟩ := hrel
    by_cases hlt : i < 1 + 2 * p.roads.length
    · obtain ⟨r, hx⟩ : ∃ r, rs[i]? = some r := ⟨rs[i]'(by rw [HRLEN.out]; exact hlt), List.getElem?_eq_getElem _⟩
      have htake : rs.take (i + 1) = rs.take i ++ [r] := by rw [List.take_add_one, hx]; rfl
      have hmem := List.mem_of_getElem? hx
      have HTK : Hid ((rs.take (i + 1)).flatMap (linkR p ch) = (rs.take i).flatMap (linkR p ch) ++ linkR p ch r) := Lib.hid (by rw [htake, List.flatMap_append]; simp)
      have hr0 := HBAD.out r hmem
      have hll2 := linkR_len p ch r
      have hcont := HRL.out wr.drew (HD.out.below (below_dr (below_rf wr))).bel r (HRU.out r hmem _ (HD.out.below (below_dr (below_rf wr))).bel)
      obtain ⟨b', off', cs, e1, e2, rfl, e3⟩ := RdR.at HD.out.rul i _ hx
      injection e1 with e1
      injection e1 with e1 e1'
      subst e1 e1'
      have c0 := e3 0 _ rfl
      have p0 := cell_of_blk HD.out.box 0
      have p1 := cell_of_blk HD.out.box 1
      have p2 := cell_of_blk HD.out.box 2
      have n0 := cell_of_blk HD.out.net 0
      have n1 := cell_of_blk HD.out.net 1
      simp only [List.getElem?_toArray, List.getElem?_cons_succ, List.getElem?_cons_zero, Nat.zero_add, Nat.mul_one, Nat.add_zero] at c0 p0 p1 p2 n0 n1
      rw [hr0] at hcont
      have HCO : Hid (Calls Try.prog (fid r) #[pl r, .agg #[.int .i64 p.cars, .int .i64 p.first, .slice Ar p.roads.length cr]] wr.drew fun e w' => ∃ g, e = .returned (.slice (some ⟨g, 0, none⟩) (linkR p ch r).length (linkR p ch r).length) ∧ Hid (RdT w' (.slice (some ⟨g, 0, none⟩) (linkR p ch r).length (linkR p ch r).length) (linkR p ch r)) ∧
          Hid (DI w w1.heap.size #[.int .i64 p.cars, .int .i64 p.first, .slice Ar p.roads.length cr] ((p.roads.length : Int) + 2) ((rs.take i).flatMap (linkR p ch)) (.slice (some ⟨gR, 0, none⟩) (1 + 2 * p.roads.length) cR) rs w' Av cv) ∧
          w'.cell? ⟨w.heap.size + 3, 1, none⟩ = some (.slice Av ((rs.take i).flatMap (linkR p ch)).length cv) ∧ w'.frozen? ⟨w.heap.size + 3, 1, none⟩ = false) := Lib.hid (hcont.mono (by
        rintro e w' ⟨⟨h1, _⟩ | ⟨_, g, h1, h2⟩, h3⟩
        · cases h1
        · have hd := (HD.out.below (below_dr (below_rf wr))).below h3
          exact ⟨g, h1, Lib.hid h2, Lib.hid hd, (cell_of_blk hd.net 1).trans rfl, frozen_of_blk hd.net 1⟩))
      have hlenL : ((rs.take i).flatMap (linkR p ch)).length ≤ 2 * i := flat_le p ch rs i
      clear hcont e3 hx htake hmem hr0
      go_wp2_with fail
      generalize hLL : ((rs.take i).flatMap (linkR p ch)).length = LL at *
      refine wp_region_noPanic ?_
      go_region_law (first
        | (refine step_calls rfl (fid r) #[pl r, .agg #[.int .i64 p.cars, .int .i64 p.first, .slice Ar p.roads.length cr]] (exec_links r _ _ _ _ rfl rfl rfl) HCO.out ?_; rintro e w2 ⟨gl, rfl, HRD, HD2, m1, mf⟩; refine ⟨_, rfl, ?_⟩)
        | (refine step_append_rd rfl (.tmp 34) (.tmp 37) 22 rfl w1.heap.size 58 _ 3 24 Try.underlying22 info58 rfl (by decide) _ LL _ rfl (hLL ▸ HD2.out.own) T3.enc (linkR p ch r) gl 0 _ rfl HRD.out t3_len t3_one (by unfold maxLen; omega) (by omega) HD2.out.bs.2 ?_; intro v' w3 hown hgrow; obtain ⟨A3, c3, rfl⟩ := owns_slice hown
           have hn3 := blk_grown HD2.out.net hgrow (by have h := owns_ne_blk HD2.out.own HD2.out.net (by decide); rw [hLL] at h; exact h)
           have q1 := cell_of_blk hn3 1
           have qf := frozen_of_blk hn3 1
           simp only [List.getElem?_toArray, List.getElem?_cons_succ, List.getElem?_cons_zero] at q1
           have HOWN := Lib.hid hown
           have HGROW := Lib.hid hgrow
           have HN3 := Lib.hid hn3
           clear hown hgrow hn3))
      all_goals refine NoPanic.normal ?_
      all_goals
        go_wp2_with fail
        go_roundg (1 + 2 * p.roads.length - (i + 1))
        case measure => omega
        case rel =>
          refine ⟨i + 1, A3, c3, by omega, by omega, by go_num, ?_⟩
          rw [HTK.out]
          have h1 := HOWN.out
          have h2 := HGROW.out
          rw [← hLL] at h1 h2 ⊢
          exact Lib.hid (HD2.out.push h1 h2)
    · obtain rfl : i = 1 + 2 * p.roads.length := by omega
      have htk : rs.take (1 + 2 * p.roads.length) = rs := List.take_of_length_le (by rw [HRLEN.out]; omega)
      rw [htk, HFL.out] at HD
      have hkl := lksK_len p ch p.roads.length
      have n0 := cell_of_blk HD.out.net 0
      simp only [List.getElem?_toArray, List.getElem?_cons_succ, List.getElem?_cons_zero] at n0
      clear htk hlt hgg
      go_wp2_with fail
      clear n0
      go_loopg [11, 46] (p.roads.length + 2) (fun gg s11 s46 wr => ∃ (k : Nat) (Av : Option Addr) (cv : Nat), k ≤ p.roads.length + 2 ∧ p.roads.length + 2 - k ≤ gg ∧ s46 = .int .i64 k ∧
        Hid (DI w w1.heap.size #[.int .i64 p.cars, .int .i64 p.first, .slice Ar p.roads.length cr] ((p.roads.length : Int) + 2) (lksK p ch p.roads.length ++ adds k) (.slice (some ⟨gR, 0, none⟩) (1 + 2 * p.roads.length) cR) rs wr Av cv))
      case atStart => exact ⟨0, Av, cv, Nat.zero_le _, by omega, rfl, by simpa [adds] using HD⟩
      case round =>
        clear HD Av cv
        obtain ⟨k, Av, cv, hk, hgg, rfl, HD⟩ := hrel
        have hal : (lksK p ch p.roads.length ++ adds k).length = (lksK p ch p.roads.length).length + k := by rw [List.length_append, adds_length]
        have HAL := Lib.hid hal
        generalize hLL : (lksK p ch p.roads.length ++ adds k).length = LL at hal
        have hLL100 : LL ≤ 100 := by omega
        have HLL := Lib.hid hLL
        by_cases hlt : k < p.roads.length + 2
        · have n1 := cell_of_blk HD.out.net 1
          have nf := frozen_of_blk HD.out.net 1
          simp only [List.getElem?_toArray, List.getElem?_cons_succ, List.getElem?_cons_zero] at n1
          rw [hLL] at n1
          have HOW := Lib.hid HD.out.own
          rw [hLL] at HOW
          clear hal hLL
          go_wp2_with (at_builtin; refine wp_append_one _ rfl _ _ 22 rfl w1.heap.size 58 _ 3 24 Try.underlying22 info58 rfl (by decide) _ LL _ rfl HOW.out T3.enc ⟨0, (k : Int), 0⟩ _ rfl rfl t3_len t3_one ?q2 (by decide) ?q4 ?_)
          case q2 => omega
          case q4 => exact HD.out.bs.2
          intro g2 c2 w2 hown2 hgrow hb2 hl2 _
          have hn3 := blk_grown HD.out.net hgrow (by have h := owns_ne_blk HD.out.own HD.out.net (by decide); rw [HLL.out] at h; exact h)
          have q1 := cell_of_blk hn3 1
          have qf := frozen_of_blk hn3 1
          simp only [List.getElem?_toArray, List.getElem?_cons_succ, List.getElem?_cons_zero] at q1
          have HOWN := Lib.hid hown2
          have HGROW := Lib.hid hgrow
          clear hown2 hgrow hn3 n1 nf
          go_wp2_with fail
          go_roundg (p.roads.length + 2 - (k + 1))
          case measure => omega
          case rel =>
            refine ⟨k + 1, some ⟨g2, 0, none⟩, c2, by omega, by omega, by go_num, ?_⟩
            have h1 := HOWN.out
            have h2 := HGROW.out
            rw [← HLL.out] at h1 h2 ⊢
            have := HD.out.push (xs := [⟨0, (k : Int), 0⟩]) (by simpa using h1) h2
            rw [adds_succ, ← List.append_assoc]
            exact Lib.hid this
        · obtain rfl : k = p.roads.length + 2 := by omega
          have n0 := cell_of_blk HD.out.net 0
          simp only [List.getElem?_toArray, List.getElem?_cons_succ, List.getElem?_cons_zero] at n0
          clear hal hLL
          have hnet : NetAt wr (w.heap.size + 3) ((p.roads.length + 2 : Nat) : Int) (netK p ch) (fun q => q < wr.heap.size) := by
            refine ⟨_, HD.out.net.trans (by simp), ?_, fun e => owns_ne_blk HD.out.own HD.out.net (by decide) e.symm, fun q hq => ?_⟩
            · exact rd_of_owns t3_len HD.out.own
            · exact ⟨(World.ownsRow.lt HD.out.own q hq).2, (World.ownsRow.lt HD.out.own q hq).2⟩
          have HNET := Lib.hid hnet
          have hnl : (netK p ch).length ≤ 100 := by unfold netK; rw [HLL.out]; exact hLL100
          have HNL := Lib.hid hnl
          clear hnet hnl
          go_wp2_with (first
            | (at_make; refine wp_make_ints _ rfl _ _ 25 rfl wr.heap.size Try.underlying25 info3 (p.roads.length + 2) rfl rfl ?q1 ?q2 ?_)
            | (at_builtin; refine wp_copy_nil _ rfl _ _ 25 rfl 3 Try.underlying25 (by kernel_rfl) _ _ _ rfl rfl ?_))
          · omega
          · exact Nat.le_refl _
          intro w5 hO5 hg5
          have hnet5 : NetAt w5 (w.heap.size + 3) ((p.roads.length + 2 : Nat) : Int) (netK p ch) (fun q => q < wr.heap.size) := HNET.out.grown hg5 (by simp) (fun _ _ => by simp)
          have hO5' := hO5
          have hpush := push77 (p.roads.length + 2) (netK p ch) (w.heap.size + 3) w5 (fun q => q < wr.heap.size) hnet5 wr.heap.size wr.heap.size (p.roads.length + 2) (fun q hq => by omega) (List.replicate (p.roads.length + 2) 0) hO5 (by omega) (by omega) HNL.out HNV.out (by simp) (fun x hx => by have := List.eq_of_mem_replicate hx; omega)
          have hpl : (dueSt p ch).ts.length = p.roads.length + 2 := rounds_len _ (by simp)
          rw [show pushF (p.roads.length + 2) (netK p ch) (List.replicate (p.roads.length + 2) 0) = dueSt p ch from rfl] at hpush
          have HPU := Lib.hid hpush
          have HPL := Lib.hid hpl
          have HG5 := Lib.hid hg5
          clear hnet5 hO5 hO5' hpush hpl hg5 n0 hLL100 hkl
          generalize hst : dueSt p ch = st at *
          have HST := Lib.hid hst
          clear hst
          go_wp2_with (guard_target =~ wpList _ _ _ (Oper.mk (some 69) _ _ _ _ _ :: _) _ _; refine wp_copy_nil _ rfl _ _ 25 rfl 3 Try.underlying25 (by kernel_rfl) _ _ _ rfl rfl ?_)
          refine HPU.out.mono ?_
          rintro e w6 ⟨gb, cb, rfl, hO6, _, hg6⟩
          have hbs := HD.out.bs
          have k6 := blk_grown (blk_grown HD.out.r6 HG5.out (by simp)) hg6 (by simp; omega)
          have k7 := blk_grown (blk_grown HD.out.r7 HG5.out (by simp)) hg6 (by simp; omega)
          have hbel : Below w.heap.size w w6 := (HD.out.bel.grown HG5.out HD.out.bel.size (fun k e => by cases e)).grown hg6 (Nat.le_trans HD.out.bel.size HG5.out.size) (fun k e => by injection e with e; have := HD.out.bel.size; omega)
          have hts0 := getD_i (xs := st.ts) (j := 0) (by rw [HPL.out]; omega)
          have z0 := (hO6.at hts0).1
          have HB6 := Lib.hid hbel
          have HO6 := Lib.hid hO6
          have K6 := Lib.hid k6
          have K7 := Lib.hid k7
          have s6 := cell_of_blk k6 0
          have s7 := cell_of_blk k7 0
          have f6 := frozen_of_blk k6 0
          have f7 := frozen_of_blk k7 0
          simp only [List.getElem?_toArray, List.getElem?_cons_succ, List.getElem?_cons_zero] at s6 s7
          rw [HZZ.out] at z0
          clear hO6 hg6 k6 k7 hbel hbs hts0 HPU HG5
          by_cases h1 : 0 ≤ st.raised
          · have d1 : decide (0 ≤ st.raised) = true := decide_eq_true h1
            go_wp2_with fail
            refine leaves_cons (f := 97) (args := #[.pointer (some ⟨w.heap.size + 1, 0, none⟩), .pointer (some ⟨w.heap.size + 1 + 1, 0, none⟩)]) (by simp) (by simp [go_sem]) ?_
            refine (idle97 _ _ _).mono ?_
            rintro e u' w'' ⟨rfl, rfl, rfl⟩
            have e6 := cell_of_blk (blk_grown (blk_set K6.out 0 (.slice none 0 0)) (grown_set _ (w.heap.size + 1 + 1) 0 (.bool false)) (by simp)) 0
            have e7 := cell_of_blk (blk_set (blk_grown K7.out (grown_set w6 (w.heap.size + 1) 0 (.slice none 0 0)) (by simp)) 0 (.bool false)) 0
            have hbf : Below w.heap.size w ((w6.setCell ⟨w.heap.size + 1, 0, none⟩ (.slice none 0 0)).setCell ⟨w.heap.size + 1 + 1, 0, none⟩ (.bool false)) := (HB6.out.setCell (p := ⟨w.heap.size + 1, 0, none⟩) (by show w.heap.size ≤ w.heap.size + 1; omega) _).setCell (p := ⟨w.heap.size + 1 + 1, 0, none⟩) (by show w.heap.size ≤ w.heap.size + 1 + 1; omega) _
            have HBF := Lib.hid hbf
            simp only [Array.setIfInBounds, List.size_toArray, List.length_cons, List.length_nil, Nat.zero_lt_one, Nat.zero_add, dite_true, List.set_toArray, List.set_cons_zero, List.getElem?_toArray, List.getElem?_cons_zero] at e6 e7
            clear hbf
            generalize (w6.setCell ⟨w.heap.size + 1, 0, none⟩ (.slice none 0 0)).setCell ⟨w.heap.size + 1 + 1, 0, none⟩ (.bool false) = wf at *
            rw [HST.out]
            simp [Leaves, settle, results, Try.results66, go_sem, e6, e7]
            exact ⟨fun h => absurd h (by omega), HBF.out⟩
          · have d1 : decide (0 ≤ st.raised) = false := decide_eq_false h1
            cases d2 : (z != 0)
            · go_wp2_with fail
              refine leaves_cons (f := 97) (args := #[.pointer (some ⟨w.heap.size + 1, 0, none⟩), .pointer (some ⟨w.heap.size + 1 + 1, 0, none⟩)]) (by simp) (by simp [go_sem]) ?_
              refine (idle97 _ _ _).mono ?_
              rintro e u' w'' ⟨rfl, rfl, rfl⟩
              have e6 := cell_of_blk (blk_grown (blk_set K6.out 0 (.slice (some ⟨wr.heap.size, 1, none⟩) (p.roads.length + 1) (p.roads.length + 1))) (grown_set _ (w.heap.size + 1 + 1) 0 (.bool true)) (by simp)) 0
              have e7 := cell_of_blk (blk_set (blk_grown K7.out (grown_set w6 (w.heap.size + 1) 0 (.slice (some ⟨wr.heap.size, 1, none⟩) (p.roads.length + 1) (p.roads.length + 1))) (by simp)) 0 (.bool true)) 0
              have hbf : Below w.heap.size w ((w6.setCell ⟨w.heap.size + 1, 0, none⟩ (.slice (some ⟨wr.heap.size, 1, none⟩) (p.roads.length + 1) (p.roads.length + 1))).setCell ⟨w.heap.size + 1 + 1, 0, none⟩ (.bool true)) := (HB6.out.setCell (p := ⟨w.heap.size + 1, 0, none⟩) (by show w.heap.size ≤ w.heap.size + 1; omega) _).setCell (p := ⟨w.heap.size + 1 + 1, 0, none⟩) (by show w.heap.size ≤ w.heap.size + 1 + 1; omega) _
              have HBF := Lib.hid hbf
              simp only [Array.setIfInBounds, List.size_toArray, List.length_cons, List.length_nil, Nat.zero_lt_one, Nat.zero_add, dite_true, List.set_toArray, List.set_cons_zero, List.getElem?_toArray, List.getElem?_cons_zero] at e6 e7
              have HOF := Lib.hid ((HO6.out.other (p := w.heap.size + 1) (j := 0) (by have := HD.out.bs; omega) (.slice (some ⟨wr.heap.size, 1, none⟩) (p.roads.length + 1) (p.roads.length + 1))).other (p := w.heap.size + 1 + 1) (j := 0) (by have := HD.out.bs; omega) (.bool true))
              clear hbf
              generalize (w6.setCell ⟨w.heap.size + 1, 0, none⟩ (.slice (some ⟨wr.heap.size, 1, none⟩) (p.roads.length + 1) (p.roads.length + 1))).setCell ⟨w.heap.size + 1 + 1, 0, none⟩ (.bool true) = wf at *
              rw [HST.out]
              simp [Leaves, settle, results, Try.results66, go_sem, e6, e7]
              refine ⟨⟨⟨by omega, by simpa using d2⟩, fun _ _ => ⟨_, _, ⟨rfl, rfl⟩, own_tail HOF.out HPL.out rfl⟩⟩, HBF.out⟩
            · go_wp2_with fail
              refine leaves_cons (f := 97) (args := #[.pointer (some ⟨w.heap.size + 1, 0, none⟩), .pointer (some ⟨w.heap.size + 1 + 1, 0, none⟩)]) (by simp) (by simp [go_sem]) ?_
              refine (idle97 _ _ _).mono ?_
              rintro e u' w'' ⟨rfl, rfl, rfl⟩
              have e6 := cell_of_blk (blk_grown (blk_set K6.out 0 (.slice none 0 0)) (grown_set _ (w.heap.size + 1 + 1) 0 (.bool false)) (by simp)) 0
              have e7 := cell_of_blk (blk_set (blk_grown K7.out (grown_set w6 (w.heap.size + 1) 0 (.slice none 0 0)) (by simp)) 0 (.bool false)) 0
              have hbf : Below w.heap.size w ((w6.setCell ⟨w.heap.size + 1, 0, none⟩ (.slice none 0 0)).setCell ⟨w.heap.size + 1 + 1, 0, none⟩ (.bool false)) := (HB6.out.setCell (p := ⟨w.heap.size + 1, 0, none⟩) (by show w.heap.size ≤ w.heap.size + 1; omega) _).setCell (p := ⟨w.heap.size + 1 + 1, 0, none⟩) (by show w.heap.size ≤ w.heap.size + 1 + 1; omega) _
              have HBF := Lib.hid hbf
              simp only [Array.setIfInBounds, List.size_toArray, List.length_cons, List.length_nil, Nat.zero_lt_one, Nat.zero_add, dite_true, List.set_toArray, List.set_cons_zero, List.getElem?_toArray, List.getElem?_cons_zero] at e6 e7
              clear hbf
              generalize (w6.setCell ⟨w.heap.size + 1, 0, none⟩ (.slice none 0 0)).setCell ⟨w.heap.size + 1 + 1, 0, none⟩ (.bool false) = wf at *
              rw [HST.out]
              simp [Leaves, settle, results, Try.results66, go_sem, e6, e7]
              exact ⟨fun _ => by simpa using d2, HBF.out⟩
end Go.Proofs.Ytpknonebnipcgaa.N
