import Derived.Test.YtpknonebnipcgaaProg
import Derived.WalkKit
import Derived.KernelRfl
import Derived.Deep.LoopGhost
import Derived.Deep.QuietTactic
import Derived.BigQuiet
import Derived.Deep.DeepCutAuto
import Derived.Deep.CutBlock
import Derived.Deep.RegionHeld3
import Derived.WalkLawsBesides
import Derived.WalkSpells
import Derived.Outline
import Derived.Deep.DeepFit
import Derived.Lib.Hide
import Derived.Shelf.Abstract
import Derived.Lib.SliceRun
import Derived.Recover
import Derived.Defers
import Derived.Deep.RegionLaw
import Derived.Test.YtpknonebnipcgaaN

namespace Go.Proofs.Ytpknonebnipcgaa.Nd
open Go.RowKit Go.Shelf Go.Proofs.Ytpknonebnipcgaa.V Go.Proofs.Ytpknonebnipcgaa.A Go.Proofs.Ytpknonebnipcgaa.B Go.Proofs.Ytpknonebnipcgaa.C Go.Proofs.Ytpknonebnipcgaa.P Go.Proofs.Ytpknonebnipcgaa.D Go.Proofs.Ytpknonebnipcgaa.E Go.Proofs.Ytpknonebnipcgaa.G Go.Proofs.Ytpknonebnipcgaa.H Go.Proofs.Ytpknonebnipcgaa.I Go.Proofs.Ytpknonebnipcgaa.J Go.Proofs.Ytpknonebnipcgaa.K Go.Proofs.Ytpknonebnipcgaa.L Go.Proofs.Ytpknonebnipcgaa.M Go.Proofs.Ytpknonebnipcgaa.N
set_option linter.unusedVariables false
set_option linter.unusedSimpArgs false

theorem neq20 : ∀ (w : World), (binOp .neq 20 (.iface 128 (.agg #[])) .nilIface).run Try.prog w = .ok (.bool true) w := fun w => by as_aux_lemma => kernel_rfl
theorem assert20 : ∀ (w : World), (Instr.typeAssert (.iface 128 (.agg #[])) 20 128 true).run Try.prog w = .ok (.tuple #[.agg #[], .bool true]) w := fun w => by as_aux_lemma => kernel_rfl

theorem woke97 (p q : Nat) (w : World) (hp : w.heap[p]? = some (.cells #[.slice none 0 0] 25 (0, 0))) (hq : w.heap[q]? = some (.cells #[.bool false] 4 (0, 0))) :
    CallsD Try.prog 97 #[.pointer (some ⟨p, 0, none⟩), .pointer (some ⟨q, 0, none⟩)] (.panicking [{ v := .iface 128 (.agg #[]), recovered := false }]) w fun e u' w' =>
      e = .returned (.tuple #[]) ∧ u' = .panicking [{ v := .iface 128 (.agg #[]), recovered := true }] ∧ w'.heap[p]? = some (.cells #[.slice none 0 0] 25 (0, 0)) ∧ w'.heap[q]? = some (.cells #[.bool false] 4 (0, 0)) ∧ ∀ W B, Below B W w → B ≤ p → B ≤ q → B ≤ w.heap.size → Below B W w' := by
  have hne := blk_ne hp hq (by decide)
  have c1 := cell_of_blk hp 0
  have c2 := cell_of_blk hq 0
  have f1 := frozen_of_blk hp 0
  have f2 := frozen_of_blk hq 0
  have l1 := blk_lt hp
  have l2 := blk_lt hq
  simp only [List.getElem?_toArray, List.getElem?_cons_zero] at c1 c2
  have HP := Lib.hid hp
  have HQ := Lib.hid hq
  have HN := Lib.hid hne
  clear hp hq
  refine callsD_of_wpS Try.func97 rfl fun c₀ cs hu => ?_
  apply wpS_seq
  apply wpS_region
  simp [wpOpsS, go_sem, recoverD, hu, Try.ntmps97, Exit.thenS]
  apply wpS_seq
  apply wpS_region
  simp [wpOpsS, go_sem, recoverD, hu, Try.ntmps97, Exit.thenS, neq20]
  refine wpS_cond (t := true) (by simp [Act.eval, Array.replicate]) ?_
  simp only [if_true]
  have hn := neq20
  have ha := assert20
  refine wpS_of_wp ?_
  simp only [Array.replicate_succ, Array.replicate_zero, List.push_toArray, List.append_toArray, List.nil_append, List.cons_append, List.size_toArray, List.length_cons, List.length_nil, Nat.reduceAdd, Nat.reduceSub]
  go_wp2_with fail
  refine ⟨rfl, _, rfl, .tuple #[], by simp [results, Try.results97, go_sem], rfl, rfl, ?_, ?_, fun W B hb b1 b2 b3 => ((hb.setCell (p := ⟨p, 0, none⟩) b1 _).setCell (p := ⟨q, 0, none⟩) b2 _).alloc (by simpa [World.setCell] using b3) _⟩
  · exact blk_alloc (blk_grown ((blk_set HP.out 0 (.slice none 0 0)).trans rfl) (grown_set _ q 0 (.bool false)) (fun e => HN.out (by injection e))) _
  · exact blk_alloc ((blk_set (blk_grown HQ.out (grown_set _ p 0 (.slice none 0 0)) (fun e => HN.out (by injection e with e; exact e.symm))) 0 (.bool false)).trans rfl) _

theorem rules_clo (f : Int) (qs : Nat → Option (Nat × Nat)) : ∀ n k, k < n → .clo (k : Int) (qs k) ∈ rulesK f qs n
  | 0, k, h => by omega
  | n + 1, k, h => by
    simp only [rulesK, List.mem_append, List.mem_cons, List.not_mem_nil, or_false]
    by_cases e : k = n
    · subst e
      exact .inr (.inr rfl)
    · exact .inl (rules_clo f qs n k (by omega))

/-- a choice serves -/
def goodC (p : PlanT) (ch : List Int) : Bool := (List.range p.roads.length).all (fun k => !badW p ch k) && (decide ((dueSt p ch).raised < 0) && ((dueSt p ch).ts.getD 0 0 == 0))

def DuesPost (p : PlanT) (ch : List Int) (w : World) (e : Ending) (w' : World) : Prop :=
  ((goodC p ch = false ∧ e = .returned (.tuple #[.slice none 0 0, .bool false])) ∨
   (goodC p ch = true ∧ ∃ g c, e = .returned (.tuple #[.slice (some ⟨g, 1, none⟩) (p.roads.length + 1) c, .bool true]) ∧ RdI w' (.slice (some ⟨g, 1, none⟩) (p.roads.length + 1) c) ((dueSt p ch).ts.drop 1))) ∧ Below w.heap.size w w'

theorem post_no {p : PlanT} {ch : List Int} {w w' : World} (h : 0 ≤ (dueSt p ch).raised ∨ (dueSt p ch).ts.getD 0 0 ≠ 0 ∨ ∃ k, k < p.roads.length ∧ badW p ch k = true) (hb : Below w.heap.size w w') : DuesPost p ch w (.returned (.tuple #[.slice none 0 0, .bool false])) w' := by
  refine ⟨.inl ⟨?_, rfl⟩, hb⟩
  unfold goodC
  rcases h with h | h | ⟨k, hk, h⟩
  · rw [decide_eq_false (by omega)]
    simp
  · rw [beq_eq_false_iff_ne.2 h]
    simp
  · have : (List.range p.roads.length).all (fun k => !badW p ch k) = false := by
      rw [List.all_eq_false]
      exact ⟨k, List.mem_range.2 hk, by rw [h]; simp⟩
    rw [this]
    simp
theorem post_yes {p : PlanT} {ch : List Int} {w w' : World} {g c : Nat} (h0 : ∀ k, k < p.roads.length → badW p ch k = false) (h1 : (dueSt p ch).raised < 0) (h2 : (dueSt p ch).ts.getD 0 0 = 0) (hr : RdI w' (.slice (some ⟨g, 1, none⟩) (p.roads.length + 1) c) ((dueSt p ch).ts.drop 1)) (hb : Below w.heap.size w w') :
    DuesPost p ch w (.returned (.tuple #[.slice (some ⟨g, 1, none⟩) (p.roads.length + 1) c, .bool true])) w' := by
  refine ⟨.inr ⟨?_, g, c, rfl, hr⟩, hb⟩
  unfold goodC
  rw [decide_eq_true h1, h2]
  have : (List.range p.roads.length).all (fun k => !badW p ch k) = true := by
    rw [List.all_eq_true]
    intro k hk
    rw [h0 k (List.mem_range.1 hk)]
    rfl
  rw [this]
  rfl

/-! ### a region that draws, may panic, and lies in a function that defers -/
def P67 (x y : Value) (a : Act) : Prop := a.tmps[6]? = some x ∧ a.tmps[7]? = some y
theorem put67 {x y : Value} {a : Act} {d : Tmp} {v : Value} (h6 : d ≠ 6) (h7 : d ≠ 7) (h : P67 x y (a.put (some d) v)) : P67 x y a := by
  unfold P67 Act.put at h
  simp only [Array.getElem?_setIfInBounds] at h
  rw [if_neg h6, if_neg h7] at h
  exact h
def Rp (x y : Value) (D : List Deferred) (chn : List PanicEntry) (pi : World → Prop) (ch : List PanicEntry) (a : Act) (w : World) : Prop := ch = chn ∧ a.defers = D ∧ P67 x y a ∧ pi w
def PanQ (R : List PanicEntry → Act → World → Prop) (Q : Exit → Act → World → Prop) : Exit → Act → World → Prop
  | .panic ch, a, w => R ch a w
  | e, a, w => Q e a w
theorem PanQ.normal {R : List PanicEntry → Act → World → Prop} {Q : Exit → Act → World → Prop} {a : Act} {w : World} (h : Q .normal a w) : PanQ R Q .normal a w := h

section
variable {P : Program} {ops : Array Oper} {o : Oper} {a : Act} {w : World} {K : Act → World → Prop} {Q : Exit → Act → World → Prop} {E : Prop}
theorem wp_region_pan {id : Nat} (x y : Value) (chn : List PanicEntry) (pi : World → Prop) (hp : ∀ ch a' w', Rp x y a.defers chn pi ch a' w' → Q (.panic ch) a' w')
    (h : wpAny P .any ops (PanQ (Rp x y a.defers chn pi) Q) ops.size (Array.replicate ops.size false) a w.drew) (hm : P.follows .mixedOrders = true) : (Code.region id ops true).wp P Q a w :=
  Code.wp_mono (fun e a' w' q => by
    cases e
    case panic c => exact hp c a' w' q
    all_goals exact q) (wp_region_any (Q := PanQ (Rp x y a.defers chn pi) Q) hm h)

theorem takeP {md : Region.Mode} {x y : Value} {D : List Deferred} {chn : List PanicEntry} {pi : World → Prop} {i : Nat} {oi : Oper} {v : Value} {fuel : Nat} {listed : Array Bool} (hi : ops[i]? = some oi)
    (hs : Region.noSelect ops = true) (hf : Region.free md ops listed i = true) (hr : (Region.ready md ops listed).contains i = true)
    (hd : ∃ d, oi.dst = some d ∧ d ≠ 6 ∧ d ≠ 7) (hy : Yields P ops oi v a)
    (h : wpAny P md ops (PanQ (Rp x y D chn pi) Q) fuel (listed.setIfInBounds i true) (a.put oi.dst v) w) : wpAny P md ops (PanQ (Rp x y D chn pi) Q) (fuel + 1) listed a w := by
  refine wpAny_take hi hs hf hr (fun c a w hq => ?_) hy h
  obtain ⟨d, hd, h6, h7⟩ := hd
  rw [hd] at hq
  obtain ⟨q1, q2, q3, q4⟩ := hq
  exact ⟨q1, q2, put67 h6 h7 q3, q4⟩

theorem step_calls_pan (hg : o.guard = none) (f : FuncId) (args : Array Value) (hrun : (execOp a.eval o).run P w = .ok (.enter f args) w) {R : Ending → World → Prop} (hC : Calls P f args w R)
    (hret : ∀ e w', R e w' → (∃ v, e = .returned v ∧ K (a.put o.dst v) w') ∨ (∃ ch, e = .panicked ch ∧ Q (.panic ch) a w')) : if Region.wanted o (yielded ops a.tmps) = true then Oper.wp P o a w K Q else E := by
  have hw : Region.wanted o (yielded ops a.tmps) = true := by simp [Region.wanted, hg]
  rw [if_pos hw]
  unfold Oper.wp
  rw [hrun]
  simp only [Oper.upon]
  refine hC.mono ?_
  intro e w' h
  rcases hret e w' h with ⟨v, rfl, hK⟩ | ⟨ch, rfl, hQ⟩
  · exact hK
  · exact hQ
end

def PI (p : PlanT) (ch : List Int) (w w' : World) : Prop := w'.heap[w.heap.size + 1]? = some (.cells #[.slice none 0 0] 25 (0, 0)) ∧ w'.heap[w.heap.size + 2]? = some (.cells #[.bool false] 4 (0, 0)) ∧ Below w.heap.size w w' ∧ ∃ k, k < p.roads.length ∧ badW p ch k = true

set_option maxRecDepth 100000 in
set_option maxHeartbeats 8000000 in
/-- dues, whatever the windows are -/
theorem dues66_any (p : PlanT) (hP : PBd p) (h8 : p.roads.length ≤ 8) (ch : List Int) (hch : chOk p ch) (Ar : Option Addr) (cr : Nat) (Ac : Option Addr) (cc : Nat) (w : World) (hR : RdW w (.slice Ar p.roads.length cr) p.roads) (hC : RdI w (.slice Ac p.roads.length cc) ch) :
    Calls Try.prog 66 #[.agg #[.int .i64 p.cars, .int .i64 p.first, .slice Ar p.roads.length cr], .slice Ac p.roads.length cc, .slice none 0 0] w (DuesPost p ch w) := by
  have hll := (RdR.len hR).2
  have hlen := hP.len
  have HNV := Lib.hid (netK_valid p hP h8 ch)
  have HRC := Lib.hid (fun W hb => rules98 p hP Ar cr ch Ac cc w W hb hR (Rd.below hC hb) hch)
  have HRL := Lib.hid (fun W (hb : Below w.heap.size w W) (r : RuleT) (hr : ruleOk p ch W r) => rule_links p hP ch Ar cr W (RdW.below hR hb) r hr)
  have hmf : ∀ (fn : Fn) (first cap : Array Value) (w : World), (Instr.makeFunc fn first cap).run Try.prog w = .ok (.func fn first cap) w := fun _ _ _ _ => rfl
  clear hR hC hch hP
  obtain ⟨z, hz⟩ : ∃ z, (dueSt p ch).ts.getD 0 0 = z := ⟨_, rfl⟩
  have HZZ := Lib.hid hz
  clear hz
  go_enter_defers Try.func66, Try.ntmps66
  go_wp2_with fail
  have hb4 : Below w.heap.size w ((((w.alloc (.cells #[.int .i64 p.cars, .int .i64 p.first, .slice Ar p.roads.length cr] 38)).alloc (.cells #[.slice none 0 0] 25)).alloc (.cells #[.bool false] 4)).alloc (.cells #[.int .i64 ((p.roads.length : Int) + 2), .slice none 0 0] 89)) := below_al (below_al (below_al (below_al (below_rf w) _) _) _) _
  have a0 : ((((w.alloc (.cells #[.int .i64 p.cars, .int .i64 p.first, .slice Ar p.roads.length cr] 38)).alloc (.cells #[.slice none 0 0] 25)).alloc (.cells #[.bool false] 4)).alloc (.cells #[.int .i64 ((p.roads.length : Int) + 2), .slice none 0 0] 89)).heap[w.heap.size]? = some (.cells #[.int .i64 p.cars, .int .i64 p.first, .slice Ar p.roads.length cr] 38 (0, 0)) := blk_alloc (blk_alloc (blk_alloc (blk_new w _) _) _) _
  have a1 : ((((w.alloc (.cells #[.int .i64 p.cars, .int .i64 p.first, .slice Ar p.roads.length cr] 38)).alloc (.cells #[.slice none 0 0] 25)).alloc (.cells #[.bool false] 4)).alloc (.cells #[.int .i64 ((p.roads.length : Int) + 2), .slice none 0 0] 89)).heap[w.heap.size + 1]? = some (.cells #[.slice none 0 0] 25 (0, 0)) := by
    have := blk_alloc (blk_alloc (blk_new (w.alloc (.cells #[.int .i64 p.cars, .int .i64 p.first, .slice Ar p.roads.length cr] 38)) (.cells #[.slice none 0 0] 25)) (.cells #[.bool false] 4)) (.cells #[.int .i64 ((p.roads.length : Int) + 2), .slice none 0 0] 89)
    rwa [World.size_alloc] at this
  have a2 : ((((w.alloc (.cells #[.int .i64 p.cars, .int .i64 p.first, .slice Ar p.roads.length cr] 38)).alloc (.cells #[.slice none 0 0] 25)).alloc (.cells #[.bool false] 4)).alloc (.cells #[.int .i64 ((p.roads.length : Int) + 2), .slice none 0 0] 89)).heap[w.heap.size + 2]? = some (.cells #[.bool false] 4 (0, 0)) := by
    have := blk_alloc (blk_new ((w.alloc (.cells #[.int .i64 p.cars, .int .i64 p.first, .slice Ar p.roads.length cr] 38)).alloc (.cells #[.slice none 0 0] 25)) (.cells #[.bool false] 4)) (.cells #[.int .i64 ((p.roads.length : Int) + 2), .slice none 0 0] 89)
    rwa [World.size_alloc, World.size_alloc] at this
  have a3 : ((((w.alloc (.cells #[.int .i64 p.cars, .int .i64 p.first, .slice Ar p.roads.length cr] 38)).alloc (.cells #[.slice none 0 0] 25)).alloc (.cells #[.bool false] 4)).alloc (.cells #[.int .i64 ((p.roads.length : Int) + 2), .slice none 0 0] 89)).heap[w.heap.size + 3]? = some (.cells #[.int .i64 ((p.roads.length : Int) + 2), .slice none 0 0] 89 (0, 0)) := by
    have := blk_new (((w.alloc (.cells #[.int .i64 p.cars, .int .i64 p.first, .slice Ar p.roads.length cr] 38)).alloc (.cells #[.slice none 0 0] 25)).alloc (.cells #[.bool false] 4)) (.cells #[.int .i64 ((p.roads.length : Int) + 2), .slice none 0 0] 89)
    rwa [World.size_alloc, World.size_alloc, World.size_alloc] at this
  have a4 : ((((w.alloc (.cells #[.int .i64 p.cars, .int .i64 p.first, .slice Ar p.roads.length cr] 38)).alloc (.cells #[.slice none 0 0] 25)).alloc (.cells #[.bool false] 4)).alloc (.cells #[.int .i64 ((p.roads.length : Int) + 2), .slice none 0 0] 89)).heap.size = w.heap.size + 4 := by simp
  generalize ((((w.alloc (.cells #[.int .i64 p.cars, .int .i64 p.first, .slice Ar p.roads.length cr] 38)).alloc (.cells #[.slice none 0 0] 25)).alloc (.cells #[.bool false] 4)).alloc (.cells #[.int .i64 ((p.roads.length : Int) + 2), .slice none 0 0] 89)) = w4 at *
  refine (HRC.out w4 hb4).mono ?_
  rintro e w1 ⟨qs, gR, cR, rfl, hqs, hrd, hbl⟩
  have hrule := rules_ok (p := p) (ch := ch) (w := w) p.roads.length (Nat.le_refl _) hqs
  have hflat := lks_flat p ch qs p.roads.length
  have hrl := rulesK_len p.first qs p.roads.length
  have hbadR : ∀ r ∈ rulesK p.first qs p.roads.length, badR p ch r = true → ∃ k, k < p.roads.length ∧ badW p ch k = true := fun r hr hb => by
    have h := hrule r hr
    cases r with
    | beg f => cases hb
    | aft j => cases hb
    | clo j q =>
      obtain ⟨k, hk, rfl, _⟩ := h
      exact ⟨k, hk, hb⟩
  have hallR : (∀ r ∈ rulesK p.first qs p.roads.length, badR p ch r = false) → ∀ k, k < p.roads.length → badW p ch k = false := fun h k hk => by
    have := h _ (rules_clo p.first qs p.roads.length k hk)
    simpa [badR] using this
  have hr0 : (rulesK p.first qs p.roads.length)[0]? = some (rulesK p.first qs p.roads.length)[0] := List.getElem?_eq_getElem (by omega)
  have hgR : gR < w1.heap.size ∧ gR ≠ w.heap.size + 3 := by
    obtain ⟨b', off', cs, e1, e2, rfl, e3⟩ := RdR.at hrd 0 _ hr0
    injection e1 with e1
    injection e1 with e1 e1'
    subst e1 e1'
    refine ⟨e2, ?_⟩
    rintro rfl
    have h1 := e3 0 _ rfl
    have h2 := cell_of_blk (blk_below a3 hbl) 0
    simp only [Nat.zero_add, Nat.zero_mul, Nat.add_zero] at h1
    rw [h1] at h2
    cases hr : (rulesK p.first qs p.roads.length)[0] <;> rw [hr] at h2 <;> simp [RuleT.v] at h2
  have hDI : DI w w1.heap.size #[.int .i64 p.cars, .int .i64 p.first, .slice Ar p.roads.length cr] ((p.roads.length : Int) + 2) [] (.slice (some ⟨gR, 0, none⟩) (1 + 2 * p.roads.length) cR) (rulesK p.first qs p.roads.length) w1 none 0 :=
    ⟨blk_below a3 hbl, World.ownsRow_nil _ _ _ _, below_then hb4 hb4.size hbl, blk_below a0 hbl, blk_below a1 hbl, blk_below a2 hbl, hrd, fun q hq => by simp [Value.ownBlock] at hq; subst hq; exact hgR, by have := hbl.size; omega, Nat.le_refl _⟩
  have HDI := Lib.hid hDI
  have HBAD := Lib.hid hbadR
  have HALL := Lib.hid hallR
  have HRU : Hid (∀ r ∈ rulesK p.first qs p.roads.length, ∀ W, Below w.heap.size w W → ruleOk p ch W r) := Lib.hid (fun r hr W hb => by
    have h := hrule r hr
    cases r with
    | beg f => exact h
    | aft j => exact h
    | clo j q =>
      obtain ⟨k, h1, h2, h3⟩ := h
      exact ⟨k, h1, h2, h3.below hb⟩)
  have HFL := Lib.hid hflat
  have HRLEN := Lib.hid hrl
  have hlR := (RdR.len hrd).2
  have HB4 := Lib.hid (⟨hb4, hbl⟩ : Below w.heap.size w w4 ∧ Below w4.heap.size w4 w1)
  have HA4 := Lib.hid a4
  clear hb4 a0 a1 a2 a3 a4 hqs hrd hbl hrule hflat hrl hbadR hallR hr0 hDI HRC
  obtain ⟨hgR1, hgR2⟩ := hgR
  generalize hrsg : rulesK p.first qs p.roads.length = rs at *
  clear hrsg
  go_wp2_with fail
  go_loopg [10, 26] (1 + 2 * p.roads.length) (fun gg s10 s26 wr => ∃ (i : Nat) (Av : Option Addr) (cv : Nat), i ≤ 1 + 2 * p.roads.length ∧ 1 + 2 * p.roads.length - i ≤ gg ∧ s26 = .int .i64 i ∧
    Hid (DI w w1.heap.size #[.int .i64 p.cars, .int .i64 p.first, .slice Ar p.roads.length cr] ((p.roads.length : Int) + 2) ((rs.take i).flatMap (linkR p ch)) (.slice (some ⟨gR, 0, none⟩) (1 + 2 * p.roads.length) cR) rs wr Av cv) ∧ Hid (∀ r ∈ rs.take i, badR p ch r = false))
  case atStart => exact ⟨0, none, 0, Nat.zero_le _, by omega, rfl, HDI, Lib.hid (fun r hr => by simp at hr)⟩
  case round =>
    clear HDI
    obtain ⟨i, Av, cv, hi, hgg, rfl, HD, HGO⟩ := hrel
    by_cases hlt : i < 1 + 2 * p.roads.length
    · obtain ⟨r, hx⟩ : ∃ r, rs[i]? = some r := ⟨rs[i]'(by rw [HRLEN.out]; exact hlt), List.getElem?_eq_getElem _⟩
      have htake : rs.take (i + 1) = rs.take i ++ [r] := by rw [List.take_add_one, hx]; rfl
      have hmem := List.mem_of_getElem? hx
      have HTK : Hid ((rs.take (i + 1)).flatMap (linkR p ch) = (rs.take i).flatMap (linkR p ch) ++ linkR p ch r) := Lib.hid (by rw [htake, List.flatMap_append]; simp)
      have hr0 := HBAD.out r hmem
      have HBR := Lib.hid hr0
      have HGN := Lib.hid (fun h : badR p ch r = false => (fun r' hr' => by
        rw [htake] at hr'
        rcases List.mem_append.1 hr' with hr' | hr'
        · exact HGO.out r' hr'
        · simp at hr'
          subst hr'
          exact h : ∀ r' ∈ rs.take (i + 1), badR p ch r' = false))
      have hll2 := linkR_len p ch r
      have hcont := HRL.out wr.drew (HD.out.below (below_dr (below_rf wr))).bel r (HRU.out r hmem _ (HD.out.below (below_dr (below_rf wr))).bel)
      obtain ⟨b', off', cs, e1, e2, rfl, e3⟩ := RdR.at HD.out.rul i _ hx
      injection e1 with e1
      injection e1 with e1 e1'
      subst e1 e1'
      have c0 := e3 0 _ rfl
      have p0 := cell_of_blk HD.out.box 0
      have p1 := cell_of_blk HD.out.box 1
      have p2 := cell_of_blk HD.out.box 2
      have n0 := cell_of_blk HD.out.net 0
      have n1 := cell_of_blk HD.out.net 1
      simp only [List.getElem?_toArray, List.getElem?_cons_succ, List.getElem?_cons_zero, Nat.zero_add, Nat.mul_one, Nat.add_zero] at c0 p0 p1 p2 n0 n1
      have HCO : Hid (Calls Try.prog (fid r) #[pl r, .agg #[.int .i64 p.cars, .int .i64 p.first, .slice Ar p.roads.length cr]] wr.drew fun e w' => (Hid (PI p ch w w') ∧ e = .panicked [{ v := .iface 128 (.agg #[]), recovered := false }]) ∨ (Hid (badR p ch r = false) ∧ ∃ g, e = .returned (.slice (some ⟨g, 0, none⟩) (linkR p ch r).length (linkR p ch r).length) ∧ Hid (RdT w' (.slice (some ⟨g, 0, none⟩) (linkR p ch r).length (linkR p ch r).length) (linkR p ch r)) ∧
          Hid (DI w w1.heap.size #[.int .i64 p.cars, .int .i64 p.first, .slice Ar p.roads.length cr] ((p.roads.length : Int) + 2) ((rs.take i).flatMap (linkR p ch)) (.slice (some ⟨gR, 0, none⟩) (1 + 2 * p.roads.length) cR) rs w' Av cv) ∧
          w'.cell? ⟨w.heap.size + 3, 1, none⟩ = some (.slice Av ((rs.take i).flatMap (linkR p ch)).length cv) ∧ w'.frozen? ⟨w.heap.size + 3, 1, none⟩ = false)) := Lib.hid (hcont.mono (by
        rintro e w' ⟨⟨h1, h2⟩ | ⟨h0, g, h1, h2⟩, h3⟩
        · have hd := (HD.out.below (below_dr (below_rf wr))).below h3
          exact .inl ⟨Lib.hid ⟨hd.r6, hd.r7, hd.bel, HBR.out h1⟩, h2⟩
        · have hd := (HD.out.below (below_dr (below_rf wr))).below h3
          exact .inr ⟨Lib.hid h0, g, h1, Lib.hid h2, Lib.hid hd, (cell_of_blk hd.net 1).trans rfl, frozen_of_blk hd.net 1⟩))
      have hlenL : ((rs.take i).flatMap (linkR p ch)).length ≤ 2 * i := flat_le p ch rs i
      clear hcont e3 hx htake hmem hr0
      go_wp2_with fail
      generalize hLL : ((rs.take i).flatMap (linkR p ch)).length = LL at *
      refine wp_region_pan (.pointer (some ⟨w.heap.size + 1, 0, none⟩)) (.pointer (some ⟨w.heap.size + 1 + 1, 0, none⟩)) [{ v := .iface 128 (.agg #[]), recovered := false }] (PI p ch w) ?hpan ?_ (by kernel_rfl)
      case hpan =>
        rintro chn ⟨tm, df⟩ w' ⟨rfl, hdf, ⟨t6, t7⟩, pi1, pi2, pi3, pi4⟩
        simp only at hdf t6 t7
        subst hdf
        show Leaves Try.prog Try.f66 tm (DuesPost p ch w) _ (.panicking _) w'
        refine leaves_cons (f := 97) (args := #[.pointer (some ⟨w.heap.size + 1, 0, none⟩), .pointer (some ⟨w.heap.size + 1 + 1, 0, none⟩)]) (by simp) (by simp [go_sem]) ?_
        refine (woke97 _ _ _ pi1 pi2).mono ?_
        rintro e u' w'' ⟨rfl, rfl, q1, q2, q3⟩
        have e6 := cell_of_blk q1 0
        have e7 := cell_of_blk q2 0
        simp only [List.getElem?_toArray, List.getElem?_cons_zero] at e6 e7
        have hsz := pi3.size
        have hlt2 := blk_lt pi2
        simp [Leaves, settle, results, Try.results66, go_sem, t6, t7, e6, e7]
        exact post_no (.inr (.inr pi4)) (q3 _ _ pi3 (by omega) (by omega) hsz)
      refine takeP (i := 0) (v := .pointer (some ⟨w.heap.size + 1 + 1 + 1, 0, none⟩)) rfl (by kernel_rfl) (by kernel_rfl) (by kernel_rfl) ⟨_, rfl, by decide, by decide⟩ (Or.inl ⟨by rfl, fun W => ?_⟩) ?_
      · go_simp
      refine takeP (i := 1) (v := .pointer (some ⟨w.heap.size + 1 + 1 + 1, 0, none⟩)) rfl (by kernel_rfl) (by kernel_rfl) (by kernel_rfl) ⟨_, rfl, by decide, by decide⟩ (Or.inl ⟨by rfl, fun W => ?_⟩) ?_
      · go_simp
      refine takeP (i := 2) (v := .pointer (some ⟨w.heap.size + 1 + 1 + 1, 0, none⟩)) rfl (by kernel_rfl) (by kernel_rfl) (by kernel_rfl) ⟨_, rfl, by decide, by decide⟩ (Or.inl ⟨by rfl, fun W => ?_⟩) ?_
      · go_simp
      refine takeP (i := 3) (v := .pointer (some ⟨w.heap.size + 1 + 1 + 1, 1, none⟩)) rfl (by kernel_rfl) (by kernel_rfl) (by kernel_rfl) ⟨_, rfl, by decide, by decide⟩ (Or.inl ⟨by rfl, fun W => ?_⟩) ?_
      · go_simp
      refine takeP (i := 5) (v := r.v) rfl (by kernel_rfl) (by kernel_rfl) (by kernel_rfl) ⟨_, rfl, by decide, by decide⟩ (Or.inl ⟨by rfl, fun W => ?_⟩) ?_
      · go_simp
      refine wpAny_ready (rs := [4, 6]) (by kernel_rfl) (by simp) (AllReady.cons rfl (fun K hK => ?_) (AllReady.cons rfl (fun K hK => ?_) AllReady.nil))
      · go_simp
        refine hK _ _ ?_
        clear hK K
        refine wpAny_ready (rs := [6]) (by kernel_rfl) (by simp) (AllReady.cons rfl (fun K hK => ?_) AllReady.nil)
        go_simp
        refine hK _ _ ?_
        clear hK K
        refine wpAny_ready (rs := [7]) (by kernel_rfl) (by simp) (AllReady.cons rfl (fun K hK => ?_) AllReady.nil)
        refine step_calls_pan rfl (fid r) #[pl r, .agg #[.int .i64 p.cars, .int .i64 p.first, .slice Ar p.roads.length cr]] (exec_links r _ _ _ _ rfl rfl rfl) HCO.out ?_
        rintro e w2 (⟨HPI, rfl⟩ | ⟨HGB, gl, rfl, HRD, HD2, m1, mf⟩)
        · exact .inr ⟨_, rfl, rfl, rfl, ⟨rfl, rfl⟩, HPI.out⟩
        refine .inl ⟨_, rfl, ?_⟩
        go_simp
        refine hK _ _ ?_
        clear hK K
        refine wpAny_ready (rs := [8]) (by kernel_rfl) (by simp) (AllReady.cons rfl (fun K hK => ?_) AllReady.nil)
        refine step_append_rd rfl (.tmp 34) (.tmp 37) 22 rfl w1.heap.size 58 _ 3 24 Try.underlying22 info58 rfl (by decide) _ LL _ rfl (hLL ▸ HD2.out.own) T3.enc (linkR p ch r) gl 0 _ rfl HRD.out t3_len t3_one (by unfold maxLen; omega) (by omega) HD2.out.bs.2 ?_
        intro v' w3 hown hgrow
        obtain ⟨A3, c3, rfl⟩ := owns_slice hown
        have hn3 := blk_grown HD2.out.net hgrow (by have h := owns_ne_blk HD2.out.own HD2.out.net (by decide); rw [hLL] at h; exact h)
        have q1 := cell_of_blk hn3 1
        have qf := frozen_of_blk hn3 1
        simp only [List.getElem?_toArray, List.getElem?_cons_succ, List.getElem?_cons_zero] at q1
        have HOWN := Lib.hid hown
        have HGROW := Lib.hid hgrow
        clear hown hgrow hn3
        go_simp
        refine hK _ _ ?_
        clear hK K
        refine takeP (i := 9) (v := .pointer (some ⟨w.heap.size + 1 + 1 + 1, 0, none⟩)) rfl (by kernel_rfl) (by kernel_rfl) (by kernel_rfl) ⟨_, rfl, by decide, by decide⟩ (Or.inl ⟨by rfl, fun W => ?_⟩) ?_
        · go_simp
        refine takeP (i := 10) (v := .pointer (some ⟨w.heap.size + 1 + 1 + 1, 1, none⟩)) rfl (by kernel_rfl) (by kernel_rfl) (by kernel_rfl) ⟨_, rfl, by decide, by decide⟩ (Or.inl ⟨by rfl, fun W => ?_⟩) ?_
        · go_simp
        refine wpAny_ready (rs := [11]) (by kernel_rfl) (by simp) (AllReady.cons rfl (fun K hK => ?_) AllReady.nil)
        go_simp
        refine hK _ _ ?_
        clear hK K
        refine wpAny_done (by kernel_rfl) ?_ _
        refine PanQ.normal ?_
        go_wp2_with fail
        go_roundg (1 + 2 * p.roads.length - (i + 1))
        case measure => omega
        case rel =>
          refine ⟨i + 1, A3, c3, by omega, by omega, by go_num, ?_, Lib.hid (HGN.out HGB.out)⟩
          rw [HTK.out]
          have h1 := HOWN.out
          have h2 := HGROW.out
          rw [← hLL] at h1 h2 ⊢
          exact Lib.hid (HD2.out.push h1 h2)
      · go_simp
        refine hK _ _ ?_
        clear hK K
        refine wpAny_ready (rs := [4, 7]) (by kernel_rfl) (by simp) (AllReady.cons rfl (fun K hK => ?_) (AllReady.cons rfl (fun K hK => ?_) AllReady.nil))
        · go_simp
          refine hK _ _ ?_
          clear hK K
          refine wpAny_ready (rs := [7]) (by kernel_rfl) (by simp) (AllReady.cons rfl (fun K hK => ?_) AllReady.nil)
          refine step_calls_pan rfl (fid r) #[pl r, .agg #[.int .i64 p.cars, .int .i64 p.first, .slice Ar p.roads.length cr]] (exec_links r _ _ _ _ rfl rfl rfl) HCO.out ?_
          rintro e w2 (⟨HPI, rfl⟩ | ⟨HGB, gl, rfl, HRD, HD2, m1, mf⟩)
          · exact .inr ⟨_, rfl, rfl, rfl, ⟨rfl, rfl⟩, HPI.out⟩
          refine .inl ⟨_, rfl, ?_⟩
          go_simp
          refine hK _ _ ?_
          clear hK K
          refine wpAny_ready (rs := [8]) (by kernel_rfl) (by simp) (AllReady.cons rfl (fun K hK => ?_) AllReady.nil)
          refine step_append_rd rfl (.tmp 34) (.tmp 37) 22 rfl w1.heap.size 58 _ 3 24 Try.underlying22 info58 rfl (by decide) _ LL _ rfl (hLL ▸ HD2.out.own) T3.enc (linkR p ch r) gl 0 _ rfl HRD.out t3_len t3_one (by unfold maxLen; omega) (by omega) HD2.out.bs.2 ?_
          intro v' w3 hown hgrow
          obtain ⟨A3, c3, rfl⟩ := owns_slice hown
          have hn3 := blk_grown HD2.out.net hgrow (by have h := owns_ne_blk HD2.out.own HD2.out.net (by decide); rw [hLL] at h; exact h)
          have q1 := cell_of_blk hn3 1
          have qf := frozen_of_blk hn3 1
          simp only [List.getElem?_toArray, List.getElem?_cons_succ, List.getElem?_cons_zero] at q1
          have HOWN := Lib.hid hown
          have HGROW := Lib.hid hgrow
          clear hown hgrow hn3
          go_simp
          refine hK _ _ ?_
          clear hK K
          refine takeP (i := 9) (v := .pointer (some ⟨w.heap.size + 1 + 1 + 1, 0, none⟩)) rfl (by kernel_rfl) (by kernel_rfl) (by kernel_rfl) ⟨_, rfl, by decide, by decide⟩ (Or.inl ⟨by rfl, fun W => ?_⟩) ?_
          · go_simp
          refine takeP (i := 10) (v := .pointer (some ⟨w.heap.size + 1 + 1 + 1, 1, none⟩)) rfl (by kernel_rfl) (by kernel_rfl) (by kernel_rfl) ⟨_, rfl, by decide, by decide⟩ (Or.inl ⟨by rfl, fun W => ?_⟩) ?_
          · go_simp
          refine wpAny_ready (rs := [11]) (by kernel_rfl) (by simp) (AllReady.cons rfl (fun K hK => ?_) AllReady.nil)
          go_simp
          refine hK _ _ ?_
          clear hK K
          refine wpAny_done (by kernel_rfl) ?_ _
          refine PanQ.normal ?_
          go_wp2_with fail
          go_roundg (1 + 2 * p.roads.length - (i + 1))
          case measure => omega
          case rel =>
            refine ⟨i + 1, A3, c3, by omega, by omega, by go_num, ?_, Lib.hid (HGN.out HGB.out)⟩
            rw [HTK.out]
            have h1 := HOWN.out
            have h2 := HGROW.out
            rw [← hLL] at h1 h2 ⊢
            exact Lib.hid (HD2.out.push h1 h2)
        · refine step_calls_pan rfl (fid r) #[pl r, .agg #[.int .i64 p.cars, .int .i64 p.first, .slice Ar p.roads.length cr]] (exec_links r _ _ _ _ rfl rfl rfl) HCO.out ?_
          rintro e w2 (⟨HPI, rfl⟩ | ⟨HGB, gl, rfl, HRD, HD2, m1, mf⟩)
          · exact .inr ⟨_, rfl, rfl, rfl, ⟨rfl, rfl⟩, HPI.out⟩
          refine .inl ⟨_, rfl, ?_⟩
          go_simp
          refine hK _ _ ?_
          clear hK K
          refine wpAny_ready (rs := [4]) (by kernel_rfl) (by simp) (AllReady.cons rfl (fun K hK => ?_) AllReady.nil)
          go_simp
          refine hK _ _ ?_
          clear hK K
          refine wpAny_ready (rs := [8]) (by kernel_rfl) (by simp) (AllReady.cons rfl (fun K hK => ?_) AllReady.nil)
          refine step_append_rd rfl (.tmp 34) (.tmp 37) 22 rfl w1.heap.size 58 _ 3 24 Try.underlying22 info58 rfl (by decide) _ LL _ rfl (hLL ▸ HD2.out.own) T3.enc (linkR p ch r) gl 0 _ rfl HRD.out t3_len t3_one (by unfold maxLen; omega) (by omega) HD2.out.bs.2 ?_
          intro v' w3 hown hgrow
          obtain ⟨A3, c3, rfl⟩ := owns_slice hown
          have hn3 := blk_grown HD2.out.net hgrow (by have h := owns_ne_blk HD2.out.own HD2.out.net (by decide); rw [hLL] at h; exact h)
          have q1 := cell_of_blk hn3 1
          have qf := frozen_of_blk hn3 1
          simp only [List.getElem?_toArray, List.getElem?_cons_succ, List.getElem?_cons_zero] at q1
          have HOWN := Lib.hid hown
          have HGROW := Lib.hid hgrow
          clear hown hgrow hn3
          go_simp
          refine hK _ _ ?_
          clear hK K
          refine takeP (i := 9) (v := .pointer (some ⟨w.heap.size + 1 + 1 + 1, 0, none⟩)) rfl (by kernel_rfl) (by kernel_rfl) (by kernel_rfl) ⟨_, rfl, by decide, by decide⟩ (Or.inl ⟨by rfl, fun W => ?_⟩) ?_
          · go_simp
          refine takeP (i := 10) (v := .pointer (some ⟨w.heap.size + 1 + 1 + 1, 1, none⟩)) rfl (by kernel_rfl) (by kernel_rfl) (by kernel_rfl) ⟨_, rfl, by decide, by decide⟩ (Or.inl ⟨by rfl, fun W => ?_⟩) ?_
          · go_simp
          refine wpAny_ready (rs := [11]) (by kernel_rfl) (by simp) (AllReady.cons rfl (fun K hK => ?_) AllReady.nil)
          go_simp
          refine hK _ _ ?_
          clear hK K
          refine wpAny_done (by kernel_rfl) ?_ _
          refine PanQ.normal ?_
          go_wp2_with fail
          go_roundg (1 + 2 * p.roads.length - (i + 1))
          case measure => omega
          case rel =>
            refine ⟨i + 1, A3, c3, by omega, by omega, by go_num, ?_, Lib.hid (HGN.out HGB.out)⟩
            rw [HTK.out]
            have h1 := HOWN.out
            have h2 := HGROW.out
            rw [← hLL] at h1 h2 ⊢
            exact Lib.hid (HD2.out.push h1 h2)
    · obtain rfl : i = 1 + 2 * p.roads.length := by omega
      have htk : rs.take (1 + 2 * p.roads.length) = rs := List.take_of_length_le (by rw [HRLEN.out]; omega)
      rw [htk, HFL.out] at HD
      rw [htk] at HGO
      have HK0 := Lib.hid (HALL.out HGO.out)
      clear HGO
      have hkl := lksK_len p ch p.roads.length
      have n0 := cell_of_blk HD.out.net 0
      simp only [List.getElem?_toArray, List.getElem?_cons_succ, List.getElem?_cons_zero] at n0
      clear htk hlt hgg
      go_wp2_with fail
      clear n0
      go_loopg [11, 46] (p.roads.length + 2) (fun gg s11 s46 wr => ∃ (k : Nat) (Av : Option Addr) (cv : Nat), k ≤ p.roads.length + 2 ∧ p.roads.length + 2 - k ≤ gg ∧ s46 = .int .i64 k ∧
        Hid (DI w w1.heap.size #[.int .i64 p.cars, .int .i64 p.first, .slice Ar p.roads.length cr] ((p.roads.length : Int) + 2) (lksK p ch p.roads.length ++ adds k) (.slice (some ⟨gR, 0, none⟩) (1 + 2 * p.roads.length) cR) rs wr Av cv))
      case atStart => exact ⟨0, Av, cv, Nat.zero_le _, by omega, rfl, by simpa [adds] using HD⟩
      case round =>
        clear HD Av cv
        obtain ⟨k, Av, cv, hk, hgg, rfl, HD⟩ := hrel
        have hal : (lksK p ch p.roads.length ++ adds k).length = (lksK p ch p.roads.length).length + k := by rw [List.length_append, adds_length]
        have HAL := Lib.hid hal
        generalize hLL : (lksK p ch p.roads.length ++ adds k).length = LL at hal
        have hLL100 : LL ≤ 100 := by omega
        have HLL := Lib.hid hLL
        by_cases hlt : k < p.roads.length + 2
        · have n1 := cell_of_blk HD.out.net 1
          have nf := frozen_of_blk HD.out.net 1
          simp only [List.getElem?_toArray, List.getElem?_cons_succ, List.getElem?_cons_zero] at n1
          rw [hLL] at n1
          have HOW := Lib.hid HD.out.own
          rw [hLL] at HOW
          clear hal hLL
          go_wp2_with (at_builtin; refine wp_append_one _ rfl _ _ 22 rfl w1.heap.size 58 _ 3 24 Try.underlying22 info58 rfl (by decide) _ LL _ rfl HOW.out T3.enc ⟨0, (k : Int), 0⟩ _ rfl rfl t3_len t3_one ?q2 (by decide) ?q4 ?_)
          case q2 => omega
          case q4 => exact HD.out.bs.2
          intro g2 c2 w2 hown2 hgrow hb2 hl2 _
          have hn3 := blk_grown HD.out.net hgrow (by have h := owns_ne_blk HD.out.own HD.out.net (by decide); rw [HLL.out] at h; exact h)
          have q1 := cell_of_blk hn3 1
          have qf := frozen_of_blk hn3 1
          simp only [List.getElem?_toArray, List.getElem?_cons_succ, List.getElem?_cons_zero] at q1
          have HOWN := Lib.hid hown2
          have HGROW := Lib.hid hgrow
          clear hown2 hgrow hn3 n1 nf
          go_wp2_with fail
          go_roundg (p.roads.length + 2 - (k + 1))
          case measure => omega
          case rel =>
            refine ⟨k + 1, some ⟨g2, 0, none⟩, c2, by omega, by omega, by go_num, ?_⟩
            have h1 := HOWN.out
            have h2 := HGROW.out
            rw [← HLL.out] at h1 h2 ⊢
            have := HD.out.push (xs := [⟨0, (k : Int), 0⟩]) (by simpa using h1) h2
            rw [adds_succ, ← List.append_assoc]
            exact Lib.hid this
        · obtain rfl : k = p.roads.length + 2 := by omega
          have n0 := cell_of_blk HD.out.net 0
          simp only [List.getElem?_toArray, List.getElem?_cons_succ, List.getElem?_cons_zero] at n0
          clear hal hLL
          have hnet : NetAt wr (w.heap.size + 3) ((p.roads.length + 2 : Nat) : Int) (netK p ch) (fun q => q < wr.heap.size) := by
            refine ⟨_, HD.out.net.trans (by simp), ?_, fun e => owns_ne_blk HD.out.own HD.out.net (by decide) e.symm, fun q hq => ?_⟩
            · exact rd_of_owns t3_len HD.out.own
            · exact ⟨(World.ownsRow.lt HD.out.own q hq).2, (World.ownsRow.lt HD.out.own q hq).2⟩
          have HNET := Lib.hid hnet
          have hnl : (netK p ch).length ≤ 100 := by unfold netK; rw [HLL.out]; exact hLL100
          have HNL := Lib.hid hnl
          clear hnet hnl
          go_wp2_with (first
            | (at_make; refine wp_make_ints _ rfl _ _ 25 rfl wr.heap.size Try.underlying25 info3 (p.roads.length + 2) rfl rfl ?q1 ?q2 ?_)
            | (at_builtin; refine wp_copy_nil _ rfl _ _ 25 rfl 3 Try.underlying25 (by kernel_rfl) _ _ _ rfl rfl ?_))
          · omega
          · exact Nat.le_refl _
          intro w5 hO5 hg5
          have hnet5 : NetAt w5 (w.heap.size + 3) ((p.roads.length + 2 : Nat) : Int) (netK p ch) (fun q => q < wr.heap.size) := HNET.out.grown hg5 (by simp) (fun _ _ => by simp)
          have hO5' := hO5
          have hpush := push77 (p.roads.length + 2) (netK p ch) (w.heap.size + 3) w5 (fun q => q < wr.heap.size) hnet5 wr.heap.size wr.heap.size (p.roads.length + 2) (fun q hq => by omega) (List.replicate (p.roads.length + 2) 0) hO5 (by omega) (by omega) HNL.out HNV.out (by simp) (fun x hx => by have := List.eq_of_mem_replicate hx; omega)
          have hpl : (dueSt p ch).ts.length = p.roads.length + 2 := rounds_len _ (by simp)
          rw [show pushF (p.roads.length + 2) (netK p ch) (List.replicate (p.roads.length + 2) 0) = dueSt p ch from rfl] at hpush
          have HPU := Lib.hid hpush
          have HPL := Lib.hid hpl
          have HG5 := Lib.hid hg5
          clear hnet5 hO5 hO5' hpush hpl hg5 n0 hLL100 hkl
          generalize hst : dueSt p ch = st at *
          have HST := Lib.hid hst
          clear hst
          go_wp2_with (guard_target =~ wpList _ _ _ (Oper.mk (some 69) _ _ _ _ _ :: _) _ _; refine wp_copy_nil _ rfl _ _ 25 rfl 3 Try.underlying25 (by kernel_rfl) _ _ _ rfl rfl ?_)
          refine HPU.out.mono ?_
          rintro e w6 ⟨gb, cb, rfl, hO6, _, hg6⟩
          have hbs := HD.out.bs
          have k6 := blk_grown (blk_grown HD.out.r6 HG5.out (by simp)) hg6 (by simp; omega)
          have k7 := blk_grown (blk_grown HD.out.r7 HG5.out (by simp)) hg6 (by simp; omega)
          have hbel : Below w.heap.size w w6 := (HD.out.bel.grown HG5.out HD.out.bel.size (fun k e => by cases e)).grown hg6 (Nat.le_trans HD.out.bel.size HG5.out.size) (fun k e => by injection e with e; have := HD.out.bel.size; omega)
          have hts0 := getD_i (xs := st.ts) (j := 0) (by rw [HPL.out]; omega)
          have z0 := (hO6.at hts0).1
          have HB6 := Lib.hid hbel
          have HO6 := Lib.hid hO6
          have K6 := Lib.hid k6
          have K7 := Lib.hid k7
          have s6 := cell_of_blk k6 0
          have s7 := cell_of_blk k7 0
          have f6 := frozen_of_blk k6 0
          have f7 := frozen_of_blk k7 0
          simp only [List.getElem?_toArray, List.getElem?_cons_succ, List.getElem?_cons_zero] at s6 s7
          rw [HZZ.out] at z0
          clear hO6 hg6 k6 k7 hbel hbs hts0 HPU HG5
          by_cases h1 : 0 ≤ st.raised
          · have d1 : decide (0 ≤ st.raised) = true := decide_eq_true h1
            go_wp2_with fail
            refine leaves_cons (f := 97) (args := #[.pointer (some ⟨w.heap.size + 1, 0, none⟩), .pointer (some ⟨w.heap.size + 1 + 1, 0, none⟩)]) (by simp) (by simp [go_sem]) ?_
            refine (idle97 _ _ _).mono ?_
            rintro e u' w'' ⟨rfl, rfl, rfl⟩
            have e6 := cell_of_blk (blk_grown (blk_set K6.out 0 (.slice none 0 0)) (grown_set _ (w.heap.size + 1 + 1) 0 (.bool false)) (by simp)) 0
            have e7 := cell_of_blk (blk_set (blk_grown K7.out (grown_set w6 (w.heap.size + 1) 0 (.slice none 0 0)) (by simp)) 0 (.bool false)) 0
            have hbf : Below w.heap.size w ((w6.setCell ⟨w.heap.size + 1, 0, none⟩ (.slice none 0 0)).setCell ⟨w.heap.size + 1 + 1, 0, none⟩ (.bool false)) := (HB6.out.setCell (p := ⟨w.heap.size + 1, 0, none⟩) (by show w.heap.size ≤ w.heap.size + 1; omega) _).setCell (p := ⟨w.heap.size + 1 + 1, 0, none⟩) (by show w.heap.size ≤ w.heap.size + 1 + 1; omega) _
            have HBF := Lib.hid hbf
            simp only [Array.setIfInBounds, List.size_toArray, List.length_cons, List.length_nil, Nat.zero_lt_one, Nat.zero_add, dite_true, List.set_toArray, List.set_cons_zero, List.getElem?_toArray, List.getElem?_cons_zero] at e6 e7
            clear hbf
            generalize (w6.setCell ⟨w.heap.size + 1, 0, none⟩ (.slice none 0 0)).setCell ⟨w.heap.size + 1 + 1, 0, none⟩ (.bool false) = wf at *
            simp [Leaves, settle, results, Try.results66, go_sem, e6, e7]
            exact post_no (.inl (by rw [HST.out]; exact h1)) HBF.out
          · have d1 : decide (0 ≤ st.raised) = false := decide_eq_false h1
            cases d2 : (z != 0)
            · go_wp2_with fail
              refine leaves_cons (f := 97) (args := #[.pointer (some ⟨w.heap.size + 1, 0, none⟩), .pointer (some ⟨w.heap.size + 1 + 1, 0, none⟩)]) (by simp) (by simp [go_sem]) ?_
              refine (idle97 _ _ _).mono ?_
              rintro e u' w'' ⟨rfl, rfl, rfl⟩
              have e6 := cell_of_blk (blk_grown (blk_set K6.out 0 (.slice (some ⟨wr.heap.size, 1, none⟩) (p.roads.length + 1) (p.roads.length + 1))) (grown_set _ (w.heap.size + 1 + 1) 0 (.bool true)) (by simp)) 0
              have e7 := cell_of_blk (blk_set (blk_grown K7.out (grown_set w6 (w.heap.size + 1) 0 (.slice (some ⟨wr.heap.size, 1, none⟩) (p.roads.length + 1) (p.roads.length + 1))) (by simp)) 0 (.bool true)) 0
              have hbf : Below w.heap.size w ((w6.setCell ⟨w.heap.size + 1, 0, none⟩ (.slice (some ⟨wr.heap.size, 1, none⟩) (p.roads.length + 1) (p.roads.length + 1))).setCell ⟨w.heap.size + 1 + 1, 0, none⟩ (.bool true)) := (HB6.out.setCell (p := ⟨w.heap.size + 1, 0, none⟩) (by show w.heap.size ≤ w.heap.size + 1; omega) _).setCell (p := ⟨w.heap.size + 1 + 1, 0, none⟩) (by show w.heap.size ≤ w.heap.size + 1 + 1; omega) _
              have HBF := Lib.hid hbf
              simp only [Array.setIfInBounds, List.size_toArray, List.length_cons, List.length_nil, Nat.zero_lt_one, Nat.zero_add, dite_true, List.set_toArray, List.set_cons_zero, List.getElem?_toArray, List.getElem?_cons_zero] at e6 e7
              have HOF := Lib.hid ((HO6.out.other (p := w.heap.size + 1) (j := 0) (by have := HD.out.bs; omega) (.slice (some ⟨wr.heap.size, 1, none⟩) (p.roads.length + 1) (p.roads.length + 1))).other (p := w.heap.size + 1 + 1) (j := 0) (by have := HD.out.bs; omega) (.bool true))
              clear hbf
              generalize (w6.setCell ⟨w.heap.size + 1, 0, none⟩ (.slice (some ⟨wr.heap.size, 1, none⟩) (p.roads.length + 1) (p.roads.length + 1))).setCell ⟨w.heap.size + 1 + 1, 0, none⟩ (.bool true) = wf at *
              simp [Leaves, settle, results, Try.results66, go_sem, e6, e7]
              exact post_yes HK0.out (by rw [HST.out]; omega) (by rw [HST.out, HZZ.out]; simpa using d2) (by rw [HST.out, List.drop_one]; exact own_tail HOF.out HPL.out rfl) HBF.out
            · go_wp2_with fail
              refine leaves_cons (f := 97) (args := #[.pointer (some ⟨w.heap.size + 1, 0, none⟩), .pointer (some ⟨w.heap.size + 1 + 1, 0, none⟩)]) (by simp) (by simp [go_sem]) ?_
              refine (idle97 _ _ _).mono ?_
              rintro e u' w'' ⟨rfl, rfl, rfl⟩
              have e6 := cell_of_blk (blk_grown (blk_set K6.out 0 (.slice none 0 0)) (grown_set _ (w.heap.size + 1 + 1) 0 (.bool false)) (by simp)) 0
              have e7 := cell_of_blk (blk_set (blk_grown K7.out (grown_set w6 (w.heap.size + 1) 0 (.slice none 0 0)) (by simp)) 0 (.bool false)) 0
              have hbf : Below w.heap.size w ((w6.setCell ⟨w.heap.size + 1, 0, none⟩ (.slice none 0 0)).setCell ⟨w.heap.size + 1 + 1, 0, none⟩ (.bool false)) := (HB6.out.setCell (p := ⟨w.heap.size + 1, 0, none⟩) (by show w.heap.size ≤ w.heap.size + 1; omega) _).setCell (p := ⟨w.heap.size + 1 + 1, 0, none⟩) (by show w.heap.size ≤ w.heap.size + 1 + 1; omega) _
              have HBF := Lib.hid hbf
              simp only [Array.setIfInBounds, List.size_toArray, List.length_cons, List.length_nil, Nat.zero_lt_one, Nat.zero_add, dite_true, List.set_toArray, List.set_cons_zero, List.getElem?_toArray, List.getElem?_cons_zero] at e6 e7
              clear hbf
              generalize (w6.setCell ⟨w.heap.size + 1, 0, none⟩ (.slice none 0 0)).setCell ⟨w.heap.size + 1 + 1, 0, none⟩ (.bool false) = wf at *
              simp [Leaves, settle, results, Try.results66, go_sem, e6, e7]
              exact post_no (.inr (.inl (by rw [HST.out, HZZ.out]; simpa using d2))) HBF.out
end Go.Proofs.Ytpknonebnipcgaa.Nd
