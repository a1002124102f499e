import Derived.Test.YtpknonebnipcgaaProg
import Derived.WalkKit
import Derived.KernelRfl
import Derived.Deep.LoopGhost
import Derived.Deep.QuietTactic
import Derived.BigQuiet
import Derived.Deep.DeepCutAuto
import Derived.Deep.CutBlock
import Derived.Deep.RegionHeld3
import Derived.WalkLawsBesides
import Derived.WalkSpells
import Derived.Outline
import Derived.Deep.DeepFit
import Derived.Lib.Hide
import Derived.Shelf.Abstract
import Derived.RangeFuncFrom
import Derived.RangeFuncLeaves
import Derived.OwnWalkIn
import Derived.TacticsInMore
import Derived.LoopNIn
import Derived.LoopIn
import Derived.Test.YtpknonebnipcgaaR
import Derived.Test.YtpknonebnipcgaaN

namespace Go.Proofs.Ytpknonebnipcgaa.S
open Go.RowKit Go.Shelf Go.Proofs.Ytpknonebnipcgaa.V Go.Proofs.Ytpknonebnipcgaa.A Go.Proofs.Ytpknonebnipcgaa.B Go.Proofs.Ytpknonebnipcgaa.C Go.Proofs.Ytpknonebnipcgaa.P Go.Proofs.Ytpknonebnipcgaa.D Go.Proofs.Ytpknonebnipcgaa.E Go.Proofs.Ytpknonebnipcgaa.G Go.Proofs.Ytpknonebnipcgaa.H Go.Proofs.Ytpknonebnipcgaa.I Go.Proofs.Ytpknonebnipcgaa.J Go.Proofs.Ytpknonebnipcgaa.K Go.Proofs.Ytpknonebnipcgaa.L Go.Proofs.Ytpknonebnipcgaa.M Go.Proofs.Ytpknonebnipcgaa.N Go.Proofs.Ytpknonebnipcgaa.X
set_option linter.unusedVariables false
set_option linter.unusedSimpArgs false
attribute [local go_sem] Oper.semAt_some

/-- the first choice, when k roads have been looked at -/
def firstK (p : PlanT) : Nat → List Int
  | 0 => List.replicate p.roads.length 0
  | k + 1 => if (p.roads.getD k zw).hrs.length = 0 then (firstK p k).set k (-1) else firstK p k
theorem firstK_len (p : PlanT) : ∀ k, (firstK p k).length = p.roads.length
  | 0 => by simp [firstK]
  | k + 1 => by simp only [firstK]; split <;> simp [firstK_len p k]

/-- all cells but those of block t lie as they lay -/
def KpC (t : Nat) (W W' : World) : Prop := W.heap.size ≤ W'.heap.size ∧ ∀ (k : Nat) (o : Obj), k ≠ t → W.heap[k]? = some o → o.isCells = true → W'.heap[k]? = some o

/-- what is handed to the body at the first round -/
def handT (p : PlanT) (N0 : Nat) (pre : List (Value × List Int)) (x : Value × List Int) (W : World) : Prop := pre = [] ∧ x.2 = firstK p p.roads.length ∧ (∃ g, N0 ≤ g ∧ x.1 = .slice (some ⟨g, 0, none⟩) p.roads.length p.roads.length) ∧ RdI W x.1 x.2

section
variable {P : Program} {F : Fence} {n : Nat} {ops : Array Oper} {rest : List Oper} {o : Oper} {a : Act} {Q : Exit → Act → World → Prop}
theorem wpIn_make_ints (w : World) (hg : o.guard = none) (l c : Operand) (t : TypeId) (hop : o.op = Op.makeSlice t l c) (base : Nat) (h1 : P.underlying t = some (.slice 3))
    (hinfo : (P.info? 3).map (fun i => (i.zero, i.size, i.bytes)) = some (some (.int .i64 0), 1, 8)) (m : Nat) (hl : a.eval l = .int .i64 m) (hc : a.eval c = .int .i64 m) (hn : m ≤ 1000000000) (hb : base ≤ w.heap.size)
    (hK : ∀ w', V.Own w' base w.heap.size m (List.replicate m 0) → w.grownBy w' none → wpListIn F n P ops Q rest (a.put o.dst (.slice (some ⟨w.heap.size, 0, none⟩) m m)) w') : wpListIn F n P ops Q (o :: rest) a w := by
  obtain ⟨i, hi, hz0, hz1, hz2⟩ := info_parts hinfo
  refine wpListIn_plain hg fun K hK' => ?_
  obtain ⟨w', hrun, r1, r2⟩ := run_make_full (P := P) w base t 3 i (.int .i64 0) 1 h1 hi hz0 hz1 .i64 .i64 m (by rw [hz2]; omega) (by unfold maxLen; omega) hb
  have hl2 : (madeCells #[Value.int .i64 0] (m * 1)).toList = ints (List.replicate m 0) := by
    apply List.ext_getElem
    · simp [ints, madeCells]
    · intro i h1 h2
      simp [ints, madeCells, Nat.mod_one]
  have hO : V.Own w' base w.heap.size m (List.replicate m 0) := by
    unfold V.Own
    rw [List.length_replicate, ← hl2]
    exact r1
  unfold Oper.wpIn
  refine ⟨?_, ?_⟩
  · simp [Oper.about, hop]
  · rw [Oper.semAt_plain F _ _ (by rw [hop]; intro c hc'; cases hc')]
    simp [execOp, hop, hl, hc, hrun, Result.andThen]
    exact hK' _ _ (hK w' hO r2)
end

set_option maxRecDepth 100000 in
set_option maxHeartbeats 4000000 in
theorem choices_once (F : Fence) (n : Nat) (h96 : F.fn 96) (hro : F.round = none) (hn : 1 ≤ n) (p : PlanT) (hlen : 1 ≤ p.roads.length ∧ p.roads.length ≤ 60) (Ar : Option Addr) (cr bp t : Nat) (w0 : World)
    (hbp : w0.heap[bp]? = some (.cells #[.int .i64 p.cars, .int .i64 p.first, .slice Ar p.roads.length cr] 38 (0, 0))) (hR : RdW w0 (.slice Ar p.roads.length cr) p.roads) :
    SeqStopsT F n Try.prog 96 #[.pointer (some ⟨bp, 0, none⟩)] (fun x : Value × List Int => #[x.1]) (handT p w0.heap.size) (KpC t) (fun _ => False) (fun _ => True) 0 w0 := by
  intro l J Jx W hW hJ hJx hN hY h0
  have hb := blk_below hbp hW
  have hWs := hW.size
  have hRW := RdW.below hR hW
  have p2 := cell_of_blk hb 2
  simp only [List.getElem?_toArray, List.getElem?_cons_succ, List.getElem?_cons_zero] at p2
  have hll := (RdR.len hRW).2
  have HR := Lib.hid hRW
  have HB := Lib.hid hb
  clear hb hbp hR hRW hW
  obtain ⟨l1, l2⟩ := hlen
  refine callsIn_of_wp Try.func96 rfl h96 ?_ hro
  simp only [Try.ntmps96, List.size_toArray, List.length_cons, List.length_nil, Nat.reduceAdd, Nat.reduceSub, Array.replicate_succ, Array.replicate_zero, List.push_toArray, List.append_toArray, List.nil_append, List.cons_append]
  gi_wp2_with (gi_at_make; refine wpIn_make_ints _ rfl _ _ 25 rfl W.heap.size Try.underlying25 info3 p.roads.length rfl rfl ?q1 ?q2 ?_)
  · omega
  intro W2 hO2 hg2
  have hO0 : Hid (V.Own W2 W.heap.size W.heap.size p.roads.length (firstK p 0)) := Lib.hid hO2
  have hJ0 : Hid (J [] W2) := Lib.hid (hJ _ _ _ none h0 hg2 (fun r e => by cases e))
  have hB0 : Hid (Below W.heap.size W W2) := Lib.hid (below_of hg2)
  have p2' := (hB0.out.cell (p := ⟨bp, 2, none⟩) (blk_lt HB.out)).trans p2
  have hbpl := blk_lt HB.out
  have HJ := Lib.hid hJ
  have HY := Lib.hid hY
  have HN := Lib.hid hN
  have HJX := Lib.hid hJx
  clear p2 hO2 hg2 h0 hJ hY hN hJx
  gi_wp2
  clear p2'
  gi_loopw [4, 5, 14] (fun _ _ s14 wr => ∃ k : Nat, k ≤ p.roads.length ∧ s14 = .int .i64 k ∧ Hid (J [] wr) ∧ Hid (V.Own wr W.heap.size W.heap.size p.roads.length (firstK p k)) ∧ Hid (Below W.heap.size W wr))
    (fun _ _ s14 _ => p.roads.length - (intOf s14).toNat)
  case atStart => exact ⟨0, Nat.zero_le _, rfl, hJ0, hO0, hB0⟩
  case round =>
    clear hJ0 hO0 hB0
    obtain ⟨k, hk, rfl, HJs, HO, HBW⟩ := hrel
    by_cases hlt : k < p.roads.length
    · have hx := getD_w hlt
      obtain ⟨b, off, Ah, c', rfl, hb0, hh, d0, d1, d2, d3, d4, d5, d6, d7⟩ := Rd.way HR.out k _ hx
      have hbl0 := HBW.out
      replace d0 := (hbl0.cell (p := ⟨b, off + k * 8, none⟩) hb0).trans d0
      replace d1 := (hbl0.cell (p := ⟨b, off + k * 8 + 1, none⟩) hb0).trans d1
      replace d2 := (hbl0.cell (p := ⟨b, off + k * 8 + 2, none⟩) hb0).trans d2
      replace d3 := (hbl0.cell (p := ⟨b, off + k * 8 + 3, none⟩) hb0).trans d3
      replace d4 := (hbl0.cell (p := ⟨b, off + k * 8 + 4, none⟩) hb0).trans d4
      replace d5 := (hbl0.cell (p := ⟨b, off + k * 8 + 5, none⟩) hb0).trans d5
      replace d6 := (hbl0.cell (p := ⟨b, off + k * 8 + 6, none⟩) hb0).trans d6
      replace d7 := (hbl0.cell (p := ⟨b, off + k * 8 + 7, none⟩) hb0).trans d7
      have hhl := (RdR.len hh).2
      have HFS : Hid (firstK p (k + 1) = if (p.roads.getD k zw).hrs.length = 0 then (firstK p k).set k (-1) else firstK p k) := Lib.hid rfl
      have hrow : W.heap.size < wr.heap.size := by obtain ⟨_, _, h, _⟩ := HO.out.blk; exact h
      have hne : W.heap.size ≠ wr.heap.size := by omega
      have hat := HO.out.at (getD_i (xs := firstK p k) (j := k) (by rw [firstK_len]; exact hlt))
      obtain ⟨hat1, hat2⟩ := hat
      clear hh hx hbl0
      generalize p.roads.getD k zw = x at *
      by_cases hz : x.hrs.length = 0
      · have hz1 : (((x.hrs.length : Nat) : Int) == 0) = true := by simp [hz]
        gi_wp2
        go_roundw
        case measure => simp [intOf]; omega
        case rel =>
          refine ⟨k + 1, by omega, by go_num, Lib.hid ?_, Lib.hid ?_, Lib.hid ?_⟩
          · exact HJ.out _ _ _ none (HJ.out _ _ _ (some W.heap.size) HJs.out (grown_set wr W.heap.size k (.int .i64 (-1))) (fun r e => by cases e; exact Nat.le_refl _)) (World.grownBy_alloc _ _ none) (fun r e => by cases e)
          · rw [HFS.out, if_pos hz]
            exact (HO.out.set k (-1)).alloc _
          · exact (HBW.out.setCell (p := ⟨W.heap.size, k, none⟩) (Nat.le_refl _) _).alloc (by show W.heap.size ≤ (wr.setCell _ _).heap.size; rw [show (wr.setCell ⟨W.heap.size, k, none⟩ (.int .i64 (-1))).heap.size = wr.heap.size from by simp [World.setCell]]; exact HBW.out.size) _
      · have hz1 : (((x.hrs.length : Nat) : Int) == 0) = false := by rw [beq_eq_false_iff_ne]; omega
        gi_wp2
        go_roundw
        case measure => simp [intOf]; omega
        case rel =>
          refine ⟨k + 1, by omega, by go_num, Lib.hid ?_, Lib.hid ?_, Lib.hid ?_⟩
          · exact HJ.out _ _ _ none HJs.out (World.grownBy_alloc _ _ none) (fun r e => by cases e)
          · rw [HFS.out, if_neg hz]
            exact HO.out.alloc _
          · exact HBW.out.alloc (by omega) _
    · obtain rfl : k = p.roads.length := by omega
      gi_wp2
      gi_loopw [] (fun wr => Hid (J [] wr) ∧ Hid (V.Own wr W.heap.size W.heap.size p.roads.length (firstK p p.roads.length))) (fun _ => 0)
      case atStart => exact ⟨HJs, HO⟩
      case round =>
        clear HJs HO HBW
        obtain ⟨HJs, HO⟩ := hrel
        have hrd := HO.out.rd
        rw [firstK_len] at hrd
        obtain ⟨fn, tmps, assign, body, hy, hR⟩ := HY.out [] (.slice (some ⟨W.heap.size, 0, none⟩) p.roads.length p.roads.length, firstK p p.roads.length) wr ⟨rfl, rfl, ⟨_, hWs, rfl⟩, hrd⟩ HJs.out
        dsimp only at hy
        clear hrd
        gi_wp2
        refine hR.mono ?_
        rintro e W' (⟨rfl, hJ', hk⟩ | ⟨rfl, hJx'⟩)
        · exact absurd (HN.out _ _ hJ') (by simp)
        · gi_wp2
          refine bodyPost_ret (results_none rfl _ _ _) rfl ?_
          exact ⟨⟨_, rfl⟩, .inr ⟨_, trivial, hJx'⟩⟩
end Go.Proofs.Ytpknonebnipcgaa.S
