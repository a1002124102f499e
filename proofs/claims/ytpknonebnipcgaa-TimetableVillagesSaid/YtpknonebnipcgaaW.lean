import Derived.Test.YtpknonebnipcgaaProg
import Derived.WalkKit
import Derived.KernelRfl
import Derived.Deep.LoopGhost
import Derived.Deep.QuietTactic
import Derived.BigQuiet
import Derived.Deep.DeepCutAuto
import Derived.Deep.CutBlock
import Derived.Deep.RegionHeld3
import Derived.WalkLawsBesides
import Derived.WalkSpells
import Derived.Outline
import Derived.Deep.DeepFit
import Derived.Lib.Hide
import Derived.Shelf.Abstract
import Derived.Lib.SliceRun
import Derived.Test.YtpknonebnipcgaaF
import Derived.Test.YtpknonebnipcgaaH
import Derived.Test.YtpknonebnipcgaaT
import Derived.Test.YtpknonebnipcgaaU

namespace Go.Proofs.Ytpknonebnipcgaa.W
open Go.RowKit Go.Shelf Go.Proofs.Ytpknonebnipcgaa.V Go.Proofs.Ytpknonebnipcgaa.A Go.Proofs.Ytpknonebnipcgaa.B Go.Proofs.Ytpknonebnipcgaa.C Go.Proofs.Ytpknonebnipcgaa.P Go.Proofs.Ytpknonebnipcgaa.D Go.Proofs.Ytpknonebnipcgaa.E Go.Proofs.Ytpknonebnipcgaa.F Go.Proofs.Ytpknonebnipcgaa.G Go.Proofs.Ytpknonebnipcgaa.H Go.Proofs.Ytpknonebnipcgaa.I Go.Proofs.Ytpknonebnipcgaa.J Go.Proofs.Ytpknonebnipcgaa.K Go.Proofs.Ytpknonebnipcgaa.L Go.Proofs.Ytpknonebnipcgaa.M Go.Proofs.Ytpknonebnipcgaa.N Go.Proofs.Ytpknonebnipcgaa.O Go.Proofs.Ytpknonebnipcgaa.S Go.Proofs.Ytpknonebnipcgaa.T Go.Proofs.Ytpknonebnipcgaa.U
set_option linter.unusedVariables false
set_option linter.unusedSimpArgs false

theorem sumTo_take (all : List T3) (ch : List Int) : ∀ k, k ≤ ch.length → sumTo all ch k = ((ch.take k).map fun c => (lk all c).c).sum
  | 0, _ => by simp [sumTo]
  | k + 1, h => by
    have ih := sumTo_take all ch k (by omega)
    have hg : ch[k]? = some (ch.getD k 0) := getDi (by omega)
    simp only [sumTo]
    rw [ih, List.take_add_one, hg]
    simp [List.map_append, List.sum_append, lk]

theorem prove_of_ok {n : Int} {ls : List T3} (h : rightB n ls = true) {p : List Int} (hp : ProofOk n.toNat (allOf n ls) p) : proveB n ls p = true := by
  obtain ⟨h1, h2, h3, h4⟩ := right_out h
  unfold proveB
  rw [h]
  have q1 := hp.len1
  have q2 := hp.len2
  have e1 : inB (p.length : Int) 1 n = true := by simp [inB]; omega
  have e2 : (List.range p.length).all (stepOk (allOf n ls) p) = true := all_range_true (fun k hk => by
    have hm := hp.rng _ (List.mem_of_getElem? (getDi hk))
    unfold stepOk
    have a1 : inB (p.getD k 0) 0 (((allOf n ls).length : Int) - 1) = true := by
      simp only [inB, Bool.and_eq_true, decide_eq_true_eq]
      omega
    rw [a1]
    by_cases hk0 : k = 0
    · simp [hk0]
    · have hc := hp.chain (k - 1) (by omega)
      rw [show k - 1 + 1 = k by omega] at hc
      simp only [lk] at hc
      rw [beq_iff_eq.2 hc, Bool.or_true, Bool.and_true])
  have e3 : (((allOf n ls).getD (p.getD (p.length - 1) 0).toNat z3).b == ((allOf n ls).getD (p.getD 0 0).toNat z3).a) = true := by
    have := hp.closed
    simp only [lk] at this
    exact beq_iff_eq.2 this
  have e4 : decide (0 < sumTo (allOf n ls) p p.length) = true := by
    rw [sumTo_take _ _ _ (Nat.le_refl _), List.take_length]
    simpa using hp.sum
  rw [e1, e2, e3, e4]
  rfl

def L4 : List T3 := [⟨0, 1, 5⟩, ⟨1, 2, 3⟩, ⟨0, 2, 6⟩, ⟨2, 1, -4⟩]
def L5 : List T3 := L4 ++ [⟨2, 0, -7⟩]
theorem r4 : rightB 3 L4 = true := by decide
theorem r5 : rightB 3 L5 = true := by decide
theorem sm4 : Small 3 L4 := ⟨by decide, by decide⟩
theorem sm5 : Small 3 L5 := ⟨by decide, by decide⟩
theorem ear4 : (earl 3 L4).raised < 0 ∧ (earl 3 L4).ts = [0, 5, 8] := by decide
theorem ear5 : 0 ≤ (earl 3 L5).raised := by decide
theorem top4 : top (earl 3 L4).ts ≤ 20 := by decide
theorem lat4 : lat 3 L4 20 = [0, 17, 20] := by kernel_rfl
theorem rea4 : reaR 3 (allOf 3 L4) 2 2 = [0, 1] := by decide
theorem row4 : (rowR 3 (allOf 3 L4) 2).getD (2 : Int).toNat 0 = gt (earl 3 L4).ts 2 ∧ (rowR 3 (allOf 3 L4) 1).getD (2 : Int).toNat 0 ≠ gt (earl 3 L4).ts 2 ∧ (rowR 3 (allOf 3 L4) 0).getD (2 : Int).toNat 0 ≠ gt (earl 3 L4).ts 2 := by decide
theorem pic4 : 0 ≤ pickR 3 (allOf 3 L4) (2 - 1 - 0) (momR 3 (allOf 3 L4) 2 2 0) ∧ 0 ≤ pickR 3 (allOf 3 L4) (2 - 1 - 1) (momR 3 (allOf 3 L4) 2 2 1) := by decide
theorem okEx : okPlan exPlan = true := by decide
theorem firstEx : firstK exPlan exPlan.roads.length = [0, -1] := by decide
theorem dueEx : (dueSt exPlan [0, -1]).raised < 0 ∧ (dueSt exPlan [0, -1]).ts = [0, 100, 129, 144] := by decide
theorem closedEx : closedL exPlan [100, 129, 144] 2 = [70, 129] := by decide
theorem openedEx : openedL exPlan [100, 129, 144] 2 = [134, 148] := by decide

/-- a net in a row of its own -/
theorem net54o (w : World) : Calls Try.prog 54 #[] w fun e w' => e = .returned (.slice (some ⟨w.heap.size, 0, none⟩) 4 4) ∧ RdT w' (.slice (some ⟨w.heap.size, 0, none⟩) 4 4) L4 ∧ w'.ownsRow w.heap.size 58 3 (.slice (some ⟨w.heap.size, 0, none⟩) 4 4) 4 (L4.flatMap T3.enc) ∧ Below w.heap.size w w' := by
  go_enter Try.func54, Try.ntmps54
  go_wp2
  go_ret
  exact ⟨rfl, rd_lit (e := 58) t3_len w L4 _ rfl (by decide), World.ownsRow_lit w _ 4 (Nat.le_refl _) (by decide) rfl, (Below.refl _ _).alloc (Nat.le_refl _) _⟩

section
variable {P : Program} {ops : Array Oper} {rest : List Oper} {o : Oper} {a : Act} {Q : Exit → Act → World → Prop}
/-- append(s, x) behind a guard that is met: x has just been laid in a block of its own -/
theorem wp_append_oneG {α : Type} (w : World) (hw : Region.wanted o (yielded ops a.tmps) = true) (s x : Operand) (t : TypeId) (ho : o.op = .call { callee := .builtin .append, args := #[s, x], argTypes := #[t, t] })
    (base : Nat) (e : TypeId) (z : Value) (size bytes : Nat) (ht : P.underlying t = some (.slice e)) (hinfo : (P.info? e).map (fun i => (i.zero, i.size, i.bytes)) = some (some z, size, bytes)) (hzs : z.cells.size = size) (hsz : 0 < size)
    (v : Value) (n : Nat) (cells : List Value) (hs : a.eval s = v) (hown : w.ownsRow base e size v n cells)
    (enc : α → List Value) (p : α) (cs : Array Value) (hx : a.eval x = .slice (some ⟨w.heap.size, 0, none⟩) 1 1) (hcs : cs.toList = enc p) (hk : ∀ x, (enc x).length = size) (h1 : ∀ x, ∀ u ∈ enc x, u.oneCell' = true)
    (hn : n < 1000000000) (hby : bytes ≤ 1000) (hbase : base ≤ w.heap.size)
    (h : ∀ g' c' w', w'.ownsRow base e size (.slice (some ⟨g', 0, none⟩) (n + 1) c') (n + 1) (cells ++ enc p) → w.grownBy w' v.ownBlock → wpList P ops Q rest (a.put o.dst (.slice (some ⟨g', 0, none⟩) (n + 1) c')) w') : wpList P ops Q (o :: rest) a (w.alloc (.cells cs e)) := by
  obtain ⟨i, hi, hz0, hz1, hz2⟩ := info_parts hinfo
  have hb2 : (n + 1) * bytes ≤ 140737488355328 := Nat.le_trans (Nat.mul_le_mul (show n + 1 ≤ 1000000000 by omega) hby) (by omega)
  have hrd := rd_lit1 (e := e) hk w p cs hcs
  refine wpList_step fun K hK => ?_
  rw [if_pos hw]
  obtain ⟨v', w', hr, g1, g2, _, _⟩ := run_append_own_at (P := P) (w.alloc (.cells cs e)) base t o.type e i z size bytes ht hi hz0 hz1 hz2 hzs hsz v n cells (hown.alloc _) ⟨w.heap.size, 0, none⟩ 1 1 (enc p) (by rw [hk]; simp) (by
    intro j u hu
    exact Rd.flat hk hsz hrd j u (by simpa using hu)) (fun u hu => h1 p u hu) (by unfold maxLen; omega) hb2 (by simp; omega)
  obtain ⟨g', c', rfl, e1, e2, _⟩ := owns_pos g1 (by omega)
  unfold Oper.wp execOp
  simp only [ho, resolve, invoke, builtin, Sem.run_bind, Sem.run_pure, Result.andThen_ok, List.map_toArray, List.map_cons, List.map_nil, hs, hx, hr]
  exact hK _ _ (h g' c' w' g1 ⟨g2.os, g2.tape, g2.output, Nat.le_trans (by simp) g2.size, fun k hk hne => (g2.block k (by simp; omega) hne).trans (Below.heap_alloc w _ k hk)⟩)
end

set_option maxRecDepth 100000 in
set_option maxHeartbeats 8000000 in
theorem known17 (w : World) : Calls Try.prog 17 #[] w fun e w' => e = .returned (.bool true) ∧ Below w.heap.size w w' := by
  go_enter Try.func17, Try.ntmps17
  go_wp2_with fail
  refine (net54o w).mono ?_
  rintro e w1 ⟨rfl, hn1, _, hb1⟩
  have HB1 := Lib.hid hb1
  have HE := Lib.hid (earliest29_ok 3 _ _ L4 w1 hn1 r4 sm4 ear4.1)
  rw [ear4.2] at HE
  clear hn1 hb1
  go_wp2_with fail
  refine HE.out.mono ?_
  rintro e w2 ⟨gt, ct, rfl, hO, hb⟩
  have HT := Lib.hid hO.rd
  have HB2 := Lib.hid (below_then HB1.out HB1.out.size hb)
  clear hO hb HB1 HE
  go_wp2_with fail
  refine (net54o w2).mono ?_
  rintro e w3 ⟨rfl, hn, _, hb⟩
  have HT3 := Lib.hid (Rd.below HT.out hb)
  have HB3 := Lib.hid (below_then HB2.out HB2.out.size hb)
  have HE := Lib.hid (latest34_ok 3 _ _ L4 20 w3 hn r4 (by decide) sm4 ear4.1 top4)
  rw [lat4] at HE
  clear hn hb HB2 HT
  go_wp2_with fail
  refine HE.out.mono ?_
  rintro e w4 ⟨gl, cl, rfl, hl, hb⟩
  have HT4 := Lib.hid (Rd.below HT3.out hb)
  have HL4 := Lib.hid hl
  have HB4 := Lib.hid (below_then HB3.out HB3.out.size hb)
  clear hl hb HB3 HT3 HE
  go_wp2_with fail
  refine (net54o w4).mono ?_
  rintro e w5 ⟨rfl, hn, _, hb⟩
  have HT5 := Lib.hid (Rd.below HT4.out hb)
  have HL5 := Lib.hid (Rd.below HL4.out hb)
  have HB5 := Lib.hid (below_then HB4.out HB4.out.size hb)
  have HE := Lib.hid (reason18_ok 3 _ _ L4 2 w5 hn r4 sm4 (by decide) ear4.1 2 row4.1 (fun j hj => by
    match j, hj with
    | 0, _ => exact row4.2.2
    | 1, _ => exact row4.2.1) (by decide) (fun j hj => by
    match j, hj with
    | 0, _ => exact pic4.1
    | 1, _ => exact pic4.2))
  clear hn hb HB4 HT4 HL4
  go_wp2_with fail
  refine HE.out.mono ?_
  rintro e w6 ⟨Ao, co, rfl, hr, hb⟩
  have hr2 : RdI w6 (.slice Ao 2 co) [0, 1] := by
    have e : reaR 3 (allOf 3 L4) 2 2 = [0, 1] := rea4
    exact e ▸ hr
  have HT6 := Lib.hid (Rd.below HT5.out hb)
  have HL6 := Lib.hid (Rd.below HL5.out hb)
  have HR6 := Lib.hid hr2
  have HB6 := Lib.hid (below_then HB5.out HB5.out.size hb)
  clear hr hr2 hb HB5 HT5 HL5 HE
  go_wp2_with fail
  refine (net54o w6).mono ?_
  rintro e w7 ⟨rfl, _, ho7, hb7⟩
  have HO7 := Lib.hid ho7
  have HB7 := Lib.hid hb7
  clear ho7 hb7
  go_wp2_with (at_builtin; refine wp_append_one w7 rfl _ _ 22 rfl w6.heap.size 58 _ 3 24 Try.underlying22 info58 rfl (by decide) (.slice (some ⟨w6.heap.size, 0, none⟩) 4 4) 4 _ rfl HO7.out T3.enc ⟨2, 0, -7⟩ _ rfl rfl t3_len t3_one ?q1 ?q2 ?q3 ?_)
  case q1 => omega
  case q2 => omega
  case q3 => exact HB7.out.size
  intro g8 c8 w8 hown8 hgrow8 _ _ _
  have hb8 : Below w6.heap.size w6 w8 := HB7.out.grown hgrow8 HB7.out.size (fun k e => by simp [Value.ownBlock] at e; omega)
  have hn8 : RdT w8 (.slice (some ⟨g8, 0, none⟩) 5 c8) L5 := rd_of_owns (xs := L5) t3_len hown8
  have HT8 := Lib.hid (Rd.below HT6.out hb8)
  have HL8 := Lib.hid (Rd.below HL6.out hb8)
  have HR8 := Lib.hid (Rd.below HR6.out hb8)
  have HB8 := Lib.hid (below_then HB6.out HB6.out.size hb8)
  have HE := Lib.hid (earliest29_none 3 _ _ L5 w8 hn8 r5 sm5 ear5)
  clear hn8 hb8 hown8 hgrow8 HB6 HT6 HL6 HR6 HB7 HO7
  go_wp2_with fail
  refine HE.out.mono ?_
  rintro e w9 ⟨gp, cp, pf, rfl, hop, hpf, hb⟩
  have hprove := prove_of_ok r5 hpf
  have hrng := hpf.rng
  have hplen := hpf.len2
  have HPR := Lib.hid hprove
  have HRG : Hid (∀ x ∈ pf, -9223372036854775808 ≤ x ∧ x ≤ 9223372036854775807) := Lib.hid (fun x hx => by
    have := hrng x hx
    have h6 : (allOf 3 L5).length = 8 := rfl
    omega)
  have HT9 := Lib.hid (Rd.below HT8.out hb)
  have HL9 := Lib.hid (Rd.below HL8.out hb)
  have HR9 := Lib.hid (Rd.below HR8.out hb)
  have HP9 := Lib.hid hop.rd
  have HB9 := Lib.hid (below_then HB8.out HB8.out.size hb)
  clear hop hpf hb hprove hrng hplen HE HB8 HT8 HL8 HR8
  go_wp2_with fail
  refine (example55 w9).mono ?_
  rintro e w10 ⟨A10, c10, rfl, hw, hb⟩
  have HT10 := Lib.hid (Rd.below HT9.out hb)
  have HL10 := Lib.hid (Rd.below HL9.out hb)
  have HR10 := Lib.hid (Rd.below HR9.out hb)
  have HP10 := Lib.hid (Rd.below HP9.out hb)
  have HB10 := Lib.hid (below_then HB9.out HB9.out.size hb)
  have hmk := make24_first exPlan okEx (by decide) A10 c10 w10 hw (by rw [firstEx]; decide) (by rw [firstEx]; exact ⟨by decide, by decide⟩) (by rw [firstEx]; exact dueEx.1) (by rw [firstEx, dueEx.2]; rfl) (by rw [firstEx, dueEx.2]; decide)
  rw [firstEx, dueEx.2] at hmk
  have HMK := Lib.hid hmk
  clear hw hb hmk HB9 HT9 HL9 HR9 HP9
  go_wp2_with fail
  refine HMK.out.mono ?_
  rintro e w11 ⟨vd, vc, vo, vch, rfl, ⟨d1, d2, d3, d4⟩, hb⟩
  have HT11 := Lib.hid (Rd.below HT10.out hb)
  have HL11 := Lib.hid (Rd.below HL10.out hb)
  have HR11 := Lib.hid (Rd.below HR10.out hb)
  have HP11 := Lib.hid (Rd.below HP10.out hb)
  have HB11 := Lib.hid (below_then HB10.out HB10.out.size hb)
  replace d2 : RdI w11 vc [70, 129] := (show closedL exPlan (List.drop 1 [0, 100, 129, 144]) exPlan.roads.length = [70, 129] from closedEx) ▸ d2
  replace d3 : RdI w11 vo [134, 148] := (show openedL exPlan (List.drop 1 [0, 100, 129, 144]) exPlan.roads.length = [134, 148] from openedEx) ▸ d3
  replace d1 : RdI w11 vd [100, 129, 144] := d1
  obtain ⟨Av, cv, rfl, _⟩ := RdR.form d1
  obtain ⟨Ac, cc, rfl, _⟩ := RdR.form d2
  obtain ⟨Ao2, co2, rfl, _⟩ := RdR.form d3
  obtain ⟨Ah, ch, rfl, _⟩ := RdR.form d4
  have HD1 := Lib.hid d1
  have HD2 := Lib.hid d2
  have HD3 := Lib.hid d3
  have HD4 := Lib.hid d4
  clear d1 d2 d3 d4 hb HMK HB10 HT10 HL10 HR10 HP10
  go_wp2_with fail
  have hbt : Below w11.heap.size w11 (w11.alloc (.cells #[.slice Av 3 cv, .slice Ac 2 cc, .slice Ao2 2 co2, .slice Ah 2 ch] 45)) := below_al (below_rf w11) _
  have htb : (w11.alloc (.cells #[.slice Av 3 cv, .slice Ac 2 cc, .slice Ao2 2 co2, .slice Ah 2 ch] 45)).heap[w11.heap.size]? = some (.cells #[.slice Av 3 cv, .slice Ac 2 cc, .slice Ao2 2 co2, .slice Ah 2 ch] 45 (0, 0)) := blk_new w11 _
  have hl1 := rd_lit (e := 3) i_len (w11.alloc (.cells #[.slice Av 3 cv, .slice Ac 2 cc, .slice Ao2 2 co2, .slice Ah 2 ch] 45)) [0, 5, 8] #[.int .i64 0, .int .i64 5, .int .i64 8] rfl (by decide)
  rw [World.size_alloc] at hl1
  have hba : Below (w11.alloc (.cells #[.slice Av 3 cv, .slice Ac 2 cc, .slice Ao2 2 co2, .slice Ah 2 ch] 45)).heap.size (w11.alloc (.cells #[.slice Av 3 cv, .slice Ac 2 cc, .slice Ao2 2 co2, .slice Ah 2 ch] 45)) ((w11.alloc (.cells #[.slice Av 3 cv, .slice Ac 2 cc, .slice Ao2 2 co2, .slice Ah 2 ch] 45)).alloc (.cells #[.int .i64 0, .int .i64 5, .int .i64 8] 3)) := below_al (below_rf _) _
  have hb := below_then hbt hbt.size hba
  have htb2 := blk_below htb hba
  have HT12 := Lib.hid (Rd.below HT11.out hb)
  have HL12 := Lib.hid (Rd.below HL11.out hb)
  have HR12 := Lib.hid (Rd.below HR11.out hb)
  have HP12 := Lib.hid (Rd.below HP11.out hb)
  have HD12 := Lib.hid (And.intro (Rd.below HD1.out hb) (And.intro (Rd.below HD2.out hb) (And.intro (Rd.below HD3.out hb) (Rd.below HD4.out hb))))
  have HB12 := Lib.hid (below_then HB11.out HB11.out.size hb)
  have HTB := Lib.hid htb2
  have HLI := Lib.hid hl1
  clear hbt htb hl1 hba hb htb2 HT11 HL11 HR11 HP11 HD1 HD2 HD3 HD4 HB11
  generalize (w11.alloc (.cells #[.slice Av 3 cv, .slice Ac 2 cc, .slice Ao2 2 co2, .slice Ah 2 ch] 45)).alloc (.cells #[.int .i64 0, .int .i64 5, .int .i64 8] 3) = w12 at *
  refine (same22 _ _ _ _ [0, 5, 8] [0, 5, 8] w12 HT12.out HLI.out).mono ?_
  rintro e w13 ⟨rfl, hb⟩
  rw [show decide (([0, 5, 8] : List Int) = [0, 5, 8]) = true from rfl]
  have HL13 := Lib.hid (Rd.below HL12.out hb)
  have HR13 := Lib.hid (Rd.below HR12.out hb)
  have HP13 := Lib.hid (Rd.below HP12.out hb)
  have HD13 := Lib.hid (And.intro (Rd.below HD12.out.1 hb) (And.intro (Rd.below HD12.out.2.1 hb) (And.intro (Rd.below HD12.out.2.2.1 hb) (Rd.below HD12.out.2.2.2 hb))))
  have HB13 := Lib.hid (below_then HB12.out HB12.out.size hb)
  have HTB13 := Lib.hid (blk_below HTB.out hb)
  clear hb HT12 HL12 HR12 HP12 HD12 HB12 HTB HLI
  go_wp2_with fail
  have hl1 := rd_lit (e := 3) i_len w13 [0, 17, 20] #[.int .i64 0, .int .i64 17, .int .i64 20] rfl (by decide)
  have hb : Below w13.heap.size w13 (w13.alloc (.cells #[.int .i64 0, .int .i64 17, .int .i64 20] 3)) := below_al (below_rf _) _
  refine (same22 _ _ _ _ [0, 17, 20] [0, 17, 20] _ (Rd.below HL13.out hb) hl1).mono ?_
  rintro e w14 ⟨rfl, hb2⟩
  rw [show decide (([0, 17, 20] : List Int) = [0, 17, 20]) = true from rfl]
  have hbb := below_then hb hb.size hb2
  have HR14 := Lib.hid (Rd.below HR13.out hbb)
  have HP14 := Lib.hid (Rd.below HP13.out hbb)
  have HD14 := Lib.hid (And.intro (Rd.below HD13.out.1 hbb) (And.intro (Rd.below HD13.out.2.1 hbb) (And.intro (Rd.below HD13.out.2.2.1 hbb) (Rd.below HD13.out.2.2.2 hbb))))
  have HB14 := Lib.hid (below_then HB13.out HB13.out.size hbb)
  have HTB14 := Lib.hid (blk_below HTB13.out hbb)
  clear hb hb2 hbb hl1 HL13 HR13 HP13 HD13 HB13 HTB13
  go_wp2_with fail
  have hl1 := rd_lit (e := 3) i_len w14 [0, 1] #[.int .i64 0, .int .i64 1] rfl (by decide)
  have hb : Below w14.heap.size w14 (w14.alloc (.cells #[.int .i64 0, .int .i64 1] 3)) := below_al (below_rf _) _
  refine (same22 _ _ _ _ [0, 1] [0, 1] _ (Rd.below HR14.out hb) hl1).mono ?_
  rintro e w15 ⟨rfl, hb2⟩
  rw [show decide (([0, 1] : List Int) = [0, 1]) = true from rfl]
  have hbb := below_then hb hb.size hb2
  have HP15 := Lib.hid (Rd.below HP14.out hbb)
  have HD15 := Lib.hid (And.intro (Rd.below HD14.out.1 hbb) (And.intro (Rd.below HD14.out.2.1 hbb) (And.intro (Rd.below HD14.out.2.2.1 hbb) (Rd.below HD14.out.2.2.2 hbb))))
  have HB15 := Lib.hid (below_then HB14.out HB14.out.size hbb)
  have HTB15 := Lib.hid (blk_below HTB14.out hbb)
  clear hb hb2 hbb hl1 HR14 HP14 HD14 HB14 HTB14
  go_wp2_with fail
  refine (net54o w15).mono ?_
  rintro e w16 ⟨rfl, _, ho7, hb7⟩
  have HO7 := Lib.hid ho7
  have HB7 := Lib.hid hb7
  clear ho7 hb7
  go_wp2_with (at_builtin; refine wp_append_oneG w16 rfl _ _ 22 rfl w15.heap.size 58 _ 3 24 Try.underlying22 info58 rfl (by decide) (.slice (some ⟨w15.heap.size, 0, none⟩) 4 4) 4 _ rfl HO7.out T3.enc ⟨2, 0, -7⟩ _ rfl rfl t3_len t3_one ?q1 ?q2 ?q3 ?_)
  case q1 => omega
  case q2 => omega
  case q3 => exact HB7.out.size
  intro g17 c17 w17 hown8 hgrow8
  have hb8 : Below w15.heap.size w15 w17 := HB7.out.grown hgrow8 HB7.out.size (fun k e => by simp [Value.ownBlock] at e; omega)
  have hn8 : RdT w17 (.slice (some ⟨g17, 0, none⟩) 5 c17) L5 := rd_of_owns (xs := L5) t3_len hown8
  have HP17 := Lib.hid (Rd.below HP15.out hb8)
  have HD17 := Lib.hid (And.intro (Rd.below HD15.out.1 hb8) (And.intro (Rd.below HD15.out.2.1 hb8) (And.intro (Rd.below HD15.out.2.2.1 hb8) (Rd.below HD15.out.2.2.2 hb8))))
  have HB17 := Lib.hid (below_then HB15.out HB15.out.size hb8)
  have HTB17 := Lib.hid (blk_below HTB15.out hb8)
  have HPV := Lib.hid (proves31 3 _ _ L5 _ _ pf w17 hn8 HP17.out (fun _ => sm5) HRG.out)
  rw [HPR.out] at HPV
  clear hn8 hb8 hown8 hgrow8 HB7 HO7 HP15 HD15 HB15 HTB15 HP17
  go_wp2_with fail
  refine HPV.out.mono ?_
  rintro e w18 ⟨rfl, hb⟩
  have HD18 := Lib.hid (And.intro (Rd.below HD17.out.1 hb) (And.intro (Rd.below HD17.out.2.1 hb) (And.intro (Rd.below HD17.out.2.2.1 hb) (Rd.below HD17.out.2.2.2 hb))))
  have HB18 := Lib.hid (below_then HB17.out HB17.out.size hb)
  have htb := blk_below HTB17.out hb
  have t0 := cell_of_blk htb 0
  have t1 := cell_of_blk htb 1
  have t2 := cell_of_blk htb 2
  have t3 := cell_of_blk htb 3
  simp only [List.getElem?_toArray, List.getElem?_cons_succ, List.getElem?_cons_zero] at t0 t1 t2 t3
  clear hb htb HPV HD17 HB17 HTB17
  go_wp2_with fail
  have m0 := rd_lit (e := 3) i_len w18 [100, 129, 144] #[.int .i64 100, .int .i64 129, .int .i64 144] rfl (by decide)
  have s0 : Below w18.heap.size w18 (w18.alloc (.cells #[.int .i64 100, .int .i64 129, .int .i64 144] 3)) := below_al (below_rf _) _
  have m1 := rd_lit (e := 3) i_len (w18.alloc (.cells #[.int .i64 100, .int .i64 129, .int .i64 144] 3)) [70, 129] #[.int .i64 70, .int .i64 129] rfl (by decide)
  have s1 : Below (w18.alloc (.cells #[.int .i64 100, .int .i64 129, .int .i64 144] 3)).heap.size (w18.alloc (.cells #[.int .i64 100, .int .i64 129, .int .i64 144] 3)) ((w18.alloc (.cells #[.int .i64 100, .int .i64 129, .int .i64 144] 3)).alloc (.cells #[.int .i64 70, .int .i64 129] 3)) := below_al (below_rf _) _
  rw [World.size_alloc] at m1
  have m2 := rd_lit (e := 3) i_len ((w18.alloc (.cells #[.int .i64 100, .int .i64 129, .int .i64 144] 3)).alloc (.cells #[.int .i64 70, .int .i64 129] 3)) [134, 148] #[.int .i64 134, .int .i64 148] rfl (by decide)
  have s2 : Below ((w18.alloc (.cells #[.int .i64 100, .int .i64 129, .int .i64 144] 3)).alloc (.cells #[.int .i64 70, .int .i64 129] 3)).heap.size ((w18.alloc (.cells #[.int .i64 100, .int .i64 129, .int .i64 144] 3)).alloc (.cells #[.int .i64 70, .int .i64 129] 3)) (((w18.alloc (.cells #[.int .i64 100, .int .i64 129, .int .i64 144] 3)).alloc (.cells #[.int .i64 70, .int .i64 129] 3)).alloc (.cells #[.int .i64 134, .int .i64 148] 3)) := below_al (below_rf _) _
  rw [World.size_alloc, World.size_alloc] at m2
  have m3 := rd_lit (e := 3) i_len (((w18.alloc (.cells #[.int .i64 100, .int .i64 129, .int .i64 144] 3)).alloc (.cells #[.int .i64 70, .int .i64 129] 3)).alloc (.cells #[.int .i64 134, .int .i64 148] 3)) [0, -1] #[.int .i64 0, .int .i64 (-1)] rfl (by decide)
  have s3 : Below (((w18.alloc (.cells #[.int .i64 100, .int .i64 129, .int .i64 144] 3)).alloc (.cells #[.int .i64 70, .int .i64 129] 3)).alloc (.cells #[.int .i64 134, .int .i64 148] 3)).heap.size (((w18.alloc (.cells #[.int .i64 100, .int .i64 129, .int .i64 144] 3)).alloc (.cells #[.int .i64 70, .int .i64 129] 3)).alloc (.cells #[.int .i64 134, .int .i64 148] 3)) ((((w18.alloc (.cells #[.int .i64 100, .int .i64 129, .int .i64 144] 3)).alloc (.cells #[.int .i64 70, .int .i64 129] 3)).alloc (.cells #[.int .i64 134, .int .i64 148] 3)).alloc (.cells #[.int .i64 0, .int .i64 (-1)] 3)) := below_al (below_rf _) _
  rw [World.size_alloc, World.size_alloc, World.size_alloc] at m3
  have b1 := below_then s2 s2.size s3
  have b2 := below_then s1 s1.size b1
  have b3 := below_then s0 s0.size b2
  have hB := below_then HB18.out HB18.out.size b3
  have hst := sameTable44 _ _ _ _ _ _ _ _ _ _ _ _ _ _ _ _ _ [100, 129, 144] [70, 129] [134, 148] [0, -1] [100, 129, 144] [70, 129] [134, 148] [0, -1]
    (Rd.below HD18.out.1 b3) (Rd.below HD18.out.2.1 b3) (Rd.below HD18.out.2.2.1 b3) (Rd.below HD18.out.2.2.2 b3) (Rd.below m0 b2) (Rd.below m1 b1) (Rd.below m2 s3) m3
  have HST := Lib.hid hst
  have HBF := Lib.hid hB
  clear m0 m1 m2 m3 s0 s1 s2 s3 b1 b2 b3 hB hst HD18 HB18
  refine HST.out.mono ?_
  rintro e w19 ⟨rfl, hb⟩
  have hfin := below_then HBF.out HBF.out.size hb
  clear hb HST HBF
  rw [show (decide (([100, 129, 144] : List Int) = [100, 129, 144]) && (decide (([70, 129] : List Int) = [70, 129]) && (decide (([134, 148] : List Int) = [134, 148]) && decide (([0, -1] : List Int) = [0, -1])))) = true from rfl]
  have HF := Lib.hid hfin
  clear hfin
  go_wp2_with fail
  go_ret
  exact ⟨rfl, HF.out⟩
end Go.Proofs.Ytpknonebnipcgaa.W
