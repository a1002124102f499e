import Derived.Test.YtpknonebnipcgaaProg
import Derived.WalkKit
import Derived.KernelRfl
import Derived.Deep.LoopGhost
import Derived.Deep.QuietTactic
import Derived.BigQuiet
import Derived.Deep.DeepCutAuto
import Derived.Deep.CutBlock
import Derived.Deep.RegionHeld3
import Derived.WalkLawsBesides
import Derived.WalkSpells
import Derived.Outline
import Derived.Deep.DeepFit
import Derived.Lib.Hide
import Derived.Shelf.Abstract
import Derived.Lib.SliceRun
import Derived.Deep.RegionLaw
import Derived.Maps.AppendAt
import Derived.Test.YtpknonebnipcgaaY
import Derived.Test.YtpknonebnipcgaaQ

namespace Go.Proofs.Ytpknonebnipcgaa.Z
open Go.RowKit Go.Shelf Go.Proofs.Ytpknonebnipcgaa.V Go.Proofs.Ytpknonebnipcgaa.A Go.Proofs.Ytpknonebnipcgaa.B Go.Proofs.Ytpknonebnipcgaa.C Go.Proofs.Ytpknonebnipcgaa.P Go.Proofs.Ytpknonebnipcgaa.D Go.Proofs.Ytpknonebnipcgaa.E Go.Proofs.Ytpknonebnipcgaa.G Go.Proofs.Ytpknonebnipcgaa.K Go.Proofs.Ytpknonebnipcgaa.N Go.Proofs.Ytpknonebnipcgaa.U Go.Proofs.Ytpknonebnipcgaa.W Go.Proofs.Ytpknonebnipcgaa.Y
set_option linter.unusedVariables false
set_option linter.unusedSimpArgs false

/-! ### timetables: the plain laws -/
theorem keepB_out {n : Int} {ls : List T3} {ts : List Int} (h : keepB n ls ts = true) : rightB n ls = true ∧ (ts.length : Int) = n ∧ (∀ x ∈ ts, 0 ≤ x) ∧ gt ts 0 = 0 ∧ Keeps (allOf n ls) ts := by
  unfold keepB at h
  simp only [Bool.and_eq_true, decide_eq_true_eq, Bool.not_eq_true', beq_iff_eq, List.any_eq_false] at h
  obtain ⟨h1, h2, h3, h4, h5⟩ := h
  refine ⟨h1, h2, fun x hx => by have := h3 x hx; omega, h4, fun l hl => ?_⟩
  have := h5 l hl
  simp only [broken, decide_eq_true_eq] at this
  unfold gt
  omega

theorem keepB_mk {n : Int} {ls : List T3} {ts : List Int} (h1 : rightB n ls = true) (h2 : (ts.length : Int) = n) (h3 : ∀ x ∈ ts, 0 ≤ x) (h4 : gt ts 0 = 0) (h5 : Keeps (allOf n ls) ts) : keepB n ls ts = true := by
  unfold keepB
  simp only [Bool.and_eq_true, decide_eq_true_eq, Bool.not_eq_true', beq_iff_eq, List.any_eq_false]
  refine ⟨h1, h2, fun x hx => by have := h3 x hx; omega, h4, fun l hl => ?_⟩
  have := h5 l hl
  simp only [broken, decide_eq_true_eq]
  unfold gt at this
  omega

theorem mem_gt {ts : List Int} {x : Int} (h : x ∈ ts) : ∃ v : Int, 0 ≤ v ∧ v < ts.length ∧ x = gt ts v := by
  obtain ⟨j, hj, rfl⟩ := List.getElem_of_mem h
  refine ⟨(j : Int), by omega, by omega, ?_⟩
  unfold gt
  rw [Int.toNat_natCast, List.getD_eq_getElem?_getD, List.getElem?_eq_getElem hj]
  rfl

theorem pos_all {n : Nat} {ts : List Int} (hl : ts.length = n) (h : ∀ v : Int, 0 ≤ v → v < n → 0 ≤ gt ts v) : ∀ x ∈ ts, 0 ≤ x := fun x hx => by
  obtain ⟨v, h1, h2, rfl⟩ := mem_gt hx
  exact h v h1 (by omega)
theorem all_pos {n : Nat} {ts : List Int} (hl : ts.length = n) (h : ∀ x ∈ ts, 0 ≤ x) : ∀ v : Int, 0 ≤ v → v < n → 0 ≤ gt ts v := fun v h1 h2 => by
  unfold gt
  have hg := getDi (xs := ts) (j := v.toNat) (by omega)
  exact h _ (List.mem_of_getElem? hg)

theorem earl_none {n : Int} {ls : List T3} (h : rightB n ls = true) (hf : 0 ≤ (earl n ls).raised) {y : List Int} : ¬ Keeps (allOf n ls) y := by
  obtain ⟨h1, h2, h3, h4⟩ := right_out h
  rcases push_ends (valid_all h) (by omega) (by rw [all_len]; omega) (List.replicate n.toNat 0) (by simp) with ⟨q1, _⟩ | ⟨_, _, q⟩
  · have e : pushF n.toNat (allOf n ls) (List.replicate n.toNat 0) = earl n ls := rfl
    rw [e] at q1
    omega
  · exact q y

theorem right_sub {n : Int} {ls : List T3} {x : T3} (h : rightB n (ls ++ [x]) = true) : rightB n ls = true := by
  obtain ⟨h1, h2, h3, h4⟩ := right_out h
  rw [List.length_append, List.length_singleton] at h3
  unfold rightB
  simp only [Bool.and_eq_true, inB, decide_eq_true_eq, List.all_eq_true]
  exact ⟨⟨⟨h1, h2⟩, by omega⟩, fun l hl => h4 l (List.mem_append_left _ hl)⟩

theorem keeps_sub {n : Int} {ls : List T3} {x : T3} {y : List Int} (h : Keeps (allOf n (ls ++ [x])) y) : Keeps (allOf n ls) y := fun l hl => h l (by
  unfold allOf at hl ⊢
  rcases List.mem_append.1 hl with h | h
  · exact List.mem_append_left _ (List.mem_append_left _ h)
  · exact List.mem_append_right _ h)

/-- adding a link -/
theorem adds_law {n : Int} {ls : List T3} {x : T3} (h : rightB n (ls ++ [x]) = true) :
    (0 ≤ (earl n ls).raised → 0 ≤ (earl n (ls ++ [x])).raised) ∧
    ((earl n ls).raised < 0 → (earl n (ls ++ [x])).raised < 0 → ∀ i : Nat, i < n.toNat → (earl n ls).ts.getD i 0 ≤ (earl n (ls ++ [x])).ts.getD i 0) ∧
    ((earl n ls).raised < 0 → keepB n (ls ++ [x]) (earl n ls).ts = true → (earl n (ls ++ [x])).raised < 0 ∧ (earl n ls).ts = (earl n (ls ++ [x])).ts) := by
  have hs := right_sub h
  have le : (earl n ls).raised < 0 → (earl n (ls ++ [x])).raised < 0 → ∀ v : Int, 0 ≤ v → v < n.toNat → gt (earl n ls).ts v ≤ gt (earl n (ls ++ [x])).ts v := fun a b => by
    obtain ⟨_, _, _, _, q⟩ := earl_zero hs a
    obtain ⟨_, _, r1, r2, _⟩ := earl_zero h b
    exact q _ (keeps_sub r1) r2
  refine ⟨fun a => ?_, fun a b i hi => ?_, fun a hk => ?_⟩
  · by_cases b : (earl n (ls ++ [x])).raised < 0
    · exact absurd (keeps_sub (earl_zero h b).2.2.1) (earl_none hs a)
    · omega
  · have := le a b (i : Int) (by omega) (by omega)
    unfold gt at this
    simpa using this
  · obtain ⟨_, k2, k3, k4, k5⟩ := keepB_out hk
    have b : (earl n (ls ++ [x])).raised < 0 := by
      by_cases b : (earl n (ls ++ [x])).raised < 0
      · exact b
      · exact absurd k5 (earl_none h (by omega))
    refine ⟨b, ?_⟩
    obtain ⟨l1, _, _, p1, _⟩ := earl_zero hs a
    obtain ⟨l2, _, _, _, q⟩ := earl_zero h b
    have g1 := le a b
    have g2 := q _ k5 p1
    apply List.ext_getElem?
    intro i
    by_cases hi : i < n.toNat
    · have e1 := g1 (i : Int) (by omega) (by omega)
      have e2 := g2 (i : Int) (by omega) (by omega)
      unfold gt at e1 e2
      simp only [Int.toNat_natCast] at e1 e2
      rw [getDi (by omega), getDi (by omega)]
      congr 1
      omega
    · rw [List.getElem?_eq_none (by omega), List.getElem?_eq_none (by omega)]

theorem part_bd {n : Nat} {all : List T3} (hV : Valid n all) {M : Int} {st : St} (h : Bd n M st) : ∀ k : Nat, Bd n (M + 1000000 * (k : Int)) (B.part all k st)
  | 0 => by simpa [B.part] using h
  | k + 1 => by
    have ih := part_bd hV h k
    simp only [B.part]
    split
    · rename_i l hl
      have := relax_bd (i := k) ih (hV l (List.mem_of_getElem? hl))
      rw [show M + 1000000 * ((k + 1 : Nat) : Int) = M + 1000000 * (k : Int) + 1000000 by omega]
      exact this
    · obtain ⟨a, b, c⟩ := ih
      exact ⟨a, b, fun x hx => by have := c x hx; omega⟩
theorem rounds_bd {n : Nat} {all : List T3} (hV : Valid n all) (hal : all.length ≤ 100) : ∀ (m : Nat) {M : Int} {st : St}, Bd n M st → Bd n (M + 100000000 * (m : Int)) (rounds all m st)
  | 0, M, st, h => by simpa [rounds] using h
  | m + 1, M, st, h => by
    have h1 : Bd n M ⟨st.ts, st.by_, -1⟩ := h
    have hp := part_bd hV h1 all.length
    have hr : Bd n (M + 100000000) (B.round all st) := by
      obtain ⟨a, b, c⟩ := hp
      exact ⟨a, b, fun x hx => by have := c x hx; omega⟩
    simp only [rounds]
    split
    · obtain ⟨a, b, c⟩ := hr
      exact ⟨a, b, fun x hx => by have := c x hx; omega⟩
    · have := rounds_bd hV hal m hr
      rw [show M + 100000000 * ((m + 1 : Nat) : Int) = M + 100000000 + 100000000 * (m : Int) by omega]
      exact this
theorem earl_bd {n : Int} {ls : List T3} (h : rightB n ls = true) (hs : Small n ls) : ∀ x ∈ (earl n ls).ts, 0 ≤ x ∧ x ≤ 2100000000 := by
  obtain ⟨h1, h2, h3, h4⟩ := right_out h
  have hs1 := hs.1
  have hs2 := hs.2
  have hal := all_len n ls
  have hb : Bd n.toNat 0 ⟨List.replicate n.toNat 0, List.replicate n.toNat (-1), -1⟩ := ⟨by simp, by simp, fun x hx => by have := List.eq_of_mem_replicate hx; omega⟩
  have := rounds_bd (valid_all h) (by omega) (n.toNat + 1) hb
  intro x hx
  have := this.2.2 x hx
  omega

section
variable {P : Program} {ops : Array Oper} {o : Oper} {a : Act} {w : World} {K : Act → World → Prop} {Q : Exit → Act → World → Prop} {E : Prop}
/-- append(s, x...) as a step of a region that draws: s owned, x whatever reads -/
theorem step_append_any {α : Type} (hg : o.guard = none) (s x : Operand) (t : TypeId) (hop : o.op = Op.call { callee := Callee.builtin Builtin.append, args := #[s, x], argTypes := #[t, t] })
    (base : Nat) (e : TypeId) (z : Value) (size bytes : Nat) (ht : P.underlying t = some (.slice e)) (hinfo : (P.info? e).map (fun i => (i.zero, i.size, i.bytes)) = some (some z, size, bytes)) (hzs : z.cells.size = size) (hsz : 0 < size)
    (v : Value) (n : Nat) (cells : List Value) (hs : a.eval s = v) (hown : w.ownsRow base e size v n cells)
    (enc : α → List Value) (xs : List α) (vx : Value) (hx : a.eval x = vx) (hr : Rd size enc w vx xs) (hk : ∀ x, (enc x).length = size) (h1 : ∀ x, ∀ u ∈ enc x, u.oneCell' = true)
    (h63 : n + xs.length ≤ maxLen) (hbytes : (n + xs.length) * bytes ≤ 140737488355328) (hbase : base ≤ w.heap.size)
    (hK : ∀ v' w', w'.ownsRow base e size v' (n + xs.length) (cells ++ xs.flatMap enc) → w.grownBy w' v.ownBlock → K (a.put o.dst v') w') :
    if Region.wanted o (yielded ops a.tmps) = true then Oper.wp P o a w K Q else E := by
  have hw : Region.wanted o (yielded ops a.tmps) = true := by simp [Region.wanted, hg]
  rw [if_pos hw]
  obtain ⟨i, hi, hz0, hz1, hz2⟩ := info_parts hinfo
  obtain ⟨A, c, rfl, hlc, hcm, hn0⟩ := RdR.form hr
  cases A with
  | some ad =>
    obtain ⟨b, off, spot⟩ := ad
    obtain ⟨v', w', hrun, r1, r2, _⟩ := run_append_own (P := P) w base t o.type e i z size bytes ht hi hz0 hz1 hz2 hzs hsz v n cells hown ⟨b, off, spot⟩ xs.length c (xs.flatMap enc) (flat_len hk xs) (Rd.flat hk hsz hr) (fun u hu => by
      obtain ⟨y, _, hy⟩ := List.mem_flatMap.1 hu
      exact h1 y u hy) h63 hbytes hbase
    unfold Oper.wp
    simp [execOp, hop, resolve, invoke, builtin, hs, hx, hrun, Result.andThen]
    exact hK v' w' r1 r2
  | none =>
    have hnil : xs = [] := by
      cases xs with
      | nil => rfl
      | cons y ys =>
        obtain ⟨b, off, e, _⟩ := Rd.lt hr 0 (by simp)
        cases e
    subst hnil
    obtain rfl := hn0 rfl
    have hrun := run_append_owned_none (P := P) w base t o.type e i size ht hi v n cells hown
    unfold Oper.wp
    simp [execOp, hop, resolve, invoke, builtin, hs, hx, hrun, Result.andThen]
    exact hK v w (by simpa using hown) ⟨rfl, rfl, rfl, Nat.le_refl _, fun _ _ _ => rfl⟩
end

theorem rd_flat3 {w : World} {base : Nat} {v : Value} {xs : List T3} {n : Nat} (h : w.ownsRow base 58 3 v n (xs.flatMap T3.enc)) (hn : n = xs.length) : ∃ A c, v = .slice A xs.length c ∧ RdT w (.slice A xs.length c) xs := by
  subst hn
  obtain ⟨A, c, rfl⟩ := owns_slice h
  exact ⟨A, c, rfl, rd_of_owns t3_len h⟩

set_option maxRecDepth 100000 in
set_option maxHeartbeats 8000000 in
theorem adds9 (n : Int) (A : Option Addr) (c : Nat) (ls : List T3) (x : T3) (w : World) (hr : RdT w (.slice A ls.length c) ls) (hlen : ls.length * 24 ≤ 140737488351232) :
    Calls Try.prog 9 #[.int .i64 n, .slice A ls.length c, .agg #[.int .i64 x.a, .int .i64 x.b, .int .i64 x.c]] w fun e w' => e = .returned (.bool true) ∧ Below w.heap.size w w' := by
  have hll := (RdR.len hr).2
  have HR := Lib.hid hr
  have hL : (ls ++ [x]).length = ls.length + 1 := by simp
  have HL := Lib.hid hL
  clear hr hL
  go_enter Try.func9, Try.ntmps9
  go_upto_region 1 with fail
  have hbx := blk_new w (.cells #[.int .i64 x.a, .int .i64 x.b, .int .i64 x.c] 58)
  have b0 := cell_of_blk hbx 0
  have b1 := cell_of_blk hbx 1
  have b2 := cell_of_blk hbx 2
  simp only [List.getElem?_toArray, List.getElem?_cons_succ, List.getElem?_cons_zero] at b0 b1 b2
  have HBX := Lib.hid hbx
  clear hbx
  have hb : Below w.heap.size w (w.alloc (.cells #[.int .i64 x.a, .int .i64 x.b, .int .i64 x.c] 58)) := below_al (below_rf w) _
  have hsz : (w.alloc (.cells #[.int .i64 x.a, .int .i64 x.b, .int .i64 x.c] 58)).heap.size = w.heap.size + 1 := by simp
  generalize w.alloc (.cells #[.int .i64 x.a, .int .i64 x.b, .int .i64 x.c] 58) = wb at *
  have HB := Lib.hid hb
  have HSZ := Lib.hid hsz
  have hlt : w.heap.size < wb.heap.size := by omega
  have nn : w.heap.size ≠ wb.heap.size := by omega
  clear hb hsz
  go_cut [7] (fun s7 wz => ∃ A7 c7, s7 = .slice A7 (ls.length + 1) c7 ∧ Hid (RdT wz (.slice A7 (ls.length + 1) c7) (ls ++ [x])) ∧ Hid (Below w.heap.size w wz))
  case first =>
    go_region_law (first
      | (
        refine step_append_any rfl (.const (.slice none 0 0)) (.tmp 15) 22 rfl wb.heap.size 58 _ 3 24 Try.underlying22 info58 rfl (by decide) (.slice none 0 0) 0 [] rfl (World.ownsRow_nil _ _ _ _) T3.enc ls (.slice A ls.length c) rfl (Rd.below HR.out (by first | exact below_dr HB.out | exact below_dr (below_al HB.out _))) t3_len t3_one (by unfold maxLen; omega) (by omega) (by simp) ?_
        intro v' w3 hown hgrow
        rw [Nat.zero_add, List.nil_append] at hown
        obtain ⟨A3, c3, rfl⟩ := owns_slice hown
        have hbs := below_of hgrow
        first
          | (have HS3 : wb.heap.size ≤ w3.heap.size := hbs.size
             have HBW : Hid (Below w.heap.size w wb.drew) := Lib.hid (below_dr HB.out)
             have m0 : w3.cell? ⟨w.heap.size, 0, none⟩ = some (.int .i64 x.a) := (hbs.cell (p := ⟨w.heap.size, 0, none⟩) hlt).trans b0
             have m1 : w3.cell? ⟨w.heap.size, 1, none⟩ = some (.int .i64 x.b) := (hbs.cell (p := ⟨w.heap.size, 1, none⟩) hlt).trans b1
             have m2 : w3.cell? ⟨w.heap.size, 2, none⟩ = some (.int .i64 x.c) := (hbs.cell (p := ⟨w.heap.size, 2, none⟩) hlt).trans b2)
          | (have HS3 : wb.heap.size ≤ w3.heap.size := by have h := hbs.size; simp at h; omega
             have HBW : Hid (Below w.heap.size w (wb.alloc (.cells #[.int .i64 x.a, .int .i64 x.b, .int .i64 x.c] 58)).drew) := Lib.hid (below_dr (below_al HB.out _))))
      | (
        refine step_append_any rfl (.tmp 16) (.tmp 18) 22 rfl wb.heap.size 58 _ 3 24 Try.underlying22 info58 rfl (by decide) (.slice A3 ls.length c3) ls.length _ rfl (hown.alloc _) T3.enc [x] (.slice (some ⟨w3.heap.size, 0, none⟩) 1 1) rfl (rd_lit1 (e := 58) t3_len w3 x #[.int .i64 x.a, .int .i64 x.b, .int .i64 x.c] rfl) t3_len t3_one (by unfold maxLen; simp only [List.length_singleton]; omega) (by simp only [List.length_singleton]; omega) (by rw [World.size_alloc]; omega) ?_
        intro v' w4 hown4 hgrow4
        have hb4 : Below w.heap.size w w4 := (below_al (below_then HBW.out HBW.out.size hbs) _).grown hgrow4 (below_al (below_then HBW.out HBW.out.size hbs) _).size (fun k e => by have := (World.ownsRow.lt hown k e).1; omega)
        have HB4 := Lib.hid hb4
        have HO4 := Lib.hid hown4
        clear hown4 hgrow4 hb4)
      | (
        refine step_append_any rfl (.tmp 16) (.tmp 18) 22 rfl wb.heap.size 58 _ 3 24 Try.underlying22 info58 rfl (by decide) (.slice A3 ls.length c3) ls.length _ rfl hown T3.enc [x] (.slice (some ⟨wb.heap.size, 0, none⟩) 1 1) rfl (Rd.below (Rd.below (rd_lit1 (e := 58) t3_len wb x #[.int .i64 x.a, .int .i64 x.b, .int .i64 x.c] rfl) (below_dr (below_rf _))) hbs) t3_len t3_one (by unfold maxLen; simp only [List.length_singleton]; omega) (by simp only [List.length_singleton]; omega) HS3 ?_
        intro v' w4 hown4 hgrow4
        have hb4 : Below w.heap.size w w4 := (below_then HBW.out HBW.out.size hbs).grown hgrow4 (below_then HBW.out HBW.out.size hbs).size (fun k e => by have := (World.ownsRow.lt hown k e).1; omega)
        have HB4 := Lib.hid hb4
        have HO4 := Lib.hid hown4
        clear hown4 hgrow4 hb4))
    all_goals (go_wp2_with fail; go_meet)
    all_goals
      obtain ⟨A7, c7, h7, h8⟩ := rd_flat3 (xs := ls ++ [x]) (by rw [List.flatMap_append]; exact HO4.out) (by simp)
      rw [HL.out] at h7 h8
      exact ⟨A7, c7, h7, Lib.hid h8, HB4⟩
  case rest =>
    obtain ⟨A7, c7, rfl, HAL, HBC⟩ := hcut
    clear b0 b1 b2 HBX HB HSZ hlt nn
    have hnet := net19 n A7 c7 (ls ++ [x]) wc (by rw [HL.out]; exact HAL.out)
    rw [HL.out] at hnet
    have HNET := Lib.hid hnet
    clear hnet
    cases t1 : decide ((12 : Int) < n)
    rotate_left
    · go_wp2_with (go_at_call 17; refine (known17 _).mono ?_; rintro e w' ⟨rfl, hb⟩)
      go_ret
      exact ⟨rfl, below_then HBC.out HBC.out.size hb⟩
    cases t2 : decide ((29 : Int) < (ls.length : Int))
    rotate_left
    · go_wp2_with (go_at_call 17; refine (known17 _).mono ?_; rintro e w' ⟨rfl, hb⟩)
      go_ret
      exact ⟨rfl, below_then HBC.out HBC.out.size hb⟩
    have hn12 := of_decide_eq_false t1
    have hl29 := of_decide_eq_false t2
    obtain ⟨r, hrb⟩ : ∃ r, rightB n (ls ++ [x]) = r := ⟨_, rfl⟩
    rw [hrb] at HNET
    cases r
    · clear hn12 hl29 hrb
      go_wp2_with (first
        | (go_at_call 19; refine HNET.out.mono ?_; rintro e w' ⟨rfl, hb⟩)
        | (go_at_call 17; refine (known17 _).mono ?_; rintro e w'' ⟨rfl, hb2⟩))
      go_ret
      exact ⟨rfl, below_then (below_then HBC.out HBC.out.size hb) (below_then HBC.out HBC.out.size hb).size hb2⟩
    go_wp2_with fail
    refine HNET.out.mono ?_
    rintro e w1 ⟨rfl, hb⟩
    obtain ⟨r1, r2, _, _⟩ := right_out hrb
    obtain ⟨m, rfl⟩ : ∃ m : Nat, n = m := ⟨n.toNat, by omega⟩
    have hrs := right_sub hrb
    obtain ⟨a1, a2, a3⟩ := adds_law hrb
    have hs1 : Small (m : Int) ls := ⟨by omega, by omega⟩
    have hs2 : Small (m : Int) (ls ++ [x]) := ⟨by omega, by rw [HL.out]; omega⟩
    have hB1 := below_then HBC.out HBC.out.size hb
    have HB1 := Lib.hid hB1
    have hA1 := Rd.below HAL.out hb
    have HA1 := Lib.hid hA1
    have hR1 := Rd.below HR.out hB1
    by_cases f1 : (earl (m : Int) ls).raised < 0
    · obtain ⟨z1, _⟩ := earl_zero hrs f1
      have bd1 := earl_bd hrs hs1
      have hE := earliest29_ok (m : Int) A c ls w1 hR1 hrs hs1 f1
      generalize (earl (m : Int) ls).ts = ts at *
      have hts : ts.length = m := by rw [z1]; omega
      have hne1 : (((ts.length : Nat) : Int) != (m : Int)) = false := by simp [hts]
      by_cases f2 : (earl (m : Int) (ls ++ [x])).raised < 0
      · obtain ⟨z2, _⟩ := earl_zero hrb f2
        have hE2 := fun W hb => earliest29_ok (m : Int) A7 c7 (ls ++ [x]) W (by rw [HL.out]; exact Rd.below HA1.out hb) hrb hs2 f2
        generalize (earl (m : Int) (ls ++ [x])).ts = us at *
        rw [HL.out] at hE2
        have hus : us.length = m := by rw [z2]; omega
        have hne2 : (((us.length : Nat) : Int) != (m : Int)) = false := by simp [hus]
        have hle := a2 f1 f2
        have heq := fun hk => (a3 f1 hk).2
        have hK := fun W hb (gt ct : Nat) ht => keeps32 (m : Int) A7 c7 (ls ++ [x]) (some ⟨gt, 0, none⟩) ct ts W (by rw [HL.out]; exact Rd.below HA1.out hb) ht (fun _ => hs2) (fun y hy => by have := bd1 y hy; omega)
        rw [HL.out] at hK
        obtain ⟨kb, hkb⟩ : ∃ kb, keepB (m : Int) (ls ++ [x]) ts = kb := ⟨_, rfl⟩
        rw [hkb] at hK heq
        have HE := Lib.hid hE
        have HE2 := Lib.hid hE2
        have HLE := Lib.hid hle
        have HEQ := Lib.hid heq
        have HK := Lib.hid hK
        have HTS := Lib.hid hts
        have HUS := Lib.hid hus
        clear hE hE2 hle heq hK hts hus z1 z2 bd1 a1 a2 a3 hs1 hs2 hrs hrb hR1 hA1 hB1 hb f1 f2 hkb HNET
        go_wp2_with fail
        refine HE.out.mono ?_
        rintro e w2 ⟨gt1, ct1, rfl, hO, hb⟩
        have HT2 := Lib.hid hO.rd
        have HB12 := Lib.hid hb
        clear hO hb HE
        go_wp2_with fail
        refine (HE2.out w2 HB12.out).mono ?_
        rintro e w3 ⟨gt2, ct2, rfl, hO, hb⟩
        have HT3 := Lib.hid (Rd.below HT2.out hb)
        have HU3 := Lib.hid hO.rd
        have HB13 := Lib.hid (below_then HB12.out HB12.out.size hb)
        clear hO hb HT2 HB12 HE2
        go_wp2_with fail
        have hl1 := (RdR.len HT3.out).2
        have hl2 := (RdR.len HU3.out).2
        go_loopg [14] m (fun gg s14 wr => ∃ k : Nat, k ≤ m ∧ m - k ≤ gg ∧ s14 = .int .i64 k ∧ Hid (Below w3.heap.size w3 wr))
        case atStart => exact ⟨0, Nat.zero_le _, by omega, rfl, Lib.hid (below_rf w3)⟩
        case round =>
          obtain ⟨k, hk, hgg, rfl, HBW⟩ := hrel
          by_cases hlt : k < m
          · have hgt := getDi (xs := ts) (j := k) (by rw [HTS.out]; exact hlt)
            have hgu := getDi (xs := us) (j := k) (by rw [HUS.out]; exact hlt)
            obtain ⟨b, o, e1, hb, hc⟩ := Rd.i HT3.out k _ hgt
            obtain ⟨b', o', e2, hb', hc'⟩ := Rd.i HU3.out k _ hgu
            injection e1 with e1
            injection e1 with e11 e12
            subst e11 e12
            injection e2 with e2
            injection e2 with e21 e22
            subst e21 e22
            replace hc := (HBW.out.cell (p := ⟨gt1, 0 + k, none⟩) hb).trans hc
            replace hc' := (HBW.out.cell (p := ⟨gt2, 0 + k, none⟩) hb').trans hc'
            rw [Nat.zero_add] at hc hc'
            have hle := HLE.out k (by simpa using hlt)
            have hk1 : k < ts.length := by rw [HTS.out]; exact hlt
            have hk2 : k < us.length := by rw [HUS.out]; exact hlt
            generalize ts.getD k 0 = tk at *
            generalize us.getD k 0 = uk at *
            have hd : decide (uk < tk) = false := decide_eq_false (by omega)
            clear hgt hgu hle
            go_wp2_with fail
            go_quiet (fail)
            go_wp2_with fail
            go_roundg (m - (k + 1))
            case measure => omega
            case rel => exact ⟨k + 1, by omega, by omega, by go_num, Lib.hid (below_drewN HBW.out _)⟩
          · obtain rfl : k = m := by omega
            have hB1r := below_then HB13.out HB13.out.size HBW.out
            have HB1r := Lib.hid hB1r
            have HT4 := Lib.hid (Rd.below HT3.out HBW.out)
            have HU4 := Lib.hid (Rd.below HU3.out HBW.out)
            clear hB1r HB13 HBW HT3 HU3 hl1 hl2
            go_wp2_with fail
            refine (HK.out wr HB1r.out gt1 ct1 HT4.out).mono ?_
            rintro e w4 ⟨rfl, hb⟩
            have HT5 := Lib.hid (Rd.below HT4.out hb)
            have HU5 := Lib.hid (Rd.below HU4.out hb)
            have HB4 := Lib.hid (below_then HB1.out HB1.out.size (below_then HB1r.out HB1r.out.size hb))
            clear hb HB1r HT4 HU4 HK
            cases kb
            · go_wp2_with (go_at_call 17; refine (known17 _).mono ?_; rintro e w9 ⟨rfl, hb9⟩)
              go_ret
              exact ⟨rfl, below_then HB4.out HB4.out.size hb9⟩
            · have he := HEQ.out rfl
              have hs := same22 _ _ _ _ _ _ w4 HT5.out HU5.out
              rw [decide_eq_true he] at hs
              have HSA := Lib.hid hs
              clear he hs HT5 HU5
              go_wp2_with fail
              refine HSA.out.mono ?_
              rintro e w5 ⟨rfl, hb⟩
              have HB5 := Lib.hid (below_then HB4.out HB4.out.size hb)
              clear hb HB4 HSA
              go_wp2_with (go_at_call 17; refine (known17 _).mono ?_; rintro e w9 ⟨rfl, hb9⟩)
              go_ret
              exact ⟨rfl, below_then HB5.out HB5.out.size hb9⟩
      · have hE2 := fun W hb => earliest29_none (m : Int) A7 c7 (ls ++ [x]) W (by rw [HL.out]; exact Rd.below HA1.out hb) hrb hs2 (by omega)
        rw [HL.out] at hE2
        have hkf : keepB (m : Int) (ls ++ [x]) ts = false := by
          cases hk : keepB (m : Int) (ls ++ [x]) ts
          · rfl
          · exact absurd (a3 f1 hk).1 f2
        have hK := fun W hb (gt ct : Nat) ht => keeps32 (m : Int) A7 c7 (ls ++ [x]) (some ⟨gt, 0, none⟩) ct ts W (by rw [HL.out]; exact Rd.below HA1.out hb) ht (fun _ => hs2) (fun y hy => by have := bd1 y hy; omega)
        rw [HL.out, hkf] at hK
        have HE := Lib.hid hE
        have HE2 := Lib.hid hE2
        have HK := Lib.hid hK
        clear hE hE2 hK hts z1 bd1 a1 a2 a3 hs1 hs2 hrs hrb hR1 hA1 hB1 hb f1 f2 hkf HNET
        go_wp2_with fail
        refine HE.out.mono ?_
        rintro e w2 ⟨gt1, ct1, rfl, hO, hb⟩
        have HT2 := Lib.hid hO.rd
        have HB12 := Lib.hid hb
        clear hO hb HE
        go_wp2_with fail
        refine (HE2.out w2 HB12.out).mono ?_
        rintro e w3 ⟨gp, cp, pf, rfl, _, _, hb⟩
        have HT3 := Lib.hid (Rd.below HT2.out hb)
        have HB13 := Lib.hid (below_then HB12.out HB12.out.size hb)
        clear hb HT2 HB12 HE2
        go_wp2_with fail
        refine (HK.out w3 HB13.out gt1 ct1 HT3.out).mono ?_
        rintro e w4 ⟨rfl, hb⟩
        have HB4 := Lib.hid (below_then HB1.out HB1.out.size (below_then HB13.out HB13.out.size hb))
        clear hb HB13 HT3 HK
        go_wp2_with (go_at_call 17; refine (known17 _).mono ?_; rintro e w9 ⟨rfl, hb9⟩)
        go_ret
        exact ⟨rfl, below_then HB4.out HB4.out.size hb9⟩
    · have f1' := Int.not_lt.1 f1
      have hE := earliest29_none (m : Int) A c ls w1 hR1 hrs hs1 f1'
      have hE2 := fun W hb => earliest29_none (m : Int) A7 c7 (ls ++ [x]) W (by rw [HL.out]; exact Rd.below HA1.out hb) hrb hs2 (a1 f1')
      rw [HL.out] at hE2
      have HE := Lib.hid hE
      have HE2 := Lib.hid hE2
      clear hE hE2 a1 a2 a3 hs1 hs2 hrs hrb hR1 hA1 hB1 hb f1 f1' HNET
      go_wp2_with fail
      refine HE.out.mono ?_
      rintro e w2 ⟨gp, cp, pf, rfl, _, _, hb⟩
      have HB12 := Lib.hid hb
      clear hb HE
      go_wp2_with fail
      refine (HE2.out w2 HB12.out).mono ?_
      rintro e w3 ⟨gp2, cp2, pf2, rfl, _, _, hb⟩
      have HB4 := Lib.hid (below_then HB1.out HB1.out.size (below_then HB12.out HB12.out.size hb))
      clear hb HB12 HE2
      go_wp2_with (go_at_call 17; refine (known17 _).mono ?_; rintro e w9 ⟨rfl, hb9⟩)
      go_ret
      exact ⟨rfl, below_then HB4.out HB4.out.size hb9⟩
end Go.Proofs.Ytpknonebnipcgaa.Z
