/- The net of the program: slices.Clone, open, push. -/
import Derived.Test.YtpknonebnipcgaaProg
import Derived.WalkKit
import Derived.KernelRfl
import Derived.Deep.LoopGhost
import Derived.Deep.QuietTactic
import Derived.BigQuiet
import Derived.Deep.DeepCutAuto
import Derived.Deep.CutBlock
import Derived.Deep.RegionHeld3
import Derived.WalkLawsBesides
import Derived.WalkSpells
import Derived.Outline
import Derived.Deep.DeepFit
import Derived.Lib.Hide
import Derived.Shelf.Abstract
import Derived.Lib.SliceRun
import Derived.Test.YtpknonebnipcgaaA
namespace Go.Proofs.Ytpknonebnipcgaa.B
open Go.RowKit Go.Shelf Go.Proofs.Ytpknonebnipcgaa.V Go.Proofs.Ytpknonebnipcgaa.A
set_option linter.unusedVariables false
set_option linter.unusedSimpArgs false

theorem info58 : (Try.prog.info? 58).map (fun i => (i.zero, i.size, i.bytes)) = some (some (.agg #[.int .i64 0, .int .i64 0, .int .i64 0]), 3, 24) := by kernel_rfl
theorem info3 : (Try.prog.info? 3).map (fun i => (i.zero, i.size, i.bytes)) = some (some (.int .i64 0), 1, 8) := by kernel_rfl

/-- slices.Clone of links -/
theorem clone94 (A : Option Addr) (c : Nat) (ls : List T3) (w : World) (hr : RdT w (.slice A ls.length c) ls) (hb : ls.length * 24 ≤ 140737488355328) :
    Calls Try.prog 94 #[.slice A ls.length c] w fun e w' => ∃ A' c', e = .returned (.slice A' ls.length c') ∧ w'.ownsRow w.heap.size 58 3 (.slice A' ls.length c') ls.length (ls.flatMap T3.enc) ∧ Below w.heap.size w w' := by
  have q22 : ∀ (w : World) (a : Option Addr) (n c n' c' : Nat), (binOp .eql 22 (.slice a n c) (.slice none n' c')).run Try.prog w = .ok (.bool a.isNone) w := fun w a n c n' c' => Lib.run_eql_slice_nil w _ _ a n c n' c' Try.underlying22
  cases A with
  | none =>
    have hnil : ls = [] := by
      cases ls with
      | nil => rfl
      | cons y ys =>
        obtain ⟨b, off, e, _⟩ := Rd.lt hr 0 (by simp)
        cases e
    subst hnil
    clear hr hb
    go_enter Try.func94, Try.ntmps94
    go_wp2
    go_ret
    exact ⟨_, _, rfl, World.ownsRow_nil _ _ _ _, Below.refl _ _⟩
  | some ad =>
    have HR := Lib.hid hr
    have hm := (RdR.len hr).2.2
    have hlc := (RdR.len hr).2.1
    clear hr
    go_enter Try.func94, Try.ntmps94
    go_wp2_with (at_builtin; refine wp_append_rd _ rfl _ _ 22 rfl w.heap.size 58 _ 3 24 Try.underlying22 info58 rfl (by decide) _ 0 [] rfl (World.ownsRow_made w #[] 0 (Nat.le_refl _) (Nat.zero_le _) (by simp)) T3.enc ls _ rfl ?q1 t3_len t3_one ?q2 ?q3 ?q4 ?_)
    case q1 => exact Rd.below HR.out ((Below.refl _ _).alloc (Nat.le_refl _) _)
    case q2 => unfold maxLen; omega
    case q3 => omega
    case q4 => simp
    intro v' w1 hown hgrow _
    (try simp only [Nat.zero_add, List.nil_append] at hown)
    obtain ⟨A', c', rfl⟩ := owns_slice hown
    go_wp2
    go_ret
    refine ⟨A', c', rfl, hown, ?_⟩
    exact ((Below.refl _ w).alloc (Nat.le_refl _) _).grown hgrow (by simp) (by intro k hk; simp [Value.ownBlock] at hk; omega)

/-- slices.Clone of ints -/
theorem clone76 (A : Option Addr) (c : Nat) (ls : List Int) (w : World) (hr : RdI w (.slice A ls.length c) ls) (hb : ls.length * 8 ≤ 140737488355328) :
    Calls Try.prog 76 #[.slice A ls.length c] w fun e w' => ∃ A' c', e = .returned (.slice A' ls.length c') ∧ w'.ownsRow w.heap.size 3 1 (.slice A' ls.length c') ls.length (ints ls) ∧ Below w.heap.size w w' := by
  have q22 : ∀ (w : World) (a : Option Addr) (n c n' c' : Nat), (binOp .eql 25 (.slice a n c) (.slice none n' c')).run Try.prog w = .ok (.bool a.isNone) w := fun w a n c n' c' => Lib.run_eql_slice_nil w _ _ a n c n' c' Try.underlying25
  cases A with
  | none =>
    have hnil : ls = [] := by
      cases ls with
      | nil => rfl
      | cons y ys =>
        obtain ⟨b, off, e, _⟩ := Rd.lt hr 0 (by simp)
        cases e
    subst hnil
    clear hr hb
    go_enter Try.func76, Try.ntmps76
    go_wp2
    go_ret
    exact ⟨_, _, rfl, World.ownsRow_nil _ _ _ _, Below.refl _ _⟩
  | some ad =>
    have HR := Lib.hid hr
    have hm := (RdR.len hr).2.2
    have hlc := (RdR.len hr).2.1
    clear hr
    rw [← ints_flat]
    go_enter Try.func76, Try.ntmps76
    go_wp2_with (at_builtin; refine wp_append_rd _ rfl _ _ 25 rfl w.heap.size 3 _ 1 8 Try.underlying25 info3 rfl (by decide) _ 0 [] rfl (World.ownsRow_made w #[] 0 (Nat.le_refl _) (Nat.zero_le _) (by simp)) encI ls _ rfl ?q1 i_len i_one ?q2 ?q3 ?q4 ?_)
    case q1 => exact Rd.below HR.out ((Below.refl _ _).alloc (Nat.le_refl _) _)
    case q2 => unfold maxLen; omega
    case q3 => omega
    case q4 => simp
    intro v' w1 hown hgrow _
    (try simp only [Nat.zero_add, List.nil_append] at hown)
    obtain ⟨A', c', rfl⟩ := owns_slice hown
    go_wp2
    go_ret
    refine ⟨A', c', rfl, hown, ?_⟩
    exact ((Below.refl _ w).alloc (Nat.le_refl _) _).grown hgrow (by simp) (by intro k hk; simp [Value.ownBlock] at hk; omega)

/-! ### open -/
def adds (n : Nat) : List T3 := (List.range n).map fun (i : Nat) => (⟨0, Int.ofNat i, 0⟩ : T3)
theorem adds_succ (n : Nat) : adds (n + 1) = adds n ++ [⟨0, Int.ofNat n, 0⟩] := by simp [adds, List.range_succ]
theorem adds_length (n : Nat) : (adds n).length = n := by simp [adds]

/-- a net at block g; its links lie in a block of S -/
def NetAt (w : World) (g : Nat) (n : Int) (all : List T3) (S : Nat → Prop) : Prop := ∃ v, w.heap[g]? = some (.cells #[.int .i64 n, v] 89 (0, 0)) ∧ RdT w v all ∧ v.ownBlock ≠ some g ∧ ∀ q, v.ownBlock = some q → S q ∧ q < w.heap.size
theorem NetAt.grown {w w' : World} {g : Nat} {n : Int} {all : List T3} {S : Nat → Prop} (h : NetAt w g n all S) {row : Option Nat} (hg : w.grownBy w' row) (h1 : some g ≠ row) (h2 : ∀ q, S q → some q ≠ row) : NetAt w' g n all S := by
  obtain ⟨v, h3, h4, h5, h6⟩ := h
  exact ⟨v, blk_grown h3 hg h1, Rd.grown h4 hg (fun q hq => h2 q (h6 q hq).1), h5, fun q hq => ⟨(h6 q hq).1, Nat.lt_of_lt_of_le (h6 q hq).2 hg.size⟩⟩
theorem NetAt.below {w w' : World} {g : Nat} {n : Int} {all : List T3} {S : Nat → Prop} (h : NetAt w g n all S) (hb : Below w.heap.size w w') : NetAt w' g n all S := h.grown (grown_of hb none) (by simp) (fun _ _ => by simp)

set_option maxRecDepth 100000 in
set_option maxHeartbeats 1000000 in
theorem open58 (n : Nat) (A : Option Addr) (c : Nat) (ls : List T3) (w : World) (hr : RdT w (.slice A ls.length c) ls) (hn : n ≤ 500) (hb : ls.length ≤ 10000) :
    Calls Try.prog 58 #[.int .i64 n, .slice A ls.length c] w fun e w' => ∃ g, e = .returned (.pointer (some ⟨g, 0, none⟩)) ∧ NetAt w' g n (ls ++ adds n) (fun q => w.heap.size ≤ q) ∧ w.heap.size ≤ g ∧ g < w'.heap.size ∧ Below w.heap.size w w' := by
  have hcl := clone94 A c ls w hr (by omega)
  have hlc := (RdR.len hr).2
  clear hr
  go_enter Try.func58, Try.ntmps58
  go_wp2_with (go_at_call 94; refine hcl.mono ?_; rintro e w1 ⟨A', c', rfl, hown, hbl⟩)
  have hs1 := hbl.size
  go_loopg [6, 13] n (fun gg s6 s13 wr => ∃ (kk : Nat) (Av : Option Addr) (cv : Nat), kk ≤ n ∧ n - kk ≤ gg ∧ s13 = .int .i64 kk ∧ Hid (wr.heap[w1.heap.size]? = some (.cells #[.int .i64 n, .slice Av (ls.length + kk) cv] 89 (0, 0))) ∧ Hid (wr.ownsRow w.heap.size 58 3 (.slice Av (ls.length + kk) cv) (ls.length + kk) ((ls ++ adds kk).flatMap T3.enc)) ∧ Hid (Below w.heap.size w wr) ∧ w1.heap.size < wr.heap.size)
  case atStart =>
    refine ⟨0, A', c', Nat.zero_le _, by omega, rfl, Lib.hid (blk_new _ _), Lib.hid ?_, Lib.hid (hbl.alloc hs1 _), by simp⟩
    simpa [adds] using hown.alloc _
  case round =>
    obtain ⟨kk, Av, cv, hkk, hg, rfl, HG, HO, HB, hsz⟩ := hrel
    by_cases hlt : kk < n
    · have c0 : wr.cell? ⟨w1.heap.size, 1, none⟩ = some (.slice Av (ls.length + kk) cv) := (cell_of_blk HG.out 1).trans rfl
      have f1 := frozen_of_blk HG.out 1
      go_wp2_with (at_builtin; refine wp_append_one _ rfl _ _ 22 rfl w.heap.size 58 _ 3 24 Try.underlying22 info58 rfl (by decide) _ (ls.length + kk) _ rfl HO.out T3.enc ⟨0, (kk : Int), 0⟩ _ rfl rfl t3_len t3_one ?q2 (by decide) ?q4 ?_)
      case q2 => omega
      case q4 => exact HB.out.size
      intro g2 c2 w2 hown2 hgrow hb2 hl2 _
      have hne := owns_ne_blk HO.out HG.out (by decide)
      have HG2 := Lib.hid (blk_grown HG.out hgrow hne)
      have c3 : w2.cell? ⟨w1.heap.size, 1, none⟩ = some (.slice Av (ls.length + kk) cv) := (cell_of_blk HG2.out 1).trans rfl
      have f3 := frozen_of_blk HG2.out 1
      have hs2 := hgrow.size
      clear c0 f1
      have hne2 : g2 ≠ w1.heap.size := fun e => owns_ne_blk hown2 HG2.out (by decide) (by rw [e]; rfl)
      have HO2 := Lib.hid hown2
      have HGR := Lib.hid hgrow
      clear hown2 hgrow hne
      go_wp2
      go_roundg (n - (kk + 1))
      case measure => omega
      case rel =>
        refine ⟨kk + 1, some ⟨g2, 0, none⟩, c2, by omega, by omega, by go_num, Lib.hid ?_, Lib.hid ?_, Lib.hid ?_, by simp [World.setCell]; omega⟩
        · exact (blk_set HG2.out 1 _).trans rfl
        · have := World.ownsRow.kept HO2.out (grown_set w2 w1.heap.size 1 (.slice (some ⟨g2, 0, none⟩) (ls.length + kk + 1) c2)) (.inr (by simpa [Value.ownBlock] using hne2))
          rw [adds_succ, ← List.append_assoc, List.flatMap_append]
          simpa [List.flatMap_cons, Nat.add_assoc] using this
        · exact ((HB.out.grown HGR.out HB.out.size (by intro k hk; rcases owns_form HO.out with ⟨e, _⟩ | ⟨g, c, e, h1, _⟩ <;> (rw [e] at hk; simp [Value.ownBlock] at hk); omega)).setCell (p := ⟨w1.heap.size, 1, none⟩) hs1 _)
    · obtain rfl : kk = n := by omega
      go_wp2
      go_ret
      refine ⟨_, rfl, ⟨_, HG.out, ?_, ?_, ?_⟩, hs1, hsz, HB.out⟩
      · exact rd_of_owns t3_len (by rw [List.length_append, adds_length]; exact HO.out)
      · exact fun e => owns_ne_blk HO.out HG.out (by decide) e.symm
      · exact World.ownsRow.lt HO.out

/-! ### push -/
structure St where
  ts : List Int
  by_ : List Int
  raised : Int

def relax (st : St) (i : Nat) (l : T3) : St :=
  if st.ts.getD l.b.toNat 0 < st.ts.getD l.a.toNat 0 + l.c then ⟨st.ts.set l.b.toNat (st.ts.getD l.a.toNat 0 + l.c), st.by_.set l.b.toNat i, l.b⟩ else st

/-- the first k links of a round -/
def part (all : List T3) : Nat → St → St
  | 0, st => st
  | k + 1, st => let st' := part all k st; match all[k]? with | some l => relax st' k l | none => st'

theorem part_succ (all : List T3) (k : Nat) (st : St) (x : T3) (h : all[k]? = some x) : part all (k + 1) st = relax (part all k st) k x := by simp only [part]; rw [h]

def round (all : List T3) (st : St) : St := part all all.length ⟨st.ts, st.by_, -1⟩

def rounds (all : List T3) : Nat → St → St
  | 0, st => st
  | k + 1, st => let st' := round all st; if st'.raised < 0 then st' else rounds all k st'

def pushF (n : Nat) (all : List T3) (ts : List Int) : St := rounds all (n + 1) ⟨ts, List.replicate n (-1), -1⟩

def Bd (n : Nat) (M : Int) (st : St) : Prop := st.ts.length = n ∧ st.by_.length = n ∧ ∀ x ∈ st.ts, 0 ≤ x ∧ x ≤ M

theorem okLk_out {n : Int} {l : T3} (h : okLk n l = true) : 0 ≤ l.a ∧ l.a < n ∧ 0 ≤ l.b ∧ l.b < n ∧ -1000000 ≤ l.c ∧ l.c ≤ 1000000 := by
  simp [okLk, inB] at h
  omega

theorem getD_mem {xs : List Int} {j : Nat} (h : j < xs.length) : xs.getD j 0 ∈ xs := by
  rw [List.getD_eq_getElem?_getD, List.getElem?_eq_getElem h]
  exact List.getElem_mem h

theorem getD_get {xs : List Int} {j : Nat} (h : j < xs.length) : xs[j]? = some (xs.getD j 0) := by
  rw [List.getD_eq_getElem?_getD, List.getElem?_eq_getElem h]
  rfl

theorem relax_bd {n : Nat} {M : Int} {st : St} {i : Nat} {l : T3} (h : Bd n M st) (hl : okLk n l = true) : Bd n (M + 1000000) (relax st i l) := by
  obtain ⟨h1, h2, h3⟩ := h
  obtain ⟨a1, a2, b1, b2, c1, c2⟩ := okLk_out hl
  unfold relax
  split
  · rename_i hlt
    refine ⟨by simpa using h1, by simpa using h2, fun x hx => ?_⟩
    rcases List.mem_or_eq_of_mem_set hx with hx | rfl
    · have := h3 x hx; omega
    · have ha := h3 _ (getD_mem (xs := st.ts) (j := l.a.toNat) (by omega))
      have hb := h3 _ (getD_mem (xs := st.ts) (j := l.b.toNat) (by omega))
      omega
  · exact ⟨h1, h2, fun x hx => by have := h3 x hx; omega⟩

set_option maxRecDepth 100000 in
set_option maxHeartbeats 4000000 in
theorem push77 (n : Nat) (all : List T3) (g : Nat) (w : World) (S : Nat → Prop) (hN : NetAt w g n all S) (base gt cap : Nat) (hS : ∀ q, S q → q ≠ gt) (ts : List Int) (hO : Own w base gt cap ts)
    (h1 : 1 ≤ n) (h2 : n ≤ 20) (h3 : all.length ≤ 100) (hl : ∀ l ∈ all, okLk n l = true) (htl : ts.length = n) (hts : ∀ x ∈ ts, 0 ≤ x ∧ x ≤ 1000000000) :
    Calls Try.prog 77 #[.pointer (some ⟨g, 0, none⟩), .slice (some ⟨gt, 0, none⟩) n cap] w fun e w' => ∃ gb cb, e = .returned (.tuple #[.slice (some ⟨gb, 0, none⟩) n cb, .int .i64 (pushF n all ts).raised]) ∧
      Own w' base gt cap (pushF n all ts).ts ∧ Own w' w.heap.size gb cb (pushF n all ts).by_ ∧ w.grownBy w' (some gt) := by
  obtain ⟨v, hG, hR, hvg, hvS⟩ := hN
  obtain ⟨Av, cv, rfl, hlc, hcm, hn0⟩ := RdR.form hR
  have c0 : w.cell? ⟨g, 0, none⟩ = some (.int .i64 n) := (cell_of_blk hG 0).trans rfl
  have HG := Lib.hid hG
  have HR := Lib.hid hR
  have HO := Lib.hid hO
  have HL := Lib.hid hl
  have HT := Lib.hid hts
  have HTL := Lib.hid htl
  clear hG hR hO hl hts htl
  go_enter Try.func77, Try.ntmps77
  go_wp2_with fail
  go_step3
  go_wp2_with (at_make; refine wp_make_ints _ rfl _ _ 25 rfl w.heap.size Try.underlying25 info3 n rfl rfl ?q1 ?q2 ?_)
  case q1 => omega
  case q2 => exact Nat.le_refl _
  intro w1 HO1' HG1'
  have HO1 := Lib.hid HO1'
  have HG1 := Lib.hid HG1'
  clear HO1' HG1'
  go_wp2
  go_loopg [7, 19] n (fun gg s7 s19 wr => ∃ kk : Nat, kk ≤ n ∧ n - kk ≤ gg ∧ s19 = .int .i64 kk ∧ Hid (Own wr w.heap.size w.heap.size n (List.replicate kk (-1) ++ List.replicate (n - kk) 0)) ∧ Hid (w.grownBy wr none))
  case atStart => exact ⟨0, Nat.zero_le _, by omega, rfl, Lib.hid (by simpa using HO1.out), HG1⟩
  case round =>
    obtain ⟨kk, hkk, hg, rfl, HO2, HG2⟩ := hrel
    by_cases hlt : kk < n
    · have ⟨c1, f1⟩ := Own.at HO2.out (j := kk) (x := 0) (by rw [List.getElem?_append_right (by simp), List.length_replicate, Nat.sub_self, List.getElem?_replicate, if_pos (by omega)])
      go_wp2
      go_roundg (n - (kk + 1))
      case measure => omega
      case rel =>
        refine ⟨kk + 1, by omega, by omega, by go_num, Lib.hid ?_, Lib.hid ?_⟩
        · have := Own.set HO2.out kk (-1)
          rw [List.set_append_right _ _ (by simp), List.length_replicate, Nat.sub_self, show n - kk = (n - (kk + 1)) + 1 by omega, List.replicate_succ, List.set_cons_zero] at this
          rw [List.replicate_succ', List.append_assoc]
          exact this
        · exact ⟨HG2.out.os, HG2.out.tape, HG2.out.output, by simp [World.setCell]; exact HG2.out.size, fun k hk _ => (Below.heap_setCell wr _ _ _ (by simp; omega)).trans (HG2.out.block k hk (by simp))⟩
    · obtain rfl : n = kk := by omega
      have HO3 : Hid (Own wr w.heap.size w.heap.size n (List.replicate n (-1))) := Lib.hid (by simpa using HO2.out)
      have HOT := Lib.hid (HO.out.kept HG2.out (by simp))
      have hgt : gt < w.heap.size := by obtain ⟨_, _, h, _⟩ := HO.out.blk; exact h
      clear HO2
      have cn : wr.cell? ⟨g, 0, none⟩ = some (.int .i64 n) := (cell_of_blk (blk_grown HG.out HG2.out (by simp)) 0).trans rfl
      clear c0 hlt hkk hg
      go_wp2_with fail
      go_step3
      go_wp2_with fail
      go_loopg [8, 31] (n + 1) (fun gg s8 s31 wr => ∃ (r : Nat) (st : St), r ≤ n + 1 ∧ n + 1 - r ≤ gg ∧ s31 = .int .i64 r ∧ s8 = .int .i64 st.raised ∧ Hid (rounds all (n + 1 - r) st = pushF n all ts) ∧ Hid (Bd n (1000000000 + 100000000 * r) st) ∧ Hid (Own wr base gt cap st.ts) ∧ Hid (Own wr w.heap.size w.heap.size n st.by_) ∧ Hid (w.grownBy wr (some gt)))
      case atStart =>
        refine ⟨0, ⟨ts, List.replicate n (-1), -1⟩, Nat.zero_le _, by omega, rfl, rfl, Lib.hid rfl, Lib.hid ⟨HTL.out, by simp, fun x hx => ?_⟩, HOT, HO3, Lib.hid ⟨HG2.out.os, HG2.out.tape, HG2.out.output, HG2.out.size, fun k hk _ => HG2.out.block k hk (by simp)⟩⟩
        have := HT.out x hx
        simp; omega
      case round =>
        obtain ⟨wo, rfl⟩ : ∃ wo : World, wo = wr := ⟨_, rfl⟩
        obtain ⟨r, st, hr, hg, rfl, rfl, HF, HBD, HO4, HO5, HG4⟩ := hrel
        clear cn HOT HO3 HG2
        by_cases hlt : r < n + 1
        · have hgg : some g ≠ some gt := fun e => by
            have e : g = gt := by simpa using e
            subst e
            obtain ⟨_, _, _, h, _⟩ := HO.out.blk
            exact blk_ne HG.out h (by decide) rfl
          have hbw : gt ≠ w.heap.size := by omega
          have hrt : decide ((r : Int) < (n : Int) + 1) = true := decide_eq_true (by omega)
          have cl : wo.cell? ⟨g, 1, none⟩ = some (.slice Av all.length cv) := (cell_of_blk (blk_grown HG.out HG4.out hgg) 1).trans rfl
          go_wp2_with fail
          go_loopg [8, 9, 10, 11, 38] (all.length) (fun gg s8 s9 s10 s11 s38 wq => ∃ kk : Nat, kk ≤ all.length ∧ all.length - kk ≤ gg ∧ s38 = .int .i64 kk ∧ s8 = .int .i64 (part all kk ⟨st.ts, st.by_, -1⟩).raised ∧ Hid (Bd n (1000000000 + 100000000 * r + 1000000 * kk) (part all kk ⟨st.ts, st.by_, -1⟩)) ∧ Hid (Own wq base gt cap (part all kk ⟨st.ts, st.by_, -1⟩).ts) ∧ Hid (Own wq w.heap.size w.heap.size n (part all kk ⟨st.ts, st.by_, -1⟩).by_) ∧ Hid (w.grownBy wq (some gt)))
          case atStart => exact ⟨0, Nat.zero_le _, by omega, rfl, rfl, Lib.hid (by have := HBD.out; simpa [part, Bd] using this), HO4, HO5, HG4⟩
          case round =>
            obtain ⟨wp, rfl⟩ : ∃ wp : World, wp = wr := ⟨_, rfl⟩
            obtain ⟨kk, hkk, hg', rfl, rfl, HB6, HO6, HO7, HG6⟩ := hrel
            clear cl
            by_cases hlt2 : kk < all.length
            · have hx : all[kk]? = some all[kk] := List.getElem?_eq_getElem hlt2
              have hok := HL.out _ (List.getElem_mem hlt2)
              have hstep : part all (kk + 1) ⟨st.ts, st.by_, -1⟩ = relax (part all kk ⟨st.ts, st.by_, -1⟩) kk all[kk] := by simp only [part]; rw [hx]
              generalize all[kk] = x at hx hok hstep
              have HST := Lib.hid hstep
              have HX := Lib.hid hx
              clear hstep
              obtain ⟨a1, a2, b1, b2, c1, c2⟩ := okLk_out hok
              have HOK := Lib.hid hok
              clear hok
              obtain ⟨b, off, rfl, hb, h0, h1', h2'⟩ := Rd.t3 HR.out kk x hx
              have hbg : some b ≠ some gt := fun e => hS b (hvS b rfl).1 (by simpa using e)
              have hlen := HB6.out.1
              generalize hP : part all kk ⟨st.ts, st.by_, -1⟩ = P at *
              obtain ⟨pt, pb, pr⟩ := P
              have HP := Lib.hid hP
              clear hP
              simp only at HO6 HO7 hlen HST
              have hpbl := HB6.out.2.1
              simp only at hpbl
              have hga := getD_get (xs := pt) (j := x.a.toNat) (by omega)
              have hgb := getD_get (xs := pt) (j := x.b.toNat) (by omega)
              have hba := HB6.out.2.2 _ (getD_mem (xs := pt) (j := x.a.toNat) (by omega))
              have hbb := HB6.out.2.2 _ (getD_mem (xs := pt) (j := x.b.toNat) (by omega))
              have hgc := getD_get (xs := pb) (j := x.b.toNat) (by omega)
              simp only [relax] at HST
              generalize pt.getD x.a.toNat 0 = va at hga hba HST
              generalize pt.getD x.b.toNat 0 = vb at hgb hbb HST
              have ⟨ca, fa⟩ := Own.at HO6.out hga
              have ⟨cb, fb⟩ := Own.at HO6.out hgb
              have ⟨cc, fc⟩ := Own.at HO7.out hgc
              have l0 := (World.cell?_of_block (w := w) (a := ⟨b, off + kk * 3, none⟩) (HG6.out.block b hb hbg)).trans h0
              have l1 := (World.cell?_of_block (w := w) (a := ⟨b, off + kk * 3 + 1, none⟩) (HG6.out.block b hb hbg)).trans h1'
              have l2 := (World.cell?_of_block (w := w) (a := ⟨b, off + kk * 3 + 2, none⟩) (HG6.out.block b hb hbg)).trans h2'
              have hgq : gt < wp.heap.size := Nat.lt_of_lt_of_le hgt HG6.out.size
              have hbq : w.heap.size < wp.heap.size := by obtain ⟨_, _, h, _⟩ := HO7.out.blk; exact h
              have hbb2 : b < wp.heap.size := Nat.lt_of_lt_of_le hb HG6.out.size
              obtain ⟨ba1, ba2⟩ := hba
              obtain ⟨bb1, bb2⟩ := hbb
              clear h0 h1' h2' hga hgb hgc hx
              have hu := Try.underlying58
              by_cases hlt3 : vb < va + x.c
              · rw [if_pos hlt3] at HST
                go_wp2_with fail
                go_quiet (fail)
                go_wp2_with fail
                go_region
                go_wp2
                go_roundg (all.length - (kk + 1))
                case measure => omega
                case rel =>
                  refine ⟨kk + 1, by omega, by omega, by go_num, by rw [HST.out], Lib.hid ?_, Lib.hid ?_, Lib.hid ?_, Lib.hid ?_⟩
                  · have := relax_bd (i := kk) HB6.out HOK.out
                    rw [← HP.out] at this
                    rw [← part_succ _ _ _ _ HX.out] at this
                    have e : (1000000000 + 100000000 * (r : Int) + 1000000 * ((kk + 1 : Nat) : Int)) = 1000000000 + 100000000 * (r : Int) + 1000000 * (kk : Int) + 1000000 := by omega
                    rw [e]; exact this
                  · rw [HST.out]
                    exact (((HO6.out.alloc _).drewN _).set _ _).other hbw _
                  · rw [HST.out]
                    exact (((HO7.out.alloc _).drewN _).other (Ne.symm hbw) _).set _ _
                  · exact gb_set (gb_set (gb_drewN (gb_alloc HG6.out _) _) _ (.inl rfl) _) _ (.inr (Nat.le_refl _)) _
              · rw [if_neg hlt3] at HST
                go_wp2_with fail
                go_quiet (fail)
                go_wp2
                go_roundg (all.length - (kk + 1))
                case measure => omega
                case rel =>
                  refine ⟨kk + 1, by omega, by omega, by go_num, by rw [HST.out], Lib.hid ?_, Lib.hid ?_, Lib.hid ?_, Lib.hid ?_⟩
                  · have := relax_bd (i := kk) HB6.out HOK.out
                    rw [← HP.out] at this
                    rw [← part_succ _ _ _ _ HX.out] at this
                    have e : (1000000000 + 100000000 * (r : Int) + 1000000 * ((kk + 1 : Nat) : Int)) = 1000000000 + 100000000 * (r : Int) + 1000000 * (kk : Int) + 1000000 := by omega
                    rw [e]; exact this
                  · rw [HST.out]
                    exact ((HO6.out.alloc _).drewN _)
                  · rw [HST.out]
                    exact ((HO7.out.alloc _).drewN _)
                  · exact (gb_drewN (gb_alloc HG6.out _) _)
            · obtain rfl : kk = all.length := by omega
              have hrd : round all st = part all all.length ⟨st.ts, st.by_, -1⟩ := rfl
              have hF := HF.out
              rw [show n + 1 - r = (n - r) + 1 by omega] at hF
              simp only [rounds] at hF
              rw [hrd] at hF
              generalize hP : part all all.length ⟨st.ts, st.by_, -1⟩ = P at *
              have HP := Lib.hid hP
              clear hP
              by_cases hng : P.raised < 0
              · rw [if_pos hng] at hF
                have HF2 := Lib.hid hF
                clear hF hrd
                go_wp2
                rw [Exit.noGoto_ret]
                go_ret2
                rw [← HF2.out]
                exact ⟨_, _, rfl, HO6.out, HO7.out, HG6.out⟩
              · rw [if_neg hng] at hF
                have HF2 := Lib.hid hF
                clear hF hrd
                go_wp2
                go_roundg (n + 1 - (r + 1))
                case measure => omega
                case rel =>
                  refine ⟨r + 1, P, by omega, by omega, by go_num, rfl, Lib.hid ?_, Lib.hid ?_, HO6, HO7, HG6⟩
                  · rw [show n + 1 - (r + 1) = n - r by omega]; exact HF2.out
                  · obtain ⟨q1, q2, q3⟩ := HB6.out
                    exact ⟨q1, q2, fun x hx => by have := q3 x hx; omega⟩
        · obtain rfl : r = n + 1 := by omega
          have hF := HF.out
          rw [Nat.sub_self] at hF
          simp only [rounds] at hF
          have HF2 := Lib.hid hF
          clear hF
          go_wp2
          rw [Exit.noGoto_ret]
          go_ret2
          rw [← HF2.out]
          exact ⟨_, _, rfl, HO4.out, HO5.out, HG4.out⟩
end Go.Proofs.Ytpknonebnipcgaa.B
