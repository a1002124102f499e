/- The net of the program: Earliest in its three cases; latest. -/
import Derived.Test.YtpknonebnipcgaaProg
import Derived.WalkKit
import Derived.KernelRfl
import Derived.Deep.LoopGhost
import Derived.Deep.QuietTactic
import Derived.BigQuiet
import Derived.Deep.DeepCutAuto
import Derived.Deep.CutBlock
import Derived.Deep.RegionHeld3
import Derived.WalkLawsBesides
import Derived.WalkSpells
import Derived.Outline
import Derived.Deep.DeepFit
import Derived.Lib.Hide
import Derived.Shelf.Abstract
import Derived.Lib.SliceRun
import Derived.Test.YtpknonebnipcgaaP
namespace Go.Proofs.Ytpknonebnipcgaa.D
open Go.RowKit Go.Shelf Go.Proofs.Ytpknonebnipcgaa.V Go.Proofs.Ytpknonebnipcgaa.A Go.Proofs.Ytpknonebnipcgaa.B Go.Proofs.Ytpknonebnipcgaa.C Go.Proofs.Ytpknonebnipcgaa.P
set_option linter.unusedVariables false
set_option linter.unusedSimpArgs false

/-- all links of a net -/
def allOf (n : Int) (ls : List T3) : List T3 := ls ++ adds n.toNat
/-- what pushing from the beginning comes to -/
def earl (n : Int) (ls : List T3) : St := pushF n.toNat (allOf n ls) (List.replicate n.toNat 0)

theorem right_out {n : Int} {ls : List T3} (h : rightB n ls = true) : 1 ≤ n ∧ n ≤ 500 ∧ ls.length ≤ 5000 ∧ ∀ l ∈ ls, okLk n l = true := by
  unfold rightB at h
  simp only [Bool.and_eq_true, decide_eq_true_eq, List.all_eq_true] at h
  obtain ⟨⟨h1, h2⟩, h3⟩ := h
  simp [inB] at h1
  exact ⟨h1.1, h1.2, h2, h3⟩

theorem valid_all {n : Int} {ls : List T3} (h : rightB n ls = true) : Valid n.toNat (allOf n ls) := by
  obtain ⟨h1, h2, h3, h4⟩ := right_out h
  have e : ((n.toNat : Nat) : Int) = n := Int.toNat_of_nonneg (by omega)
  intro l hl
  rw [e]
  unfold allOf at hl
  rcases List.mem_append.1 hl with hl | hl
  · exact h4 l hl
  · simp only [adds, List.mem_map, List.mem_range] at hl
    obtain ⟨i, hi, rfl⟩ := hl
    simp [okLk, inB]
    omega

theorem all_len (n : Int) (ls : List T3) : (allOf n ls).length = ls.length + n.toNat := by simp [allOf, adds_length]

def Small (n : Int) (ls : List T3) : Prop := n ≤ 20 ∧ ls.length ≤ 80

section
variable (n : Int) (A : Option Addr) (c : Nat) (ls : List T3) (w : World) (hr : RdT w (.slice A ls.length c) ls)
include hr

theorem earliest29_arg (h : rightB n ls = false) : Calls Try.prog 29 #[.int .i64 n, .slice A ls.length c] w fun e w' => e = .returned (.tuple #[.slice none 0 0, .slice none 0 0, .int .i64 2]) ∧ Below w.heap.size w w' := by
  have hc := right56 n A c ls w hr
  rw [h] at hc
  clear hr h
  go_enter Try.func29, Try.ntmps29
  go_wp2_with (go_at_call 56; refine hc.mono ?_; rintro e w1 ⟨rfl, hb⟩)
  go_ret3
  exact ⟨rfl, hb⟩

theorem earliest29_ok (h : rightB n ls = true) (hs : Small n ls) (hf : (earl n ls).raised < 0) : Calls Try.prog 29 #[.int .i64 n, .slice A ls.length c] w fun e w' =>
    ∃ gt ct, e = .returned (.tuple #[.slice (some ⟨gt, 0, none⟩) (earl n ls).ts.length ct, .slice none 0 0, .int .i64 0]) ∧ Own w' w.heap.size gt ct (earl n ls).ts ∧ Below w.heap.size w w' := by
  obtain ⟨h1, h2, h3, h4⟩ := right_out h
  have hV := valid_all h
  have hlen : (earl n ls).ts.length = n.toNat := rounds_len _ (by simp)
  have hc := right56 n A c ls w hr
  rw [h] at hc
  have hal := all_len n ls
  obtain ⟨m, rfl⟩ : ∃ m : Nat, n = m := ⟨n.toNat, by omega⟩
  simp only [Int.toNat_natCast] at hlen hV hal
  have q25 : ∀ (w : World) (a : Option Addr) (n c n' c' : Nat), (binOp .eql 25 (.slice a n c) (.slice none n' c')).run Try.prog w = .ok (.bool a.isNone) w := fun w a n c n' c' => Lib.run_eql_slice_nil w _ _ a n c n' c' Try.underlying25
  have hop : ∀ W, Below w.heap.size w W → Calls Try.prog 58 #[.int .i64 m, .slice A ls.length c] W fun e w' => ∃ g, e = .returned (.pointer (some ⟨g, 0, none⟩)) ∧ NetAt w' g m (ls ++ adds m) (fun q => W.heap.size ≤ q) ∧ W.heap.size ≤ g ∧ g < w'.heap.size ∧ Below W.heap.size W w' := fun W hb =>
    open58 m A c ls W (Rd.below hr hb) (by omega) (by omega)
  have hea : ∀ W g, NetAt W g m (ls ++ adds m) (fun q => q < W.heap.size) → Calls Try.prog 59 #[.pointer (some ⟨g, 0, none⟩)] W fun e w' => ∃ gt ct, e = .returned (.tuple #[.slice (some ⟨gt, 0, none⟩) m ct, .slice none 0 0]) ∧ Own w' W.heap.size gt ct (earl m ls).ts ∧ Below W.heap.size W w' := fun W g hN => by
    have := earliest59 m (ls ++ adds m) g _ W hN (fun q hq => hq) (by omega) (by have := hs.1; omega) (by have := hs.2; have := hs.1; simp [adds_length]; omega) hV (earl m ls) rfl hf
    exact this
  rw [hlen]
  have HOP := Lib.hid hop
  have HEA := Lib.hid hea
  have HLEN := Lib.hid hlen
  clear hr h h4 hV hf hlen hal hop hea
  go_enter Try.func29, Try.ntmps29
  go_wp2_with fail
  refine hc.mono ?_
  rintro e w1 ⟨rfl, hb⟩
  go_wp2_with fail
  refine (HOP.out w1 hb).mono ?_
  rintro e w2 ⟨g, rfl, hN, hg1, hg2, hb2⟩
  have hN2 : NetAt w2 g m (ls ++ adds m) (fun q => q < w2.heap.size) := by
    obtain ⟨v, a1, a2, a3, a4⟩ := hN
    exact ⟨v, a1, a2, a3, fun q hq => ⟨(a4 q hq).2, (a4 q hq).2⟩⟩
  have HN := Lib.hid hN2
  clear hN hN2
  go_wp2_with fail
  refine (HEA.out w2 g HN.out).mono ?_
  rintro e w3 ⟨gt, ct, rfl, hO, hb3⟩
  go_wp2
  go_ret3
  have hB : Below w.heap.size w w3 := below_then (below_then hb hb.size hb2) (Nat.le_trans hb.size hb2.size) hb3
  refine ⟨gt, ct, rfl, ?_, hB⟩
  rcases hO.2 with ⟨e, _⟩ | ⟨g1, c1, cur, e1, e2, e3⟩
  · cases e
  · exact ⟨hO.1, .inr ⟨g1, c1, cur, e1, Nat.le_trans (Nat.le_trans hb.size hb2.size) e2, e3⟩⟩
theorem earliest29_none (h : rightB n ls = true) (hs : Small n ls) (hf : 0 ≤ (earl n ls).raised) : Calls Try.prog 29 #[.int .i64 n, .slice A ls.length c] w fun e w' =>
    ∃ gp cp p, e = .returned (.tuple #[.slice none 0 0, .slice (some ⟨gp, 0, none⟩) p.length cp, .int .i64 5]) ∧ Own w' w.heap.size gp cp p ∧ ProofOk n.toNat (allOf n ls) p ∧ Below w.heap.size w w' := by
  obtain ⟨h1, h2, h3, h4⟩ := right_out h
  have hV := valid_all h
  have hc := right56 n A c ls w hr
  rw [h] at hc
  have hal := all_len n ls
  obtain ⟨m, rfl⟩ : ∃ m : Nat, n = m := ⟨n.toNat, by omega⟩
  simp only [Int.toNat_natCast] at hV hal ⊢
  have q25 : ∀ (w : World) (a : Option Addr) (n c n' c' : Nat), (binOp .eql 25 (.slice a n c) (.slice none n' c')).run Try.prog w = .ok (.bool a.isNone) w := fun w a n c n' c' => Lib.run_eql_slice_nil w _ _ a n c n' c' Try.underlying25
  have hop : ∀ W, Below w.heap.size w W → Calls Try.prog 58 #[.int .i64 m, .slice A ls.length c] W fun e w' => ∃ g, e = .returned (.pointer (some ⟨g, 0, none⟩)) ∧ NetAt w' g m (ls ++ adds m) (fun q => W.heap.size ≤ q) ∧ W.heap.size ≤ g ∧ g < w'.heap.size ∧ Below W.heap.size W w' := fun W hb =>
    open58 m A c ls W (Rd.below hr hb) (by omega) (by omega)
  have hea : ∀ W g, NetAt W g m (ls ++ adds m) (fun q => q < W.heap.size) → Calls Try.prog 59 #[.pointer (some ⟨g, 0, none⟩)] W fun e w' => ∃ gp cp p, e = .returned (.tuple #[.slice none 0 0, .slice (some ⟨gp, 0, none⟩) p.length cp]) ∧ Own w' W.heap.size gp cp p ∧ ProofOk m (allOf m ls) p ∧ Below W.heap.size W w' := fun W g hN => by
    obtain ⟨p1, p2, p3, p4, p5⟩ := push_cyc hV (by omega) (by omega) (List.replicate m 0) (by simp) (earl m ls) rfl hf
    have := earliest59c m (ls ++ adds m) g _ W hN (fun q hq => hq) (by omega) (by have := hs.1; omega) (by have := hs.2; have := hs.1; simp [adds_length]; omega) hV (earl m ls) rfl ⟨hf, p1⟩ p2 p3 p4
    refine this.mono ?_
    rintro e w' ⟨gp, cp, k, rfl, k1, k2, k3, hO, hb⟩
    refine ⟨gp, cp, _, ?_, hO, p5 k k1 k2 k3, hb⟩
    simp
  have HOP := Lib.hid hop
  have HEA := Lib.hid hea
  clear hr h h4 hV hf hal hop hea
  go_enter Try.func29, Try.ntmps29
  go_wp2_with fail
  refine hc.mono ?_
  rintro e w1 ⟨rfl, hb⟩
  go_wp2_with fail
  refine (HOP.out w1 hb).mono ?_
  rintro e w2 ⟨g, rfl, hN, hg1, hg2, hb2⟩
  have hN2 : NetAt w2 g m (ls ++ adds m) (fun q => q < w2.heap.size) := by
    obtain ⟨v, a1, a2, a3, a4⟩ := hN
    exact ⟨v, a1, a2, a3, fun q hq => ⟨(a4 q hq).2, (a4 q hq).2⟩⟩
  have HN := Lib.hid hN2
  clear hN hN2
  go_wp2_with fail
  refine (HEA.out w2 g HN.out).mono ?_
  rintro e w3 ⟨gp, cp, p, rfl, hO, hP, hb3⟩
  go_wp2
  go_ret3
  have hB : Below w.heap.size w w3 := below_then (below_then hb hb.size hb2) (Nat.le_trans hb.size hb2.size) hb3
  refine ⟨gp, cp, p, rfl, ?_, hP, hB⟩
  rcases hO.2 with ⟨e, _⟩ | ⟨g1, c1, cur, e1, e2, e3⟩
  · cases e
  · exact ⟨hO.1, .inr ⟨g1, c1, cur, e1, Nat.le_trans (Nat.le_trans hb.size hb2.size) e2, e3⟩⟩
end

/-! ### latest -/
structure Lo where
  xs : List Int
  ch : Bool

def lower (s : Lo) (l : T3) : Lo := if s.xs.getD l.b.toNat 0 - l.c < s.xs.getD l.a.toNat 0 then ⟨s.xs.set l.a.toNat (s.xs.getD l.b.toNat 0 - l.c), true⟩ else s
def partL (all : List T3) : Nat → Lo → Lo
  | 0, s => s
  | k + 1, s => match all[k]? with | some l => lower (partL all k s) l | none => partL all k s
theorem partL_succ (all : List T3) (k : Nat) (s : Lo) (x : T3) (h : all[k]? = some x) : partL all (k + 1) s = lower (partL all k s) x := by simp only [partL]; rw [h]
def roundL (all : List T3) (xs : List Int) : Lo := partL all all.length ⟨xs, false⟩
def iterL (all : List T3) : Nat → List Int → List Int
  | 0, xs => xs
  | r + 1, xs => (roundL all (iterL all r xs)).xs
def startL (n : Nat) (last : Int) : List Int := (List.replicate n last).set 0 0

theorem lower_len {n : Nat} {s : Lo} {l : T3} (h : s.xs.length = n) : (lower s l).xs.length = n := by unfold lower; split <;> simpa using h
theorem partL_len {n : Nat} {all : List T3} {s : Lo} (h : s.xs.length = n) : ∀ k, (partL all k s).xs.length = n
  | 0 => h
  | k + 1 => by
    simp only [partL]
    split
    · exact lower_len (partL_len h k)
    · exact partL_len h k
theorem iterL_len {n : Nat} {all : List T3} {xs : List Int} (h : xs.length = n) : ∀ r, (iterL all r xs).length = n
  | 0 => h
  | r + 1 => partL_len (s := ⟨_, false⟩) (iterL_len h r) _
theorem startL_len (n : Nat) (last : Int) : (startL n last).length = n := by simp [startL]

theorem partL_same {all : List T3} {xs : List Int} : ∀ k, (partL all k ⟨xs, false⟩).ch = false → partL all k ⟨xs, false⟩ = ⟨xs, false⟩ ∧ ∀ j l, j < k → all[j]? = some l → xs.getD l.a.toNat 0 ≤ xs.getD l.b.toNat 0 - l.c
  | 0, _ => ⟨rfl, fun j l h => absurd h (Nat.not_lt_zero _)⟩
  | k + 1, h => by
    simp only [partL] at h ⊢
    split at h
    · rename_i l he
      unfold lower at h ⊢
      split at h
      · cases h
      · rename_i hn
        obtain ⟨h1, h2⟩ := partL_same k h
        rw [h1] at hn ⊢
        simp only at hn ⊢
        rw [if_neg hn]
        refine ⟨rfl, fun j l' hj hl => ?_⟩
        by_cases e : j = k
        · subst e
          rw [he] at hl
          cases hl
          omega
        · exact h2 j l' (by omega) hl
    · rename_i he
      obtain ⟨h1, h2⟩ := partL_same k h
      refine ⟨h1, fun j l' hj hl => ?_⟩
      by_cases e : j = k
      · subst e
        rw [he] at hl
        cases hl
      · exact h2 j l' (by omega) hl

theorem roundL_same {all : List T3} {xs : List Int} (h : (roundL all xs).ch = false) : roundL all xs = ⟨xs, false⟩ ∧ ∀ l ∈ all, xs.getD l.a.toNat 0 ≤ xs.getD l.b.toNat 0 - l.c := by
  obtain ⟨h1, h2⟩ := partL_same all.length h
  refine ⟨h1, fun l hl => ?_⟩
  obtain ⟨j, hj⟩ := List.getElem?_of_mem hl
  exact h2 j l (List.getElem?_eq_some_iff.1 hj).1 hj

set_option maxRecDepth 100000 in
set_option maxHeartbeats 4000000 in
theorem latest101 (n : Nat) (all : List T3) (g : Nat) (S : Nat → Prop) (w : World) (hN : NetAt w g n all S) (hS : ∀ q, S q → q < w.heap.size) (h1 : 1 ≤ n) (h2 : n ≤ 20) (h3 : all.length ≤ 100) (hl : ∀ l ∈ all, okLk n l = true)
    (last : Int) (hla : 0 ≤ last) (hlb : last ≤ 1000000000) (K : Nat) (hK : (roundL all (iterL all K (startL n last))).ch = false)
    (hbd : ∀ r k, ∀ x ∈ (partL all k ⟨iterL all r (startL n last), false⟩).xs, 0 ≤ x ∧ x ≤ 1000000000) :
    Calls Try.prog 101 #[.pointer (some ⟨g, 0, none⟩), .int .i64 last] w fun e w' => ∃ gt ct r, e = .returned (.slice (some ⟨gt, 0, none⟩) n ct) ∧ Own w' w.heap.size gt ct (iterL all r (startL n last)) ∧ (roundL all (iterL all r (startL n last))).ch = false ∧ Below w.heap.size w w' := by
  have hgs : g < w.heap.size := net_lt hN
  have c0 := net_n hN
  obtain ⟨Av, cv, cl, hrl, hlv1, hlv2⟩ := net_links hN
  have HN := Lib.hid hN
  have HS := Lib.hid hS
  have HL := Lib.hid hl
  have HK := Lib.hid hK
  have HB := Lib.hid hbd
  have HR := Lib.hid hrl
  have HCL := Lib.hid cl
  clear hN hS hl hK hbd hrl
  go_enter Try.func101, Try.ntmps101
  go_wp2_with fail
  go_step3
  go_wp2_with (at_make; refine wp_make_ints _ rfl _ _ 25 rfl w.heap.size Try.underlying25 info3 n rfl rfl ?q1 ?q2 ?_)
  case q1 => omega
  case q2 => exact Nat.le_refl _
  intro w1 HO1' HG1'
  have HO1 := Lib.hid HO1'
  have HG1 := Lib.hid HG1'
  clear HO1' HG1'
  go_wp2_with fail
  go_loopg [6, 18] n (fun gg s6 s18 wr => ∃ kk : Nat, kk ≤ n ∧ n - kk ≤ gg ∧ s18 = .int .i64 kk ∧ Hid (Own wr w.heap.size w.heap.size n ((List.replicate kk last ++ List.replicate (n - kk) 0).set 0 0)) ∧ Hid (w.grownBy wr none))
  case atStart =>
    refine ⟨0, Nat.zero_le _, by omega, rfl, Lib.hid ?_, HG1⟩
    have e : (List.replicate 0 last ++ List.replicate (n - 0) 0).set 0 0 = List.replicate n 0 := by
      obtain ⟨m, rfl⟩ : ∃ m, n = m + 1 := ⟨n - 1, by omega⟩
      simp [List.replicate_succ]
    rw [e]; exact HO1.out
  case round =>
    obtain ⟨kk, hkk, hg, rfl, HO2, HG2⟩ := hrel
    by_cases hlt : kk < n
    · by_cases hk0 : kk = 0
      · subst hk0
        have t0 : decide ((0 : Int) < (0 : Int)) = false := rfl
        go_wp2
        go_roundg (n - (0 + 1))
        case measure => omega
        case rel =>
          refine ⟨1, by omega, by omega, by rfl, Lib.hid ?_, HG2⟩
          have e : (List.replicate 0 last ++ List.replicate (n - 0) 0).set 0 0 = (List.replicate 1 last ++ List.replicate (n - 1) 0).set 0 0 := by
            obtain ⟨m, rfl⟩ : ∃ m, n = m + 1 := ⟨n - 1, by omega⟩
            simp [List.replicate_succ]
          rw [← e]; exact HO2.out
      · have hget : ((List.replicate kk last ++ List.replicate (n - kk) 0).set 0 0)[kk]? = some 0 := by
          rw [List.getElem?_set_ne (by omega), List.getElem?_append_right (by simp), List.length_replicate, Nat.sub_self, List.getElem?_replicate, if_pos (by omega)]
        have ⟨c1, f1⟩ := Own.at HO2.out hget
        have hpos : decide ((0 : Int) < (kk : Int)) = true := decide_eq_true (by omega)
        clear hget
        go_wp2
        go_roundg (n - (kk + 1))
        case measure => omega
        case rel =>
          refine ⟨kk + 1, by omega, by omega, by go_num, Lib.hid ?_, Lib.hid ?_⟩
          · have := Own.set HO2.out kk last
            rw [List.set_comm _ _ (by omega), List.set_append_right _ _ (by simp), List.length_replicate, Nat.sub_self, show n - kk = (n - (kk + 1)) + 1 by omega, List.replicate_succ, List.set_cons_zero] at this
            rw [List.replicate_succ', List.append_assoc]
            exact this
          · exact gb_set HG2.out _ (.inr (Nat.le_refl _)) _
    · obtain rfl : n = kk := by omega
      have HO3 : Hid (Own wr w.heap.size w.heap.size n (startL n last)) := Lib.hid (by have := HO2.out; unfold startL; simpa using this)
      have cn : wr.cell? ⟨g, 1, none⟩ = some (.slice Av all.length cv) := ((below_of HG2.out).cell (p := ⟨g, 1, none⟩) hgs).trans cl
      clear c0 cl hlt hkk hg HO2
      go_wp2_with fail
      go_step3
      go_wp2_with fail
      go_loopg [7] K (fun gg s7 wr => ∃ r : Nat, r ≤ K ∧ K - r ≤ gg ∧ Hid (Own wr w.heap.size w.heap.size n (iterL all r (startL n last))) ∧ Hid (w.grownBy wr none))
      case atStart => exact ⟨0, Nat.zero_le _, by omega, HO3, HG2⟩
      case round =>
        obtain ⟨wo, rfl⟩ : ∃ wo : World, wo = wr := ⟨_, rfl⟩
        obtain ⟨r, hr, hg, HO4, HG4⟩ := hrel
        have hlr := iterL_len (all := all) (startL_len n last) r
        have hbr := HB.out r
        have HIT : Hid (∀ r', r' = r + 1 → iterL all r' (startL n last) = (roundL all (iterL all r (startL n last))).xs) := Lib.hid (fun r' h => by rw [h]; rfl)
        have HKR : Hid (r = K → (roundL all (iterL all r (startL n last))).ch = false) := Lib.hid (fun h => by rw [h]; exact HK.out)
        clear cn HO3 HG2
        generalize hX : iterL all r (startL n last) = X at HO4 hlr hbr HIT HKR
        have HX := Lib.hid hX
        have HBR := Lib.hid hbr
        have HLR := Lib.hid hlr
        have cl : wo.cell? ⟨g, 1, none⟩ = some (.slice Av all.length cv) := ((below_of HG4.out).cell (p := ⟨g, 1, none⟩) hgs).trans HCL.out
        clear hX hbr hlr
        go_wp2_with fail
        go_loopg [7, 9, 10, 33] (all.length) (fun gg s7 s9 s10 s33 wq => ∃ kk : Nat, kk ≤ all.length ∧ all.length - kk ≤ gg ∧ s33 = .int .i64 kk ∧ s7 = .bool (partL all kk ⟨X, false⟩).ch ∧ Hid (Own wq w.heap.size w.heap.size n (partL all kk ⟨X, false⟩).xs) ∧ Hid (w.grownBy wq none))
        case atStart => exact ⟨0, Nat.zero_le _, by omega, rfl, rfl, HO4, HG4⟩
        case round =>
          obtain ⟨wp, rfl⟩ : ∃ wp : World, wp = wr := ⟨_, rfl⟩
          obtain ⟨kk, hkk, hg', rfl, rfl, HO6, HG6⟩ := hrel
          clear cl
          by_cases hlt2 : kk < all.length
          · have hx : all[kk]? = some all[kk] := List.getElem?_eq_getElem hlt2
            have hok := HL.out _ (List.getElem_mem hlt2)
            have hstep := partL_succ all kk ⟨X, false⟩ _ hx
            have hlen := partL_len (all := all) (s := ⟨X, false⟩) HLR.out kk
            have hbk := HBR.out kk
            generalize all[kk] = x at hx hok hstep
            obtain ⟨a1, a2, b1, b2, c1, c2⟩ := okLk_out hok
            obtain ⟨b, off, rfl, hb, h0, h1', h2'⟩ := Rd.t3 HR.out kk x hx
            generalize hP : partL all kk ⟨X, false⟩ = P at *
            obtain ⟨px, pc⟩ := P
            simp only at HO6 hlen hbk
            have hga := getD_get (xs := px) (j := x.a.toNat) (by omega)
            have hgb := getD_get (xs := px) (j := x.b.toNat) (by omega)
            have hba := hbk _ (getD_mem (xs := px) (j := x.a.toNat) (by omega))
            have hbb := hbk _ (getD_mem (xs := px) (j := x.b.toNat) (by omega))
            simp only [lower] at hstep
            generalize px.getD x.a.toNat 0 = va at hga hba hstep
            generalize px.getD x.b.toNat 0 = vb at hgb hbb hstep
            have HST := Lib.hid hstep
            have ⟨ca, fa⟩ := Own.at HO6.out hga
            have ⟨cb, fb⟩ := Own.at HO6.out hgb
            have l0 := (World.cell?_of_block (w := w) (a := ⟨b, off + kk * 3, none⟩) (HG6.out.block b hb (by simp))).trans h0
            have l1 := (World.cell?_of_block (w := w) (a := ⟨b, off + kk * 3 + 1, none⟩) (HG6.out.block b hb (by simp))).trans h1'
            have l2 := (World.cell?_of_block (w := w) (a := ⟨b, off + kk * 3 + 2, none⟩) (HG6.out.block b hb (by simp))).trans h2'
            have hbq : w.heap.size < wp.heap.size := by obtain ⟨_, _, h, _⟩ := HO6.out.blk; exact h
            have hbb2 : b < wp.heap.size := Nat.lt_of_lt_of_le hb HG6.out.size
            obtain ⟨ba1, ba2⟩ := hba
            obtain ⟨bb1, bb2⟩ := hbb
            clear h0 h1' h2' hga hgb hx hbk hok hP hstep
            have hu := Try.underlying58
            by_cases hlt3 : vb - x.c < va
            · rw [if_pos hlt3] at HST
              go_wp2_with fail
              go_quiet (fail)
              go_wp2
              go_roundg (all.length - (kk + 1))
              case measure => omega
              case rel =>
                refine ⟨kk + 1, by omega, by omega, by go_num, by rw [HST.out], Lib.hid ?_, Lib.hid ?_⟩
                · rw [HST.out]
                  exact ((HO6.out.alloc _).drewN _).set _ _
                · exact gb_set (gb_drewN (gb_alloc HG6.out _) _) _ (.inr (Nat.le_refl _)) _
            · rw [if_neg hlt3] at HST
              go_wp2_with fail
              go_quiet (fail)
              go_wp2
              go_roundg (all.length - (kk + 1))
              case measure => omega
              case rel =>
                refine ⟨kk + 1, by omega, by omega, by go_num, by rw [HST.out], Lib.hid ?_, Lib.hid ?_⟩
                · rw [HST.out]
                  exact ((HO6.out.alloc _).drewN _)
                · exact gb_drewN (gb_alloc HG6.out _) _
          · obtain rfl : kk = all.length := by omega
            have hrd : roundL all X = partL all all.length ⟨X, false⟩ := rfl
            generalize partL all all.length ⟨X, false⟩ = P at HO6 hrd ⊢
            have HRD := Lib.hid hrd
            clear hrd
            cases hch : P.ch with
            | true =>
              have hrK : r < K := by
                rcases Nat.lt_or_ge r K with h | h
                · exact h
                · have := HKR.out (by omega)
                  rw [HRD.out, hch] at this
                  cases this
              go_wp2
              go_roundg (K - (r + 1))
              case measure => omega
              case rel =>
                refine ⟨r + 1, by omega, by omega, Lib.hid ?_, HG6⟩
                rw [HIT.out _ rfl, HRD.out]
                exact HO6.out
            | false =>
              go_wp2
              rw [Exit.noGoto_ret]
              go_ret
              have hf : (roundL all X).ch = false := by rw [HRD.out]; exact hch
              have hs := (roundL_same hf).1
              rw [HRD.out] at hs
              refine ⟨_, _, r, rfl, ?_, ?_, below_of HG6.out⟩
              · rw [HX.out]
                have := HO6.out
                rw [hs] at this
                exact this
              · rw [HX.out]; exact hf
end Go.Proofs.Ytpknonebnipcgaa.D
