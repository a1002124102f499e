import Derived.Test.YtpknonebnipcgaaProg
import Derived.WalkKit
import Derived.KernelRfl
import Derived.Deep.LoopGhost
import Derived.Deep.QuietTactic
import Derived.BigQuiet
import Derived.Deep.DeepCutAuto
import Derived.Deep.CutBlock
import Derived.Deep.RegionHeld3
import Derived.WalkLawsBesides
import Derived.WalkSpells
import Derived.Outline
import Derived.Deep.DeepFit
import Derived.Lib.Hide
import Derived.Shelf.Abstract
import Derived.Lib.SliceRun
import Derived.Test.YtpknonebnipcgaaE

namespace Go.Proofs.Ytpknonebnipcgaa.G
open Go.RowKit Go.Shelf Go.Proofs.Ytpknonebnipcgaa.V Go.Proofs.Ytpknonebnipcgaa.A Go.Proofs.Ytpknonebnipcgaa.B Go.Proofs.Ytpknonebnipcgaa.C Go.Proofs.Ytpknonebnipcgaa.P Go.Proofs.Ytpknonebnipcgaa.D Go.Proofs.Ytpknonebnipcgaa.E
set_option linter.unusedVariables false
set_option linter.unusedSimpArgs false
attribute [local go_sem] max2_i max_2

section
variable (n : Int) (A : Option Addr) (c : Nat) (ls : List T3) (w : World) (hr : RdT w (.slice A ls.length c) ls)
include hr

theorem reason18_arg (mo : Int) (h : rightB n ls = false ∨ inB mo 0 (n - 1) = false) : Calls Try.prog 18 #[.int .i64 n, .slice A ls.length c, .int .i64 mo] w fun e w' => e = .returned (.tuple #[.slice none 0 0, .int .i64 2]) ∧ Below w.heap.size w w' := by
  have hc := fun W (hb : Below w.heap.size w W) => right56 n A c ls W (Rd.below hr hb)
  have hb0 : Below w.heap.size w (w.alloc (.cells #[.int .i64 mo] 3)) := (Below.refl _ _).alloc (Nat.le_refl _) _
  have hc' := hc _ hb0
  clear hr hc
  have HB0 := Lib.hid hb0
  cases h5 : rightB n ls
  · rw [h5] at hc'
    clear hb0
    go_enter Try.func18, Try.ntmps18
    go_wp2_with (go_at_call 56; refine hc'.mono ?_; rintro e w1 ⟨rfl, hb⟩)
    go_ret2
    exact ⟨rfl, below_then HB0.out HB0.out.size hb⟩
  · have h6 : inB mo 0 (n - 1) = false := by rcases h with h | h; rw [h5] at h; cases h; exact h
    obtain ⟨h1, h2, _, _⟩ := right_out h5
    rw [h5] at hc'
    clear hb0
    go_enter Try.func18, Try.ntmps18
    go_wp2_with fail
    refine hc'.mono ?_
    rintro e w1 ⟨rfl, hb⟩
    have m1 : w1.cell? ⟨w.heap.size, 0, none⟩ = some (.int .i64 mo) := (hb.cell (p := ⟨w.heap.size, 0, none⟩) (by simp)).trans (by simp)
    go_wp2_with (go_at_call 57; refine (within57 _ _ _ _).mono ?_; rintro e w' ⟨rfl, rfl⟩)
    go_ret2
    exact ⟨rfl, below_then HB0.out HB0.out.size hb⟩

theorem reason18_none (mo : Int) (h : rightB n ls = true) (hs : Small n ls) (hm : inB mo 0 (n - 1) = true) (hf : 0 ≤ (earl n ls).raised) : Calls Try.prog 18 #[.int .i64 n, .slice A ls.length c, .int .i64 mo] w fun e w' => e = .returned (.tuple #[.slice none 0 0, .int .i64 5]) ∧ Below w.heap.size w w' := by
  have hc := fun W (hb : Below w.heap.size w W) => right56 n A c ls W (Rd.below hr hb)
  have hb0 : Below w.heap.size w (w.alloc (.cells #[.int .i64 mo] 3)) := (Below.refl _ _).alloc (Nat.le_refl _) _
  have hc' := hc _ hb0
  have HOP := Lib.hid (opens n A c ls w hr h hs)
  have HEA := Lib.hid (ear_none n ls h hs hf)
  have hq := q25
  clear hr hc
  have HB0 := Lib.hid hb0
  rw [h] at hc'
  obtain ⟨h1, h2, _, _⟩ := right_out h
  clear hb0 h hs hf
  go_enter Try.func18, Try.ntmps18
  go_wp2_with fail
  refine hc'.mono ?_
  rintro e w1 ⟨rfl, hb⟩
  have m1 : w1.cell? ⟨w.heap.size, 0, none⟩ = some (.int .i64 mo) := (hb.cell (p := ⟨w.heap.size, 0, none⟩) (by simp)).trans (by simp)
  have HB1 := Lib.hid (below_then HB0.out HB0.out.size hb)
  clear hb
  go_wp2_with (go_at_call 57; refine (within57 _ _ _ _).mono ?_; rintro e w' ⟨rfl, rfl⟩)
  refine (HOP.out w1 HB1.out).mono ?_
  rintro e w2 ⟨g, rfl, _, hN, hg1, hb2⟩
  have HN := Lib.hid hN
  have HB2 := Lib.hid hb2
  clear hN hb2
  go_wp2_with fail
  refine (HEA.out w2 g _ HN.out (fun q hq => hq)).mono ?_
  rintro e w3 ⟨gp, cp, m, rfl, hb3⟩
  have HB3 := Lib.hid hb3
  go_wp2
  go_ret2
  exact ⟨rfl, below_then (below_then HB1.out HB1.out.size HB2.out) (Nat.le_trans HB1.out.size HB2.out.size) HB3.out⟩

/-! ### slack -/
theorem slack40_arg (last : Int) (h : rightB n ls = false ∨ inB last 0 1000000000 = false) : Calls Try.prog 40 #[.int .i64 n, .slice A ls.length c, .int .i64 last] w fun e w' => e = .returned (.tuple #[.slice none 0 0, .int .i64 2]) ∧ Below w.heap.size w w' := by
  have hb := both74_arg n A c ls last w hr h
  clear hr h
  go_enter Try.func40, Try.ntmps40
  go_wp2_with (go_at_call 74; refine hb.mono ?_; rintro e w1 ⟨rfl, hb⟩)
  have HB := Lib.hid hb
  go_loopg [22] (0) (fun gg s2 wr => s2 = .int .i64 0 ∧ Hid (Below w.heap.size w wr))
  case atStart => exact ⟨rfl, HB⟩
  case round =>
    obtain ⟨rfl, HB2⟩ := hrel
    go_wp2
    go_ret2
    exact ⟨rfl, HB2.out⟩

theorem slack40_none (last : Int) (h : rightB n ls = true) (hl : inB last 0 1000000000 = true) (hs : Small n ls) (hf : 0 ≤ (earl n ls).raised ∨ ((earl n ls).raised < 0 ∧ last < top (earl n ls).ts)) : Calls Try.prog 40 #[.int .i64 n, .slice A ls.length c, .int .i64 last] w fun e w' => e = .returned (.tuple #[.slice none 0 0, .int .i64 5]) ∧ Below w.heap.size w w' := by
  have hb := both74_none n A c ls last w hr h hl hs hf
  clear hr h hl hs hf
  go_enter Try.func40, Try.ntmps40
  go_wp2_with (go_at_call 74; refine hb.mono ?_; rintro e w1 ⟨rfl, hb⟩)
  have HB := Lib.hid hb
  go_loopg [22] (0) (fun gg s2 wr => s2 = .int .i64 0 ∧ Hid (Below w.heap.size w wr))
  case atStart => exact ⟨rfl, HB⟩
  case round =>
    obtain ⟨rfl, HB2⟩ := hrel
    go_wp2
    go_ret2
    exact ⟨rfl, HB2.out⟩
end

def slk (ts la : List Int) : List Int := List.zipWith (fun a b => b - a) ts la

theorem slk_step (ts la : List Int) (k : Nat) (a b : Int) (ha : ts[k]? = some a) (hb : la[k]? = some b) :
    (slk (ts.take k) (la.take k) ++ la.drop k).set k (b - a) = slk (ts.take (k + 1)) (la.take (k + 1)) ++ la.drop (k + 1) := by
  have h1 := (List.getElem?_eq_some_iff.1 ha).1
  have h2 := (List.getElem?_eq_some_iff.1 hb).1
  have hl : (slk (ts.take k) (la.take k)).length = k := by simp [slk]; omega
  rw [List.set_append_right _ _ (by omega), hl, Nat.sub_self]
  rw [List.drop_eq_getElem_cons h2, List.set_cons_zero]
  rw [List.take_add_one, List.take_add_one, ha, hb]
  simp only [Option.toList_some, slk]
  rw [List.zipWith_append (by simp; omega)]
  simp

set_option maxHeartbeats 1000000 in
theorem slack40_ok (n : Int) (A : Option Addr) (c : Nat) (ls : List T3) (w : World) (hr : RdT w (.slice A ls.length c) ls) (last : Int) (h : rightB n ls = true) (hl : inB last 0 1000000000 = true) (hs : Small n ls) (hf : (earl n ls).raised < 0) (hm : top (earl n ls).ts ≤ last)
    (hlen : (earl n ls).ts.length = (lat n ls last).length) (hlb : (lat n ls last).length ≤ 1000) (hb1 : ∀ x ∈ (earl n ls).ts, -1000000000 ≤ x ∧ x ≤ 1000000000) (hb2 : ∀ x ∈ lat n ls last, -1000000000 ≤ x ∧ x ≤ 1000000000) :
    Calls Try.prog 40 #[.int .i64 n, .slice A ls.length c, .int .i64 last] w fun e w' => ∃ gl cl, e = .returned (.tuple #[.slice (some ⟨gl, 0, none⟩) (lat n ls last).length cl, .int .i64 0]) ∧ RdI w' (.slice (some ⟨gl, 0, none⟩) (lat n ls last).length cl) (slk (earl n ls).ts (lat n ls last)) ∧ Below w.heap.size w w' := by
  have hb := both74_ok n A c ls last w hr h hl hs hf hm
  clear hr h hl hs hf hm
  generalize lat n ls last = la at *
  generalize (earl n ls).ts = ts at *
  have HB1 := Lib.hid hb1
  have HB2 := Lib.hid hb2
  have HLEN := Lib.hid hlen
  clear hb1 hb2 hlen
  go_enter Try.func40, Try.ntmps40
  go_wp2_with (go_at_call 74; refine hb.mono ?_; rintro e w1 ⟨gt, ct, gl, cl, rfl, hT, ⟨B, hB, hO, hgB⟩, hgt, hb⟩)
  have HT := Lib.hid hT
  have HO := Lib.hid hO
  have HB := Lib.hid hb
  have hgl : B ≤ gl := by obtain ⟨_, q, _⟩ := hO.blk; exact q
  clear hT hO hb
  go_loopg [11, 22] (la.length) (fun gg _ s22 wr => ∃ k : Nat, k ≤ la.length ∧ la.length - k ≤ gg ∧ s22 = .int .i64 k ∧ Hid (Own wr B gl cl (slk (ts.take k) (la.take k) ++ la.drop k)) ∧ Hid (w1.grownBy wr (some gl)))
  case atStart => exact ⟨0, Nat.zero_le _, by omega, rfl, Lib.hid (by simpa [slk] using HO.out), Lib.hid (gb_refl _ _)⟩
  case round =>
    obtain ⟨k, hk, hg, rfl, HO2, HG⟩ := hrel
    by_cases hlt : k < la.length
    · have htk : ts[k]? = some (ts[k]'(by rw [HLEN.out]; omega)) := List.getElem?_eq_getElem _
      have hlk : la[k]? = some la[k] := List.getElem?_eq_getElem hlt
      have hst := slk_step ts la k _ _ htk hlk
      have e1 := HB1.out _ (List.getElem_mem (l := ts) (n := k) (by rw [HLEN.out]; omega))
      have e2 := HB2.out _ (List.getElem_mem hlt)
      have hget : (slk (ts.take k) (la.take k) ++ la.drop k)[k]? = some la[k] := by
        have hl : (slk (ts.take k) (la.take k)).length = k := by simp [slk]; rw [HLEN.out]; omega
        rw [List.getElem?_append_right (by omega), hl, Nat.sub_self, List.getElem?_drop]
        exact hlk
      generalize ts[k]'(by rw [HLEN.out]; omega) = a at *
      generalize la[k] = b at *
      have HST := Lib.hid hst
      have ⟨c1, f1⟩ := Own.at HO2.out hget
      have hTr : RdI wr (.slice (some ⟨gt, 0, none⟩) ts.length ct) ts := Rd.grown HT.out HG.out (fun q hq => by simp [Value.ownBlock] at hq; subst hq; simp; omega)
      obtain ⟨b9, o9, e9, hb9, t9⟩ := Rd.i hTr k a htk
      obtain ⟨rfl, rfl⟩ : gt = b9 ∧ 0 = o9 := by injection e9 with e9; injection e9 with e1 e2; exact ⟨e1, e2⟩
      rw [Nat.zero_add] at t9
      have hll : k < ts.length := by rw [HLEN.out]; exact hlt
      obtain ⟨e11, e12⟩ := e1
      obtain ⟨e21, e22⟩ := e2
      clear hst hget hTr htk hlk e9
      go_wp2_with fail
      go_region
      go_wp2
      go_roundg (la.length - (k + 1))
      case measure => omega
      case rel =>
        refine ⟨k + 1, by omega, by omega, by go_num, Lib.hid ?_, Lib.hid ?_⟩
        · rw [← HST.out]
          exact (HO2.out.drew).set _ _
        · exact gb_set (gb_drew HG.out) _ (.inl rfl) _
    · obtain rfl : k = la.length := by omega
      go_wp2
      go_ret2
      refine ⟨gl, cl, rfl, ?_, ?_⟩
      · have hl2 : ts.length = la.length := HLEN.out
        have := HO2.out.rd
        rw [List.take_of_length_le (by omega), List.take_of_length_le (by omega), List.drop_of_length_le (by omega), List.append_nil, show (slk ts la).length = la.length by simp [slk]; omega] at this
        exact this
      · exact HB.out.grown HG.out HB.out.size (by intro k' hk'; injection hk' with hk'; omega)

/-! ### keeps -/
theorem keep71 (x : Int) (w : World) : Calls Try.prog 71 #[.int .i64 x] w fun e w' => e = .returned (.bool (decide (x < 0))) ∧ w = w' := by
  go_enter Try.func71, Try.ntmps71
  go_wp2
  go_ret
  exact ⟨rfl, rfl⟩

def broken (ts : List Int) (l : T3) : Bool := decide (ts.getD l.b.toNat 0 - ts.getD l.a.toNat 0 < l.c)

theorem keep73 (l : T3) (ts : List Int) (B : Nat) (A : Option Addr) (c : Nat) (W : World) (hB : W.cell? ⟨B, 0, none⟩ = some (.slice A ts.length c)) (hR : RdI W (.slice A ts.length c) ts)
    (ha : 0 ≤ l.a) (ha2 : l.a < ts.length) (hb : 0 ≤ l.b) (hb2 : l.b < ts.length) (hx : ∀ x ∈ ts, 0 ≤ x ∧ x ≤ 9223372036854775807) :
    Calls Try.prog 73 #[.agg l.enc.toArray, .pointer (some ⟨B, 0, none⟩)] W fun e w' => e = .returned (.bool (broken ts l)) ∧ Below W.heap.size W w' := by
  obtain ⟨la, lb, lc⟩ := l
  simp only at ha ha2 hb hb2
  show Calls Try.prog 73 #[.agg #[.int .i64 la, .int .i64 lb, .int .i64 lc], .pointer (some ⟨B, 0, none⟩)] W _
  have hga := getD_get (xs := ts) (j := la.toNat) (by omega)
  have hgb := getD_get (xs := ts) (j := lb.toNat) (by omega)
  have hxa := hx _ (getD_mem (xs := ts) (j := la.toNat) (by omega))
  have hxb := hx _ (getD_mem (xs := ts) (j := lb.toNat) (by omega))
  obtain ⟨b, off, rfl, hbb, ca⟩ := Rd.i hR la.toNat _ hga
  obtain ⟨b', off', e, hbb', cb⟩ := Rd.i hR lb.toNat _ hgb
  injection e with e
  injection e with e1 e2
  subst e1 e2
  have hll := (RdR.len hR).2
  have bB := World.block_lt_of_cell? W _ hB
  simp only at bB
  unfold broken
  simp only
  generalize ts.getD la.toNat 0 = xa at *
  generalize ts.getD lb.toNat 0 = xb at *
  obtain ⟨x1, x2⟩ := hxa
  obtain ⟨x3, x4⟩ := hxb
  clear hga hgb hx hR
  go_enter Try.func73, Try.ntmps73
  go_wp2_with fail
  go_quiet (fail)
  go_wp2
  go_ret
  exact ⟨rfl, below_drewN ((Below.refl _ _).alloc (Nat.le_refl _) _) _⟩

/-- whether a list is a timetable -/
def keepB (n : Int) (ls : List T3) (ts : List Int) : Bool := rightB n ls && (decide ((ts.length : Int) = n) && (!(ts.any fun x => decide (x < 0)) && ((ts.getD 0 0 == 0) && !((allOf n ls).any (broken ts)))))

set_option maxHeartbeats 1000000 in
theorem keeps32 (n : Int) (A : Option Addr) (c : Nat) (ls : List T3) (At : Option Addr) (ct : Nat) (ts : List Int) (w : World) (hr : RdT w (.slice A ls.length c) ls) (ht : RdI w (.slice At ts.length ct) ts)
    (hs : rightB n ls = true → Small n ls) (hx : ∀ x ∈ ts, -9223372036854775808 ≤ x ∧ x ≤ 9223372036854775807) :
    Calls Try.prog 32 #[.int .i64 n, .slice A ls.length c, .slice At ts.length ct] w fun e w' => e = .returned (.bool (keepB n ls ts)) ∧ Below w.heap.size w w' := by
  have hc := fun W (hb : Below w.heap.size w W) => right56 n A c ls W (Rd.below hr hb)
  have hb0 : Below w.heap.size w (w.alloc (.cells #[.slice At ts.length ct] 25)) := (Below.refl _ _).alloc (Nat.le_refl _) _
  have hc' := hc _ hb0
  have hlt := RdR.len ht
  unfold keepB
  cases h5 : rightB n ls
  · rw [h5] at hc'
    have HB0 := Lib.hid hb0
    clear hr hc hb0 ht hs hx
    go_enter Try.func32, Try.ntmps32
    go_wp2_with (go_at_call 56; refine hc'.mono ?_; rintro e w1 ⟨rfl, hb⟩)
    go_ret
    exact ⟨rfl, below_then HB0.out HB0.out.size hb⟩
  · obtain ⟨h1, h2, _, h4⟩ := right_out h5
    have hs' := hs h5
    have hop := opens n A c ls w hr h5 hs'
    have hV := valid_all h5
    rw [h5] at hc'
    have HB0 := Lib.hid hb0
    have HOP := Lib.hid hop
    have HX := Lib.hid hx
    have HT := Lib.hid ht
    have HV := Lib.hid hV
    obtain ⟨m, rfl⟩ : ∃ m : Nat, n = m := ⟨n.toNat, by omega⟩
    clear hr hc hb0 hop hx ht hs hV h4 hs' h5
    generalize allOf m ls = all at *
    by_cases hlen : ts.length = m
    · subst hlen
      have d1 : ((ts.length : Int) != (ts.length : Int)) = false := by rw [bne_eq_false_iff_eq]
      have d1' : decide ((ts.length : Int) = (ts.length : Int)) = true := decide_eq_true rfl
      rw [d1']
      obtain ⟨B, hBe⟩ : ∃ B, B = w.heap.size := ⟨_, rfl⟩
      cases hneg : ts.any fun x => decide (x < 0)
      · have hx2 : ∀ x ∈ ts, 0 ≤ x ∧ x ≤ 9223372036854775807 := fun x hx => by
          have a := HX.out x hx
          have b : ¬ x < 0 := fun h => by
            have : (ts.any fun x => decide (x < 0)) = true := List.any_eq_true.2 ⟨x, hx, decide_eq_true h⟩
            rw [hneg] at this
            cases this
          omega
        have HX2 := Lib.hid hx2
        have hz := getD_get (xs := ts) (j := 0) (by omega)
        generalize ts.getD 0 0 = z at hz ⊢
        obtain ⟨r, hrr⟩ : ∃ r, all.any (broken ts) = r := ⟨_, rfl⟩
        rw [hrr]
        have HRR := Lib.hid hrr
        clear hx2 hrr
        go_enter Try.func32, Try.ntmps32
        go_wp2_with fail
        refine hc'.mono ?_
        rintro e w1 ⟨rfl, hb⟩
        have HB1 := Lib.hid (below_then HB0.out HB0.out.size hb)
        have m1 : w1.cell? ⟨w.heap.size, 0, none⟩ = some (.slice At ts.length ct) := (hb.cell (p := ⟨w.heap.size, 0, none⟩) (by simp)).trans (by simp)
        have hM1 := Lib.hid (blk_below (blk_new w (.cells #[.slice At ts.length ct] 25)) hb)
        have hsz := hb.size
        simp at hsz
        clear hb
        have hcon := containsFunc70 71 #[] (enters_of Try.func71 (by kernel_rfl) rfl) (fun x => decide (x < 0)) At ct ts w1 (Rd.below HT.out HB1.out) (fun W x hx hb => (keep71 x W).mono (by rintro e w' ⟨rfl, rfl⟩; exact ⟨rfl, Below.refl _ _⟩))
        rw [hneg] at hcon
        go_wp2_with (go_at_call 70; refine hcon.mono ?_; rintro e w2 ⟨rfl, hb2⟩)
        have HB2 := Lib.hid (below_then HB1.out HB1.out.size hb2)
        have HM2 := Lib.hid (blk_below hM1.out hb2)
        have hs2 := hb2.size
        clear hb2
        refine (HOP.out w2 HB2.out).mono ?_
        rintro e w3 ⟨g, rfl, hN1, hN, hg1, hb3⟩
        have HB3 := Lib.hid (below_then HB2.out HB2.out.size hb3)
        have HN := Lib.hid hN
        have hM3 := blk_below HM2.out hb3
        have HM3 := Lib.hid hM3
        have m3 : w3.cell? ⟨w.heap.size, 0, none⟩ = some (.slice At ts.length ct) := (cell_of_blk hM3 0).trans rfl
        have hT3 := Rd.below HT.out HB3.out
        obtain ⟨b0, o0, rfl, hb0, z0⟩ := Rd.i hT3 0 _ hz
        rw [Nat.add_zero] at z0
        obtain ⟨Av, cv, n1, hnl, hlv1, hlv2⟩ := net_links HN.out
        have HT3 := Lib.hid hT3
        have hcon2 := fun (w4 : World) (hb4 : w4 = w3) => containsFunc72 73 #[.pointer (some ⟨w.heap.size, 0, none⟩)] (enters_of Try.func73 (by kernel_rfl) rfl) (broken ts) Av cv all w4 (by rw [hb4]; exact hnl) (fun W l hl hb => by
          subst hb4
          have hok := HV.out l hl
          obtain ⟨a1, a2, a3, a4, _, _⟩ := okLk_out hok
          simp only [Int.toNat_natCast] at a2 a4
          exact keep73 l ts w.heap.size (some ⟨b0, o0, none⟩) ct W ((cell_of_blk (blk_below HM3.out hb) 0).trans rfl) (Rd.below HT3.out hb) a1 (by omega) a3 (by omega) HX2.out)
        have hcon3 := hcon2 w3 rfl
        rw [HRR.out] at hcon3
        have HC3 := Lib.hid hcon3
        clear hcon3 hcon2 hN1 hN hnl hM3 hT3 hb3
        cases hz0 : (z == 0)
        · go_wp2
          go_ret
          exact ⟨by rw [hz0]; rfl, HB3.out⟩
        · go_wp2_with fail
          refine HC3.out.mono ?_
          rintro e w4 ⟨rfl, hb4⟩
          go_wp2
          go_ret
          exact ⟨by rw [hz0]; simp, below_then HB3.out HB3.out.size hb4⟩
      · go_enter Try.func32, Try.ntmps32
        go_wp2_with fail
        refine hc'.mono ?_
        rintro e w1 ⟨rfl, hb⟩
        have HB1 := Lib.hid (below_then HB0.out HB0.out.size hb)
        have m1 : w1.cell? ⟨w.heap.size, 0, none⟩ = some (.slice At ts.length ct) := (hb.cell (p := ⟨w.heap.size, 0, none⟩) (by simp)).trans (by simp)
        have hcon := containsFunc70 71 #[] (enters_of Try.func71 (by kernel_rfl) rfl) (fun x => decide (x < 0)) At ct ts w1 (Rd.below HT.out HB1.out) (fun W x hx hb => (keep71 x W).mono (by rintro e w' ⟨rfl, rfl⟩; exact ⟨rfl, Below.refl _ _⟩))
        rw [hneg] at hcon
        go_wp2_with (go_at_call 70; refine hcon.mono ?_; rintro e w2 ⟨rfl, hb2⟩)
        go_ret
        exact ⟨rfl, below_then HB1.out HB1.out.size hb2⟩
    · have d1 : ((ts.length : Int) != m) = true := by rw [bne_iff_ne]; omega
      have d1' : decide ((ts.length : Int) = m) = false := decide_eq_false (by omega)
      rw [d1']
      go_enter Try.func32, Try.ntmps32
      go_wp2_with fail
      refine hc'.mono ?_
      rintro e w1 ⟨rfl, hb⟩
      have HB1 := Lib.hid (below_then HB0.out HB0.out.size hb)
      have m1 : w1.cell? ⟨w.heap.size, 0, none⟩ = some (.slice At ts.length ct) := (hb.cell (p := ⟨w.heap.size, 0, none⟩) (by simp)).trans (by simp)
      go_wp2
      go_ret
      exact ⟨rfl, HB1.out⟩

/-! ### proves -/
def stepOk (all : List T3) (ch : List Int) (k : Nat) : Bool := inB (ch.getD k 0) 0 ((all.length : Int) - 1) && (k == 0 || (all.getD (ch.getD (k - 1) 0).toNat z3).b == (all.getD (ch.getD k 0).toNat z3).a)
def sumTo (all : List T3) (ch : List Int) : Nat → Int
  | 0 => 0
  | k + 1 => sumTo all ch k + (all.getD (ch.getD k 0).toNat z3).c
def proveB (n : Int) (ls : List T3) (ch : List Int) : Bool :=
  rightB n ls && (inB ch.length 1 n && ((List.range ch.length).all (stepOk (allOf n ls) ch) && (((allOf n ls).getD (ch.getD (ch.length - 1) 0).toNat z3).b == ((allOf n ls).getD (ch.getD 0 0).toNat z3).a && decide (0 < sumTo (allOf n ls) ch ch.length))))

theorem all_range_false {p : Nat → Bool} {m k : Nat} (hk : k < m) (h : p k = false) : (List.range m).all p = false := by
  rw [List.all_eq_false]
  exact ⟨k, List.mem_range.2 hk, by rw [h]; simp⟩
theorem all_range_true {p : Nat → Bool} {m : Nat} (h : ∀ k, k < m → p k = true) : (List.range m).all p = true := by
  rw [List.all_eq_true]
  exact fun k hk => h k (List.mem_range.1 hk)

theorem sumTo_bd {all : List T3} {ch : List Int} (hV : ∀ l ∈ all, -1000000 ≤ l.c ∧ l.c ≤ 1000000) : ∀ k : Nat, -1000000 * (k : Int) ≤ sumTo all ch k ∧ sumTo all ch k ≤ 1000000 * (k : Int)
  | 0 => by simp [sumTo]
  | k + 1 => by
    have ih := sumTo_bd hV (all := all) (ch := ch) k
    have hx : -1000000 ≤ (all.getD (ch.getD k 0).toNat z3).c ∧ (all.getD (ch.getD k 0).toNat z3).c ≤ 1000000 := by
      by_cases h : (ch.getD k 0).toNat < all.length
      · exact hV _ (List.mem_of_getElem? (getD_t3 h))
      · rw [List.getD_eq_getElem?_getD, List.getElem?_eq_none (by omega)]
        simp [z3]
    simp only [sumTo]
    omega

set_option maxRecDepth 100000 in
set_option maxHeartbeats 2000000 in
theorem proves31 (n : Int) (A : Option Addr) (c : Nat) (ls : List T3) (Ac : Option Addr) (cc : Nat) (ch : List Int) (w : World) (hr : RdT w (.slice A ls.length c) ls) (ht : RdI w (.slice Ac ch.length cc) ch)
    (hs : rightB n ls = true → Small n ls) (hx : ∀ x ∈ ch, -9223372036854775808 ≤ x ∧ x ≤ 9223372036854775807) :
    Calls Try.prog 31 #[.int .i64 n, .slice A ls.length c, .slice Ac ch.length cc] w fun e w' => e = .returned (.bool (proveB n ls ch)) ∧ Below w.heap.size w w' := by
  have hc' := right56 n A c ls w hr
  have hlt := RdR.len ht
  unfold proveB
  cases h5 : rightB n ls
  · rw [h5] at hc'
    clear hr ht hs hx
    go_enter Try.func31, Try.ntmps31
    go_wp2_with (go_at_call 56; refine hc'.mono ?_; rintro e w1 ⟨rfl, hb⟩)
    go_ret
    exact ⟨rfl, hb⟩
  · obtain ⟨h1, h2, _, h4⟩ := right_out h5
    have hs' := hs h5
    have hop := opens n A c ls w hr h5 hs'
    have hV := valid_all h5
    rw [h5] at hc'
    have HOP := Lib.hid hop
    have HX := Lib.hid hx
    have HT := Lib.hid ht
    have HV := Lib.hid hV
    have hal := all_len n ls
    have hn20 := hs'.1
    have hl80 := hs'.2
    obtain ⟨m, rfl⟩ : ∃ m : Nat, n = m := ⟨n.toNat, by omega⟩
    simp only [Int.toNat_natCast] at hal
    have hall : (allOf m ls).length ≤ 100 := by omega
    clear hr hop hx ht hs hV h4 hs' h5 hal
    generalize allOf m ls = all at *
    obtain ⟨res, hres⟩ : ∃ r, ((List.range ch.length).all (stepOk all ch) && ((all.getD (ch.getD (ch.length - 1) 0).toNat z3).b == (all.getD (ch.getD 0 0).toNat z3).a && decide (0 < sumTo all ch ch.length))) = r := ⟨_, rfl⟩
    rw [hres]
    have HRES := Lib.hid hres
    clear hres
    cases h6 : inB ch.length 1 m
    · go_enter Try.func31, Try.ntmps31
      go_wp2_with (first | (go_at_call 56; refine hc'.mono ?_; rintro e w1 ⟨rfl, hb⟩) | (go_at_call 57; refine (within57 _ _ _ _).mono ?_; rintro e w' ⟨rfl, rfl⟩))
      go_ret
      exact ⟨rfl, hb⟩
    · have hch : 1 ≤ ch.length ∧ ch.length ≤ 20 := by
        have : (1 : Int) ≤ ch.length ∧ (ch.length : Int) ≤ m := by simpa [inB] using h6
        omega
      obtain ⟨hch1, hch2⟩ := hch
      go_enter Try.func31, Try.ntmps31
      go_wp2_with (first | (go_at_call 56; refine hc'.mono ?_; rintro e w1 ⟨rfl, hb⟩) | (go_at_call 57; refine (within57 _ _ _ _).mono ?_; rintro e w' ⟨rfl, rfl⟩))
      refine (HOP.out w1 hb).mono ?_
      rintro e w2 ⟨g, rfl, hN1, hN, hg1, hb2⟩
      have HB2 := Lib.hid (below_then hb hb.size hb2)
      have HN := Lib.hid hN
      clear hN1 hN hb2
      go_wp2_with fail
      go_loopg [8, 9, 10, 27] (ch.length) (fun gg s8 _ _ s27 wr => ∃ k : Nat, k ≤ ch.length ∧ ch.length - k ≤ gg ∧ s8 = .int .i64 (sumTo all ch k) ∧ s27 = .int .i64 k ∧ Hid (∀ j, j < k → stepOk all ch j = true) ∧ Hid (Below w2.heap.size w2 wr))
      case atStart => exact ⟨0, Nat.zero_le _, by omega, rfl, rfl, Lib.hid (fun j hj => absurd hj (Nat.not_lt_zero _)), Lib.hid (Below.refl _ _)⟩
      case round =>
        obtain ⟨k, hk, hg, rfl, rfl, HST, HW⟩ := hrel
        have hbw : Below w2.heap.size w2 wr := HW.out
        have HBW := Lib.hid hbw
        obtain ⟨Av, cv, n1, hnl, hlv1, hlv2⟩ := net_links (HN.out.below hbw)
        have HNL := Lib.hid hnl
        have hb1 : Below w.heap.size w wr := below_then HB2.out HB2.out.size hbw
        have HB1 := Lib.hid hb1
        have HTW := Lib.hid (Rd.below HT.out hb1)
        have hsb := sumTo_bd (all := all) (ch := ch) (fun l hl => by have := okLk_out (HV.out l hl); omega) k
        clear hbw hnl hb1
        by_cases hlt' : k < ch.length
        · have hck := getD_get (xs := ch) (j := k) hlt'
          obtain ⟨bc, oc, rfl, hbc, ck⟩ := Rd.i HTW.out k _ hck
          cases h7 : inB (ch.getD k 0) 0 ((all.length : Int) - 1)
          · have hf := all_range_false (p := stepOk all ch) hlt' (by simp only [stepOk]; rw [h7]; rfl)
            have hres : res = false := by rw [← HRES.out, hf]; rfl
            clear hf hsb
            generalize ch.getD k 0 = x at ck h7
            have hcall : ∀ q, Calls Try.prog 57 #[.int .i64 x, .int .i64 0, .int .i64 ((all.length : Int) - 1)] (wr.drewN q) fun e w' => e = .returned (.bool false) ∧ ∃ m, w' = (wr.drewN q).drewN m := fun q => (within57 _ _ _ _).mono (by rintro e w' ⟨rfl, rfl⟩; exact ⟨by rw [h7], 0, rfl⟩)
            go_wp2_with fail
            go_quiet ((go_at_call 57; exact Calls.quiet_of (hcall _)))
            go_wp2
            go_ret
            exact ⟨by rw [hres]; rfl, below_drewN HB1.out _⟩
          · have hin : 0 ≤ ch.getD k 0 ∧ ch.getD k 0 < all.length := by
              have : 0 ≤ ch.getD k 0 ∧ ch.getD k 0 ≤ (all.length : Int) - 1 := by simpa [inB] using h7
              omega
            have hgl := getD_t3 (xs := all) (j := (ch.getD k 0).toNat) (by omega)
            obtain ⟨bl, ol, rfl, hbl, l0, l1, l2⟩ := Rd.t3 HNL.out (ch.getD k 0).toNat _ hgl
            have hsum : sumTo all ch (k + 1) = sumTo all ch k + (all.getD (ch.getD k 0).toNat z3).c := rfl
            have hcb := okLk_out (HV.out _ (List.mem_of_getElem? hgl))
            rcases Nat.eq_zero_or_pos k with hk0 | hk0
            · subst hk0
              rw [Nat.add_zero] at ck
              have hnew : stepOk all ch 0 = true := by simp only [stepOk]; rw [h7]; rfl
              generalize sumTo all ch 0 = sum at hsum hsb
              generalize all.getD (ch.getD 0 0).toNat z3 = y at hsum l0 l1 l2 hcb
              obtain ⟨_, _, _, _, y1, y2⟩ := hcb
              have HSU := Lib.hid hsum
              generalize ch.getD 0 0 = x at ck h7 hin l0 l1 l2
              obtain ⟨hin1, hin2⟩ := hin
              have hcall : ∀ q, Calls Try.prog 57 #[.int .i64 x, .int .i64 0, .int .i64 ((all.length : Int) - 1)] (wr.drewN q) fun e w' => e = .returned (.bool true) ∧ ∃ m, w' = (wr.drewN q).drewN m := fun q => (within57 _ _ _ _).mono (by rintro e w' ⟨rfl, rfl⟩; exact ⟨by rw [h7], 0, rfl⟩)
              clear hgl hck hsum h7
              go_wp2_with fail
              go_quiet ((go_at_call 57; exact Calls.quiet_of (hcall _)))
              go_wp2
              go_roundg (ch.length - (0 + 1))
              case measure => omega
              case rel =>
                refine ⟨1, by omega, by omega, by rw [HSU.out], by go_num, Lib.hid ?_, Lib.hid ?_⟩
                · intro j hj
                  obtain rfl : j = 0 := by omega
                  exact hnew
                · exact below_drewN HBW.out _
            · have hp := HST.out (k - 1) (by omega)
              simp only [stepOk, Bool.and_eq_true] at hp
              have hin' : 0 ≤ ch.getD (k - 1) 0 ∧ ch.getD (k - 1) 0 < all.length := by
                have : 0 ≤ ch.getD (k - 1) 0 ∧ ch.getD (k - 1) 0 ≤ (all.length : Int) - 1 := by have := hp.1; simpa [inB] using this
                omega
              have hckp := getD_get (xs := ch) (j := k - 1) (by omega)
              obtain ⟨bc2, oc2, e2, hbc2, ckp⟩ := Rd.i HTW.out (k - 1) _ hckp
              injection e2 with e2
              injection e2 with e21 e22
              subst e21 e22
              have hglp := getD_t3 (xs := all) (j := (ch.getD (k - 1) 0).toNat) (by omega)
              obtain ⟨bl2, ol2, e3, hbl2, lp0, lp1, lp2⟩ := Rd.t3 HNL.out (ch.getD (k - 1) 0).toNat _ hglp
              injection e3 with e3
              injection e3 with e31 e32
              subst e31 e32
              have hk1 : ((k : Int) - 1).toNat = k - 1 := by omega
              have hres : ((all.getD (ch.getD (k - 1) 0).toNat z3).b == (all.getD (ch.getD k 0).toNat z3).a) = false → res = false := fun h => by
                have hf := all_range_false (p := stepOk all ch) hlt' (by simp only [stepOk]; rw [h7, h]; simp; omega)
                rw [← HRES.out, hf]; rfl
              have hnew : ((all.getD (ch.getD (k - 1) 0).toNat z3).b == (all.getD (ch.getD k 0).toNat z3).a) = true → stepOk all ch k = true := fun h => by simp only [stepOk]; rw [h7, h]; simp
              generalize sumTo all ch k = sum at hsum hsb
              generalize all.getD (ch.getD (k - 1) 0).toNat z3 = yp at lp0 lp1 lp2 hres hnew
              generalize all.getD (ch.getD k 0).toNat z3 = y at hsum l0 l1 l2 hcb hres hnew
              obtain ⟨_, _, _, _, y1, y2⟩ := hcb
              have HSU := Lib.hid hsum
              have HRE := Lib.hid hres
              have HNW := Lib.hid hnew
              generalize ch.getD (k - 1) 0 = xp at ckp hin' lp0 lp1 lp2
              generalize ch.getD k 0 = x at ck h7 hin l0 l1 l2
              obtain ⟨hin1, hin2⟩ := hin
              obtain ⟨hin1', hin2'⟩ := hin'
              have hcall : ∀ q, Calls Try.prog 57 #[.int .i64 x, .int .i64 0, .int .i64 ((all.length : Int) - 1)] (wr.drewN q) fun e w' => e = .returned (.bool true) ∧ ∃ m, w' = (wr.drewN q).drewN m := fun q => (within57 _ _ _ _).mono (by rintro e w' ⟨rfl, rfl⟩; exact ⟨by rw [h7], 0, rfl⟩)
              clear hgl hck hsum h7 hglp hckp hp hres hnew
              cases hy : (yp.b == y.a)
              · have hy' : (yp.b != y.a) = true := by simp [bne, hy]
                have hres := HRE.out hy
                clear hy
                go_wp2_with fail
                go_quiet ((go_at_call 57; exact Calls.quiet_of (hcall _)))
                go_wp2
                go_ret
                exact ⟨by rw [hres]; rfl, below_drewN HB1.out _⟩
              · have hy' : (yp.b != y.a) = false := by simp [bne, hy]
                have hnew := Lib.hid (HNW.out hy)
                clear hy
                go_wp2_with fail
                go_quiet ((go_at_call 57; exact Calls.quiet_of (hcall _)))
                go_wp2
                go_roundg (ch.length - (k + 1))
                case measure => omega
                case rel =>
                  refine ⟨k + 1, by omega, by omega, by rw [HSU.out], by go_num, Lib.hid ?_, Lib.hid ?_⟩
                  · intro j hj
                    by_cases hjk : j = k
                    · subst hjk; exact hnew.out
                    · exact HST.out j (by omega)
                  · exact below_drewN HBW.out _
        · obtain rfl : k = ch.length := by omega
          have h0 := HST.out 0 (by omega)
          have hL := HST.out (ch.length - 1) (by omega)
          have hrt := all_range_true HST.out
          have hres := HRES.out
          rw [hrt] at hres
          simp only [stepOk, Bool.and_eq_true] at h0 hL
          have hin0 : 0 ≤ ch.getD 0 0 ∧ ch.getD 0 0 < all.length := by
            have : 0 ≤ ch.getD 0 0 ∧ ch.getD 0 0 ≤ (all.length : Int) - 1 := by have := h0.1; simpa [inB] using this
            omega
          have hinL : 0 ≤ ch.getD (ch.length - 1) 0 ∧ ch.getD (ch.length - 1) 0 < all.length := by
            have : 0 ≤ ch.getD (ch.length - 1) 0 ∧ ch.getD (ch.length - 1) 0 ≤ (all.length : Int) - 1 := by have := hL.1; simpa [inB] using this
            omega
          have hck := getD_get (xs := ch) (j := 0) (by omega)
          obtain ⟨bc, oc, rfl, hbc, ck⟩ := Rd.i HTW.out 0 _ hck
          rw [Nat.add_zero] at ck
          have hckp := getD_get (xs := ch) (j := ch.length - 1) (by omega)
          obtain ⟨bc2, oc2, e2, hbc2, ckp⟩ := Rd.i HTW.out (ch.length - 1) _ hckp
          injection e2 with e2
          injection e2 with e21 e22
          subst e21 e22
          have hgl := getD_t3 (xs := all) (j := (ch.getD 0 0).toNat) (by omega)
          obtain ⟨bl, ol, rfl, hbl, l0, l1, l2⟩ := Rd.t3 HNL.out (ch.getD 0 0).toNat _ hgl
          have hglp := getD_t3 (xs := all) (j := (ch.getD (ch.length - 1) 0).toNat) (by omega)
          obtain ⟨bl2, ol2, e3, hbl2, lp0, lp1, lp2⟩ := Rd.t3 HNL.out (ch.getD (ch.length - 1) 0).toNat _ hglp
          injection e3 with e3
          injection e3 with e31 e32
          subst e31 e32
          generalize sumTo all ch ch.length = sum at hsb hres
          generalize all.getD (ch.getD (ch.length - 1) 0).toNat z3 = yp at lp0 lp1 lp2 hres
          generalize all.getD (ch.getD 0 0).toNat z3 = y at l0 l1 l2 hres
          generalize ch.getD (ch.length - 1) 0 = xp at ckp hinL lp0 lp1 lp2
          generalize ch.getD 0 0 = x at ck hin0 l0 l1 l2
          obtain ⟨hin1, hin2⟩ := hin0
          obtain ⟨hin1', hin2'⟩ := hinL
          have HRE := Lib.hid hres
          clear hgl hglp hck hckp h0 hL hrt hres
          cases hy : (yp.b == y.a)
          · have hres : res = false := by rw [← HRE.out, hy]; rfl
            go_wp2_with fail
            go_quiet (fail)
            go_wp2
            go_ret
            exact ⟨by rw [hres]; rfl, below_drewN HB1.out _⟩
          · cases hsm : decide (0 < sum)
            all_goals
              have hres := HRE.out
              rw [hy, hsm] at hres
              simp only [Bool.true_and, Bool.and_true, Bool.and_false] at hres
              subst hres
              clear HRE
              go_wp2_with fail
              go_quiet (fail)
              go_wp2
              go_ret
              exact ⟨rfl, below_drewN HB1.out _⟩
end Go.Proofs.Ytpknonebnipcgaa.G
