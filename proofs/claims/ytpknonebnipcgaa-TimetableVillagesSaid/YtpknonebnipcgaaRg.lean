import Derived.Test.YtpknonebnipcgaaProg
import Derived.WalkKit
import Derived.KernelRfl
import Derived.Deep.LoopGhost
import Derived.Deep.QuietTactic
import Derived.BigQuiet
import Derived.Deep.DeepCutAuto
import Derived.Deep.CutBlock
import Derived.Deep.RegionHeld3
import Derived.WalkLawsBesides
import Derived.WalkSpells
import Derived.Outline
import Derived.Deep.DeepFit
import Derived.Lib.Hide
import Derived.Shelf.Abstract
import Derived.Lib.SliceRun
import Derived.Test.YtpknonebnipcgaaRf

namespace Go.Proofs.Ytpknonebnipcgaa.Rg
open Go.RowKit Go.Shelf Go.Proofs.Ytpknonebnipcgaa.V Go.Proofs.Ytpknonebnipcgaa.A Go.Proofs.Ytpknonebnipcgaa.B Go.Proofs.Ytpknonebnipcgaa.C Go.Proofs.Ytpknonebnipcgaa.P Go.Proofs.Ytpknonebnipcgaa.D Go.Proofs.Ytpknonebnipcgaa.E Go.Proofs.Ytpknonebnipcgaa.G Go.Proofs.Ytpknonebnipcgaa.K Go.Proofs.Ytpknonebnipcgaa.N Go.Proofs.Ytpknonebnipcgaa.U Go.Proofs.Ytpknonebnipcgaa.W Go.Proofs.Ytpknonebnipcgaa.Y Go.Proofs.Ytpknonebnipcgaa.Rf
set_option linter.unusedVariables false
set_option linter.unusedSimpArgs false

/-- what the reference's Push says of its success -/
def pushOk (st : St) : Bool := if st.raised < 0 then st.ts.getD 0 0 == 0 else false

set_option maxRecDepth 100000 in
set_option maxHeartbeats 800000 in
theorem push37 (n : Nat) (A : Option Addr) (c : Nat) (ls : List T3) (At : Option Addr) (ct : Nat) (ts : List Int) (w : World) (hr : RdT w (.slice A ls.length c) ls) (ht : RdI w (.slice At ts.length ct) ts)
    (h1 : 1 ≤ n) (h2 : n ≤ 20) (h3 : ls.length ≤ 80) (hl : ∀ l ∈ ls ++ adds n, okLk n l = true) (htl : ts.length = n) (hts : ∀ x ∈ ts, 0 ≤ x ∧ x ≤ 1000000000) :
    Calls Try.prog 37 #[.int .i64 n, .slice A ls.length c, .slice At ts.length ct] w fun e w' => ∃ g c', e = .returned (.tuple #[.slice (some ⟨g, 0, none⟩) n c', .bool (pushOk (pushF n (ls ++ adds n) ts))]) ∧
      RdI w' (.slice (some ⟨g, 0, none⟩) n c') (pushF n (ls ++ adds n) ts).ts ∧ Below w.heap.size w w' := by
  subst htl
  have HR := Lib.hid hr
  have HT := Lib.hid ht
  have hll := (RdR.len hr).2
  have hlt := (RdR.len ht).2
  have HRA := Lib.hid (fun W (hb : Below w.heap.size w W) base gt cap (hO : V.Own W base gt cap ts) => raise78 ts.length A c ls W (Rd.below hr hb) base gt cap ts hO h1 h2 h3 hl rfl hts)
  have hpl : (pushF ts.length (ls ++ adds ts.length) ts).ts.length = ts.length := rounds_len _ rfl
  have HPL := Lib.hid hpl
  clear hr ht hl hts hpl
  unfold pushOk
  obtain ⟨R, hR⟩ : ∃ R, (if (pushF ts.length (ls ++ adds ts.length) ts).raised < 0 then (pushF ts.length (ls ++ adds ts.length) ts).ts.getD 0 0 == 0 else false) = R := ⟨_, rfl⟩
  rw [hR] at HRA ⊢
  clear hR
  generalize pushF ts.length (ls ++ adds ts.length) ts = st at *
  go_enter Try.func37, Try.ntmps37
  go_wp2_with (at_builtin; refine wp_append_rd w rfl _ _ 25 rfl w.heap.size 3 _ 1 8 Try.underlying25 info3 rfl (by decide) (.slice none 0 0) 0 [] rfl (World.ownsRow_nil _ _ _ _) encI ts _ rfl HT.out i_len i_one ?q1 ?q2 (Nat.le_refl _) ?_)
  case q1 => unfold maxLen; omega
  case q2 => omega
  intro v' w1 hown hgrow _
  try rw [Nat.zero_add, List.nil_append] at hown
  rw [ints_flat] at hown
  obtain ⟨g1, c1, rfl, hg1, hg2, _⟩ := owns_pos hown (by omega)
  have HB1 := Lib.hid (below_of hgrow)
  have HO1 : Hid (V.Own w1 w.heap.size g1 c1 ts) := Lib.hid hown
  have hra := HRA.out w1 HB1.out w.heap.size g1 c1 HO1.out
  have HRB := Lib.hid hra
  clear hown hgrow hra HRA
  go_wp2_with fail
  refine HRB.out.mono ?_
  rintro e w2 ⟨rfl, hO2, hg⟩
  have HO2 := Lib.hid hO2
  have HB2 : Hid (Below w.heap.size w w2) := Lib.hid (HB1.out.grown hg HB1.out.size (fun k e => by injection e with e; omega))
  clear hO2 hg
  go_wp2_with fail
  go_ret2
  refine ⟨g1, c1, rfl, ?_, HB2.out⟩
  · have := HO2.out.rd
    rw [HPL.out] at this
    exact this

set_option maxRecDepth 100000 in
set_option maxHeartbeats 800000 in
theorem earliest20 (n : Nat) (A : Option Addr) (c : Nat) (ls : List T3) (w : World) (hr : RdT w (.slice A ls.length c) ls) (h : rightB n ls = true) (hs : Small n ls) :
    Calls Try.prog 20 #[.int .i64 n, .slice A ls.length c] w fun e w' => ∃ g c', e = .returned (.tuple #[.slice (some ⟨g, 0, none⟩) n c', .bool (decide ((earl n ls).raised < 0))]) ∧
      RdI w' (.slice (some ⟨g, 0, none⟩) n c') (earl n ls).ts ∧ Below w.heap.size w w' := by
  obtain ⟨r1, r2, _, _⟩ := right_out h
  have hs1 := hs.1
  have hs2 := hs.2
  have hV := valid_all h
  have hz : pushOk (earl n ls) = decide ((earl (n : Int) ls).raised < 0) := by
    unfold pushOk
    by_cases f : (earl (n : Int) ls).raised < 0
    · rw [if_pos f, decide_eq_true f]
      have := (earl_zero h f).2.1
      unfold gt at this
      simpa using this
    · rw [if_neg f, decide_eq_false f]
  have hpe : pushF n (ls ++ adds n) (List.replicate n 0) = earl n ls := by unfold earl allOf; rw [Int.toNat_natCast]
  have hp := fun W (hb : Below w.heap.size w W) (g1 : Nat) (hO : RdI W (.slice (some ⟨g1, 0, none⟩) (List.replicate n (0 : Int)).length n) (List.replicate n (0 : Int))) => push37 n A c ls (some ⟨g1, 0, none⟩) n (List.replicate n 0) W (Rd.below hr hb) hO (by omega) (by omega) hs2 (by
    have := hV
    unfold allOf at this
    rw [Int.toNat_natCast] at this
    exact this) (by simp) (fun x hx => by have := List.eq_of_mem_replicate hx; omega)
  rw [hpe, hz] at hp
  simp only [List.length_replicate] at hp
  have HP := Lib.hid hp
  have hll := (RdR.len hr).2
  clear hr h hs hV hz hpe hp
  obtain ⟨R, hR⟩ : ∃ R, decide ((earl (n : Int) ls).raised < 0) = R := ⟨_, rfl⟩
  rw [hR] at HP ⊢
  clear hR
  generalize (earl (n : Int) ls).ts = ts at *
  go_enter Try.func20, Try.ntmps20
  go_wp2_with (at_make; refine wp_make_ints _ rfl _ _ 25 rfl w.heap.size Try.underlying25 info3 n rfl rfl ?q1 ?q2 ?_)
  case q1 => omega
  case q2 => exact Nat.le_refl _
  intro w1 hO hg
  have HB1 := Lib.hid (below_of hg)
  have hrd := hO.rd
  rw [List.length_replicate] at hrd
  have HC := Lib.hid (HP.out w1 HB1.out w.heap.size hrd)
  clear hO hg hrd HP
  go_wp2_with fail
  refine HC.out.mono ?_
  rintro e w2 ⟨g, c', rfl, h1, h2⟩
  have H1 := Lib.hid h1
  have H2 := Lib.hid h2
  clear h1 h2
  go_wp2_with fail
  go_ret2
  exact ⟨g, c', rfl, H1.out, below_then HB1.out HB1.out.size H2.out⟩
end Go.Proofs.Ytpknonebnipcgaa.Rg
