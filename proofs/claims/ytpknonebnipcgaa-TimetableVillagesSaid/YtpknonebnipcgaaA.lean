/- The leaves of the program: within, the predicates' closures, slices.IndexFunc and slices.ContainsFunc at the seat's instances, timetable.right. -/
import Derived.Test.YtpknonebnipcgaaProg
import Derived.WalkKit
import Derived.KernelRfl
import Derived.Deep.LoopGhost
import Derived.Deep.QuietTactic
import Derived.BigQuiet
import Derived.Deep.DeepCutAuto
import Derived.Deep.CutBlock
import Derived.Deep.RegionHeld3
import Derived.WalkLawsBesides
import Derived.WalkSpells
import Derived.Outline
import Derived.Deep.DeepFit
import Derived.Lib.Hide
import Derived.Shelf.Abstract
import Derived.Test.YtpknonebnipcgaaV
namespace Go.Proofs.Ytpknonebnipcgaa.A
open Go.RowKit Go.Shelf Go.Proofs.Ytpknonebnipcgaa.V
set_option linter.unusedVariables false
set_option linter.unusedSimpArgs false

/-- within: f57 -/
theorem within57 (x lo hi : Int) (w : World) :
    Calls Try.prog 57 #[.int .i64 x, .int .i64 lo, .int .i64 hi] w fun e w' => e = .returned (.bool (inB x lo hi)) ∧ w = w' := by
  unfold inB
  by_cases h : lo ≤ x
  all_goals
    go_enter Try.func57, Try.ntmps57
    go_wp2
    go_ret
    exact ⟨by simp [h] <;> omega, rfl⟩

/-- in of the reference: f63 -/
theorem in63 (x lo hi : Int) (w : World) :
    Calls Try.prog 63 #[.int .i64 x, .int .i64 lo, .int .i64 hi] w fun e w' => e = .returned (.bool (inB x lo hi)) ∧ w = w' := by
  unfold inB
  by_cases h : lo ≤ x
  all_goals
    go_enter Try.func63, Try.ntmps63
    go_wp2
    go_ret
    exact ⟨by simp [h] <;> omega, rfl⟩

set_option maxHeartbeats 1000000 in
theorem indexFunc60 (g : Nat) (lb : Array Value) (eg : ∀ args w, (callFunc g args).run Try.prog w = .ok (.enter g args) w) (p : T3 → Bool) (A : Option Addr) (c : Nat) (xs : List T3) (w : World)
    (hr : RdT w (.slice A xs.length c) xs) (hp : PredOn Try.prog g lb (fun l => .agg l.enc.toArray) p xs w) :
    Calls Try.prog 60 #[.slice A xs.length c, .func (.func g) #[] lb] w fun e w' => e = .returned (.int .i64 (idx p xs)) ∧ Below w.heap.size w w' := by
  have hlc : xs.length ≤ 9223372036854775807 := by have := RdR.len hr; omega
  have HP := Lib.hid hp
  clear hp
  have HC := Lib.hid hr
  clear hr
  have hu := Try.underlying58
  go_enter Try.func60, Try.ntmps60
  go_wp2
  go_loopg [5, 8] (xs.length) (fun gg _ s8 wr => ∃ kk : Nat, kk ≤ xs.length ∧ xs.length - kk ≤ gg ∧ s8 = .int .i64 kk ∧ Hid (Below w.heap.size w wr) ∧ Hid (∀ (j : Nat) (y : T3), j < kk → xs[j]? = some y → p y = false))
  case atStart => exact ⟨0, Nat.zero_le _, by omega, rfl, Lib.hid (Below.refl _ w), Lib.hid (fun j y hj => absurd hj (Nat.not_lt_zero _))⟩
  case round =>
    obtain ⟨kk, hkk, hg, rfl, BW, AM⟩ := hrel
    by_cases hlt : kk < xs.length
    · have hx : xs[kk]? = some xs[kk] := List.getElem?_eq_getElem hlt
      generalize xs[kk] = x at hx
      obtain ⟨b, off, rfl, hb, h0, h1, h2⟩ := Rd.t3 HC.out kk x hx
      have c0 := (BW.out.cell (p := ⟨b, off + kk * 3, none⟩) hb).trans h0
      have c1 := (BW.out.cell (p := ⟨b, off + kk * 3 + 1, none⟩) hb).trans h1
      have c2 := (BW.out.cell (p := ⟨b, off + kk * 3 + 2, none⟩) hb).trans h2
      clear h0 h1 h2
      have hcall := HP.out wr x (List.mem_of_getElem? hx) BW.out
      have HX := Lib.hid hx
      clear hx
      cases hq : p x
      · rw [hq] at hcall
        go_wp2_with (go_at_fn g; refine hcall.mono ?_; rintro e w' ⟨rfl, hb'⟩)
        go_roundg (xs.length - (kk + 1))
        case measure => omega
        case rel =>
          refine ⟨kk + 1, by omega, by omega, by go_num, Lib.hid (BW.out.trans (hb'.mono BW.out.size)), Lib.hid (fun j y hj hy => ?_)⟩
          by_cases e : j = kk
          · subst e
            rw [HX.out] at hy
            cases hy
            exact hq
          · exact AM.out j y (by omega) hy
      · rw [hq] at hcall
        go_wp2_with (go_at_fn g; refine hcall.mono ?_; rintro e w' ⟨rfl, hb'⟩)
        go_ret
        exact ⟨(by rw [idx_hit p xs kk x HX.out hq AM.out]; rfl), BW.out.trans (hb'.mono BW.out.size)⟩
    · have hk : kk = xs.length := by omega
      have hm : idx p xs = -1 := idx_miss p xs (fun j y hy => AM.out j y (by have := (List.getElem?_eq_some_iff.1 hy).1; omega) hy)
      have HM := Lib.hid hm
      clear hm hk
      go_wp2
      go_ret
      exact ⟨(by rw [HM.out]; rfl), BW.out⟩

theorem containsFunc72 (g : Nat) (lb : Array Value) (eg : ∀ args w, (callFunc g args).run Try.prog w = .ok (.enter g args) w) (p : T3 → Bool) (A : Option Addr) (c : Nat) (xs : List T3) (w : World)
    (hr : RdT w (.slice A xs.length c) xs) (hp : PredOn Try.prog g lb (fun l => .agg l.enc.toArray) p xs w) :
    Calls Try.prog 72 #[.slice A xs.length c, .func (.func g) #[] lb] w fun e w' => e = .returned (.bool (xs.any p)) ∧ Below w.heap.size w w' := by
  have hcon := indexFunc60 g lb eg p A c xs w hr hp
  clear hr hp eg
  rw [← idx_nonneg]
  generalize idx p xs = r at hcon ⊢
  go_enter Try.func72, Try.ntmps72
  go_wp2_with (go_at_call 60; refine hcon.mono ?_; rintro e w' ⟨rfl, hb'⟩)
  go_ret
  exact ⟨rfl, hb'⟩

set_option maxHeartbeats 1000000 in
theorem indexFunc110 (g : Nat) (lb : Array Value) (eg : ∀ args w, (callFunc g args).run Try.prog w = .ok (.enter g args) w) (p : T3 → Bool) (A : Option Addr) (c : Nat) (xs : List T3) (w : World)
    (hr : RdT w (.slice A xs.length c) xs) (hp : PredOn Try.prog g lb (fun l => .agg l.enc.toArray) p xs w) :
    Calls Try.prog 110 #[.slice A xs.length c, .func (.func g) #[] lb] w fun e w' => e = .returned (.int .i64 (idx p xs)) ∧ Below w.heap.size w w' := by
  have hlc : xs.length ≤ 9223372036854775807 := by have := RdR.len hr; omega
  have HP := Lib.hid hp
  clear hp
  have HC := Lib.hid hr
  clear hr
  have hu := Try.underlying43
  go_enter Try.func110, Try.ntmps110
  go_wp2
  go_loopg [5, 8] (xs.length) (fun gg _ s8 wr => ∃ kk : Nat, kk ≤ xs.length ∧ xs.length - kk ≤ gg ∧ s8 = .int .i64 kk ∧ Hid (Below w.heap.size w wr) ∧ Hid (∀ (j : Nat) (y : T3), j < kk → xs[j]? = some y → p y = false))
  case atStart => exact ⟨0, Nat.zero_le _, by omega, rfl, Lib.hid (Below.refl _ w), Lib.hid (fun j y hj => absurd hj (Nat.not_lt_zero _))⟩
  case round =>
    obtain ⟨kk, hkk, hg, rfl, BW, AM⟩ := hrel
    by_cases hlt : kk < xs.length
    · have hx : xs[kk]? = some xs[kk] := List.getElem?_eq_getElem hlt
      generalize xs[kk] = x at hx
      obtain ⟨b, off, rfl, hb, h0, h1, h2⟩ := Rd.t3 HC.out kk x hx
      have c0 := (BW.out.cell (p := ⟨b, off + kk * 3, none⟩) hb).trans h0
      have c1 := (BW.out.cell (p := ⟨b, off + kk * 3 + 1, none⟩) hb).trans h1
      have c2 := (BW.out.cell (p := ⟨b, off + kk * 3 + 2, none⟩) hb).trans h2
      clear h0 h1 h2
      have hcall := HP.out wr x (List.mem_of_getElem? hx) BW.out
      have HX := Lib.hid hx
      clear hx
      cases hq : p x
      · rw [hq] at hcall
        go_wp2_with (go_at_fn g; refine hcall.mono ?_; rintro e w' ⟨rfl, hb'⟩)
        go_roundg (xs.length - (kk + 1))
        case measure => omega
        case rel =>
          refine ⟨kk + 1, by omega, by omega, by go_num, Lib.hid (BW.out.trans (hb'.mono BW.out.size)), Lib.hid (fun j y hj hy => ?_)⟩
          by_cases e : j = kk
          · subst e
            rw [HX.out] at hy
            cases hy
            exact hq
          · exact AM.out j y (by omega) hy
      · rw [hq] at hcall
        go_wp2_with (go_at_fn g; refine hcall.mono ?_; rintro e w' ⟨rfl, hb'⟩)
        go_ret
        exact ⟨(by rw [idx_hit p xs kk x HX.out hq AM.out]; rfl), BW.out.trans (hb'.mono BW.out.size)⟩
    · have hk : kk = xs.length := by omega
      have hm : idx p xs = -1 := idx_miss p xs (fun j y hy => AM.out j y (by have := (List.getElem?_eq_some_iff.1 hy).1; omega) hy)
      have HM := Lib.hid hm
      clear hm hk
      go_wp2
      go_ret
      exact ⟨(by rw [HM.out]; rfl), BW.out⟩

theorem containsFunc104 (g : Nat) (lb : Array Value) (eg : ∀ args w, (callFunc g args).run Try.prog w = .ok (.enter g args) w) (p : T3 → Bool) (A : Option Addr) (c : Nat) (xs : List T3) (w : World)
    (hr : RdT w (.slice A xs.length c) xs) (hp : PredOn Try.prog g lb (fun l => .agg l.enc.toArray) p xs w) :
    Calls Try.prog 104 #[.slice A xs.length c, .func (.func g) #[] lb] w fun e w' => e = .returned (.bool (xs.any p)) ∧ Below w.heap.size w w' := by
  have hcon := indexFunc110 g lb eg p A c xs w hr hp
  clear hr hp eg
  rw [← idx_nonneg]
  generalize idx p xs = r at hcon ⊢
  go_enter Try.func104, Try.ntmps104
  go_wp2_with (go_at_call 110; refine hcon.mono ?_; rintro e w' ⟨rfl, hb'⟩)
  go_ret
  exact ⟨rfl, hb'⟩

set_option maxHeartbeats 1000000 in
theorem indexFunc112 (g : Nat) (lb : Array Value) (eg : ∀ args w, (callFunc g args).run Try.prog w = .ok (.enter g args) w) (p : T3 → Bool) (A : Option Addr) (c : Nat) (xs : List T3) (w : World)
    (hr : RdT w (.slice A xs.length c) xs) (hp : PredOn Try.prog g lb (fun l => .agg l.enc.toArray) p xs w) :
    Calls Try.prog 112 #[.slice A xs.length c, .func (.func g) #[] lb] w fun e w' => e = .returned (.int .i64 (idx p xs)) ∧ Below w.heap.size w w' := by
  have hlc : xs.length ≤ 9223372036854775807 := by have := RdR.len hr; omega
  have HP := Lib.hid hp
  clear hp
  have HC := Lib.hid hr
  clear hr
  have hu := Try.underlying77
  go_enter Try.func112, Try.ntmps112
  go_wp2
  go_loopg [5, 8] (xs.length) (fun gg _ s8 wr => ∃ kk : Nat, kk ≤ xs.length ∧ xs.length - kk ≤ gg ∧ s8 = .int .i64 kk ∧ Hid (Below w.heap.size w wr) ∧ Hid (∀ (j : Nat) (y : T3), j < kk → xs[j]? = some y → p y = false))
  case atStart => exact ⟨0, Nat.zero_le _, by omega, rfl, Lib.hid (Below.refl _ w), Lib.hid (fun j y hj => absurd hj (Nat.not_lt_zero _))⟩
  case round =>
    obtain ⟨kk, hkk, hg, rfl, BW, AM⟩ := hrel
    by_cases hlt : kk < xs.length
    · have hx : xs[kk]? = some xs[kk] := List.getElem?_eq_getElem hlt
      generalize xs[kk] = x at hx
      obtain ⟨b, off, rfl, hb, h0, h1, h2⟩ := Rd.t3 HC.out kk x hx
      have c0 := (BW.out.cell (p := ⟨b, off + kk * 3, none⟩) hb).trans h0
      have c1 := (BW.out.cell (p := ⟨b, off + kk * 3 + 1, none⟩) hb).trans h1
      have c2 := (BW.out.cell (p := ⟨b, off + kk * 3 + 2, none⟩) hb).trans h2
      clear h0 h1 h2
      have hcall := HP.out wr x (List.mem_of_getElem? hx) BW.out
      have HX := Lib.hid hx
      clear hx
      cases hq : p x
      · rw [hq] at hcall
        go_wp2_with (go_at_fn g; refine hcall.mono ?_; rintro e w' ⟨rfl, hb'⟩)
        go_roundg (xs.length - (kk + 1))
        case measure => omega
        case rel =>
          refine ⟨kk + 1, by omega, by omega, by go_num, Lib.hid (BW.out.trans (hb'.mono BW.out.size)), Lib.hid (fun j y hj hy => ?_)⟩
          by_cases e : j = kk
          · subst e
            rw [HX.out] at hy
            cases hy
            exact hq
          · exact AM.out j y (by omega) hy
      · rw [hq] at hcall
        go_wp2_with (go_at_fn g; refine hcall.mono ?_; rintro e w' ⟨rfl, hb'⟩)
        go_ret
        exact ⟨(by rw [idx_hit p xs kk x HX.out hq AM.out]; rfl), BW.out.trans (hb'.mono BW.out.size)⟩
    · have hk : kk = xs.length := by omega
      have hm : idx p xs = -1 := idx_miss p xs (fun j y hy => AM.out j y (by have := (List.getElem?_eq_some_iff.1 hy).1; omega) hy)
      have HM := Lib.hid hm
      clear hm hk
      go_wp2
      go_ret
      exact ⟨(by rw [HM.out]; rfl), BW.out⟩

theorem containsFunc107 (g : Nat) (lb : Array Value) (eg : ∀ args w, (callFunc g args).run Try.prog w = .ok (.enter g args) w) (p : T3 → Bool) (A : Option Addr) (c : Nat) (xs : List T3) (w : World)
    (hr : RdT w (.slice A xs.length c) xs) (hp : PredOn Try.prog g lb (fun l => .agg l.enc.toArray) p xs w) :
    Calls Try.prog 107 #[.slice A xs.length c, .func (.func g) #[] lb] w fun e w' => e = .returned (.bool (xs.any p)) ∧ Below w.heap.size w w' := by
  have hcon := indexFunc112 g lb eg p A c xs w hr hp
  clear hr hp eg
  rw [← idx_nonneg]
  generalize idx p xs = r at hcon ⊢
  go_enter Try.func107, Try.ntmps107
  go_wp2_with (go_at_call 112; refine hcon.mono ?_; rintro e w' ⟨rfl, hb'⟩)
  go_ret
  exact ⟨rfl, hb'⟩

set_option maxHeartbeats 1000000 in
theorem indexFunc99 (g : Nat) (lb : Array Value) (eg : ∀ args w, (callFunc g args).run Try.prog w = .ok (.enter g args) w) (p : Int → Bool) (A : Option Addr) (c : Nat) (xs : List Int) (w : World)
    (hr : RdI w (.slice A xs.length c) xs) (hp : PredOn Try.prog g lb vI p xs w) :
    Calls Try.prog 99 #[.slice A xs.length c, .func (.func g) #[] lb] w fun e w' => e = .returned (.int .i64 (idx p xs)) ∧ Below w.heap.size w w' := by
  have hlc : xs.length ≤ 9223372036854775807 := by have := RdR.len hr; omega
  have HP := Lib.hid hp
  clear hp
  have HC := Lib.hid hr
  clear hr
  go_enter Try.func99, Try.ntmps99
  go_wp2
  go_loopg [5, 8] (xs.length) (fun gg _ s8 wr => ∃ kk : Nat, kk ≤ xs.length ∧ xs.length - kk ≤ gg ∧ s8 = .int .i64 kk ∧ Hid (Below w.heap.size w wr) ∧ Hid (∀ (j : Nat) (y : Int), j < kk → xs[j]? = some y → p y = false))
  case atStart => exact ⟨0, Nat.zero_le _, by omega, rfl, Lib.hid (Below.refl _ w), Lib.hid (fun j y hj => absurd hj (Nat.not_lt_zero _))⟩
  case round =>
    obtain ⟨kk, hkk, hg, rfl, BW, AM⟩ := hrel
    by_cases hlt : kk < xs.length
    · have hx : xs[kk]? = some xs[kk] := List.getElem?_eq_getElem hlt
      generalize xs[kk] = x at hx
      obtain ⟨b, off, rfl, hb, h0⟩ := Rd.i HC.out kk x hx
      have c0 := (BW.out.cell (p := ⟨b, off + kk, none⟩) hb).trans h0
      clear h0
      have hcall := HP.out wr x (List.mem_of_getElem? hx) BW.out
      have HX := Lib.hid hx
      clear hx
      cases hq : p x
      · rw [hq] at hcall
        go_wp2_with (go_at_fn g; refine hcall.mono ?_; rintro e w' ⟨rfl, hb'⟩)
        go_roundg (xs.length - (kk + 1))
        case measure => omega
        case rel =>
          refine ⟨kk + 1, by omega, by omega, by go_num, Lib.hid (BW.out.trans (hb'.mono BW.out.size)), Lib.hid (fun j y hj hy => ?_)⟩
          by_cases e : j = kk
          · subst e
            rw [HX.out] at hy
            cases hy
            exact hq
          · exact AM.out j y (by omega) hy
      · rw [hq] at hcall
        go_wp2_with (go_at_fn g; refine hcall.mono ?_; rintro e w' ⟨rfl, hb'⟩)
        go_ret
        exact ⟨(by rw [idx_hit p xs kk x HX.out hq AM.out]; rfl), BW.out.trans (hb'.mono BW.out.size)⟩
    · have hk : kk = xs.length := by omega
      have hm : idx p xs = -1 := idx_miss p xs (fun j y hy => AM.out j y (by have := (List.getElem?_eq_some_iff.1 hy).1; omega) hy)
      have HM := Lib.hid hm
      clear hm hk
      go_wp2
      go_ret
      exact ⟨(by rw [HM.out]; rfl), BW.out⟩

theorem containsFunc70 (g : Nat) (lb : Array Value) (eg : ∀ args w, (callFunc g args).run Try.prog w = .ok (.enter g args) w) (p : Int → Bool) (A : Option Addr) (c : Nat) (xs : List Int) (w : World)
    (hr : RdI w (.slice A xs.length c) xs) (hp : PredOn Try.prog g lb vI p xs w) :
    Calls Try.prog 70 #[.slice A xs.length c, .func (.func g) #[] lb] w fun e w' => e = .returned (.bool (xs.any p)) ∧ Below w.heap.size w w' := by
  have hcon := indexFunc99 g lb eg p A c xs w hr hp
  clear hr hp eg
  rw [← idx_nonneg]
  generalize idx p xs = r at hcon ⊢
  go_enter Try.func70, Try.ntmps70
  go_wp2_with (go_at_call 99; refine hcon.mono ?_; rintro e w' ⟨rfl, hb'⟩)
  go_ret
  exact ⟨rfl, hb'⟩



/-! ### right -/
def okLk (n : Int) (l : T3) : Bool := inB l.a 0 (n - 1) && inB l.b 0 (n - 1) && inB l.c (-1000000) 1000000

theorem right93 (n : Int) (l : T3) (B : Nat) (w : World) (hB : B < w.heap.size) (h1 : -1000 ≤ n) (h2 : n ≤ 1000) (hc : w.cell? ⟨B, 0, none⟩ = some (.int .i64 n)) :
    Calls Try.prog 93 #[.agg l.enc.toArray, .pointer (some ⟨B, 0, none⟩)] w fun e w' => e = .returned (.bool (!okLk n l)) ∧ Below w.heap.size w w' := by
  obtain ⟨f, t, ww⟩ := l
  show Calls Try.prog 93 #[.agg #[.int .i64 f, .int .i64 t, .int .i64 ww], .pointer (some ⟨B, 0, none⟩)] w _
  have hne : B ≠ w.heap.size := by omega
  simp only [okLk]
  cases h5 : inB f 0 (n - 1) <;> cases h6 : inB t 0 (n - 1) <;> cases h7 : inB ww (-1000000) 1000000
  all_goals
    go_enter Try.func93, Try.ntmps93
    go_wp2_with (go_at_call 57; refine (within57 _ _ _ _).mono ?_; rintro e w' ⟨rfl, rfl⟩)
    go_ret
    exact ⟨rfl, (Below.refl _ _).alloc (Nat.le_refl _) _⟩

/-- a net is as defined -/
def rightB (n : Int) (ls : List T3) : Bool := inB n 1 500 && decide (ls.length ≤ 5000) && ls.all (okLk n)

theorem any_not_all (p : T3 → Bool) (xs : List T3) : xs.any (fun x => !p x) = !xs.all p := by
  induction xs with
  | nil => rfl
  | cons x xs ih => simp [ih]

theorem right56 (n : Int) (A : Option Addr) (c : Nat) (ls : List T3) (w : World) (hr : RdT w (.slice A ls.length c) ls) :
    Calls Try.prog 56 #[.int .i64 n, .slice A ls.length c] w fun e w' => e = .returned (.bool (rightB n ls)) ∧ Below w.heap.size w w' := by
  have hlc : ls.length ≤ 9223372036854775807 := by have := RdR.len hr; omega
  unfold rightB
  cases h5 : inB n 1 500
  · go_enter Try.func56, Try.ntmps56
    go_wp2_with (go_at_call 57; refine (within57 _ _ _ _).mono ?_; rintro e w' ⟨rfl, rfl⟩)
    go_ret
    exact ⟨rfl, (Below.refl _ _).alloc (Nat.le_refl _) _⟩
  · by_cases h6 : ls.length ≤ 5000
    · have h6b : decide ((ls.length : Int) ≤ 5000) = true := decide_eq_true (by omega)
      have hn : 1 ≤ n ∧ n ≤ 500 := by simpa [inB] using h5
      obtain ⟨hn1, hn2⟩ := hn
      have hcon := containsFunc72 93 #[.pointer (some ⟨w.heap.size, 0, none⟩)] (enters_of Try.func93 (by kernel_rfl) rfl) (fun l => !okLk n l) A c ls (w.alloc (.cells #[.int .i64 n] 3))
        (Rd.below hr ((Below.refl _ _).alloc (Nat.le_refl _) _)) (fun W x hx hb => right93 n x w.heap.size W (by have := hb.size; simp at this; omega) (by omega) (by omega)
          ((hb.cell (p := ⟨w.heap.size, 0, none⟩) (by simp)).trans (by simp)))
      rw [any_not_all] at hcon
      rw [decide_eq_true h6]
      generalize ls.all (okLk n) = r at hcon ⊢
      clear hr
      go_enter Try.func56, Try.ntmps56
      go_wp2_with (first | (go_at_call 57; refine (within57 _ _ _ _).mono ?_; rintro e w' ⟨rfl, rfl⟩) | (go_at_call 72; refine hcon.mono ?_; rintro e w' ⟨rfl, hb'⟩))
      go_ret
      exact ⟨by simp, ((Below.refl _ w).alloc (Nat.le_refl _) _).trans (hb'.mono (by simp))⟩
    · have h6b : decide ((ls.length : Int) ≤ 5000) = false := decide_eq_false (by omega)
      rw [decide_eq_false h6]
      clear hr
      go_enter Try.func56, Try.ntmps56
      go_wp2_with (go_at_call 57; refine (within57 _ _ _ _).mono ?_; rintro e w' ⟨rfl, rfl⟩)
      go_ret
      exact ⟨rfl, (Below.refl _ _).alloc (Nat.le_refl _) _⟩

end Go.Proofs.Ytpknonebnipcgaa.A
