/- Vocabulary of this seat's proofs: what it means that a slice value reads as a list in a world, what a row of the call's own holds, and how these facts live on while memory grows. No program in sight. -/
import Derived.WalkKit
import Derived.KernelRfl
import Derived.Below
import Derived.Laws.AppendOwn
import Derived.Laws.OwnMore
import Derived.Laws.MakeOwn
import Derived.Deep.OwnRows
import Derived.OwnWalk
import Derived.Lib.Hide
import Derived.Deep.Draws
import Derived.Maps.AppendAt
namespace Go.Proofs.Ytpknonebnipcgaa.V
open Go.RowKit
set_option linter.unusedVariables false
set_option linter.unusedSimpArgs false
variable {α : Type}

/-- three numbers: a link (From, To, Least), a window (From, Until, Limit), a leg of fuel -/
structure T3 where
  a : Int
  b : Int
  c : Int
deriving DecidableEq
def T3.enc (l : T3) : List Value := [.int .i64 l.a, .int .i64 l.b, .int .i64 l.c]
def encI (x : Int) : List Value := [.int .i64 x]
def encB (x : Bool) : List Value := [.bool x]
abbrev vI (x : Int) : Value := .int .i64 x

def inB (x lo hi : Int) : Bool := decide (lo ≤ x) && decide (x ≤ hi)

/-- where the first element lies at which p holds; -1: nowhere -/
def idx (p : α → Bool) (xs : List α) : Int := match xs.findIdx? p with | some i => (i : Int) | none => -1

theorem idx_hit (p : α → Bool) (xs : List α) (k : Nat) (x : α) (h : xs[k]? = some x) (hp : p x = true) (hm : ∀ (j : Nat) (y : α), j < k → xs[j]? = some y → p y = false) : idx p xs = k := by
  unfold idx
  have : xs.findIdx? p = some k := by
    rw [List.findIdx?_eq_some_iff_getElem]
    obtain ⟨hk, rfl⟩ := List.getElem?_eq_some_iff.1 h
    refine ⟨hk, hp, fun j hj => ?_⟩
    have := hm j _ hj (List.getElem?_eq_getElem (by omega))
    simp [this]
  rw [this]

theorem idx_miss (p : α → Bool) (xs : List α) (hm : ∀ (j : Nat) (y : α), xs[j]? = some y → p y = false) : idx p xs = -1 := by
  unfold idx
  have : xs.findIdx? p = none := by
    rw [List.findIdx?_eq_none_iff]
    intro x hx
    obtain ⟨j, hj⟩ := List.getElem?_of_mem hx
    exact hm j x hj
  rw [this]

theorem idx_nonneg (p : α → Bool) (xs : List α) : decide (0 ≤ idx p xs) = xs.any p := by
  unfold idx
  cases h : xs.findIdx? p with
  | none =>
    rw [List.findIdx?_eq_none_iff] at h
    have : xs.any p = false := by
      rw [List.any_eq_false]
      intro x hx
      simp [h x hx]
    rw [this]; rfl
  | some i =>
    obtain ⟨hi, hp, _⟩ := List.findIdx?_eq_some_iff_getElem.1 h
    have : xs.any p = true := List.any_eq_true.2 ⟨_, List.getElem_mem hi, hp⟩
    rw [this]
    exact decide_eq_true (Int.natCast_nonneg i)

/-! ### a slice value reads as a list -/
/-- v is a slice that reads as xs in w; k cells an element; R tells an element's cells -/
def RdR (k : Nat) (R : World → α → List Value → Prop) (w : World) (v : Value) (xs : List α) : Prop :=
  ∃ A c, v = .slice A xs.length c ∧ xs.length ≤ c ∧ c ≤ maxLen ∧ (A = none → c = 0) ∧ ∀ j x, xs[j]? = some x → ∃ b off cs, A = some ⟨b, off, none⟩ ∧ b < w.heap.size ∧ R w x cs ∧ ∀ i u, cs[i]? = some u → w.cell? ⟨b, off + j * k + i, none⟩ = some u

def Rd (k : Nat) (enc : α → List Value) (w : World) (v : Value) (xs : List α) : Prop := RdR k (fun _ x cs => cs = enc x) w v xs
abbrev RdI := Rd 1 encI
abbrev RdB := Rd 1 encB
abbrev RdT := Rd 3 T3.enc

theorem RdR.form {k : Nat} {R : World → α → List Value → Prop} {w : World} {v : Value} {xs : List α} (h : RdR k R w v xs) : ∃ A c, v = .slice A xs.length c ∧ xs.length ≤ c ∧ c ≤ 9223372036854775807 ∧ (A = none → c = 0) := by
  obtain ⟨A, c, rfl, h1, h2, h3, _⟩ := h
  exact ⟨A, c, rfl, h1, by unfold maxLen at h2; omega, h3⟩

theorem RdR.len {k : Nat} {R : World → α → List Value → Prop} {w : World} {A : Option Addr} {n c : Nat} {xs : List α} (h : RdR k R w (.slice A n c) xs) : n = xs.length ∧ n ≤ c ∧ c ≤ 9223372036854775807 := by
  obtain ⟨A', c', e, h1, h2, _⟩ := h.form
  injection e with e1 e2 e3
  exact ⟨e2, by omega, by omega⟩

theorem RdR.at {k : Nat} {R : World → α → List Value → Prop} {w : World} {A : Option Addr} {n c : Nat} {xs : List α} (h : RdR k R w (.slice A n c) xs) (j : Nat) (x : α) (hx : xs[j]? = some x) :
    ∃ b off cs, A = some ⟨b, off, none⟩ ∧ b < w.heap.size ∧ R w x cs ∧ ∀ i u, cs[i]? = some u → w.cell? ⟨b, off + j * k + i, none⟩ = some u := by
  obtain ⟨A', c', e, _, _, _, hc⟩ := h
  injection e with e1 _ _
  subst e1
  exact hc j x hx

theorem Rd.t3 {w : World} {A : Option Addr} {n c : Nat} {xs : List T3} (h : RdT w (.slice A n c) xs) (j : Nat) (x : T3) (hx : xs[j]? = some x) :
    ∃ b off, A = some ⟨b, off, none⟩ ∧ b < w.heap.size ∧ w.cell? ⟨b, off + j * 3, none⟩ = some (.int .i64 x.a) ∧ w.cell? ⟨b, off + j * 3 + 1, none⟩ = some (.int .i64 x.b) ∧ w.cell? ⟨b, off + j * 3 + 2, none⟩ = some (.int .i64 x.c) := by
  obtain ⟨b, off, cs, hA, hb, rfl, hc⟩ := RdR.at h j x hx
  exact ⟨b, off, hA, hb, hc 0 _ rfl, hc 1 _ rfl, hc 2 _ rfl⟩

theorem Rd.i {w : World} {A : Option Addr} {n c : Nat} {xs : List Int} (h : RdI w (.slice A n c) xs) (j : Nat) (x : Int) (hx : xs[j]? = some x) :
    ∃ b off, A = some ⟨b, off, none⟩ ∧ b < w.heap.size ∧ w.cell? ⟨b, off + j, none⟩ = some (.int .i64 x) := by
  obtain ⟨b, off, cs, hA, hb, rfl, hc⟩ := RdR.at h j x hx
  exact ⟨b, off, hA, hb, by have := hc 0 _ rfl; rwa [Nat.mul_one, Nat.add_zero] at this⟩

theorem Rd.bl {w : World} {A : Option Addr} {n c : Nat} {xs : List Bool} (h : RdB w (.slice A n c) xs) (j : Nat) (x : Bool) (hx : xs[j]? = some x) :
    ∃ b off, A = some ⟨b, off, none⟩ ∧ b < w.heap.size ∧ w.cell? ⟨b, off + j, none⟩ = some (.bool x) := by
  obtain ⟨b, off, cs, hA, hb, rfl, hc⟩ := RdR.at h j x hx
  exact ⟨b, off, hA, hb, by have := hc 0 _ rfl; rwa [Nat.mul_one, Nat.add_zero] at this⟩

theorem RdR.nil (k : Nat) (R : World → α → List Value → Prop) (w : World) : RdR k R w (.slice none 0 0) ([] : List α) :=
  ⟨none, 0, rfl, Nat.le_refl _, by unfold maxLen; omega, fun _ => rfl, fun j x h => by simp at h⟩

theorem RdR.empty (k : Nat) (R : World → α → List Value → Prop) (w : World) (A : Option Addr) (c : Nat) (hc : c ≤ 9223372036854775807) (hn : A = none → c = 0) : RdR k R w (.slice A 0 c) ([] : List α) :=
  ⟨A, c, rfl, Nat.zero_le _, by unfold maxLen; omega, hn, fun j x h => by simp at h⟩

/-- no block of what came before turns, but for one row -/
theorem RdR.grown {k : Nat} {R : World → α → List Value → Prop} {w w' : World} {v : Value} {xs : List α} {row : Option Nat} (h : RdR k R w v xs) (hg : w.grownBy w' row)
    (hne : ∀ q, v.ownBlock = some q → some q ≠ row) (hR : ∀ x cs, x ∈ xs → R w x cs → R w' x cs) : RdR k R w' v xs := by
  obtain ⟨A, c, rfl, h1, h2, h3, hc⟩ := h
  refine ⟨A, c, rfl, h1, h2, h3, fun j x hx => ?_⟩
  obtain ⟨b, off, cs, rfl, hb, hr, hcell⟩ := hc j x hx
  refine ⟨b, off, cs, rfl, Nat.lt_of_lt_of_le hb hg.size, hR x cs (List.mem_of_getElem? hx) hr, fun i u hu => ?_⟩
  exact (World.cell?_of_block (w := w) (hg.block b hb (hne b rfl))).trans (hcell i u hu)

theorem grown_of {w w1 : World} (h : Below w.heap.size w w1) (row : Option Nat) : w.grownBy w1 row := ⟨h.os, h.tape, h.output, h.size, fun i hi _ => h.block i hi⟩
theorem below_of {w w1 : World} (h : w.grownBy w1 none) : Below w.heap.size w w1 := ⟨h.os, h.tape, h.output, h.size, fun i hi => h.block i hi (by simp)⟩

theorem Rd.below {k : Nat} {enc : α → List Value} {w w' : World} {v : Value} {xs : List α} (h : Rd k enc w v xs) (hb : Below w.heap.size w w') : Rd k enc w' v xs :=
  RdR.grown h (grown_of hb none) (fun _ _ => by simp) (fun _ _ _ h => h)
theorem Rd.grown {k : Nat} {enc : α → List Value} {w w' : World} {v : Value} {xs : List α} {row : Option Nat} (h : Rd k enc w v xs) (hg : w.grownBy w' row) (hne : ∀ q, v.ownBlock = some q → some q ≠ row) : Rd k enc w' v xs :=
  RdR.grown h hg hne (fun _ _ _ h => h)
theorem Rd.lt {k : Nat} {R : World → α → List Value → Prop} {w : World} {A : Option Addr} {n c : Nat} {xs : List α} (h : RdR k R w (.slice A n c) xs) (j : Nat) (hj : j < n) : ∃ b off, A = some ⟨b, off, none⟩ ∧ b < w.heap.size := by
  have hl := h.len.1
  have hx : xs[j]? = some xs[j] := List.getElem?_eq_getElem (by omega)
  obtain ⟨b, off, _, h1, h2, _⟩ := h.at j _ hx
  exact ⟨b, off, h1, h2⟩

/-- what a predicate's closure does at the elements of xs, in every world that extends w -/
def PredOn (P : Program) (g : Nat) (lb : Array Value) (enc : α → Value) (p : α → Bool) (xs : List α) (w : World) : Prop :=
  ∀ (W : World) (x : α), x ∈ xs → Below w.heap.size w W → Calls P g (#[enc x] ++ lb) W fun e w' => e = .returned (.bool (p x)) ∧ Below W.heap.size W w'

/-! ### rows of the call's own -/
def ints (xs : List Int) : List Value := xs.map fun x => .int .i64 x
theorem ints_length (xs : List Int) : (ints xs).length = xs.length := by simp [ints]
theorem ints_append (xs ys : List Int) : ints (xs ++ ys) = ints xs ++ ints ys := by simp [ints]
theorem ints_get {xs : List Int} {j : Nat} {x : Int} (h : xs[j]? = some x) : (ints xs)[j]? = some (.int .i64 x) := by simp [ints, h]

theorem add0 (g j : Nat) : (⟨g, 0, none⟩ : Addr).add j = ⟨g, j, none⟩ := by unfold Addr.add; split <;> simp_all

/-- a row of ints of one's own: at the head of block g -/
def Own (w : World) (base g cap : Nat) (xs : List Int) : Prop := w.ownsRow base 3 1 (.slice (some ⟨g, 0, none⟩) xs.length cap) xs.length (ints xs)

theorem Own.blk {w : World} {base g cap : Nat} {xs : List Int} (h : Own w base g cap xs) : ∃ cur, base ≤ g ∧ g < w.heap.size ∧ w.heap[g]? = some (.cells cur 3 (0, 0)) ∧ xs.length ≤ cap ∧ cap ≤ 9223372036854775807 ∧ cur.size = cap ∧ cur.toList.take xs.length = ints xs := by
  rcases h.2 with ⟨h', _⟩ | ⟨g', cap', cur, h', hb, hh, h1, h2, h3, h4⟩
  · cases h'
  · injection h' with e1 e2 e3
    injection e1 with e1
    injection e1 with e1
    subst e1 e3
    exact ⟨cur, hb, (Array.getElem?_eq_some_iff.1 hh).1, hh, h1, by unfold maxLen at h2; omega, by simpa using h3, by simpa using h4⟩

theorem Own.at {w : World} {base g cap : Nat} {xs : List Int} (h : Own w base g cap xs) {j : Nat} {x : Int} (hx : xs[j]? = some x) : w.cell? ⟨g, j, none⟩ = some (.int .i64 x) ∧ w.frozen? ⟨g, j, none⟩ = false := by
  constructor
  · have hc := World.ownsRow.cells h (g := g) rfl j (.int .i64 x) (ints_get hx)
    rwa [add0] at hc
  · obtain ⟨cur, _, _, hh, _⟩ := h.blk
    simp [World.frozen?, hh]

theorem Own.set {w : World} {base g cap : Nat} {xs : List Int} (h : Own w base g cap xs) (j : Nat) (x : Int) : Own (w.setCell ⟨g, j, none⟩ (.int .i64 x)) base g cap (xs.set j x) := by
  have hs := (World.ownsRow.stored h j (.int .i64 x)).1
  have he : (ints xs).set j (.int .i64 x) = ints (xs.set j x) := by simp [ints, List.map_set]
  rw [he] at hs
  unfold Own
  rwa [List.length_set]

theorem Own.kept {w w' : World} {base g cap : Nat} {xs : List Int} (h : Own w base g cap xs) {row : Option Nat} (hg : w.grownBy w' row) (hne : some g ≠ row) : Own w' base g cap xs :=
  World.ownsRow.kept h hg (.inr (by simpa [Value.ownBlock] using hne))

theorem Own.below {w w' : World} {base g cap : Nat} {xs : List Int} (h : Own w base g cap xs) (hb : Below w.heap.size w w') : Own w' base g cap xs := h.kept (grown_of hb none) (by simp)

theorem grown_set (w : World) (g j : Nat) (u : Value) : w.grownBy (w.setCell ⟨g, j, none⟩ u) (some g) :=
  ⟨rfl, rfl, rfl, by simp [World.setCell], fun k _ hk => Below.heap_setCell w _ _ _ (fun e => hk (by rw [e]))⟩

theorem Own.other {w : World} {base g cap : Nat} {xs : List Int} (h : Own w base g cap xs) {p : Nat} {j : Nat} (hne : g ≠ p) (u : Value) : Own (w.setCell ⟨p, j, none⟩ u) base g cap xs :=
  h.kept (grown_set w p j u) (by simpa using hne)

theorem Own.rd {w : World} {base g cap : Nat} {xs : List Int} (h : Own w base g cap xs) : RdI w (.slice (some ⟨g, 0, none⟩) xs.length cap) xs := by
  obtain ⟨cur, h0, h1, h2, h3, h4, h5, h6⟩ := h.blk
  refine ⟨_, cap, rfl, h3, by unfold maxLen; omega, by simp, fun j x hx => ⟨g, 0, _, rfl, h1, rfl, fun i u hu => ?_⟩⟩
  cases i with
  | zero => simp [encI] at hu; subst hu; simpa using (h.at hx).1
  | succ i => simp [encI] at hu

/-- what owns a row (whatever its form) reads as it -/
theorem rd_of_owns {w : World} {base e k : Nat} {v : Value} {enc : α → List Value} {xs : List α} (hk : ∀ x, (enc x).length = k) (h : w.ownsRow base e k v xs.length (xs.flatMap enc)) : Rd k enc w v xs := by
  rcases h.2 with ⟨rfl, h0⟩ | ⟨g, cap, cur, rfl, hb, hh, h1, h2, h3, h4⟩
  · obtain rfl := List.eq_nil_of_length_eq_zero h0
    exact RdR.nil _ _ _
  · refine ⟨_, cap, rfl, h1, h2, by simp, fun j x hx => ⟨g, 0, enc x, rfl, (Array.getElem?_eq_some_iff.1 hh).1, rfl, fun i u hu => ?_⟩⟩
    have hi : i < k := by have := (List.getElem?_eq_some_iff.1 hu).1; rwa [hk] at this
    have key : ∀ (ys : List α) (j : Nat), ys[j]? = some x → (ys.flatMap enc)[j * k + i]? = some u := by
      intro ys
      induction ys with
      | nil => intro j h; simp at h
      | cons y ys ih =>
        intro j h
        rw [List.flatMap_cons]
        cases j with
        | zero => simp at h; subst h; rw [List.getElem?_append_left (by rw [hk]; omega)]; simpa using hu
        | succ j =>
          rw [List.getElem?_append_right (by rw [hk, Nat.succ_mul]; omega), hk]
          rw [show (j + 1) * k + i - k = j * k + i by rw [Nat.succ_mul]; omega]
          exact ih j (by simpa using h)
    have hc := World.ownsRow.cells h (g := g) rfl (j * k + i) u (key xs j hx)
    rw [add0] at hc
    simpa using hc

theorem ints_flat (xs : List Int) : xs.flatMap encI = ints xs := by
  induction xs with
  | nil => rfl
  | cons x xs ih => simpa [encI, ints] using ih

theorem rdI_of_owns {w : World} {base e : Nat} {v : Value} {xs : List Int} (h : w.ownsRow base e 1 v xs.length (ints xs)) : RdI w v xs := rd_of_owns (fun _ => rfl) (by rw [ints_flat]; exact h)

theorem owns_form {w : World} {base e k n : Nat} {v : Value} {xs : List Value} (h : w.ownsRow base e k v n xs) : (v = .slice none 0 0 ∧ n = 0) ∨ ∃ g cap, v = .slice (some ⟨g, 0, none⟩) n cap ∧ base ≤ g ∧ g < w.heap.size ∧ n ≤ cap := by
  rcases h.2 with h | ⟨g, cap, cur, rfl, hb, hh, h1, _⟩
  · exact .inl h
  · exact .inr ⟨g, cap, rfl, hb, (Array.getElem?_eq_some_iff.1 hh).1, h1⟩

/-- a fresh row of n equal ints -/
theorem own_made (W : World) (base m : Nat) (x : Int) (hb : base ≤ W.heap.size) (hm : m ≤ 9223372036854775807) :
    Own (W.alloc (.cells (madeCells #[.int .i64 x] m) 3)) base W.heap.size m (List.replicate m x) := by
  have h := World.ownsRow_lit (base := base) (e := 3) (size := 1) W (madeCells #[.int .i64 x] m) m hb (by simpa [maxLen] using hm) (by simp [size_madeCells])
  have hl : (madeCells #[Value.int .i64 x] m).toList = ints (List.replicate m x) := by
    apply List.ext_getElem
    · simp [ints, madeCells]
    · intro i h1 h2
      simp [ints, madeCells, Nat.mod_one]
  rw [hl] at h
  unfold Own
  rwa [List.length_replicate]

theorem below_then {B : Nat} {w w1 w2 : World} (h : Below B w w1) (hB : B ≤ w1.heap.size) (k : Below w1.heap.size w1 w2) : Below B w w2 := h.trans (k.mono hB)
theorem below_drewN {B : Nat} {w W : World} (h : Below B w W) (n : Nat) : Below B w (W.drewN n) := ⟨h.os, h.tape, h.output, h.size, h.block⟩

/-! ### append of a slice that is read -/
theorem flat_get {enc : α → List Value} {k : Nat} (hk : ∀ x, (enc x).length = k) (h0 : 0 < k) : ∀ (xs : List α) (j : Nat) (u : Value), (xs.flatMap enc)[j]? = some u → ∃ x, xs[j / k]? = some x ∧ (enc x)[j % k]? = some u := by
  intro xs
  induction xs with
  | nil => intro j u h; simp at h
  | cons y ys ih =>
    intro j u h
    rw [List.flatMap_cons] at h
    by_cases hj : j < k
    · rw [List.getElem?_append_left (by rw [hk]; exact hj)] at h
      exact ⟨y, by rw [Nat.div_eq_of_lt hj]; rfl, by rw [Nat.mod_eq_of_lt hj]; exact h⟩
    · rw [List.getElem?_append_right (by rw [hk]; omega), hk] at h
      obtain ⟨x, h1, h2⟩ := ih (j - k) u h
      refine ⟨x, ?_, ?_⟩
      · rw [Nat.div_eq_sub_div h0 (by omega)]; simpa using h1
      · rw [Nat.mod_eq_sub_mod (by omega)]; exact h2

theorem flat_len {enc : α → List Value} {k : Nat} (hk : ∀ x, (enc x).length = k) (xs : List α) : (xs.flatMap enc).length = xs.length * k := by
  induction xs with
  | nil => simp
  | cons y ys ih => rw [List.flatMap_cons, List.length_append, hk, ih, List.length_cons, Nat.succ_mul]; omega

theorem Rd.flat {k : Nat} {enc : α → List Value} {w : World} {n c : Nat} {xs : List α} {b off : Nat} {spot : Option Nat} (hk : ∀ x, (enc x).length = k) (h0 : 0 < k) (h : Rd k enc w (.slice (some ⟨b, off, spot⟩) n c) xs) :
    ∀ j u, (xs.flatMap enc)[j]? = some u → w.cell? ((⟨b, off, spot⟩ : Addr).add j) = some u := by
  intro j u hu
  obtain ⟨x, h1, h2⟩ := flat_get hk h0 xs j u hu
  obtain ⟨b', off', cs, e, _, rfl, hc⟩ := RdR.at h _ x h1
  injection e with e
  injection e with e1 e2 e3
  subst e1 e2 e3
  have := hc _ _ h2
  rw [Addr.add_lit]
  rwa [show off + j / k * k + j % k = off + j by have := Nat.div_add_mod j k; rw [Nat.mul_comm] at this; omega] at this

section
variable {P : Program} {ops : Array Oper} {rest : List Oper} {o : Oper} {a : Act} {Q : Exit → Act → World → Prop}
/-- append(s, x...): s owned, x whatever reads -/
theorem wp_append_rd (w : World) (hgd : o.guard = none) (s x : Operand) (t : TypeId) (ho : o.op = .call { callee := .builtin .append, args := #[s, x], argTypes := #[t, t] })
    (base : Nat) (e : TypeId) (z : Value) (size bytes : Nat) (ht : P.underlying t = some (.slice e)) (hinfo : (P.info? e).map (fun i => (i.zero, i.size, i.bytes)) = some (some z, size, bytes)) (hzs : z.cells.size = size) (hsz : 0 < size)
    (v : Value) (n : Nat) (cells : List Value) (hs : a.eval s = v) (hown : w.ownsRow base e size v n cells)
    (enc : α → List Value) (xs : List α) (vx : Value) (hx : a.eval x = vx) (hr : Rd size enc w vx xs) (hk : ∀ x, (enc x).length = size) (h1 : ∀ x, ∀ u ∈ enc x, u.oneCell' = true)
    (h63 : n + xs.length ≤ maxLen) (hbytes : (n + xs.length) * bytes ≤ 140737488355328) (hbase : base ≤ w.heap.size)
    (h : ∀ v' w', w'.ownsRow base e size v' (n + xs.length) (cells ++ xs.flatMap enc) → w.grownBy w' v.ownBlock → (v' = .slice none 0 0 ↔ v = .slice none 0 0 ∧ xs = []) → wpList P ops Q rest (a.put o.dst v') w') : wpList P ops Q (o :: rest) a w := by
  obtain ⟨i, hi, hz0, hz1, hz2⟩ := info_parts hinfo
  obtain ⟨A, c, rfl, hlc, hcm, hn0⟩ := RdR.form hr
  cases A with
  | some ad =>
    obtain ⟨b, off, spot⟩ := ad
    refine wpList_append_own w hgd s x t ho base e i z size bytes ht hi hz0 hz1 hz2 hzs hsz v n cells hs hown ⟨b, off, spot⟩ xs.length c (xs.flatMap enc) hx (flat_len hk xs) (Rd.flat hk hsz hr) ?_ h63 hbytes hbase ?_
    · intro u hu
      obtain ⟨y, _, hy⟩ := List.mem_flatMap.1 hu
      exact h1 y u hy
    · intro v' w' g1 g2 g3
      refine h v' w' g1 g2 (g3.trans ?_)
      simp
  | none =>
    have hnil : xs = [] := by
      cases xs with
      | nil => rfl
      | cons y ys =>
        obtain ⟨b, off, e, _⟩ := Rd.lt hr 0 (by simp)
        cases e
    subst hnil
    obtain rfl := hn0 rfl
    refine wpList_plain hgd fun K hK' => ?_
    have hrun := run_append_owned_none (P := P) w base t o.type e i size ht hi v n cells hown
    unfold Oper.wp
    simp [execOp, ho, resolve, invoke, builtin, hs, hx, hrun, Result.andThen]
    exact hK' _ _ (h v w (by simpa using hown) ⟨rfl, rfl, rfl, Nat.le_refl _, fun _ _ _ => rfl⟩ (by simp))
end

theorem t3_len (x : T3) : (T3.enc x).length = 3 := rfl
theorem t3_one (x : T3) : ∀ u ∈ T3.enc x, u.oneCell' = true := by
  intro u hu
  simp [T3.enc] at hu
  rcases hu with rfl | rfl | rfl <;> rfl
theorem i_len (x : Int) : (encI x).length = 1 := rfl
theorem i_one (x : Int) : ∀ u ∈ encI x, u.oneCell' = true := by
  intro u hu
  simp [encI] at hu
  subst hu
  rfl
theorem b_len (x : Bool) : (encB x).length = 1 := rfl
theorem b_one (x : Bool) : ∀ u ∈ encB x, u.oneCell' = true := by
  intro u hu
  simp [encB] at hu
  subst hu
  rfl

/-- a literal slice in a new block -/
theorem rd_lit {k e : Nat} {enc : α → List Value} (hk : ∀ x, (enc x).length = k) (W : World) (xs : List α) (cs : Array Value) (hcs : cs.toList = xs.flatMap enc) (hm : xs.length ≤ 9223372036854775807) :
    Rd k enc (W.alloc (.cells cs e)) (.slice (some ⟨W.heap.size, 0, none⟩) xs.length xs.length) xs := by
  have h := World.ownsRow_lit (base := 0) (e := e) (size := k) W cs xs.length (Nat.zero_le _) (by simpa [maxLen] using hm) (by rw [← Array.length_toList, hcs, flat_len hk])
  rw [hcs] at h
  exact rd_of_owns hk h

theorem owns_slice {w : World} {base e k n : Nat} {v : Value} {xs : List Value} (h : w.ownsRow base e k v n xs) : ∃ A c, v = .slice A n c := by
  rcases h.2 with ⟨rfl, rfl⟩ | ⟨g, cap, cur, rfl, _⟩
  · exact ⟨none, 0, rfl⟩
  · exact ⟨_, _, rfl⟩

theorem owns_pos {w : World} {base e k n : Nat} {v : Value} {xs : List Value} (h : w.ownsRow base e k v n xs) (h0 : 0 < n) : ∃ g c, v = .slice (some ⟨g, 0, none⟩) n c ∧ base ≤ g ∧ g < w.heap.size ∧ n ≤ c := by
  rcases owns_form h with ⟨_, h1⟩ | ⟨g, c, h1, h2, h3, h4⟩
  · omega
  · exact ⟨g, c, h1, h2, h3, h4⟩

theorem cell_of_blk {w : World} {g : Nat} {t : TypeId} {cs : Array Value} (h : w.heap[g]? = some (.cells cs t (0, 0))) (i : Nat) : w.cell? ⟨g, i, none⟩ = cs[i]? := cell_of_row w g i cs t (0, 0) h
theorem frozen_of_blk {w : World} {g : Nat} {t : TypeId} {cs : Array Value} (h : w.heap[g]? = some (.cells cs t (0, 0))) (i : Nat) : w.frozen? ⟨g, i, none⟩ = false := by simp [World.frozen?, h]
theorem blk_lt {w : World} {g : Nat} {o : Obj} (h : w.heap[g]? = some o) : g < w.heap.size := (Array.getElem?_eq_some_iff.1 h).1
theorem blk_alloc {w : World} {g : Nat} {o : Obj} (h : w.heap[g]? = some o) (o' : Obj) : (w.alloc o').heap[g]? = some o := (Below.heap_alloc w o' g (blk_lt h)).trans h
theorem blk_below {w w1 : World} {g : Nat} {o : Obj} (h : w.heap[g]? = some o) (hb : Below w.heap.size w w1) : w1.heap[g]? = some o := (hb.block g (blk_lt h)).trans h
theorem blk_grown {w w1 : World} {g : Nat} {o : Obj} {row : Option Nat} (h : w.heap[g]? = some o) (hg : w.grownBy w1 row) (hne : some g ≠ row) : w1.heap[g]? = some o := (hg.block g (blk_lt h) hne).trans h
theorem blk_set {w : World} {g : Nat} {t : TypeId} {cs : Array Value} (h : w.heap[g]? = some (.cells cs t (0, 0))) (i : Nat) (u : Value) : (w.setCell ⟨g, i, none⟩ u).heap[g]? = some (.cells (cs.setIfInBounds i u) t (0, 0)) := by
  simp [World.setCell, Array.getElem?_modify, h]
theorem blk_new (w : World) (o : Obj) : (w.alloc o).heap[w.heap.size]? = some o := heap_alloc_new w o
theorem blk_ne {w : World} {g g' : Nat} {t t' : TypeId} {cs cs' : Array Value} (h : w.heap[g]? = some (.cells cs t (0, 0))) (h' : w.heap[g']? = some (.cells cs' t' (0, 0))) (hne : t ≠ t') : g ≠ g' := by
  rintro rfl
  rw [h] at h'
  injection h' with h'
  injection h' with _ ht
  exact hne ht
theorem owns_ne_blk {w : World} {base e k n : Nat} {v : Value} {xs : List Value} {g : Nat} {t : TypeId} {cs : Array Value} (h : w.ownsRow base e k v n xs) (hg : w.heap[g]? = some (.cells cs t (0, 0))) (hne : e ≠ t) : some g ≠ v.ownBlock := by
  rcases h.2 with ⟨rfl, _⟩ | ⟨g', cap, cur, rfl, _, hh, _⟩
  · simp [Value.ownBlock]
  · intro e
    have : g = g' := by simpa [Value.ownBlock] using e
    subst this
    exact blk_ne hh hg hne rfl

theorem rd_lit1 {k e : Nat} {enc : α → List Value} (hk : ∀ x, (enc x).length = k) (W : World) (x : α) (cs : Array Value) (hcs : cs.toList = enc x) :
    Rd k enc (W.alloc (.cells cs e)) (.slice (some ⟨W.heap.size, 0, none⟩) 1 1) [x] := by
  have := rd_lit (e := e) hk W [x] cs (by simpa using hcs) (by simp)
  simpa using this

section
variable {P : Program} {ops : Array Oper} {rest : List Oper} {o : Oper} {a : Act} {Q : Exit → Act → World → Prop}
/-- append(s, x): s owned; x has just been laid in a block of its own -/
theorem wp_append_one (w : World) (hgd : o.guard = none) (s x : Operand) (t : TypeId) (ho : o.op = .call { callee := .builtin .append, args := #[s, x], argTypes := #[t, t] })
    (base : Nat) (e : TypeId) (z : Value) (size bytes : Nat) (ht : P.underlying t = some (.slice e)) (hinfo : (P.info? e).map (fun i => (i.zero, i.size, i.bytes)) = some (some z, size, bytes)) (hzs : z.cells.size = size) (hsz : 0 < size)
    (v : Value) (n : Nat) (cells : List Value) (hs : a.eval s = v) (hown : w.ownsRow base e size v n cells)
    (enc : α → List Value) (p : α) (cs : Array Value) (hx : a.eval x = .slice (some ⟨w.heap.size, 0, none⟩) 1 1) (hcs : cs.toList = enc p) (hk : ∀ x, (enc x).length = size) (h1 : ∀ x, ∀ u ∈ enc x, u.oneCell' = true)
    (hn : n < 1000000000) (hby : bytes ≤ 1000) (hbase : base ≤ w.heap.size)
    (h : ∀ g' c' w', w'.ownsRow base e size (.slice (some ⟨g', 0, none⟩) (n + 1) c') (n + 1) (cells ++ enc p) → w.grownBy w' v.ownBlock → base ≤ g' → g' < w'.heap.size → (v.ownBlock = some g' ∨ w.heap.size ≤ g') → wpList P ops Q rest (a.put o.dst (.slice (some ⟨g', 0, none⟩) (n + 1) c')) w') : wpList P ops Q (o :: rest) a (w.alloc (.cells cs e)) := by
  obtain ⟨i, hi, hz0, hz1, hz2⟩ := info_parts hinfo
  have hb2 : (n + 1) * bytes ≤ 140737488355328 := Nat.le_trans (Nat.mul_le_mul (show n + 1 ≤ 1000000000 by omega) hby) (by omega)
  have hrd := rd_lit1 (e := e) hk w p cs hcs
  refine wpList_append_own_at (w.alloc (.cells cs e)) hgd s x t ho base e i z size bytes ht hi hz0 hz1 hz2 hzs hsz v n cells hs (hown.alloc _) ⟨w.heap.size, 0, none⟩ 1 1 (enc p) hx (by rw [hk]; simp) ?_ (fun u hu => h1 p u hu) (by unfold maxLen; omega) hb2 (by simp; omega) ?_
  · intro j u hu
    have := Rd.flat hk hsz hrd j u (by simpa using hu)
    exact this
  · intro v' w' g1 g2 _ g4
    obtain ⟨g', c', rfl, e1, e2, _⟩ := owns_pos g1 (by omega)
    refine h g' c' w' g1 ?_ e1 e2 ?_
    · exact ⟨g2.os, g2.tape, g2.output, Nat.le_trans (by simp) g2.size, fun k hk hne => (g2.block k (by simp; omega) hne).trans (Below.heap_alloc w _ k hk)⟩
    · rcases g4 with g4 | g4
      · exact .inl (by rw [← g4]; rfl)
      · right
        simp [Value.ownBlock] at g4
        omega
/-- the same behind draws -/
theorem wp_append_oneN (w : World) (q : Nat) (hgd : o.guard = none) (s x : Operand) (t : TypeId) (ho : o.op = .call { callee := .builtin .append, args := #[s, x], argTypes := #[t, t] })
    (base : Nat) (e : TypeId) (z : Value) (size bytes : Nat) (ht : P.underlying t = some (.slice e)) (hinfo : (P.info? e).map (fun i => (i.zero, i.size, i.bytes)) = some (some z, size, bytes)) (hzs : z.cells.size = size) (hsz : 0 < size)
    (v : Value) (n : Nat) (cells : List Value) (hs : a.eval s = v) (hown : w.ownsRow base e size v n cells)
    (enc : α → List Value) (p : α) (cs : Array Value) (hx : a.eval x = .slice (some ⟨w.heap.size, 0, none⟩) 1 1) (hcs : cs.toList = enc p) (hk : ∀ x, (enc x).length = size) (h1 : ∀ x, ∀ u ∈ enc x, u.oneCell' = true)
    (hn : n < 1000000000) (hby : bytes ≤ 1000) (hbase : base ≤ w.heap.size)
    (h : ∀ g' c' w', w'.ownsRow base e size (.slice (some ⟨g', 0, none⟩) (n + 1) c') (n + 1) (cells ++ enc p) → w.grownBy w' v.ownBlock → base ≤ g' → g' < w'.heap.size → (v.ownBlock = some g' ∨ w.heap.size ≤ g') → wpList P ops Q rest (a.put o.dst (.slice (some ⟨g', 0, none⟩) (n + 1) c')) w') : wpList P ops Q (o :: rest) a ((w.alloc (.cells cs e)).drewN q) :=
  wp_append_one (w.drewN q) hgd s x t ho base e z size bytes ht hinfo hzs hsz v n cells hs hown enc p cs hx hcs hk h1 hn hby hbase (fun g' c' w' a1 a2 => h g' c' w' a1 ⟨a2.os, a2.tape, a2.output, a2.size, a2.block⟩)
end

section
variable {P : Program} {ops : Array Oper} {rest : List Oper} {o : Oper} {a : Act} {Q : Exit → Act → World → Prop}
/-- make([]int, n) -/
theorem wp_make_ints (w : World) (hg : o.guard = none) (l c : Operand) (t : TypeId) (hop : o.op = Op.makeSlice t l c) (base : Nat) (h1 : P.underlying t = some (.slice 3))
    (hinfo : (P.info? 3).map (fun i => (i.zero, i.size, i.bytes)) = some (some (.int .i64 0), 1, 8)) (n : Nat) (hl : a.eval l = .int .i64 n) (hc : a.eval c = .int .i64 n) (hn : n ≤ 1000000000) (hb : base ≤ w.heap.size)
    (hK : ∀ w', Own w' base w.heap.size n (List.replicate n 0) → w.grownBy w' none → wpList P ops Q rest (a.put o.dst (.slice (some ⟨w.heap.size, 0, none⟩) n n)) w') : wpList P ops Q (o :: rest) a w := by
  obtain ⟨i, hi, hz0, hz1, hz2⟩ := info_parts hinfo
  refine wpList_make_full w hg l c t hop base 3 i (.int .i64 0) 1 h1 hi hz0 hz1 .i64 .i64 n n n hl hc rfl rfl (by rw [hz2]; omega) (by unfold maxLen; omega) hb ?_
  intro w' h2 h3
  refine hK w' ?_ h3
  unfold Own
  have hl : (madeCells #[Value.int .i64 0] (n * 1)).toList = ints (List.replicate n 0) := by
    apply List.ext_getElem
    · simp [ints, madeCells]
    · intro i h1 h2
      simp [ints, madeCells, Nat.mod_one]
  rw [List.length_replicate, ← hl]
  exact h2
end

/-! ### grownBy and Own, step by step -/
theorem gb_refl (w : World) (row : Option Nat) : w.grownBy w row := ⟨rfl, rfl, rfl, Nat.le_refl _, fun _ _ _ => rfl⟩
theorem gb_alloc {w w' : World} {row : Option Nat} (h : w.grownBy w' row) (o : Obj) : w.grownBy (w'.alloc o) row :=
  ⟨h.os, h.tape, h.output, by have := h.size; simp; omega, fun k hk hne => (Below.heap_alloc w' o k (Nat.lt_of_lt_of_le hk h.size)).trans (h.block k hk hne)⟩
theorem gb_drewN {w w' : World} {row : Option Nat} (h : w.grownBy w' row) (n : Nat) : w.grownBy (w'.drewN n) row := ⟨h.os, h.tape, h.output, h.size, h.block⟩
theorem gb_drew {w w' : World} {row : Option Nat} (h : w.grownBy w' row) : w.grownBy w'.drew row := ⟨h.os, h.tape, h.output, h.size, h.block⟩
theorem gb_set {w w' : World} {row : Option Nat} (h : w.grownBy w' row) (p : Addr) (hp : row = some p.block ∨ w.heap.size ≤ p.block) (u : Value) : w.grownBy (w'.setCell p u) row :=
  ⟨h.os, h.tape, h.output, by simp [World.setCell]; exact h.size, fun k hk hne => (Below.heap_setCell w' p u k (fun e => by rcases hp with hp | hp; exact hne (by rw [e, hp]); omega)).trans (h.block k hk hne)⟩
theorem gb_below {w w' w2 : World} {row : Option Nat} (h : w.grownBy w' row) (hb : Below w'.heap.size w' w2) : w.grownBy w2 row :=
  ⟨hb.os.trans h.os, hb.tape.trans h.tape, hb.output.trans h.output, Nat.le_trans h.size hb.size, fun k hk hne => (hb.block k (Nat.lt_of_lt_of_le hk h.size)).trans (h.block k hk hne)⟩
theorem gb_trans {w w' w2 : World} {row row2 : Option Nat} (h : w.grownBy w' row) (h2 : w'.grownBy w2 row2) (hr : ∀ k, row2 = some k → row = some k ∨ w.heap.size ≤ k) : w.grownBy w2 row :=
  ⟨h2.os.trans h.os, h2.tape.trans h.tape, h2.output.trans h.output, Nat.le_trans h.size h2.size, fun k hk hne => (h2.block k (Nat.lt_of_lt_of_le hk h.size) (fun e => by rcases hr k e.symm with e2 | e2; exact hne e2.symm; omega)).trans (h.block k hk hne)⟩
theorem gb_wide {w w' : World} (h : w.grownBy w' none) (row : Option Nat) : w.grownBy w' row := ⟨h.os, h.tape, h.output, h.size, fun k hk _ => h.block k hk (by simp)⟩
theorem Own.alloc {w : World} {base g cap : Nat} {xs : List Int} (h : Own w base g cap xs) (o : Obj) : Own (w.alloc o) base g cap xs := World.ownsRow.alloc h o
theorem Own.drewN {w : World} {base g cap : Nat} {xs : List Int} (h : Own w base g cap xs) (n : Nat) : Own (w.drewN n) base g cap xs := h
theorem Own.drew {w : World} {base g cap : Nat} {xs : List Int} (h : Own w base g cap xs) : Own w.drew base g cap xs := h

end Go.Proofs.Ytpknonebnipcgaa.V
