/-
  No cell of these rows narrows 'for every input' (looked for: loops, veiled, ifaces, maps, wideKeys, modest, calm, conditions, laid).
  DERIVED. THE GIVEN ROWS OF THIS SEAT. 13 by the template 'for every input the law returns true; each argument reads behind the call as it read before'; 0 by the template 'total and deterministic' (their statements: YtpknonebnipcgaaTotals.lean).
  GIVEN WITH THE SEED: the statements are not yours to turn. If you find one false, say at which input.
  Laid BY PROGRAM, IN A SANDBOX (cutbox-rows.mjs): the forced cells as the released guide's own fill.sh prints them over the translation ad617f78fc929173… (all of the seat's roots in one cut). By AI agents, Wed Nov 11 2026. No macro, syntax, notation, axiom, sorry.
-/
import Derived.Test.YtpknonebnipcgaaChecked
import GoSem.Claim
import GoSem.ClaimJoined
import GoSem.ClaimMapViews
import Derived.JoinedTies
import Derived.KernelRfl
namespace Go.Proofs.Ytpknonebnipcgaa
/- THE CELL 'sum', in the pinned program and in every row, IS THE sha256 OF THE DUMP (.gsa) THAT YtpknonebnipcgaaProg.lean LOADS. Nothing in Lean hashes anything: it is a label: what it is worth is what the hold of that sum in a sandbox is worth. -/
noncomputable def Try.pinned : Pinned := { name := "ytpknonebnipcgaa", sum := "ad617f78fc929173413aa4f635ebcafe8eefad7d46621f718d8bb18726f6e7ac", checked := Try.checked }
namespace Rows
def none {H : Type} : Left H := { results := [], args := [] }

/-- 'hairpinlaw05.TimetableReasons': WHATEVER THE INPUT: true; the input reads as it did. -/
def timetableReasonsSpec : ChangeSpec := { name := "timetableReasons", fn := fun _ => fun
  | [d1, d2, d3] => { results := [.lit (.bool true)], args := [d1, d2, d3] }
  | _ => none }
def timetableReasonsRow : OpenClaim := { program := "ytpknonebnipcgaa", sum := "ad617f78fc929173413aa4f635ebcafe8eefad7d46621f718d8bb18726f6e7ac", func := "hairpin/hairpinlaw05.TimetableReasons", spec := "timetableReasons", unfollowed := true, recurses := true, apart := false }
def TimetableReasonsSaid : Prop := timetableReasonsRow.holds Try.pinned (OpenSpec.ofChange timetableReasonsSpec)

/-- ITS FALSE NEIGHBOUR: 'it returns false'. Refute it at one input. -/
def timetableReasonsWrong : ChangeSpec := { name := "timetableReasons", fn := fun _ => fun
  | [d1, d2, d3] => { results := [.lit (.bool false)], args := [d1, d2, d3] }
  | _ => none }
def TimetableReasonsWrongFalsely : Prop := timetableReasonsRow.holds Try.pinned (OpenSpec.ofChange timetableReasonsWrong)

/-- 'hairpinlaw05.TimetableTries': WHATEVER THE INPUT: true; the input reads as it did. -/
def timetableTriesSpec : ChangeSpec := { name := "timetableTries", fn := fun _ => fun
  | [d] => { results := [.lit (.bool true)], args := [d] }
  | _ => none }
def timetableTriesRow : OpenClaim := { program := "ytpknonebnipcgaa", sum := "ad617f78fc929173413aa4f635ebcafe8eefad7d46621f718d8bb18726f6e7ac", func := "hairpin/hairpinlaw05.TimetableTries", spec := "timetableTries", unfollowed := true, recurses := true, apart := false }
def TimetableTriesSaid : Prop := timetableTriesRow.holds Try.pinned (OpenSpec.ofChange timetableTriesSpec)

/-- ITS FALSE NEIGHBOUR: 'it returns false'. Refute it at one input. -/
def timetableTriesWrong : ChangeSpec := { name := "timetableTries", fn := fun _ => fun
  | [d] => { results := [.lit (.bool false)], args := [d] }
  | _ => none }
def TimetableTriesWrongFalsely : Prop := timetableTriesRow.holds Try.pinned (OpenSpec.ofChange timetableTriesWrong)

/-- 'hairpinlaw05.TimetableFirst': WHATEVER THE INPUT: true; the input reads as it did. -/
def timetableFirstSpec : ChangeSpec := { name := "timetableFirst", fn := fun _ => fun
  | [d1, d2] => { results := [.lit (.bool true)], args := [d1, d2] }
  | _ => none }
def timetableFirstRow : OpenClaim := { program := "ytpknonebnipcgaa", sum := "ad617f78fc929173413aa4f635ebcafe8eefad7d46621f718d8bb18726f6e7ac", func := "hairpin/hairpinlaw05.TimetableFirst", spec := "timetableFirst", unfollowed := true, recurses := true, apart := false }
def TimetableFirstSaid : Prop := timetableFirstRow.holds Try.pinned (OpenSpec.ofChange timetableFirstSpec)

/-- ITS FALSE NEIGHBOUR: 'it returns false'. Refute it at one input. -/
def timetableFirstWrong : ChangeSpec := { name := "timetableFirst", fn := fun _ => fun
  | [d1, d2] => { results := [.lit (.bool false)], args := [d1, d2] }
  | _ => none }
def TimetableFirstWrongFalsely : Prop := timetableFirstRow.holds Try.pinned (OpenSpec.ofChange timetableFirstWrong)

/-- 'hairpinlaw05.TimetableEarliest': WHATEVER THE INPUT: true; the input reads as it did. -/
def timetableEarliestSpec : ChangeSpec := { name := "timetableEarliest", fn := fun _ => fun
  | [d1, d2] => { results := [.lit (.bool true)], args := [d1, d2] }
  | _ => none }
def timetableEarliestRow : OpenClaim := { program := "ytpknonebnipcgaa", sum := "ad617f78fc929173413aa4f635ebcafe8eefad7d46621f718d8bb18726f6e7ac", func := "hairpin/hairpinlaw05.TimetableEarliest", spec := "timetableEarliest", unfollowed := true, recurses := true, apart := false }
def TimetableEarliestSaid : Prop := timetableEarliestRow.holds Try.pinned (OpenSpec.ofChange timetableEarliestSpec)

/-- ITS FALSE NEIGHBOUR: 'it returns false'. Refute it at one input. -/
def timetableEarliestWrong : ChangeSpec := { name := "timetableEarliest", fn := fun _ => fun
  | [d1, d2] => { results := [.lit (.bool false)], args := [d1, d2] }
  | _ => none }
def TimetableEarliestWrongFalsely : Prop := timetableEarliestRow.holds Try.pinned (OpenSpec.ofChange timetableEarliestWrong)

/-- 'hairpinlaw05.TimetableKeeps': WHATEVER THE INPUT: true; the input reads as it did. -/
def timetableKeepsSpec : ChangeSpec := { name := "timetableKeeps", fn := fun _ => fun
  | [d1, d2, d3, d4] => { results := [.lit (.bool true)], args := [d1, d2, d3, d4] }
  | _ => none }
def timetableKeepsRow : OpenClaim := { program := "ytpknonebnipcgaa", sum := "ad617f78fc929173413aa4f635ebcafe8eefad7d46621f718d8bb18726f6e7ac", func := "hairpin/hairpinlaw05.TimetableKeeps", spec := "timetableKeeps", unfollowed := true, recurses := true, apart := false }
def TimetableKeepsSaid : Prop := timetableKeepsRow.holds Try.pinned (OpenSpec.ofChange timetableKeepsSpec)

/-- ITS FALSE NEIGHBOUR: 'it returns false'. Refute it at one input. -/
def timetableKeepsWrong : ChangeSpec := { name := "timetableKeeps", fn := fun _ => fun
  | [d1, d2, d3, d4] => { results := [.lit (.bool false)], args := [d1, d2, d3, d4] }
  | _ => none }
def TimetableKeepsWrongFalsely : Prop := timetableKeepsRow.holds Try.pinned (OpenSpec.ofChange timetableKeepsWrong)

/-- 'hairpinlaw05.TimetableEither': WHATEVER THE INPUT: true; the input reads as it did. -/
def timetableEitherSpec : ChangeSpec := { name := "timetableEither", fn := fun _ => fun
  | [d1, d2, d3, d4] => { results := [.lit (.bool true)], args := [d1, d2, d3, d4] }
  | _ => none }
def timetableEitherRow : OpenClaim := { program := "ytpknonebnipcgaa", sum := "ad617f78fc929173413aa4f635ebcafe8eefad7d46621f718d8bb18726f6e7ac", func := "hairpin/hairpinlaw05.TimetableEither", spec := "timetableEither", unfollowed := true, recurses := true, apart := false }
def TimetableEitherSaid : Prop := timetableEitherRow.holds Try.pinned (OpenSpec.ofChange timetableEitherSpec)

/-- ITS FALSE NEIGHBOUR: 'it returns false'. Refute it at one input. -/
def timetableEitherWrong : ChangeSpec := { name := "timetableEither", fn := fun _ => fun
  | [d1, d2, d3, d4] => { results := [.lit (.bool false)], args := [d1, d2, d3, d4] }
  | _ => none }
def TimetableEitherWrongFalsely : Prop := timetableEitherRow.holds Try.pinned (OpenSpec.ofChange timetableEitherWrong)

/-- 'hairpinlaw05.TimetableAdds': WHATEVER THE INPUT: true; the input reads as it did. -/
def timetableAddsSpec : ChangeSpec := { name := "timetableAdds", fn := fun _ => fun
  | [d1, d2, d3] => { results := [.lit (.bool true)], args := [d1, d2, d3] }
  | _ => none }
def timetableAddsRow : OpenClaim := { program := "ytpknonebnipcgaa", sum := "ad617f78fc929173413aa4f635ebcafe8eefad7d46621f718d8bb18726f6e7ac", func := "hairpin/hairpinlaw05.TimetableAdds", spec := "timetableAdds", unfollowed := true, recurses := true, apart := false }
def TimetableAddsSaid : Prop := timetableAddsRow.holds Try.pinned (OpenSpec.ofChange timetableAddsSpec)

/-- ITS FALSE NEIGHBOUR: 'it returns false'. Refute it at one input. -/
def timetableAddsWrong : ChangeSpec := { name := "timetableAdds", fn := fun _ => fun
  | [d1, d2, d3] => { results := [.lit (.bool false)], args := [d1, d2, d3] }
  | _ => none }
def TimetableAddsWrongFalsely : Prop := timetableAddsRow.holds Try.pinned (OpenSpec.ofChange timetableAddsWrong)

/-- 'hairpinlaw05.TimetablePushes': WHATEVER THE INPUT: true; the input reads as it did. -/
def timetablePushesSpec : ChangeSpec := { name := "timetablePushes", fn := fun _ => fun
  | [d1, d2, d3] => { results := [.lit (.bool true)], args := [d1, d2, d3] }
  | _ => none }
def timetablePushesRow : OpenClaim := { program := "ytpknonebnipcgaa", sum := "ad617f78fc929173413aa4f635ebcafe8eefad7d46621f718d8bb18726f6e7ac", func := "hairpin/hairpinlaw05.TimetablePushes", spec := "timetablePushes", unfollowed := true, recurses := true, apart := false }
def TimetablePushesSaid : Prop := timetablePushesRow.holds Try.pinned (OpenSpec.ofChange timetablePushesSpec)

/-- ITS FALSE NEIGHBOUR: 'it returns false'. Refute it at one input. -/
def timetablePushesWrong : ChangeSpec := { name := "timetablePushes", fn := fun _ => fun
  | [d1, d2, d3] => { results := [.lit (.bool false)], args := [d1, d2, d3] }
  | _ => none }
def TimetablePushesWrongFalsely : Prop := timetablePushesRow.holds Try.pinned (OpenSpec.ofChange timetablePushesWrong)

/-- 'hairpinlaw05.TimetableVillages': WHATEVER THE INPUT: true; the input reads as it did. -/
def timetableVillagesSpec : ChangeSpec := { name := "timetableVillages", fn := fun _ => fun
  | [d1, d2] => { results := [.lit (.bool true)], args := [d1, d2] }
  | _ => none }
def timetableVillagesRow : OpenClaim := { program := "ytpknonebnipcgaa", sum := "ad617f78fc929173413aa4f635ebcafe8eefad7d46621f718d8bb18726f6e7ac", func := "hairpin/hairpinlaw05.TimetableVillages", spec := "timetableVillages", unfollowed := true, recurses := true, apart := false }
def TimetableVillagesSaid : Prop := timetableVillagesRow.holds Try.pinned (OpenSpec.ofChange timetableVillagesSpec)

/-- ITS FALSE NEIGHBOUR: 'it returns false'. Refute it at one input. -/
def timetableVillagesWrong : ChangeSpec := { name := "timetableVillages", fn := fun _ => fun
  | [d1, d2] => { results := [.lit (.bool false)], args := [d1, d2] }
  | _ => none }
def TimetableVillagesWrongFalsely : Prop := timetableVillagesRow.holds Try.pinned (OpenSpec.ofChange timetableVillagesWrong)

/-- 'hairpinlaw05.TimetableLatest': WHATEVER THE INPUT: true; the input reads as it did. -/
def timetableLatestSpec : ChangeSpec := { name := "timetableLatest", fn := fun _ => fun
  | [d1, d2, d3] => { results := [.lit (.bool true)], args := [d1, d2, d3] }
  | _ => none }
def timetableLatestRow : OpenClaim := { program := "ytpknonebnipcgaa", sum := "ad617f78fc929173413aa4f635ebcafe8eefad7d46621f718d8bb18726f6e7ac", func := "hairpin/hairpinlaw05.TimetableLatest", spec := "timetableLatest", unfollowed := true, recurses := true, apart := false }
def TimetableLatestSaid : Prop := timetableLatestRow.holds Try.pinned (OpenSpec.ofChange timetableLatestSpec)

/-- ITS FALSE NEIGHBOUR: 'it returns false'. Refute it at one input. -/
def timetableLatestWrong : ChangeSpec := { name := "timetableLatest", fn := fun _ => fun
  | [d1, d2, d3] => { results := [.lit (.bool false)], args := [d1, d2, d3] }
  | _ => none }
def TimetableLatestWrongFalsely : Prop := timetableLatestRow.holds Try.pinned (OpenSpec.ofChange timetableLatestWrong)

/-- 'hairpinlaw05.TimetableMakes': WHATEVER THE INPUT: true; the input reads as it did. -/
def timetableMakesSpec : ChangeSpec := { name := "timetableMakes", fn := fun _ => fun
  | [d] => { results := [.lit (.bool true)], args := [d] }
  | _ => none }
def timetableMakesRow : OpenClaim := { program := "ytpknonebnipcgaa", sum := "ad617f78fc929173413aa4f635ebcafe8eefad7d46621f718d8bb18726f6e7ac", func := "hairpin/hairpinlaw05.TimetableMakes", spec := "timetableMakes", unfollowed := true, recurses := true, apart := false }
def TimetableMakesSaid : Prop := timetableMakesRow.holds Try.pinned (OpenSpec.ofChange timetableMakesSpec)

/-- ITS FALSE NEIGHBOUR: 'it returns false'. Refute it at one input. -/
def timetableMakesWrong : ChangeSpec := { name := "timetableMakes", fn := fun _ => fun
  | [d] => { results := [.lit (.bool false)], args := [d] }
  | _ => none }
def TimetableMakesWrongFalsely : Prop := timetableMakesRow.holds Try.pinned (OpenSpec.ofChange timetableMakesWrong)

/-- 'hairpinlaw05.TimetableFits': WHATEVER THE INPUT: true; the input reads as it did. -/
def timetableFitsSpec : ChangeSpec := { name := "timetableFits", fn := fun _ => fun
  | [d1, d2, d3, d4] => { results := [.lit (.bool true)], args := [d1, d2, d3, d4] }
  | _ => none }
def timetableFitsRow : OpenClaim := { program := "ytpknonebnipcgaa", sum := "ad617f78fc929173413aa4f635ebcafe8eefad7d46621f718d8bb18726f6e7ac", func := "hairpin/hairpinlaw05.TimetableFits", spec := "timetableFits", unfollowed := true, recurses := true, apart := false }
def TimetableFitsSaid : Prop := timetableFitsRow.holds Try.pinned (OpenSpec.ofChange timetableFitsSpec)

/-- ITS FALSE NEIGHBOUR: 'it returns false'. Refute it at one input. -/
def timetableFitsWrong : ChangeSpec := { name := "timetableFits", fn := fun _ => fun
  | [d1, d2, d3, d4] => { results := [.lit (.bool false)], args := [d1, d2, d3, d4] }
  | _ => none }
def TimetableFitsWrongFalsely : Prop := timetableFitsRow.holds Try.pinned (OpenSpec.ofChange timetableFitsWrong)

/-- 'hairpintop.TopServed': WHATEVER THE INPUT: true; the input reads as it did. -/
def topServedSpec : ChangeSpec := { name := "topServed", fn := fun _ => fun
  | [d1, d2, d3, d4, d5, d6] => { results := [.lit (.bool true)], args := [d1, d2, d3, d4, d5, d6] }
  | _ => none }
def topServedRow : OpenClaim := { program := "ytpknonebnipcgaa", sum := "ad617f78fc929173413aa4f635ebcafe8eefad7d46621f718d8bb18726f6e7ac", func := "hairpin/hairpintop.TopServed", spec := "topServed", unfollowed := true, recurses := true, apart := false }
def TopServedSaid : Prop := topServedRow.holds Try.pinned (OpenSpec.ofChange topServedSpec)

/-- ITS FALSE NEIGHBOUR: 'it returns false'. Refute it at one input. -/
def topServedWrong : ChangeSpec := { name := "topServed", fn := fun _ => fun
  | [d1, d2, d3, d4, d5, d6] => { results := [.lit (.bool false)], args := [d1, d2, d3, d4, d5, d6] }
  | _ => none }
def TopServedWrongFalsely : Prop := topServedRow.holds Try.pinned (OpenSpec.ofChange topServedWrong)

/- THE SECOND FORM. 'bulk': how many values and letters a reading holds, each counted each time it is reached (what is shared counts as often as it is met; a slice's spare places count too). A statement '..UptoSaid' is the law's where the arguments, and the package variables that the reading takes, are together of bulk at most 1048576: NARROWER than '..Said'. Prove '..Said' where nothing that the law and all that it calls make is longer than what came in: it says more and counts as full. Else prove '..UptoSaid'. A law counts once. -/
mutual
def uptoBulk {H : Type} : DataW H → Nat
  | .lit (.string bytes) => bytes.length + 1
  | .lit _ => 1
  | .nil => 1
  | .ptr d => uptoBulk d + 1
  | .slice elems spare => uptoBulkAll elems + uptoBulkAll spare + 1
  | .agg parts => uptoBulkAll parts + 1
  | .iface _ d => uptoBulk d + 1
  | .map entries => uptoBulkEntries entries + 1
  | .held _ => 1
def uptoBulkAll {H : Type} : List (DataW H) → Nat
  | [] => 0
  | d :: r => uptoBulk d + uptoBulkAll r
def uptoBulkEntries {H : Type} : List (Lit × DataW H) → Nat
  | [] => 0
  | x :: r => uptoBulkEntry x + uptoBulkEntries r
def uptoBulkEntry {H : Type} : Lit × DataW H → Nat
  | (.string bytes, d) => bytes.length + uptoBulk d + 1
  | (_, d) => uptoBulk d + 1
 end
def uptoSmall : (H : Type) → List (DataW H) → Bool := fun _ ds => decide (uptoBulkAll ds ≤ 1048576)
def OpenSpec.upto (s : _root_.Go.ChangeSpec) : _root_.Go.OpenSpec := { _root_.Go.OpenSpec.ofChange s with cond := some uptoSmall }

/-- 'hairpinlaw05.TimetableReasons', WHERE WHAT IT READS IS OF BULK AT MOST 1048576: true; the input reads as it did. -/
def timetableReasonsUptoRow : OpenClaim := { program := "ytpknonebnipcgaa", sum := "ad617f78fc929173413aa4f635ebcafe8eefad7d46621f718d8bb18726f6e7ac", func := "hairpin/hairpinlaw05.TimetableReasons", spec := "timetableReasons", unfollowed := true, recurses := true, apart := false, narrowed := true }
def TimetableReasonsUptoSaid : Prop := timetableReasonsUptoRow.holds Try.pinned (OpenSpec.upto timetableReasonsSpec)

/-- 'hairpinlaw05.TimetableTries', WHERE WHAT IT READS IS OF BULK AT MOST 1048576: true; the input reads as it did. -/
def timetableTriesUptoRow : OpenClaim := { program := "ytpknonebnipcgaa", sum := "ad617f78fc929173413aa4f635ebcafe8eefad7d46621f718d8bb18726f6e7ac", func := "hairpin/hairpinlaw05.TimetableTries", spec := "timetableTries", unfollowed := true, recurses := true, apart := false, narrowed := true }
def TimetableTriesUptoSaid : Prop := timetableTriesUptoRow.holds Try.pinned (OpenSpec.upto timetableTriesSpec)

/-- 'hairpinlaw05.TimetableFirst', WHERE WHAT IT READS IS OF BULK AT MOST 1048576: true; the input reads as it did. -/
def timetableFirstUptoRow : OpenClaim := { program := "ytpknonebnipcgaa", sum := "ad617f78fc929173413aa4f635ebcafe8eefad7d46621f718d8bb18726f6e7ac", func := "hairpin/hairpinlaw05.TimetableFirst", spec := "timetableFirst", unfollowed := true, recurses := true, apart := false, narrowed := true }
def TimetableFirstUptoSaid : Prop := timetableFirstUptoRow.holds Try.pinned (OpenSpec.upto timetableFirstSpec)

/-- 'hairpinlaw05.TimetableEarliest', WHERE WHAT IT READS IS OF BULK AT MOST 1048576: true; the input reads as it did. -/
def timetableEarliestUptoRow : OpenClaim := { program := "ytpknonebnipcgaa", sum := "ad617f78fc929173413aa4f635ebcafe8eefad7d46621f718d8bb18726f6e7ac", func := "hairpin/hairpinlaw05.TimetableEarliest", spec := "timetableEarliest", unfollowed := true, recurses := true, apart := false, narrowed := true }
def TimetableEarliestUptoSaid : Prop := timetableEarliestUptoRow.holds Try.pinned (OpenSpec.upto timetableEarliestSpec)

/-- 'hairpinlaw05.TimetableKeeps', WHERE WHAT IT READS IS OF BULK AT MOST 1048576: true; the input reads as it did. -/
def timetableKeepsUptoRow : OpenClaim := { program := "ytpknonebnipcgaa", sum := "ad617f78fc929173413aa4f635ebcafe8eefad7d46621f718d8bb18726f6e7ac", func := "hairpin/hairpinlaw05.TimetableKeeps", spec := "timetableKeeps", unfollowed := true, recurses := true, apart := false, narrowed := true }
def TimetableKeepsUptoSaid : Prop := timetableKeepsUptoRow.holds Try.pinned (OpenSpec.upto timetableKeepsSpec)

/-- 'hairpinlaw05.TimetableEither', WHERE WHAT IT READS IS OF BULK AT MOST 1048576: true; the input reads as it did. -/
def timetableEitherUptoRow : OpenClaim := { program := "ytpknonebnipcgaa", sum := "ad617f78fc929173413aa4f635ebcafe8eefad7d46621f718d8bb18726f6e7ac", func := "hairpin/hairpinlaw05.TimetableEither", spec := "timetableEither", unfollowed := true, recurses := true, apart := false, narrowed := true }
def TimetableEitherUptoSaid : Prop := timetableEitherUptoRow.holds Try.pinned (OpenSpec.upto timetableEitherSpec)

/-- 'hairpinlaw05.TimetableAdds', WHERE WHAT IT READS IS OF BULK AT MOST 1048576: true; the input reads as it did. -/
def timetableAddsUptoRow : OpenClaim := { program := "ytpknonebnipcgaa", sum := "ad617f78fc929173413aa4f635ebcafe8eefad7d46621f718d8bb18726f6e7ac", func := "hairpin/hairpinlaw05.TimetableAdds", spec := "timetableAdds", unfollowed := true, recurses := true, apart := false, narrowed := true }
def TimetableAddsUptoSaid : Prop := timetableAddsUptoRow.holds Try.pinned (OpenSpec.upto timetableAddsSpec)

/-- 'hairpinlaw05.TimetablePushes', WHERE WHAT IT READS IS OF BULK AT MOST 1048576: true; the input reads as it did. -/
def timetablePushesUptoRow : OpenClaim := { program := "ytpknonebnipcgaa", sum := "ad617f78fc929173413aa4f635ebcafe8eefad7d46621f718d8bb18726f6e7ac", func := "hairpin/hairpinlaw05.TimetablePushes", spec := "timetablePushes", unfollowed := true, recurses := true, apart := false, narrowed := true }
def TimetablePushesUptoSaid : Prop := timetablePushesUptoRow.holds Try.pinned (OpenSpec.upto timetablePushesSpec)

/-- 'hairpinlaw05.TimetableVillages', WHERE WHAT IT READS IS OF BULK AT MOST 1048576: true; the input reads as it did. -/
def timetableVillagesUptoRow : OpenClaim := { program := "ytpknonebnipcgaa", sum := "ad617f78fc929173413aa4f635ebcafe8eefad7d46621f718d8bb18726f6e7ac", func := "hairpin/hairpinlaw05.TimetableVillages", spec := "timetableVillages", unfollowed := true, recurses := true, apart := false, narrowed := true }
def TimetableVillagesUptoSaid : Prop := timetableVillagesUptoRow.holds Try.pinned (OpenSpec.upto timetableVillagesSpec)

/-- 'hairpinlaw05.TimetableLatest', WHERE WHAT IT READS IS OF BULK AT MOST 1048576: true; the input reads as it did. -/
def timetableLatestUptoRow : OpenClaim := { program := "ytpknonebnipcgaa", sum := "ad617f78fc929173413aa4f635ebcafe8eefad7d46621f718d8bb18726f6e7ac", func := "hairpin/hairpinlaw05.TimetableLatest", spec := "timetableLatest", unfollowed := true, recurses := true, apart := false, narrowed := true }
def TimetableLatestUptoSaid : Prop := timetableLatestUptoRow.holds Try.pinned (OpenSpec.upto timetableLatestSpec)

/-- 'hairpinlaw05.TimetableMakes', WHERE WHAT IT READS IS OF BULK AT MOST 1048576: true; the input reads as it did. -/
def timetableMakesUptoRow : OpenClaim := { program := "ytpknonebnipcgaa", sum := "ad617f78fc929173413aa4f635ebcafe8eefad7d46621f718d8bb18726f6e7ac", func := "hairpin/hairpinlaw05.TimetableMakes", spec := "timetableMakes", unfollowed := true, recurses := true, apart := false, narrowed := true }
def TimetableMakesUptoSaid : Prop := timetableMakesUptoRow.holds Try.pinned (OpenSpec.upto timetableMakesSpec)

/-- 'hairpinlaw05.TimetableFits', WHERE WHAT IT READS IS OF BULK AT MOST 1048576: true; the input reads as it did. -/
def timetableFitsUptoRow : OpenClaim := { program := "ytpknonebnipcgaa", sum := "ad617f78fc929173413aa4f635ebcafe8eefad7d46621f718d8bb18726f6e7ac", func := "hairpin/hairpinlaw05.TimetableFits", spec := "timetableFits", unfollowed := true, recurses := true, apart := false, narrowed := true }
def TimetableFitsUptoSaid : Prop := timetableFitsUptoRow.holds Try.pinned (OpenSpec.upto timetableFitsSpec)

/-- 'hairpintop.TopServed', WHERE WHAT IT READS IS OF BULK AT MOST 1048576: true; the input reads as it did. -/
def topServedUptoRow : OpenClaim := { program := "ytpknonebnipcgaa", sum := "ad617f78fc929173413aa4f635ebcafe8eefad7d46621f718d8bb18726f6e7ac", func := "hairpin/hairpintop.TopServed", spec := "topServed", unfollowed := true, recurses := true, apart := false, narrowed := true }
def TopServedUptoSaid : Prop := topServedUptoRow.holds Try.pinned (OpenSpec.upto topServedSpec)

end Rows
end Go.Proofs.Ytpknonebnipcgaa
