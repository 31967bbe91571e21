/-
  No cell of these rows narrows 'for every input' (looked for: loops, veiled, ifaces, maps, wideKeys, modest, calm, conditions, laid).
  DERIVED. THE GIVEN ROWS OF THIS SEAT. 9 by the template 'for every input the law returns true; each argument reads behind the call as it read before'; 0 by the template 'total and deterministic' (their statements: YtdchgbhhlocmdaaTotals.lean).
  GIVEN WITH THE SEED: the statements are not yours to turn. If you find one false, say at which input.
  Laid BY PROGRAM, IN A SANDBOX (cutbox-rows.mjs): the forced cells as the released guide's own fill.sh prints them over the translation 2e053f90b90d5391… (all of the seat's roots in one cut). By AI agents, Wed Nov 11 2026. No macro, syntax, notation, axiom, sorry.
-/
import Derived.Test.YtdchgbhhlocmdaaChecked
import GoSem.Claim
import GoSem.ClaimJoined
import GoSem.ClaimMapViews
import Derived.JoinedTies
import Derived.KernelRfl
namespace Go.Proofs.Ytdchgbhhlocmdaa
/- THE CELL 'sum', in the pinned program and in every row, IS THE sha256 OF THE DUMP (.gsa) THAT YtdchgbhhlocmdaaProg.lean LOADS. Nothing in Lean hashes anything: it is a label: what it is worth is what the hold of that sum in a sandbox is worth. -/
noncomputable def Try.pinned : Pinned := { name := "ytdchgbhhlocmdaa", sum := "2e053f90b90d53913c7ba06d87842cb631b491e0e09a08f21b7a66a65c81e496", checked := Try.checked }
namespace Rows
def none {H : Type} : Left H := { results := [], args := [] }

/-- 'laws.FnExactDueOrder': WHATEVER THE INPUT: true; the input reads as it did. -/
def fnExactDueOrderSpec : ChangeSpec := { name := "fnExactDueOrder", fn := fun _ => fun
  | [d] => { results := [.lit (.bool true)], args := [d] }
  | _ => none }
def fnExactDueOrderRow : OpenClaim := { program := "ytdchgbhhlocmdaa", sum := "2e053f90b90d53913c7ba06d87842cb631b491e0e09a08f21b7a66a65c81e496", func := "loop.example/g00992/laws.FnExactDueOrder", spec := "fnExactDueOrder", inPlace := ["internal/reflectlite.ValueOf", "internal/reflectlite.Swapper", "(internal/reflectlite.Value).Len"], unfollowed := true, recurses := true, apart := false }
def FnExactDueOrderSaid : Prop := fnExactDueOrderRow.holds Try.pinned (OpenSpec.ofChange fnExactDueOrderSpec)

/-- ITS FALSE NEIGHBOUR: 'it returns false'. Refute it at one input. -/
def fnExactDueOrderWrong : ChangeSpec := { name := "fnExactDueOrder", fn := fun _ => fun
  | [d] => { results := [.lit (.bool false)], args := [d] }
  | _ => none }
def FnExactDueOrderWrongFalsely : Prop := fnExactDueOrderRow.holds Try.pinned (OpenSpec.ofChange fnExactDueOrderWrong)

/-- 'laws.FnExactCanBeInTime': WHATEVER THE INPUT: true; the input reads as it did. -/
def fnExactCanBeInTimeSpec : ChangeSpec := { name := "fnExactCanBeInTime", fn := fun _ => fun
  | [d] => { results := [.lit (.bool true)], args := [d] }
  | _ => none }
def fnExactCanBeInTimeRow : OpenClaim := { program := "ytdchgbhhlocmdaa", sum := "2e053f90b90d53913c7ba06d87842cb631b491e0e09a08f21b7a66a65c81e496", func := "loop.example/g00992/laws.FnExactCanBeInTime", spec := "fnExactCanBeInTime", inPlace := ["internal/reflectlite.ValueOf", "internal/reflectlite.Swapper", "(internal/reflectlite.Value).Len"], unfollowed := true, recurses := true, apart := false }
def FnExactCanBeInTimeSaid : Prop := fnExactCanBeInTimeRow.holds Try.pinned (OpenSpec.ofChange fnExactCanBeInTimeSpec)

/-- ITS FALSE NEIGHBOUR: 'it returns false'. Refute it at one input. -/
def fnExactCanBeInTimeWrong : ChangeSpec := { name := "fnExactCanBeInTime", fn := fun _ => fun
  | [d] => { results := [.lit (.bool false)], args := [d] }
  | _ => none }
def FnExactCanBeInTimeWrongFalsely : Prop := fnExactCanBeInTimeRow.holds Try.pinned (OpenSpec.ofChange fnExactCanBeInTimeWrong)

/-- 'laws.FnExactMostInTime': WHATEVER THE INPUT: true; the input reads as it did. -/
def fnExactMostInTimeSpec : ChangeSpec := { name := "fnExactMostInTime", fn := fun _ => fun
  | [d] => { results := [.lit (.bool true)], args := [d] }
  | _ => none }
def fnExactMostInTimeRow : OpenClaim := { program := "ytdchgbhhlocmdaa", sum := "2e053f90b90d53913c7ba06d87842cb631b491e0e09a08f21b7a66a65c81e496", func := "loop.example/g00992/laws.FnExactMostInTime", spec := "fnExactMostInTime", inPlace := ["internal/reflectlite.ValueOf", "internal/reflectlite.Swapper", "(internal/reflectlite.Value).Len"], unfollowed := true, recurses := true, apart := false }
def FnExactMostInTimeSaid : Prop := fnExactMostInTimeRow.holds Try.pinned (OpenSpec.ofChange fnExactMostInTimeSpec)

/-- ITS FALSE NEIGHBOUR: 'it returns false'. Refute it at one input. -/
def fnExactMostInTimeWrong : ChangeSpec := { name := "fnExactMostInTime", fn := fun _ => fun
  | [d] => { results := [.lit (.bool false)], args := [d] }
  | _ => none }
def FnExactMostInTimeWrongFalsely : Prop := fnExactMostInTimeRow.holds Try.pinned (OpenSpec.ofChange fnExactMostInTimeWrong)

/-- 'laws.FnExactLeastFine': WHATEVER THE INPUT: true; the input reads as it did. -/
def fnExactLeastFineSpec : ChangeSpec := { name := "fnExactLeastFine", fn := fun _ => fun
  | [d] => { results := [.lit (.bool true)], args := [d] }
  | _ => none }
def fnExactLeastFineRow : OpenClaim := { program := "ytdchgbhhlocmdaa", sum := "2e053f90b90d53913c7ba06d87842cb631b491e0e09a08f21b7a66a65c81e496", func := "loop.example/g00992/laws.FnExactLeastFine", spec := "fnExactLeastFine", inPlace := ["internal/reflectlite.ValueOf", "internal/reflectlite.Swapper", "(internal/reflectlite.Value).Len"], unfollowed := true, recurses := true, apart := false }
def FnExactLeastFineSaid : Prop := fnExactLeastFineRow.holds Try.pinned (OpenSpec.ofChange fnExactLeastFineSpec)

/-- ITS FALSE NEIGHBOUR: 'it returns false'. Refute it at one input. -/
def fnExactLeastFineWrong : ChangeSpec := { name := "fnExactLeastFine", fn := fun _ => fun
  | [d] => { results := [.lit (.bool false)], args := [d] }
  | _ => none }
def FnExactLeastFineWrongFalsely : Prop := fnExactLeastFineRow.holds Try.pinned (OpenSpec.ofChange fnExactLeastFineWrong)

/-- 'laws.FnVisits': WHATEVER THE INPUT: true; the input reads as it did. -/
def fnVisitsSpec : ChangeSpec := { name := "fnVisits", fn := fun _ => fun
  | [d] => { results := [.lit (.bool true)], args := [d] }
  | _ => none }
def fnVisitsRow : OpenClaim := { program := "ytdchgbhhlocmdaa", sum := "2e053f90b90d53913c7ba06d87842cb631b491e0e09a08f21b7a66a65c81e496", func := "loop.example/g00992/laws.FnVisits", spec := "fnVisits", inPlace := ["internal/reflectlite.ValueOf", "internal/reflectlite.Swapper", "(internal/reflectlite.Value).Len"], unfollowed := true, recurses := true, apart := false }
def FnVisitsSaid : Prop := fnVisitsRow.holds Try.pinned (OpenSpec.ofChange fnVisitsSpec)

/-- ITS FALSE NEIGHBOUR: 'it returns false'. Refute it at one input. -/
def fnVisitsWrong : ChangeSpec := { name := "fnVisits", fn := fun _ => fun
  | [d] => { results := [.lit (.bool false)], args := [d] }
  | _ => none }
def FnVisitsWrongFalsely : Prop := fnVisitsRow.holds Try.pinned (OpenSpec.ofChange fnVisitsWrong)

/-- 'laws.FnExactNewOnes': WHATEVER THE INPUT: true; the input reads as it did. -/
def fnExactNewOnesSpec : ChangeSpec := { name := "fnExactNewOnes", fn := fun _ => fun
  | [d1, d2] => { results := [.lit (.bool true)], args := [d1, d2] }
  | _ => none }
def fnExactNewOnesRow : OpenClaim := { program := "ytdchgbhhlocmdaa", sum := "2e053f90b90d53913c7ba06d87842cb631b491e0e09a08f21b7a66a65c81e496", func := "loop.example/g00992/laws.FnExactNewOnes", spec := "fnExactNewOnes", recurses := true, apart := false }
def FnExactNewOnesSaid : Prop := fnExactNewOnesRow.holds Try.pinned (OpenSpec.ofChange fnExactNewOnesSpec)

/-- ITS FALSE NEIGHBOUR: 'it returns false'. Refute it at one input. -/
def fnExactNewOnesWrong : ChangeSpec := { name := "fnExactNewOnes", fn := fun _ => fun
  | [d1, d2] => { results := [.lit (.bool false)], args := [d1, d2] }
  | _ => none }
def FnExactNewOnesWrongFalsely : Prop := fnExactNewOnesRow.holds Try.pinned (OpenSpec.ofChange fnExactNewOnesWrong)

/-- 'laws.FnExactLettersFor': WHATEVER THE INPUT: true; the input reads as it did. -/
def fnExactLettersForSpec : ChangeSpec := { name := "fnExactLettersFor", fn := fun _ => fun
  | [d1, d2, d3] => { results := [.lit (.bool true)], args := [d1, d2, d3] }
  | _ => none }
def fnExactLettersForRow : OpenClaim := { program := "ytdchgbhhlocmdaa", sum := "2e053f90b90d53913c7ba06d87842cb631b491e0e09a08f21b7a66a65c81e496", func := "loop.example/g00992/laws.FnExactLettersFor", spec := "fnExactLettersFor", recurses := true, apart := false }
def FnExactLettersForSaid : Prop := fnExactLettersForRow.holds Try.pinned (OpenSpec.ofChange fnExactLettersForSpec)

/-- ITS FALSE NEIGHBOUR: 'it returns false'. Refute it at one input. -/
def fnExactLettersForWrong : ChangeSpec := { name := "fnExactLettersFor", fn := fun _ => fun
  | [d1, d2, d3] => { results := [.lit (.bool false)], args := [d1, d2, d3] }
  | _ => none }
def FnExactLettersForWrongFalsely : Prop := fnExactLettersForRow.holds Try.pinned (OpenSpec.ofChange fnExactLettersForWrong)

/-- 'laws.FnExactWithdraw': WHATEVER THE INPUT: true; the input reads as it did. -/
def fnExactWithdrawSpec : ChangeSpec := { name := "fnExactWithdraw", fn := fun _ => fun
  | [d1, d2, d3] => { results := [.lit (.bool true)], args := [d1, d2, d3] }
  | _ => none }
def fnExactWithdrawRow : OpenClaim := { program := "ytdchgbhhlocmdaa", sum := "2e053f90b90d53913c7ba06d87842cb631b491e0e09a08f21b7a66a65c81e496", func := "loop.example/g00992/laws.FnExactWithdraw", spec := "fnExactWithdraw", recurses := true, apart := false }
def FnExactWithdrawSaid : Prop := fnExactWithdrawRow.holds Try.pinned (OpenSpec.ofChange fnExactWithdrawSpec)

/-- ITS FALSE NEIGHBOUR: 'it returns false'. Refute it at one input. -/
def fnExactWithdrawWrong : ChangeSpec := { name := "fnExactWithdraw", fn := fun _ => fun
  | [d1, d2, d3] => { results := [.lit (.bool false)], args := [d1, d2, d3] }
  | _ => none }
def FnExactWithdrawWrongFalsely : Prop := fnExactWithdrawRow.holds Try.pinned (OpenSpec.ofChange fnExactWithdrawWrong)

/-- 'laws.FnHouses': WHATEVER THE INPUT: true; the input reads as it did. -/
def fnHousesSpec : ChangeSpec := { name := "fnHouses", fn := fun _ => fun
  | [d] => { results := [.lit (.bool true)], args := [d] }
  | _ => none }
def fnHousesRow : OpenClaim := { program := "ytdchgbhhlocmdaa", sum := "2e053f90b90d53913c7ba06d87842cb631b491e0e09a08f21b7a66a65c81e496", func := "loop.example/g00992/laws.FnHouses", spec := "fnHouses", recurses := true, apart := false }
def FnHousesSaid : Prop := fnHousesRow.holds Try.pinned (OpenSpec.ofChange fnHousesSpec)

/-- ITS FALSE NEIGHBOUR: 'it returns false'. Refute it at one input. -/
def fnHousesWrong : ChangeSpec := { name := "fnHouses", fn := fun _ => fun
  | [d] => { results := [.lit (.bool false)], args := [d] }
  | _ => none }
def FnHousesWrongFalsely : Prop := fnHousesRow.holds Try.pinned (OpenSpec.ofChange fnHousesWrong)

/- THE SECOND FORM. 'bulk': how many values and letters a reading holds, each counted each time it is reached (what is shared counts as often as it is met; a slice's spare places count too). A statement '..UptoSaid' is the law's where the arguments, and the package variables that the reading takes, are together of bulk at most 1048576: NARROWER than '..Said'. Prove '..Said' where nothing that the law and all that it calls make is longer than what came in: it says more and counts as full. Else prove '..UptoSaid'. A law counts once. -/
mutual
def uptoBulk {H : Type} : DataW H → Nat
  | .lit (.string bytes) => bytes.length + 1
  | .lit _ => 1
  | .nil => 1
  | .ptr d => uptoBulk d + 1
  | .slice elems spare => uptoBulkAll elems + uptoBulkAll spare + 1
  | .agg parts => uptoBulkAll parts + 1
  | .iface _ d => uptoBulk d + 1
  | .map entries => uptoBulkEntries entries + 1
  | .held _ => 1
def uptoBulkAll {H : Type} : List (DataW H) → Nat
  | [] => 0
  | d :: r => uptoBulk d + uptoBulkAll r
def uptoBulkEntries {H : Type} : List (Lit × DataW H) → Nat
  | [] => 0
  | x :: r => uptoBulkEntry x + uptoBulkEntries r
def uptoBulkEntry {H : Type} : Lit × DataW H → Nat
  | (.string bytes, d) => bytes.length + uptoBulk d + 1
  | (_, d) => uptoBulk d + 1
 end
def uptoSmall : (H : Type) → List (DataW H) → Bool := fun _ ds => decide (uptoBulkAll ds ≤ 1048576)
def OpenSpec.upto (s : _root_.Go.ChangeSpec) : _root_.Go.OpenSpec := { _root_.Go.OpenSpec.ofChange s with cond := some uptoSmall }

/-- 'laws.FnExactDueOrder', WHERE WHAT IT READS IS OF BULK AT MOST 1048576: true; the input reads as it did. -/
def fnExactDueOrderUptoRow : OpenClaim := { program := "ytdchgbhhlocmdaa", sum := "2e053f90b90d53913c7ba06d87842cb631b491e0e09a08f21b7a66a65c81e496", func := "loop.example/g00992/laws.FnExactDueOrder", spec := "fnExactDueOrder", inPlace := ["internal/reflectlite.ValueOf", "internal/reflectlite.Swapper", "(internal/reflectlite.Value).Len"], unfollowed := true, recurses := true, apart := false, narrowed := true }
def FnExactDueOrderUptoSaid : Prop := fnExactDueOrderUptoRow.holds Try.pinned (OpenSpec.upto fnExactDueOrderSpec)

/-- 'laws.FnExactCanBeInTime', WHERE WHAT IT READS IS OF BULK AT MOST 1048576: true; the input reads as it did. -/
def fnExactCanBeInTimeUptoRow : OpenClaim := { program := "ytdchgbhhlocmdaa", sum := "2e053f90b90d53913c7ba06d87842cb631b491e0e09a08f21b7a66a65c81e496", func := "loop.example/g00992/laws.FnExactCanBeInTime", spec := "fnExactCanBeInTime", inPlace := ["internal/reflectlite.ValueOf", "internal/reflectlite.Swapper", "(internal/reflectlite.Value).Len"], unfollowed := true, recurses := true, apart := false, narrowed := true }
def FnExactCanBeInTimeUptoSaid : Prop := fnExactCanBeInTimeUptoRow.holds Try.pinned (OpenSpec.upto fnExactCanBeInTimeSpec)

/-- 'laws.FnExactMostInTime', WHERE WHAT IT READS IS OF BULK AT MOST 1048576: true; the input reads as it did. -/
def fnExactMostInTimeUptoRow : OpenClaim := { program := "ytdchgbhhlocmdaa", sum := "2e053f90b90d53913c7ba06d87842cb631b491e0e09a08f21b7a66a65c81e496", func := "loop.example/g00992/laws.FnExactMostInTime", spec := "fnExactMostInTime", inPlace := ["internal/reflectlite.ValueOf", "internal/reflectlite.Swapper", "(internal/reflectlite.Value).Len"], unfollowed := true, recurses := true, apart := false, narrowed := true }
def FnExactMostInTimeUptoSaid : Prop := fnExactMostInTimeUptoRow.holds Try.pinned (OpenSpec.upto fnExactMostInTimeSpec)

/-- 'laws.FnExactLeastFine', WHERE WHAT IT READS IS OF BULK AT MOST 1048576: true; the input reads as it did. -/
def fnExactLeastFineUptoRow : OpenClaim := { program := "ytdchgbhhlocmdaa", sum := "2e053f90b90d53913c7ba06d87842cb631b491e0e09a08f21b7a66a65c81e496", func := "loop.example/g00992/laws.FnExactLeastFine", spec := "fnExactLeastFine", inPlace := ["internal/reflectlite.ValueOf", "internal/reflectlite.Swapper", "(internal/reflectlite.Value).Len"], unfollowed := true, recurses := true, apart := false, narrowed := true }
def FnExactLeastFineUptoSaid : Prop := fnExactLeastFineUptoRow.holds Try.pinned (OpenSpec.upto fnExactLeastFineSpec)

/-- 'laws.FnVisits', WHERE WHAT IT READS IS OF BULK AT MOST 1048576: true; the input reads as it did. -/
def fnVisitsUptoRow : OpenClaim := { program := "ytdchgbhhlocmdaa", sum := "2e053f90b90d53913c7ba06d87842cb631b491e0e09a08f21b7a66a65c81e496", func := "loop.example/g00992/laws.FnVisits", spec := "fnVisits", inPlace := ["internal/reflectlite.ValueOf", "internal/reflectlite.Swapper", "(internal/reflectlite.Value).Len"], unfollowed := true, recurses := true, apart := false, narrowed := true }
def FnVisitsUptoSaid : Prop := fnVisitsUptoRow.holds Try.pinned (OpenSpec.upto fnVisitsSpec)

/-- 'laws.FnExactNewOnes', WHERE WHAT IT READS IS OF BULK AT MOST 1048576: true; the input reads as it did. -/
def fnExactNewOnesUptoRow : OpenClaim := { program := "ytdchgbhhlocmdaa", sum := "2e053f90b90d53913c7ba06d87842cb631b491e0e09a08f21b7a66a65c81e496", func := "loop.example/g00992/laws.FnExactNewOnes", spec := "fnExactNewOnes", recurses := true, apart := false, narrowed := true }
def FnExactNewOnesUptoSaid : Prop := fnExactNewOnesUptoRow.holds Try.pinned (OpenSpec.upto fnExactNewOnesSpec)

/-- 'laws.FnExactLettersFor', WHERE WHAT IT READS IS OF BULK AT MOST 1048576: true; the input reads as it did. -/
def fnExactLettersForUptoRow : OpenClaim := { program := "ytdchgbhhlocmdaa", sum := "2e053f90b90d53913c7ba06d87842cb631b491e0e09a08f21b7a66a65c81e496", func := "loop.example/g00992/laws.FnExactLettersFor", spec := "fnExactLettersFor", recurses := true, apart := false, narrowed := true }
def FnExactLettersForUptoSaid : Prop := fnExactLettersForUptoRow.holds Try.pinned (OpenSpec.upto fnExactLettersForSpec)

/-- 'laws.FnExactWithdraw', WHERE WHAT IT READS IS OF BULK AT MOST 1048576: true; the input reads as it did. -/
def fnExactWithdrawUptoRow : OpenClaim := { program := "ytdchgbhhlocmdaa", sum := "2e053f90b90d53913c7ba06d87842cb631b491e0e09a08f21b7a66a65c81e496", func := "loop.example/g00992/laws.FnExactWithdraw", spec := "fnExactWithdraw", recurses := true, apart := false, narrowed := true }
def FnExactWithdrawUptoSaid : Prop := fnExactWithdrawUptoRow.holds Try.pinned (OpenSpec.upto fnExactWithdrawSpec)

/-- 'laws.FnHouses', WHERE WHAT IT READS IS OF BULK AT MOST 1048576: true; the input reads as it did. -/
def fnHousesUptoRow : OpenClaim := { program := "ytdchgbhhlocmdaa", sum := "2e053f90b90d53913c7ba06d87842cb631b491e0e09a08f21b7a66a65c81e496", func := "loop.example/g00992/laws.FnHouses", spec := "fnHouses", recurses := true, apart := false, narrowed := true }
def FnHousesUptoSaid : Prop := fnHousesUptoRow.holds Try.pinned (OpenSpec.upto fnHousesSpec)

end Rows
end Go.Proofs.Ytdchgbhhlocmdaa
