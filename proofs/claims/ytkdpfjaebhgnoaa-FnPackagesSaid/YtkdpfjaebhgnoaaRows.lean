/-
  No cell of these rows narrows 'for every input' (looked for: loops, veiled, ifaces, maps, wideKeys, modest, calm, conditions, laid).
  DERIVED. THE GIVEN ROWS OF THIS SEAT. 12 by the template 'for every input the law returns true; each argument reads behind the call as it read before'; 0 by the template 'total and deterministic' (their statements: YtkdpfjaebhgnoaaTotals.lean).
  GIVEN WITH THE SEED: the statements are not yours to turn. If you find one false, say at which input.
  Laid BY PROGRAM, IN A SANDBOX (cutbox-rows.mjs): the forced cells as the released guide's own fill.sh prints them over the translation e35518ed0e099071… (all of the seat's roots in one cut). By AI agents, Wed Nov 11 2026. No macro, syntax, notation, axiom, sorry.
-/
import Derived.Test.YtkdpfjaebhgnoaaChecked
import GoSem.Claim
import GoSem.ClaimJoined
import GoSem.ClaimMapViews
import Derived.JoinedTies
import Derived.KernelRfl
namespace Go.Proofs.Ytkdpfjaebhgnoaa
/- THE CELL 'sum', in the pinned program and in every row, IS THE sha256 OF THE DUMP (.gsa) THAT YtkdpfjaebhgnoaaProg.lean LOADS. Nothing in Lean hashes anything: it is a label: what it is worth is what the hold of that sum in a sandbox is worth. -/
noncomputable def Try.pinned : Pinned := { name := "ytkdpfjaebhgnoaa", sum := "e35518ed0e099071cba013d6a2339bacd483864129c640fb4e9c4d8d913ebafc", checked := Try.checked }
namespace Rows
def none {H : Type} : Left H := { results := [], args := [] }

/-- 'laws.FnExactPriceOfAll': WHATEVER THE INPUT: true; the input reads as it did. -/
def fnExactPriceOfAllSpec : ChangeSpec := { name := "fnExactPriceOfAll", fn := fun _ => fun
  | [d1, d2] => { results := [.lit (.bool true)], args := [d1, d2] }
  | _ => none }
def fnExactPriceOfAllRow : OpenClaim := { program := "ytkdpfjaebhgnoaa", sum := "e35518ed0e099071cba013d6a2339bacd483864129c640fb4e9c4d8d913ebafc", func := "loop.example/g00992/laws.FnExactPriceOfAll", spec := "fnExactPriceOfAll", apart := false }
def FnExactPriceOfAllSaid : Prop := fnExactPriceOfAllRow.holds Try.pinned (OpenSpec.ofChange fnExactPriceOfAllSpec)

/-- ITS FALSE NEIGHBOUR: 'it returns false'. Refute it at one input. -/
def fnExactPriceOfAllWrong : ChangeSpec := { name := "fnExactPriceOfAll", fn := fun _ => fun
  | [d1, d2] => { results := [.lit (.bool false)], args := [d1, d2] }
  | _ => none }
def FnExactPriceOfAllWrongFalsely : Prop := fnExactPriceOfAllRow.holds Try.pinned (OpenSpec.ofChange fnExactPriceOfAllWrong)

/-- 'laws.FnExactCountLetters': WHATEVER THE INPUT: true; the input reads as it did. -/
def fnExactCountLettersSpec : ChangeSpec := { name := "fnExactCountLetters", fn := fun _ => fun
  | [d] => { results := [.lit (.bool true)], args := [d] }
  | _ => none }
def fnExactCountLettersRow : OpenClaim := { program := "ytkdpfjaebhgnoaa", sum := "e35518ed0e099071cba013d6a2339bacd483864129c640fb4e9c4d8d913ebafc", func := "loop.example/g00992/laws.FnExactCountLetters", spec := "fnExactCountLetters", apart := false }
def FnExactCountLettersSaid : Prop := fnExactCountLettersRow.holds Try.pinned (OpenSpec.ofChange fnExactCountLettersSpec)

/-- ITS FALSE NEIGHBOUR: 'it returns false'. Refute it at one input. -/
def fnExactCountLettersWrong : ChangeSpec := { name := "fnExactCountLetters", fn := fun _ => fun
  | [d] => { results := [.lit (.bool false)], args := [d] }
  | _ => none }
def FnExactCountLettersWrongFalsely : Prop := fnExactCountLettersRow.holds Try.pinned (OpenSpec.ofChange fnExactCountLettersWrong)

/-- 'laws.FnExactOwnersOk': WHATEVER THE INPUT: true; the input reads as it did. -/
def fnExactOwnersOkSpec : ChangeSpec := { name := "fnExactOwnersOk", fn := fun _ => fun
  | [d1, d2] => { results := [.lit (.bool true)], args := [d1, d2] }
  | _ => none }
def fnExactOwnersOkRow : OpenClaim := { program := "ytkdpfjaebhgnoaa", sum := "e35518ed0e099071cba013d6a2339bacd483864129c640fb4e9c4d8d913ebafc", func := "loop.example/g00992/laws.FnExactOwnersOk", spec := "fnExactOwnersOk", apart := false }
def FnExactOwnersOkSaid : Prop := fnExactOwnersOkRow.holds Try.pinned (OpenSpec.ofChange fnExactOwnersOkSpec)

/-- ITS FALSE NEIGHBOUR: 'it returns false'. Refute it at one input. -/
def fnExactOwnersOkWrong : ChangeSpec := { name := "fnExactOwnersOk", fn := fun _ => fun
  | [d1, d2] => { results := [.lit (.bool false)], args := [d1, d2] }
  | _ => none }
def FnExactOwnersOkWrongFalsely : Prop := fnExactOwnersOkRow.holds Try.pinned (OpenSpec.ofChange fnExactOwnersOkWrong)

/-- 'laws.FnExactDaysOk': WHATEVER THE INPUT: true; the input reads as it did. -/
def fnExactDaysOkSpec : ChangeSpec := { name := "fnExactDaysOk", fn := fun _ => fun
  | [d1, d2] => { results := [.lit (.bool true)], args := [d1, d2] }
  | _ => none }
def fnExactDaysOkRow : OpenClaim := { program := "ytkdpfjaebhgnoaa", sum := "e35518ed0e099071cba013d6a2339bacd483864129c640fb4e9c4d8d913ebafc", func := "loop.example/g00992/laws.FnExactDaysOk", spec := "fnExactDaysOk", apart := false }
def FnExactDaysOkSaid : Prop := fnExactDaysOkRow.holds Try.pinned (OpenSpec.ofChange fnExactDaysOkSpec)

/-- ITS FALSE NEIGHBOUR: 'it returns false'. Refute it at one input. -/
def fnExactDaysOkWrong : ChangeSpec := { name := "fnExactDaysOk", fn := fun _ => fun
  | [d1, d2] => { results := [.lit (.bool false)], args := [d1, d2] }
  | _ => none }
def FnExactDaysOkWrongFalsely : Prop := fnExactDaysOkRow.holds Try.pinned (OpenSpec.ofChange fnExactDaysOkWrong)

/-- 'laws.FnExactDoesDepend': WHATEVER THE INPUT: true; the input reads as it did. -/
def fnExactDoesDependSpec : ChangeSpec := { name := "fnExactDoesDepend", fn := fun _ => fun
  | [d1, d2, d3] => { results := [.lit (.bool true)], args := [d1, d2, d3] }
  | _ => none }
def fnExactDoesDependRow : OpenClaim := { program := "ytkdpfjaebhgnoaa", sum := "e35518ed0e099071cba013d6a2339bacd483864129c640fb4e9c4d8d913ebafc", func := "loop.example/g00992/laws.FnExactDoesDepend", spec := "fnExactDoesDepend", apart := false }
def FnExactDoesDependSaid : Prop := fnExactDoesDependRow.holds Try.pinned (OpenSpec.ofChange fnExactDoesDependSpec)

/-- ITS FALSE NEIGHBOUR: 'it returns false'. Refute it at one input. -/
def fnExactDoesDependWrong : ChangeSpec := { name := "fnExactDoesDepend", fn := fun _ => fun
  | [d1, d2, d3] => { results := [.lit (.bool false)], args := [d1, d2, d3] }
  | _ => none }
def FnExactDoesDependWrongFalsely : Prop := fnExactDoesDependRow.holds Try.pinned (OpenSpec.ofChange fnExactDoesDependWrong)

/-- 'laws.FnExactLossOf': WHATEVER THE INPUT: true; the input reads as it did. -/
def fnExactLossOfSpec : ChangeSpec := { name := "fnExactLossOf", fn := fun _ => fun
  | [d1, d2] => { results := [.lit (.bool true)], args := [d1, d2] }
  | _ => none }
def fnExactLossOfRow : OpenClaim := { program := "ytkdpfjaebhgnoaa", sum := "e35518ed0e099071cba013d6a2339bacd483864129c640fb4e9c4d8d913ebafc", func := "loop.example/g00992/laws.FnExactLossOf", spec := "fnExactLossOf", apart := false }
def FnExactLossOfSaid : Prop := fnExactLossOfRow.holds Try.pinned (OpenSpec.ofChange fnExactLossOfSpec)

/-- ITS FALSE NEIGHBOUR: 'it returns false'. Refute it at one input. -/
def fnExactLossOfWrong : ChangeSpec := { name := "fnExactLossOf", fn := fun _ => fun
  | [d1, d2] => { results := [.lit (.bool false)], args := [d1, d2] }
  | _ => none }
def FnExactLossOfWrongFalsely : Prop := fnExactLossOfRow.holds Try.pinned (OpenSpec.ofChange fnExactLossOfWrong)

/-- 'laws.FnExactCountShort': WHATEVER THE INPUT: true; the input reads as it did. -/
def fnExactCountShortSpec : ChangeSpec := { name := "fnExactCountShort", fn := fun _ => fun
  | [d1, d2] => { results := [.lit (.bool true)], args := [d1, d2] }
  | _ => none }
def fnExactCountShortRow : OpenClaim := { program := "ytkdpfjaebhgnoaa", sum := "e35518ed0e099071cba013d6a2339bacd483864129c640fb4e9c4d8d913ebafc", func := "loop.example/g00992/laws.FnExactCountShort", spec := "fnExactCountShort", apart := false }
def FnExactCountShortSaid : Prop := fnExactCountShortRow.holds Try.pinned (OpenSpec.ofChange fnExactCountShortSpec)

/-- ITS FALSE NEIGHBOUR: 'it returns false'. Refute it at one input. -/
def fnExactCountShortWrong : ChangeSpec := { name := "fnExactCountShort", fn := fun _ => fun
  | [d1, d2] => { results := [.lit (.bool false)], args := [d1, d2] }
  | _ => none }
def FnExactCountShortWrongFalsely : Prop := fnExactCountShortRow.holds Try.pinned (OpenSpec.ofChange fnExactCountShortWrong)

/-- 'laws.FnPrices': WHATEVER THE INPUT: true; the input reads as it did. -/
def fnPricesSpec : ChangeSpec := { name := "fnPrices", fn := fun _ => fun
  | [d] => { results := [.lit (.bool true)], args := [d] }
  | _ => none }
def fnPricesRow : OpenClaim := { program := "ytkdpfjaebhgnoaa", sum := "e35518ed0e099071cba013d6a2339bacd483864129c640fb4e9c4d8d913ebafc", func := "loop.example/g00992/laws.FnPrices", spec := "fnPrices", apart := false }
def FnPricesSaid : Prop := fnPricesRow.holds Try.pinned (OpenSpec.ofChange fnPricesSpec)

/-- ITS FALSE NEIGHBOUR: 'it returns false'. Refute it at one input. -/
def fnPricesWrong : ChangeSpec := { name := "fnPrices", fn := fun _ => fun
  | [d] => { results := [.lit (.bool false)], args := [d] }
  | _ => none }
def FnPricesWrongFalsely : Prop := fnPricesRow.holds Try.pinned (OpenSpec.ofChange fnPricesWrong)

/-- 'laws.FnExactIsToldOnce': WHATEVER THE INPUT: true; the input reads as it did. -/
def fnExactIsToldOnceSpec : ChangeSpec := { name := "fnExactIsToldOnce", fn := fun _ => fun
  | [d] => { results := [.lit (.bool true)], args := [d] }
  | _ => none }
def fnExactIsToldOnceRow : OpenClaim := { program := "ytkdpfjaebhgnoaa", sum := "e35518ed0e099071cba013d6a2339bacd483864129c640fb4e9c4d8d913ebafc", func := "loop.example/g00992/laws.FnExactIsToldOnce", spec := "fnExactIsToldOnce", apart := false }
def FnExactIsToldOnceSaid : Prop := fnExactIsToldOnceRow.holds Try.pinned (OpenSpec.ofChange fnExactIsToldOnceSpec)

/-- ITS FALSE NEIGHBOUR: 'it returns false'. Refute it at one input. -/
def fnExactIsToldOnceWrong : ChangeSpec := { name := "fnExactIsToldOnce", fn := fun _ => fun
  | [d] => { results := [.lit (.bool false)], args := [d] }
  | _ => none }
def FnExactIsToldOnceWrongFalsely : Prop := fnExactIsToldOnceRow.holds Try.pinned (OpenSpec.ofChange fnExactIsToldOnceWrong)

/-- 'laws.FnExactCountBelow': WHATEVER THE INPUT: true; the input reads as it did. -/
def fnExactCountBelowSpec : ChangeSpec := { name := "fnExactCountBelow", fn := fun _ => fun
  | [d1, d2] => { results := [.lit (.bool true)], args := [d1, d2] }
  | _ => none }
def fnExactCountBelowRow : OpenClaim := { program := "ytkdpfjaebhgnoaa", sum := "e35518ed0e099071cba013d6a2339bacd483864129c640fb4e9c4d8d913ebafc", func := "loop.example/g00992/laws.FnExactCountBelow", spec := "fnExactCountBelow", apart := false }
def FnExactCountBelowSaid : Prop := fnExactCountBelowRow.holds Try.pinned (OpenSpec.ofChange fnExactCountBelowSpec)

/-- ITS FALSE NEIGHBOUR: 'it returns false'. Refute it at one input. -/
def fnExactCountBelowWrong : ChangeSpec := { name := "fnExactCountBelow", fn := fun _ => fun
  | [d1, d2] => { results := [.lit (.bool false)], args := [d1, d2] }
  | _ => none }
def FnExactCountBelowWrongFalsely : Prop := fnExactCountBelowRow.holds Try.pinned (OpenSpec.ofChange fnExactCountBelowWrong)

/-- 'laws.FnExactIsLotGood': WHATEVER THE INPUT: true; the input reads as it did. -/
def fnExactIsLotGoodSpec : ChangeSpec := { name := "fnExactIsLotGood", fn := fun _ => fun
  | [d] => { results := [.lit (.bool true)], args := [d] }
  | _ => none }
def fnExactIsLotGoodRow : OpenClaim := { program := "ytkdpfjaebhgnoaa", sum := "e35518ed0e099071cba013d6a2339bacd483864129c640fb4e9c4d8d913ebafc", func := "loop.example/g00992/laws.FnExactIsLotGood", spec := "fnExactIsLotGood", apart := false }
def FnExactIsLotGoodSaid : Prop := fnExactIsLotGoodRow.holds Try.pinned (OpenSpec.ofChange fnExactIsLotGoodSpec)

/-- ITS FALSE NEIGHBOUR: 'it returns false'. Refute it at one input. -/
def fnExactIsLotGoodWrong : ChangeSpec := { name := "fnExactIsLotGood", fn := fun _ => fun
  | [d] => { results := [.lit (.bool false)], args := [d] }
  | _ => none }
def FnExactIsLotGoodWrongFalsely : Prop := fnExactIsLotGoodRow.holds Try.pinned (OpenSpec.ofChange fnExactIsLotGoodWrong)

/-- 'laws.FnPackages': WHATEVER THE INPUT: true; the input reads as it did. -/
def fnPackagesSpec : ChangeSpec := { name := "fnPackages", fn := fun _ => fun
  | [d] => { results := [.lit (.bool true)], args := [d] }
  | _ => none }
def fnPackagesRow : OpenClaim := { program := "ytkdpfjaebhgnoaa", sum := "e35518ed0e099071cba013d6a2339bacd483864129c640fb4e9c4d8d913ebafc", func := "loop.example/g00992/laws.FnPackages", spec := "fnPackages", apart := false }
def FnPackagesSaid : Prop := fnPackagesRow.holds Try.pinned (OpenSpec.ofChange fnPackagesSpec)

/-- ITS FALSE NEIGHBOUR: 'it returns false'. Refute it at one input. -/
def fnPackagesWrong : ChangeSpec := { name := "fnPackages", fn := fun _ => fun
  | [d] => { results := [.lit (.bool false)], args := [d] }
  | _ => none }
def FnPackagesWrongFalsely : Prop := fnPackagesRow.holds Try.pinned (OpenSpec.ofChange fnPackagesWrong)

/- THE SECOND FORM. 'bulk': how many values and letters a reading holds, each counted each time it is reached (what is shared counts as often as it is met; a slice's spare places count too). A statement '..UptoSaid' is the law's where the arguments, and the package variables that the reading takes, are together of bulk at most 1048576: NARROWER than '..Said'. Prove '..Said' where nothing that the law and all that it calls make is longer than what came in: it says more and counts as full. Else prove '..UptoSaid'. A law counts once. -/
mutual
def uptoBulk {H : Type} : DataW H → Nat
  | .lit (.string bytes) => bytes.length + 1
  | .lit _ => 1
  | .nil => 1
  | .ptr d => uptoBulk d + 1
  | .slice elems spare => uptoBulkAll elems + uptoBulkAll spare + 1
  | .agg parts => uptoBulkAll parts + 1
  | .iface _ d => uptoBulk d + 1
  | .map entries => uptoBulkEntries entries + 1
  | .held _ => 1
def uptoBulkAll {H : Type} : List (DataW H) → Nat
  | [] => 0
  | d :: r => uptoBulk d + uptoBulkAll r
def uptoBulkEntries {H : Type} : List (Lit × DataW H) → Nat
  | [] => 0
  | x :: r => uptoBulkEntry x + uptoBulkEntries r
def uptoBulkEntry {H : Type} : Lit × DataW H → Nat
  | (.string bytes, d) => bytes.length + uptoBulk d + 1
  | (_, d) => uptoBulk d + 1
 end
def uptoSmall : (H : Type) → List (DataW H) → Bool := fun _ ds => decide (uptoBulkAll ds ≤ 1048576)
def OpenSpec.upto (s : _root_.Go.ChangeSpec) : _root_.Go.OpenSpec := { _root_.Go.OpenSpec.ofChange s with cond := some uptoSmall }

/-- 'laws.FnExactPriceOfAll', WHERE WHAT IT READS IS OF BULK AT MOST 1048576: true; the input reads as it did. -/
def fnExactPriceOfAllUptoRow : OpenClaim := { program := "ytkdpfjaebhgnoaa", sum := "e35518ed0e099071cba013d6a2339bacd483864129c640fb4e9c4d8d913ebafc", func := "loop.example/g00992/laws.FnExactPriceOfAll", spec := "fnExactPriceOfAll", apart := false, narrowed := true }
def FnExactPriceOfAllUptoSaid : Prop := fnExactPriceOfAllUptoRow.holds Try.pinned (OpenSpec.upto fnExactPriceOfAllSpec)

/-- 'laws.FnExactCountLetters', WHERE WHAT IT READS IS OF BULK AT MOST 1048576: true; the input reads as it did. -/
def fnExactCountLettersUptoRow : OpenClaim := { program := "ytkdpfjaebhgnoaa", sum := "e35518ed0e099071cba013d6a2339bacd483864129c640fb4e9c4d8d913ebafc", func := "loop.example/g00992/laws.FnExactCountLetters", spec := "fnExactCountLetters", apart := false, narrowed := true }
def FnExactCountLettersUptoSaid : Prop := fnExactCountLettersUptoRow.holds Try.pinned (OpenSpec.upto fnExactCountLettersSpec)

/-- 'laws.FnExactOwnersOk', WHERE WHAT IT READS IS OF BULK AT MOST 1048576: true; the input reads as it did. -/
def fnExactOwnersOkUptoRow : OpenClaim := { program := "ytkdpfjaebhgnoaa", sum := "e35518ed0e099071cba013d6a2339bacd483864129c640fb4e9c4d8d913ebafc", func := "loop.example/g00992/laws.FnExactOwnersOk", spec := "fnExactOwnersOk", apart := false, narrowed := true }
def FnExactOwnersOkUptoSaid : Prop := fnExactOwnersOkUptoRow.holds Try.pinned (OpenSpec.upto fnExactOwnersOkSpec)

/-- 'laws.FnExactDaysOk', WHERE WHAT IT READS IS OF BULK AT MOST 1048576: true; the input reads as it did. -/
def fnExactDaysOkUptoRow : OpenClaim := { program := "ytkdpfjaebhgnoaa", sum := "e35518ed0e099071cba013d6a2339bacd483864129c640fb4e9c4d8d913ebafc", func := "loop.example/g00992/laws.FnExactDaysOk", spec := "fnExactDaysOk", apart := false, narrowed := true }
def FnExactDaysOkUptoSaid : Prop := fnExactDaysOkUptoRow.holds Try.pinned (OpenSpec.upto fnExactDaysOkSpec)

/-- 'laws.FnExactDoesDepend', WHERE WHAT IT READS IS OF BULK AT MOST 1048576: true; the input reads as it did. -/
def fnExactDoesDependUptoRow : OpenClaim := { program := "ytkdpfjaebhgnoaa", sum := "e35518ed0e099071cba013d6a2339bacd483864129c640fb4e9c4d8d913ebafc", func := "loop.example/g00992/laws.FnExactDoesDepend", spec := "fnExactDoesDepend", apart := false, narrowed := true }
def FnExactDoesDependUptoSaid : Prop := fnExactDoesDependUptoRow.holds Try.pinned (OpenSpec.upto fnExactDoesDependSpec)

/-- 'laws.FnExactLossOf', WHERE WHAT IT READS IS OF BULK AT MOST 1048576: true; the input reads as it did. -/
def fnExactLossOfUptoRow : OpenClaim := { program := "ytkdpfjaebhgnoaa", sum := "e35518ed0e099071cba013d6a2339bacd483864129c640fb4e9c4d8d913ebafc", func := "loop.example/g00992/laws.FnExactLossOf", spec := "fnExactLossOf", apart := false, narrowed := true }
def FnExactLossOfUptoSaid : Prop := fnExactLossOfUptoRow.holds Try.pinned (OpenSpec.upto fnExactLossOfSpec)

/-- 'laws.FnExactCountShort', WHERE WHAT IT READS IS OF BULK AT MOST 1048576: true; the input reads as it did. -/
def fnExactCountShortUptoRow : OpenClaim := { program := "ytkdpfjaebhgnoaa", sum := "e35518ed0e099071cba013d6a2339bacd483864129c640fb4e9c4d8d913ebafc", func := "loop.example/g00992/laws.FnExactCountShort", spec := "fnExactCountShort", apart := false, narrowed := true }
def FnExactCountShortUptoSaid : Prop := fnExactCountShortUptoRow.holds Try.pinned (OpenSpec.upto fnExactCountShortSpec)

/-- 'laws.FnPrices', WHERE WHAT IT READS IS OF BULK AT MOST 1048576: true; the input reads as it did. -/
def fnPricesUptoRow : OpenClaim := { program := "ytkdpfjaebhgnoaa", sum := "e35518ed0e099071cba013d6a2339bacd483864129c640fb4e9c4d8d913ebafc", func := "loop.example/g00992/laws.FnPrices", spec := "fnPrices", apart := false, narrowed := true }
def FnPricesUptoSaid : Prop := fnPricesUptoRow.holds Try.pinned (OpenSpec.upto fnPricesSpec)

/-- 'laws.FnExactIsToldOnce', WHERE WHAT IT READS IS OF BULK AT MOST 1048576: true; the input reads as it did. -/
def fnExactIsToldOnceUptoRow : OpenClaim := { program := "ytkdpfjaebhgnoaa", sum := "e35518ed0e099071cba013d6a2339bacd483864129c640fb4e9c4d8d913ebafc", func := "loop.example/g00992/laws.FnExactIsToldOnce", spec := "fnExactIsToldOnce", apart := false, narrowed := true }
def FnExactIsToldOnceUptoSaid : Prop := fnExactIsToldOnceUptoRow.holds Try.pinned (OpenSpec.upto fnExactIsToldOnceSpec)

/-- 'laws.FnExactCountBelow', WHERE WHAT IT READS IS OF BULK AT MOST 1048576: true; the input reads as it did. -/
def fnExactCountBelowUptoRow : OpenClaim := { program := "ytkdpfjaebhgnoaa", sum := "e35518ed0e099071cba013d6a2339bacd483864129c640fb4e9c4d8d913ebafc", func := "loop.example/g00992/laws.FnExactCountBelow", spec := "fnExactCountBelow", apart := false, narrowed := true }
def FnExactCountBelowUptoSaid : Prop := fnExactCountBelowUptoRow.holds Try.pinned (OpenSpec.upto fnExactCountBelowSpec)

/-- 'laws.FnExactIsLotGood', WHERE WHAT IT READS IS OF BULK AT MOST 1048576: true; the input reads as it did. -/
def fnExactIsLotGoodUptoRow : OpenClaim := { program := "ytkdpfjaebhgnoaa", sum := "e35518ed0e099071cba013d6a2339bacd483864129c640fb4e9c4d8d913ebafc", func := "loop.example/g00992/laws.FnExactIsLotGood", spec := "fnExactIsLotGood", apart := false, narrowed := true }
def FnExactIsLotGoodUptoSaid : Prop := fnExactIsLotGoodUptoRow.holds Try.pinned (OpenSpec.upto fnExactIsLotGoodSpec)

/-- 'laws.FnPackages', WHERE WHAT IT READS IS OF BULK AT MOST 1048576: true; the input reads as it did. -/
def fnPackagesUptoRow : OpenClaim := { program := "ytkdpfjaebhgnoaa", sum := "e35518ed0e099071cba013d6a2339bacd483864129c640fb4e9c4d8d913ebafc", func := "loop.example/g00992/laws.FnPackages", spec := "fnPackages", apart := false, narrowed := true }
def FnPackagesUptoSaid : Prop := fnPackagesUptoRow.holds Try.pinned (OpenSpec.upto fnPackagesSpec)

end Rows
end Go.Proofs.Ytkdpfjaebhgnoaa
