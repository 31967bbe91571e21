/-
  No cell of these rows narrows 'for every input' (looked for: loops, veiled, ifaces, maps, wideKeys, modest, calm, conditions, laid).
  DERIVED. THE GIVEN ROWS OF THIS SEAT. 6 by the template 'for every input the law returns true; each argument reads behind the call as it read before'; 0 by the template 'total and deterministic' (their statements: YtejgkighejcooaaTotals.lean).
  GIVEN WITH THE SEED: the statements are not yours to turn. If you find one false, say at which input.
  Laid BY PROGRAM, IN A SANDBOX (cutbox-rows.mjs): the forced cells as the released guide's own fill.sh prints them over the translation f1e7170d44038407… (all of the seat's roots in one cut). By AI agents, Wed Nov 11 2026. No macro, syntax, notation, axiom, sorry.
-/
import Derived.Test.YtejgkighejcooaaChecked
import GoSem.Claim
import GoSem.ClaimJoined
import GoSem.ClaimMapViews
import Derived.JoinedTies
import Derived.KernelRfl
namespace Go.Proofs.Ytejgkighejcooaa
/- THE CELL 'sum', in the pinned program and in every row, IS THE sha256 OF THE DUMP (.gsa) THAT YtejgkighejcooaaProg.lean LOADS. Nothing in Lean hashes anything: it is a label: what it is worth is what the hold of that sum in a sandbox is worth. -/
noncomputable def Try.pinned : Pinned := { name := "ytejgkighejcooaa", sum := "f1e7170d4403840718ce73304f0189af53aa8f80a7b598c041ad84160f571478", checked := Try.checked }
namespace Rows
def none {H : Type} : Left H := { results := [], args := [] }

/-- 'laws.FnExactShortLimit': WHATEVER THE INPUT: true; the input reads as it did. -/
def fnExactShortLimitSpec : ChangeSpec := { name := "fnExactShortLimit", fn := fun _ => fun
  | [d] => { results := [.lit (.bool true)], args := [d] }
  | _ => none }
def fnExactShortLimitRow : OpenClaim := { program := "ytejgkighejcooaa", sum := "f1e7170d4403840718ce73304f0189af53aa8f80a7b598c041ad84160f571478", func := "loop.example/g00992/laws.FnExactShortLimit", spec := "fnExactShortLimit", apart := false }
def FnExactShortLimitSaid : Prop := fnExactShortLimitRow.holds Try.pinned (OpenSpec.ofChange fnExactShortLimitSpec)

/-- ITS FALSE NEIGHBOUR: 'it returns false'. Refute it at one input. -/
def fnExactShortLimitWrong : ChangeSpec := { name := "fnExactShortLimit", fn := fun _ => fun
  | [d] => { results := [.lit (.bool false)], args := [d] }
  | _ => none }
def FnExactShortLimitWrongFalsely : Prop := fnExactShortLimitRow.holds Try.pinned (OpenSpec.ofChange fnExactShortLimitWrong)

/-- 'laws.FnExactPriceOf': WHATEVER THE INPUT: true; the input reads as it did. -/
def fnExactPriceOfSpec : ChangeSpec := { name := "fnExactPriceOf", fn := fun _ => fun
  | [d1, d2] => { results := [.lit (.bool true)], args := [d1, d2] }
  | _ => none }
def fnExactPriceOfRow : OpenClaim := { program := "ytejgkighejcooaa", sum := "f1e7170d4403840718ce73304f0189af53aa8f80a7b598c041ad84160f571478", func := "loop.example/g00992/laws.FnExactPriceOf", spec := "fnExactPriceOf", apart := false }
def FnExactPriceOfSaid : Prop := fnExactPriceOfRow.holds Try.pinned (OpenSpec.ofChange fnExactPriceOfSpec)

/-- ITS FALSE NEIGHBOUR: 'it returns false'. Refute it at one input. -/
def fnExactPriceOfWrong : ChangeSpec := { name := "fnExactPriceOf", fn := fun _ => fun
  | [d1, d2] => { results := [.lit (.bool false)], args := [d1, d2] }
  | _ => none }
def FnExactPriceOfWrongFalsely : Prop := fnExactPriceOfRow.holds Try.pinned (OpenSpec.ofChange fnExactPriceOfWrong)

/-- 'laws.FnExactActOk': WHATEVER THE INPUT: true; the input reads as it did. -/
def fnExactActOkSpec : ChangeSpec := { name := "fnExactActOk", fn := fun _ => fun
  | [d] => { results := [.lit (.bool true)], args := [d] }
  | _ => none }
def fnExactActOkRow : OpenClaim := { program := "ytejgkighejcooaa", sum := "f1e7170d4403840718ce73304f0189af53aa8f80a7b598c041ad84160f571478", func := "loop.example/g00992/laws.FnExactActOk", spec := "fnExactActOk", apart := false }
def FnExactActOkSaid : Prop := fnExactActOkRow.holds Try.pinned (OpenSpec.ofChange fnExactActOkSpec)

/-- ITS FALSE NEIGHBOUR: 'it returns false'. Refute it at one input. -/
def fnExactActOkWrong : ChangeSpec := { name := "fnExactActOk", fn := fun _ => fun
  | [d] => { results := [.lit (.bool false)], args := [d] }
  | _ => none }
def FnExactActOkWrongFalsely : Prop := fnExactActOkRow.holds Try.pinned (OpenSpec.ofChange fnExactActOkWrong)

/-- 'laws.FnExactPriceAfterTare': WHATEVER THE INPUT: true; the input reads as it did. -/
def fnExactPriceAfterTareSpec : ChangeSpec := { name := "fnExactPriceAfterTare", fn := fun _ => fun
  | [d1, d2, d3] => { results := [.lit (.bool true)], args := [d1, d2, d3] }
  | _ => none }
def fnExactPriceAfterTareRow : OpenClaim := { program := "ytejgkighejcooaa", sum := "f1e7170d4403840718ce73304f0189af53aa8f80a7b598c041ad84160f571478", func := "loop.example/g00992/laws.FnExactPriceAfterTare", spec := "fnExactPriceAfterTare", apart := false }
def FnExactPriceAfterTareSaid : Prop := fnExactPriceAfterTareRow.holds Try.pinned (OpenSpec.ofChange fnExactPriceAfterTareSpec)

/-- ITS FALSE NEIGHBOUR: 'it returns false'. Refute it at one input. -/
def fnExactPriceAfterTareWrong : ChangeSpec := { name := "fnExactPriceAfterTare", fn := fun _ => fun
  | [d1, d2, d3] => { results := [.lit (.bool false)], args := [d1, d2, d3] }
  | _ => none }
def FnExactPriceAfterTareWrongFalsely : Prop := fnExactPriceAfterTareRow.holds Try.pinned (OpenSpec.ofChange fnExactPriceAfterTareWrong)

/-- 'laws.FnExactGramsFor': WHATEVER THE INPUT: true; the input reads as it did. -/
def fnExactGramsForSpec : ChangeSpec := { name := "fnExactGramsFor", fn := fun _ => fun
  | [d1, d2] => { results := [.lit (.bool true)], args := [d1, d2] }
  | _ => none }
def fnExactGramsForRow : OpenClaim := { program := "ytejgkighejcooaa", sum := "f1e7170d4403840718ce73304f0189af53aa8f80a7b598c041ad84160f571478", func := "loop.example/g00992/laws.FnExactGramsFor", spec := "fnExactGramsFor", apart := false }
def FnExactGramsForSaid : Prop := fnExactGramsForRow.holds Try.pinned (OpenSpec.ofChange fnExactGramsForSpec)

/-- ITS FALSE NEIGHBOUR: 'it returns false'. Refute it at one input. -/
def fnExactGramsForWrong : ChangeSpec := { name := "fnExactGramsFor", fn := fun _ => fun
  | [d1, d2] => { results := [.lit (.bool false)], args := [d1, d2] }
  | _ => none }
def FnExactGramsForWrongFalsely : Prop := fnExactGramsForRow.holds Try.pinned (OpenSpec.ofChange fnExactGramsForWrong)

/-- 'laws.FnExactLotOk': WHATEVER THE INPUT: true; the input reads as it did. -/
def fnExactLotOkSpec : ChangeSpec := { name := "fnExactLotOk", fn := fun _ => fun
  | [d] => { results := [.lit (.bool true)], args := [d] }
  | _ => none }
def fnExactLotOkRow : OpenClaim := { program := "ytejgkighejcooaa", sum := "f1e7170d4403840718ce73304f0189af53aa8f80a7b598c041ad84160f571478", func := "loop.example/g00992/laws.FnExactLotOk", spec := "fnExactLotOk", apart := false }
def FnExactLotOkSaid : Prop := fnExactLotOkRow.holds Try.pinned (OpenSpec.ofChange fnExactLotOkSpec)

/-- ITS FALSE NEIGHBOUR: 'it returns false'. Refute it at one input. -/
def fnExactLotOkWrong : ChangeSpec := { name := "fnExactLotOk", fn := fun _ => fun
  | [d] => { results := [.lit (.bool false)], args := [d] }
  | _ => none }
def FnExactLotOkWrongFalsely : Prop := fnExactLotOkRow.holds Try.pinned (OpenSpec.ofChange fnExactLotOkWrong)

/- THE SECOND FORM. 'bulk': how many values and letters a reading holds, each counted each time it is reached (what is shared counts as often as it is met; a slice's spare places count too). A statement '..UptoSaid' is the law's where the arguments, and the package variables that the reading takes, are together of bulk at most 1048576: NARROWER than '..Said'. Prove '..Said' where nothing that the law and all that it calls make is longer than what came in: it says more and counts as full. Else prove '..UptoSaid'. A law counts once. -/
mutual
def uptoBulk {H : Type} : DataW H → Nat
  | .lit (.string bytes) => bytes.length + 1
  | .lit _ => 1
  | .nil => 1
  | .ptr d => uptoBulk d + 1
  | .slice elems spare => uptoBulkAll elems + uptoBulkAll spare + 1
  | .agg parts => uptoBulkAll parts + 1
  | .iface _ d => uptoBulk d + 1
  | .map entries => uptoBulkEntries entries + 1
  | .held _ => 1
def uptoBulkAll {H : Type} : List (DataW H) → Nat
  | [] => 0
  | d :: r => uptoBulk d + uptoBulkAll r
def uptoBulkEntries {H : Type} : List (Lit × DataW H) → Nat
  | [] => 0
  | x :: r => uptoBulkEntry x + uptoBulkEntries r
def uptoBulkEntry {H : Type} : Lit × DataW H → Nat
  | (.string bytes, d) => bytes.length + uptoBulk d + 1
  | (_, d) => uptoBulk d + 1
 end
def uptoSmall : (H : Type) → List (DataW H) → Bool := fun _ ds => decide (uptoBulkAll ds ≤ 1048576)
def OpenSpec.upto (s : _root_.Go.ChangeSpec) : _root_.Go.OpenSpec := { _root_.Go.OpenSpec.ofChange s with cond := some uptoSmall }

/-- 'laws.FnExactShortLimit', WHERE WHAT IT READS IS OF BULK AT MOST 1048576: true; the input reads as it did. -/
def fnExactShortLimitUptoRow : OpenClaim := { program := "ytejgkighejcooaa", sum := "f1e7170d4403840718ce73304f0189af53aa8f80a7b598c041ad84160f571478", func := "loop.example/g00992/laws.FnExactShortLimit", spec := "fnExactShortLimit", apart := false, narrowed := true }
def FnExactShortLimitUptoSaid : Prop := fnExactShortLimitUptoRow.holds Try.pinned (OpenSpec.upto fnExactShortLimitSpec)

/-- 'laws.FnExactPriceOf', WHERE WHAT IT READS IS OF BULK AT MOST 1048576: true; the input reads as it did. -/
def fnExactPriceOfUptoRow : OpenClaim := { program := "ytejgkighejcooaa", sum := "f1e7170d4403840718ce73304f0189af53aa8f80a7b598c041ad84160f571478", func := "loop.example/g00992/laws.FnExactPriceOf", spec := "fnExactPriceOf", apart := false, narrowed := true }
def FnExactPriceOfUptoSaid : Prop := fnExactPriceOfUptoRow.holds Try.pinned (OpenSpec.upto fnExactPriceOfSpec)

/-- 'laws.FnExactActOk', WHERE WHAT IT READS IS OF BULK AT MOST 1048576: true; the input reads as it did. -/
def fnExactActOkUptoRow : OpenClaim := { program := "ytejgkighejcooaa", sum := "f1e7170d4403840718ce73304f0189af53aa8f80a7b598c041ad84160f571478", func := "loop.example/g00992/laws.FnExactActOk", spec := "fnExactActOk", apart := false, narrowed := true }
def FnExactActOkUptoSaid : Prop := fnExactActOkUptoRow.holds Try.pinned (OpenSpec.upto fnExactActOkSpec)

/-- 'laws.FnExactPriceAfterTare', WHERE WHAT IT READS IS OF BULK AT MOST 1048576: true; the input reads as it did. -/
def fnExactPriceAfterTareUptoRow : OpenClaim := { program := "ytejgkighejcooaa", sum := "f1e7170d4403840718ce73304f0189af53aa8f80a7b598c041ad84160f571478", func := "loop.example/g00992/laws.FnExactPriceAfterTare", spec := "fnExactPriceAfterTare", apart := false, narrowed := true }
def FnExactPriceAfterTareUptoSaid : Prop := fnExactPriceAfterTareUptoRow.holds Try.pinned (OpenSpec.upto fnExactPriceAfterTareSpec)

/-- 'laws.FnExactGramsFor', WHERE WHAT IT READS IS OF BULK AT MOST 1048576: true; the input reads as it did. -/
def fnExactGramsForUptoRow : OpenClaim := { program := "ytejgkighejcooaa", sum := "f1e7170d4403840718ce73304f0189af53aa8f80a7b598c041ad84160f571478", func := "loop.example/g00992/laws.FnExactGramsFor", spec := "fnExactGramsFor", apart := false, narrowed := true }
def FnExactGramsForUptoSaid : Prop := fnExactGramsForUptoRow.holds Try.pinned (OpenSpec.upto fnExactGramsForSpec)

/-- 'laws.FnExactLotOk', WHERE WHAT IT READS IS OF BULK AT MOST 1048576: true; the input reads as it did. -/
def fnExactLotOkUptoRow : OpenClaim := { program := "ytejgkighejcooaa", sum := "f1e7170d4403840718ce73304f0189af53aa8f80a7b598c041ad84160f571478", func := "loop.example/g00992/laws.FnExactLotOk", spec := "fnExactLotOk", apart := false, narrowed := true }
def FnExactLotOkUptoSaid : Prop := fnExactLotOkUptoRow.holds Try.pinned (OpenSpec.upto fnExactLotOkSpec)

end Rows
end Go.Proofs.Ytejgkighejcooaa
