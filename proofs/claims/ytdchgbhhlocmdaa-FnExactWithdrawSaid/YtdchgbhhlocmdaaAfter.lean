/- A region that draws its order, whose operations read and whose callees make memory at most: one walk in the text's order. -/
import Derived.Test.YtdchgbhhlocmdaaBase
namespace Go.Proofs.Ytdchgbhhlocmdaa
open Go.ChangeShapes Go.WideShapes Go.ChangeAt Go.RowKit

/-- a world in which all that was there in W is as it was -/
def After (W : World) : Type := { x : World // Below W.heap.size W x }
instance instNonemptyAfter (W : World) : Nonempty (After W) := ⟨⟨W, bref W⟩⟩
def After.w {W : World} (u : After W) : World := u.val
theorem After.b {W : World} (u : After W) : Below W.heap.size W u.w := u.property
theorem After.cell {W : World} (u : After W) {b o : Nat} {x : Value} (h : W.cell? ⟨b, o, none⟩ = some x) : u.w.cell? ⟨b, o, none⟩ = some x :=
  (u.b.cell (p := ⟨b, o, none⟩) (World.block_lt_of_cell? W _ h)).trans h
theorem wp_region_after {P : Program} {id : Nat} {Q : Exit → Act → World → Prop} {a : Act} {W : World} {l : List Oper} (hm : P.follows .mixedOrders = true) (hB : Region.lexB .any l.toArray = true)
    (h : wpQuiet P l.toArray (fun w' => ∃ u : After W, w' = u.w) (fun a' => ∀ w', (∃ u : After W, w' = u.w) → Q .normal a' w') l a) : (Code.region id l.toArray true).wp P Q a W :=
  wp_region_quiet (C := fun w' => ∃ u : After W, w' = u.w) hm hB ⟨⟨_, bdrew (bref W)⟩, rfl⟩ (by simpa using h)
theorem after_call {P : Program} {f : FuncId} {args : Array Value} {W : World} {u : After W} {v : Value} (h : Calls P f args u.w fun e w' => e = .returned v ∧ Below u.w.heap.size u.w w') :
    Calls P f args u.w fun e w'' => e = .returned v ∧ ∃ u' : After W, w'' = u'.w :=
  h.mono fun _ w' ⟨he, hb⟩ => ⟨he, ⟨w', bnext u.b hb⟩, rfl⟩
theorem after_same {P : Program} {f : FuncId} {args : Array Value} {W : World} {u : After W} {v : Value} (h : Calls P f args u.w fun e w' => e = .returned v ∧ u.w = w') :
    Calls P f args u.w fun e w'' => e = .returned v ∧ ∃ u' : After W, w'' = u'.w :=
  h.mono fun _ _ ⟨he, hb⟩ => ⟨he, u, hb.symm⟩
end Go.Proofs.Ytdchgbhhlocmdaa
