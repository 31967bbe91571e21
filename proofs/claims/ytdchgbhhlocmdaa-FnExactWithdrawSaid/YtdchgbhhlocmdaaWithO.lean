/- The walks of Withdraw, in the program and in the reference. -/
import Derived.Test.YtdchgbhhlocmdaaWithFn
import Derived.Test.YtdchgbhhlocmdaaCopyHouse
import Derived.Test.YtdchgbhhlocmdaaL38Copy
import Derived.Test.YtdchgbhhlocmdaaHouseOk
import Derived.Test.YtdchgbhhlocmdaaAffected
import Derived.Test.YtdchgbhhlocmdaaNewOnes
import Derived.Test.YtdchgbhhlocmdaaSortW
import Derived.Lib.SliceRun
namespace Go.Proofs.Ytdchgbhhlocmdaa
open Go.ChangeShapes Go.WideShapes Go.ChangeAt Go.RowKit

/-- v's block lies outside of [p, q) -/
def Out (p q : Nat) (v : Value) : Prop := ∀ b, v.ownBlock = some b → b < p ∨ q ≤ b
/-- a house and letters that a call made; the letters in an interval of their own -/
structure WithO (w w' : World) (vc vm vo vt vl : Value) (h : HD) (L : List (Int × List Int)) : Prop where
  house : HouseO w.heap.size w'.heap.size w' vc vm vo vt h
  letters : ∃ p q, w.heap.size ≤ p ∧ q ≤ w'.heap.size ∧ LetO p q w' vl L ∧ Out p q vc ∧ Out p q vm ∧ Out p q vo ∧ Out p q vt
  below : Below w.heap.size w w'
theorem out_l {lo hi p q : Nat} {w : World} {e : TypeId} {m : Nat} {v : Value} {n : Nat} {xs : List Int} (h : RowO lo hi w e m v n xs) (hp : hi ≤ p) : Out p q v := fun b hb => .inl (Nat.lt_of_lt_of_le (h.at b hb).2 hp)
theorem out_r {lo hi p q : Nat} {w : World} {e : TypeId} {m : Nat} {v : Value} {n : Nat} {xs : List Int} (h : RowO lo hi w e m v n xs) (hp : q ≤ lo) : Out p q v := fun b hb => .inr (Nat.le_trans hp (h.at b hb).1)
theorem cell_two {lo hi : Nat} {a b c : World} (ho : Only lo hi a b) (hb : Below b.heap.size b c) {p o : Nat} (hp : p < a.heap.size) (hn : ¬ (lo ≤ p ∧ p < hi)) : c.cell? ⟨p, o, none⟩ = a.cell? ⟨p, o, none⟩ :=
  (hb.cell (p := ⟨p, o, none⟩) (Nat.lt_of_lt_of_le hp ho.size)).trans (World.cell?_of_block (ho.block p hp hn))
theorem frozen_two {lo hi : Nat} {a b c : World} (ho : Only lo hi a b) (hb : Below b.heap.size b c) {p o : Nat} (hp : p < a.heap.size) (hn : ¬ (lo ≤ p ∧ p < hi)) : c.frozen? ⟨p, o, none⟩ = a.frozen? ⟨p, o, none⟩ :=
  (hb.frozen (p := ⟨p, o, none⟩) (Nat.lt_of_lt_of_le hp ho.size)).trans (World.frozen?_of_block (ho.block p hp hn))
theorem let_lit (w : World) : LetO w.heap.size (w.heap.size + 1) (w.alloc (.cells #[] 91)) (.slice (some ⟨w.heap.size, 0, none⟩) 0 0) [] :=
  ⟨[], rfl, World.ownsRow_lit (e := 91) (size := 2) w #[] 0 (Nat.le_refl _) (by decide) rfl, (fun b h => by cases h; exact Nat.lt_succ_self _), fun i hi => absurd hi (by simp), fun i hi => absurd hi (by simp), fun i j _ hj => absurd hj (by simp)⟩
end Go.Proofs.Ytdchgbhhlocmdaa
