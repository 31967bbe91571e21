/- Rows that a law fills with the numbers k, k + 1, ..; slices that lie in different blocks. -/
import Derived.Test.YtdchgbhhlocmdaaBase
namespace Go.Proofs.Ytdchgbhhlocmdaa
open Go.ChangeShapes Go.WideShapes Go.ChangeAt Go.RowKit

def seqL (k : Int) : Nat → List Int
  | 0 => []
  | n + 1 => seqL k n ++ [k + n]
theorem seqL_len (k : Int) : ∀ n, (seqL k n).length = n
  | 0 => rfl
  | n + 1 => by simp [seqL, seqL_len k n]
theorem seqL_nth (k : Int) : ∀ (n i : Nat), i < n → nth (seqL k n) i = k + i
  | 0, i, h => by omega
  | n + 1, i, h => by
    have hl := seqL_len k n
    simp only [nth, seqL, List.getD_eq_getElem?_getD]
    rcases Nat.lt_or_ge i n with h1 | h1
    · rw [List.getElem?_append_left (by omega)]
      have := seqL_nth k n i h1
      simpa only [nth, List.getD_eq_getElem?_getD] using this
    · obtain rfl : i = n := by omega
      rw [List.getElem?_append_right (by omega), hl]
      simp
theorem mark_set (xs : List Int) (k : Int) (j : Nat) (h : j < xs.length) :
    ((seqL k j).map (Value.int .i64) ++ (xs.drop j).map (Value.int .i64)).set j (.int .i64 (k + j)) = (seqL k (j + 1)).map (Value.int .i64) ++ (xs.drop (j + 1)).map (Value.int .i64) := by
  have hl : ((seqL k j).map (Value.int .i64)).length = j := by simp [seqL_len]
  rw [List.set_append, if_neg (by omega), hl, Nat.sub_self, drop_nth xs j h]
  simp [seqL]
theorem only_set {a w : World} {g : Nat} (h : a.grownBy w (some g)) (o : Nat) (u : Value) : a.grownBy (w.setCell ⟨g, o, none⟩ u) (some g) :=
  ⟨h.os, h.tape, h.output, by simpa [World.setCell] using h.size, fun i hi hne => (Below.heap_setCell w ⟨g, o, none⟩ u i (by rintro rfl; exact hne rfl)).trans (h.block i hi hne)⟩
theorem only_refl (w : World) (row : Option Nat) : w.grownBy w row := ⟨rfl, rfl, rfl, Nat.le_refl _, fun _ _ _ => rfl⟩
/-- no block belongs to both slices -/
def Sep (v u : Value) : Prop := ∀ b, v.ownBlock = some b → u.ownBlock ≠ some b
theorem Sep.symm {v u : Value} (h : Sep v u) : Sep u v := fun b hb hv => h b hv hb
/-- what was owned before a call, and what the call makes, lie in different blocks -/
theorem own_sep {w w' : World} {B B' : Nat} {e e' : TypeId} {s s' : Nat} {v u : Value} {n n' : Nat} {xs ys : List Value} (h : w.ownsRow B e s v n xs) (h' : w'.ownsRow B' e' s' u n' ys) (hB : w.heap.size ≤ B') : Sep v u := fun b hb hu => by
  have := (h.lt b hb).2
  have := (h'.lt b hu).1
  omega
theorem own_kept {w w' : World} {B : Nat} {e : TypeId} {s : Nat} {v u : Value} {n : Nat} {xs : List Value} (h : w.ownsRow B e s u n xs) (hg : w.grownBy w' v.ownBlock) (hs : Sep v u) : w'.ownsRow B e s u n xs := by
  refine h.kept hg ?_
  cases hu : u.ownBlock with
  | none => exact .inl rfl
  | some b => exact .inr fun hv => hs b hv.symm hu
/-- marks that go into a row from B on leave what lies below B -/
theorem below_mark {a w w' : World} {v : Value} {B : Nat} {e : TypeId} {s n : Nat} {xs : List Value} (h : Below a.heap.size a w) (hg : w.grownBy w' v.ownBlock) (ho : w.ownsRow B e s v n xs) (hB : a.heap.size ≤ B) : Below a.heap.size a w' :=
  h.grown hg h.size fun k hk => Nat.le_trans hB (ho.lt k hk).1
end Go.Proofs.Ytdchgbhhlocmdaa
