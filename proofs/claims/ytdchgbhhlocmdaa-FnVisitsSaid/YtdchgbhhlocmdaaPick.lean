/- A drawn element of a list; what lies beside the cursor. -/
import Derived.Test.YtdchgbhhlocmdaaDraw
import Derived.Test.YtdchgbhhlocmdaaOwnL
namespace Go.Proofs.Ytdchgbhhlocmdaa
open Go.ChangeShapes Go.WideShapes Go.ChangeAt Go.RowKit

/-- a row beside the cursor -/
theorem own_curP {w w' : World} {B X n : Nat} {e : TypeId} {s : Nat} {v : Value} {xs : List Value} (h : w.ownsRow B e s v n xs) (ho : Only X (X + 1) w w') (hX : X < B) : w'.ownsRow B e s v n xs :=
  own_only h ho fun b hb hq => by have := (h.lt b hb).1; omega
/-- the cursor behind an append -/
theorem cur_appP {L X B : Nat} {v u : Value} {bs : List Int} {w w' : World} {o : Obj} {e : TypeId} {s n : Nat} {xs : List Value} (h : CurO L X v bs w) (hown : w.ownsRow B e s u n xs) (hg : (w.alloc o).grownBy w' u.ownBlock) (hX : X < B) : CurO L X v bs w' :=
  (h.below (balloc (bref w) o)).only (lo := B) (hi := w.heap.size + 1) (Only.of_grown hg fun k hk => by have := hown.lt k hk; omega) hX
theorem below_appP {a w w' : World} {B : Nat} {u : Value} {o : Obj} {e : TypeId} {s n : Nat} {xs : List Value} (h : Below a.heap.size a w) (hown : w.ownsRow B e s u n xs) (hg : (w.alloc o).grownBy w' u.ownBlock) (hB : a.heap.size ≤ B) : Below a.heap.size a w' :=
  (balloc h o).grown hg (by have := h.size; simp; omega) fun k hk => by have := (hown.lt k hk).1; omega
/-- a literal slice -/
theorem lit_ints (w : World) (B n : Nat) (ys : List Int) (arr : Array Value) (ha : arr = (ys.map (Value.int .i64)).toArray) (hn : ys.length = n) (hl : ys.length ≤ 1000000) (hB : B = w.heap.size) : Ints (w.alloc (.cells arr 3)) (.slice (some ⟨B, 0, none⟩) n n) ys := by
  subst hB
  subst hn
  subst ha
  exact Ints.of_own (base := w.heap.size) (e := 3) (by have := World.ownsRow_lit (e := 3) (size := 1) w (ys.map (Value.int .i64)).toArray ys.length (Nat.le_refl _) (by unfold maxLen; omega) (by simp); simpa using this) (by omega)
theorem Ints.beside {w w' : World} {X : Nat} {u : Value} {xs : List Int} (h : Ints w u xs) (ho : Only X (X + 1) w w') (hX : ∀ b o l c, u = .slice (some ⟨b, o, none⟩) l c → b ≠ X) : Ints w' u xs := by
  obtain ⟨hl, ad, cap, hv, hc⟩ := h
  refine ⟨hl, ad, cap, hv, fun i hi => ?_⟩
  obtain ⟨b, o, ha, e0⟩ := hc i hi
  have hne := hX b o _ _ (by rw [hv, ha])
  exact ⟨b, o, ha, by rw [World.cell?_of_block (w := w) (ho.block b (World.block_lt_of_cell? w _ e0) (by omega))]; exact e0⟩
end Go.Proofs.Ytdchgbhhlocmdaa
