/- A list of integers that a call makes and hands back. -/
import Derived.Test.YtdchgbhhlocmdaaBase
import Derived.Test.YtdchgbhhlocmdaaProg
import Derived.Maps.AppendAt
import Derived.Laws.NewBlocks
namespace Go.Proofs.Ytdchgbhhlocmdaa
open Go.ChangeShapes Go.WideShapes Go.ChangeAt Go.RowKit

theorem Try.infoInt : (Try.prog.info? 3).map (fun i => (i.zero, i.size, i.bytes)) = some (some (.int .i64 0), 1, 8) := by kernel_rfl
/-- the call hands back a slice of its own that holds L -/
def Gives (w : World) (L : List Int) (e : Ending) (w' : World) : Prop :=
  ∃ v, e = .returned v ∧ w'.ownsRow w.heap.size 3 1 v L.length (L.map (Value.int .i64)) ∧ Below w.heap.size w w'
/-- likewise, and it is nil just if L is empty -/
def GivesN (w : World) (L : List Int) (e : Ending) (w' : World) : Prop :=
  ∃ v, e = .returned v ∧ w'.ownsRow w.heap.size 3 1 v L.length (L.map (Value.int .i64)) ∧ (v = .slice none 0 0 ↔ L = []) ∧ Below w.heap.size w w'
theorem GivesN.gives {w w' : World} {L : List Int} {e : Ending} (h : GivesN w L e w') : Gives w L e w' := by
  obtain ⟨v, a, b, _, c⟩ := h
  exact ⟨v, a, b, c⟩
theorem app_step {B : Nat} {w wr w1 : World} {e : TypeId} {o : Obj} {v v' : Value} {L : List Int} {k : Int} (hown : wr.ownsRow B e 1 v L.length (L.map (Value.int .i64)))
    (hown' : w1.ownsRow B e 1 v' (L.length + 1) (L.map (Value.int .i64) ++ [.int .i64 k])) (hgrow : (wr.alloc o).grownBy w1 v.ownBlock) (hbel : Below B w wr) (hB : B ≤ w.heap.size) :
    w1.ownsRow B e 1 v' (L ++ [k]).length ((L ++ [k]).map (Value.int .i64)) ∧ Below B w w1 := by
  refine ⟨by simpa using hown', (hbel.alloc (Nat.le_trans hB hbel.size) _).grown hgrow (by have := hbel.size; simp; omega) (fun k hk => (hown.lt k hk).1)⟩
theorem kept_cell {B b p : Nat} {wr w1 : World} {e : TypeId} {o : Obj} {v : Value} {sz n : Nat} {xs : List Value} {x : Value} (hown : wr.ownsRow B e sz v n xs) (hgrow : (wr.alloc o).grownBy w1 v.ownBlock)
    (hb : b < B) (hc : wr.cell? ⟨b, p, none⟩ = some x) : w1.cell? ⟨b, p, none⟩ = some x := by
  have lb := World.block_lt_of_cell? wr _ hc
  refine hgrow.cell (a := ⟨b, p, none⟩) (by rw [World.cell?_alloc_past _ _ _ lb]; exact hc) fun e => ?_
  have := (hown.lt b e.symm).1
  omega
theorem cell_one_new' (w : World) (b : Nat) (x : Value) (t : TypeId) (hb : b = w.heap.size) : ∀ j u, [x][j]? = some u → (w.alloc (.cells #[x] t)).cell? ((⟨b, 0, none⟩ : Addr).add j) = some u := by
  subst hb; exact cell_one_new w x t
theorem nil_step {v v' : Value} {L : List Int} {k : Int} (h : v' = .slice none 0 0 ↔ v = .slice none 0 0 ∧ 1 = 0) : v' = .slice none 0 0 ↔ L ++ [k] = [] := by simp [h]
theorem own_ints {w : World} {B : Nat} {v : Value} {L : List Int} (h : w.ownsRow B 3 1 v L.length (L.map (Value.int .i64))) (hl : L.length ≤ 9223372036854775807) : Ints w v L := Ints.of_own h hl
end Go.Proofs.Ytdchgbhhlocmdaa
