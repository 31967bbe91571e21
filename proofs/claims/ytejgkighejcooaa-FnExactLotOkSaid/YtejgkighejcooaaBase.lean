/- What the walks of this claim share: slices of integers as lists, cells below a block, small lemmas. Nothing here speaks of the program. -/
import Derived.WalkKit
import Derived.ProofKit
import Derived.OpenShut
import Derived.WalkLawsBesides
import Derived.Lib.Hide
import Derived.Deep.QuietTactic
import Derived.BigQuiet
namespace Go.Proofs.Ytejgkighejcooaa
open Go.ChangeShapes Go.WideShapes Go.ChangeAt Go.RowKit

theorem ret_int {k : IntKind} {a b : Int} (h : a = b) : Ending.returned (.int k a) = .returned (.int k b) := by rw [h]
theorem ret_bool {a b : Bool} (h : a = b) : Ending.returned (.bool a) = .returned (.bool b) := by rw [h]

theorem i64_bd {n : Int} (h : (Lit.int .i64 n).wf = true) : -9223372036854775808 ≤ n ∧ n ≤ 9223372036854775807 := bounds_i64 h

/-- whether a number lies in a range -/
def inB (a b c : Int) : Bool := decide (b ≤ a ∧ a ≤ c)
theorem inB_t {a b c : Int} (h1 : b ≤ a) (h2 : a ≤ c) : inB a b c = true := by simp [inB, h1, h2]
theorem inB_f {a b c : Int} (h : ¬ (b ≤ a ∧ a ≤ c)) : inB a b c = false := by simp only [inB, decide_eq_false h]
theorem inB_le {a b c : Int} (h : inB a b c = true) : b ≤ a ∧ a ≤ c := by simpa [inB] using h

/-- an element of a list of numbers, 0 behind its end -/
def nth (xs : List Int) (k : Nat) : Int := xs.getD k 0
theorem nth_of_lt (xs : List Int) (k : Nat) (h : k < xs.length) : nth xs k = xs[k] := by simp [nth, h]
theorem nth_mem (xs : List Int) (k : Nat) (h : k < xs.length) : nth xs k ∈ xs := by rw [nth_of_lt xs k h]; exact List.getElem_mem h
theorem take_nth (xs : List Int) (k : Nat) (h : k < xs.length) : xs.take (k + 1) = xs.take k ++ [nth xs k] := by
  rw [List.take_succ_eq_append_getElem h, nth_of_lt xs k h]
theorem drop_nth (xs : List Int) (k : Nat) (h : k < xs.length) : xs.drop k = nth xs k :: xs.drop (k + 1) := by
  rw [nth_of_lt xs k h]; exact List.drop_eq_getElem_cons h

/-- one more number is stored into a row that was made of zeros -/
theorem put_nth (xs : List Int) (k : Nat) (h : k < xs.length) :
    ((xs.take k).map (Value.int .i64) ++ List.replicate (xs.length - k) (Value.int .i64 0)).set k (.int .i64 (nth xs k)) = (xs.take (k + 1)).map (Value.int .i64) ++ List.replicate (xs.length - (k + 1)) (.int .i64 0) := by
  have hl : ((xs.take k).map (Value.int .i64)).length = k := by simp; omega
  rw [List.set_append, if_neg (by omega), hl, Nat.sub_self, take_nth xs k h, show xs.length - k = (xs.length - (k + 1)) + 1 by omega, List.replicate_succ]
  simp

/-- slice value v reads as the numbers xs in world w -/
structure Ints (w : World) (v : Value) (xs : List Int) : Prop where
  len : xs.length ≤ 9223372036854775807
  ex : ∃ ad cap, v = .slice ad xs.length cap ∧ ∀ i, i < xs.length → ∃ b o, ad = some ⟨b, o, none⟩ ∧ w.cell? ⟨b, o + i, none⟩ = some (.int .i64 (nth xs i))

theorem below_cell {B : Nat} {w w1 : World} (hb : Below B w w1) : ∀ b o, b < B → w1.cell? ⟨b, o, none⟩ = w.cell? ⟨b, o, none⟩ :=
  fun b o h => hb.cell (p := ⟨b, o, none⟩) h
theorem below_frozen {B : Nat} {w w1 : World} (hb : Below B w w1) : ∀ b o, b < B → w1.frozen? ⟨b, o, none⟩ = w.frozen? ⟨b, o, none⟩ :=
  fun b o h => hb.frozen (p := ⟨b, o, none⟩) h

theorem Ints.below {w w' : World} {v : Value} {xs : List Int} (h : Ints w v xs) (hb : Below w.heap.size w w') : Ints w' v xs := by
  obtain ⟨hl, ad, cap, hv, hc⟩ := h
  refine ⟨hl, ad, cap, hv, fun i hi => ?_⟩
  obtain ⟨b, o, ha, hcell⟩ := hc i hi
  exact ⟨b, o, ha, by rw [hb.cell (p := ⟨b, o + i, none⟩) (World.block_lt_of_cell? w _ hcell)]; exact hcell⟩
theorem Ints.alloc {w : World} {v : Value} {xs : List Int} (h : Ints w v xs) (o : Obj) : Ints (w.alloc o) v xs := h.below ((Below.refl _ _).alloc (Nat.le_refl _) o)
theorem Ints.setCell {w : World} {v : Value} {xs : List Int} (h : Ints w v xs) {B : Nat} (hB : ∀ b, v.ownBlock = some b → b ≠ B) (o : Nat) (u : Value) : Ints (w.setCell ⟨B, o, none⟩ u) v xs := by
  obtain ⟨hl, ad, cap, rfl, hc⟩ := h
  refine ⟨hl, ad, cap, rfl, fun i hi => ?_⟩
  obtain ⟨b, o', rfl, hcell⟩ := hc i hi
  refine ⟨b, o', rfl, ?_⟩
  have hne : b ≠ B := hB b rfl
  rw [World.cell?_of_block (w := w) (by simpa using Below.heap_setCell w ⟨B, o, none⟩ u b hne)]
  exact hcell

theorem Ints.of_own {w : World} {base : Nat} {e : TypeId} {v : Value} {xs : List Int} (h : w.ownsRow base e 1 v xs.length (xs.map (Value.int .i64))) (hl : xs.length ≤ 9223372036854775807) : Ints w v xs := by
  refine ⟨hl, ?_⟩
  rcases h.2 with ⟨rfl, h0⟩ | ⟨g, cap, cur, rfl, hbg, hg, hnc, hcm, hcs, htake⟩
  · rw [h0]; exact ⟨none, 0, rfl, fun i hi => absurd hi (by omega)⟩
  · refine ⟨_, _, rfl, fun i hi => ⟨g, 0, rfl, ?_⟩⟩
    rw [Nat.zero_add, h.cellAt i (by omega)]
    simp [nth, hi]

theorem below_drewN {B : Nat} {a w : World} (h : Below B a w) (n : Nat) : Below B a (w.drewN n) := ⟨h.os, h.tape, h.output, h.size, h.block⟩
theorem Ints.drewN {w : World} {v : Value} {xs : List Int} (h : Ints w v xs) (n : Nat) : Ints (w.drewN n) v xs := h.below (below_drewN (Below.refl _ _) n)
theorem below_size {B : Nat} {a w : World} (h : Below B a w) : a.heap.size ≤ w.heap.size := h.size

/-! the chain of worlds of one call -/
theorem bref (w : World) : Below w.heap.size w w := Below.refl _ _
theorem bnext {a w1 w2 : World} (h : Below a.heap.size a w1) (h2 : Below w1.heap.size w1 w2) : Below a.heap.size a w2 := h.trans (h2.mono h.size)
theorem balloc {a w1 : World} (h : Below a.heap.size a w1) (o : Obj) : Below a.heap.size a (w1.alloc o) := h.alloc h.size o
theorem bdrew {a w1 : World} (h : Below a.heap.size a w1) : Below a.heap.size a w1.drew := h.drew
theorem bdrewN {a w1 : World} (h : Below a.heap.size a w1) (n : Nat) : Below a.heap.size a (w1.drewN n) := below_drewN h n
theorem bset {a w1 : World} (h : Below a.heap.size a w1) {p : Addr} (hp : a.heap.size ≤ p.block) (u : Value) : Below a.heap.size a (w1.setCell p u) := h.setCell hp u
theorem blt {a w1 : World} (o : Obj) (h : Below (a.alloc o).heap.size (a.alloc o) w1) : a.heap.size < w1.heap.size := by have := h.size; simp at this; omega

/-! what a call owns -/
theorem own_base {w : World} {B B' : Nat} {e : TypeId} {sz : Nat} {v : Value} {n : Nat} {xs : List Value} (h : w.ownsRow B e sz v n xs) (hB : B' ≤ B) : w.ownsRow B' e sz v n xs := by
  refine ⟨h.1, ?_⟩
  rcases h.2 with h0 | ⟨g, cap, cur, hv, hb, r⟩
  · exact .inl h0
  · exact .inr ⟨g, cap, cur, hv, Nat.le_trans hB hb, r⟩
theorem own_set {w : World} {B : Nat} {e : TypeId} {sz : Nat} {v : Value} {n : Nat} {xs : List Value} (h : w.ownsRow B e sz v n xs) {a : Addr} (ha : v.ownBlock ≠ some a.block) (u : Value) : (w.setCell a u).ownsRow B e sz v n xs :=
  ownsRow_setCell_other h ha u
theorem ob_ne {a b n c o : Nat} (h : a ≠ b) : (Value.slice (some ⟨a, 0, none⟩) n c).ownBlock ≠ some (⟨b, o, none⟩ : Addr).block := by simpa [Value.ownBlock] using h
theorem below_grown {a w : World} (h : Below a.heap.size a w) (row : Option Nat) : a.grownBy w row := ⟨h.os, h.tape, h.output, h.size, fun i hi _ => h.block i hi⟩
theorem own_below {w w' : World} {B : Nat} {e : TypeId} {sz : Nat} {v : Value} {n : Nat} {xs : List Value} (h : w.ownsRow B e sz v n xs) (hb : Below w.heap.size w w') : w'.ownsRow B e sz v n xs :=
  h.kept (below_grown hb none) (by cases v.ownBlock <;> simp)

end Go.Proofs.Ytejgkighejcooaa
