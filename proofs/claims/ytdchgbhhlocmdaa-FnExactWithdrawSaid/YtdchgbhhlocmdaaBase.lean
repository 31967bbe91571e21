/- What the walks of this claim share: slices of integers as lists, cells below a block, small lemmas. Nothing here speaks of the program. -/
import Derived.WalkKit
import Derived.ProofKit
import Derived.OpenShut
import Derived.WalkLawsBesides
import Derived.Lib.Hide
import Derived.Deep.QuietTactic
import Derived.BigQuiet
namespace Go.Proofs.Ytdchgbhhlocmdaa
open Go.ChangeShapes Go.WideShapes Go.ChangeAt Go.RowKit

theorem ret_int {k : IntKind} {a b : Int} (h : a = b) : Ending.returned (.int k a) = .returned (.int k b) := by rw [h]
theorem ret_bool {a b : Bool} (h : a = b) : Ending.returned (.bool a) = .returned (.bool b) := by rw [h]

theorem i64_bd {n : Int} (h : (Lit.int .i64 n).wf = true) : -9223372036854775808 ≤ n ∧ n ≤ 9223372036854775807 := bounds_i64 h

/-- whether a number lies in a range -/
def inB (a b c : Int) : Bool := decide (b ≤ a ∧ a ≤ c)
theorem inB_t {a b c : Int} (h1 : b ≤ a) (h2 : a ≤ c) : inB a b c = true := by simp [inB, h1, h2]
theorem inB_f {a b c : Int} (h : ¬ (b ≤ a ∧ a ≤ c)) : inB a b c = false := by simp only [inB, decide_eq_false h]
theorem inB_le {a b c : Int} (h : inB a b c = true) : b ≤ a ∧ a ≤ c := by simpa [inB] using h

/-- an element of a list of numbers, 0 behind its end -/
def nth (xs : List Int) (k : Nat) : Int := xs.getD k 0
theorem nth_of_lt (xs : List Int) (k : Nat) (h : k < xs.length) : nth xs k = xs[k] := by simp [nth, h]
theorem nth_mem (xs : List Int) (k : Nat) (h : k < xs.length) : nth xs k ∈ xs := by rw [nth_of_lt xs k h]; exact List.getElem_mem h
theorem take_nth (xs : List Int) (k : Nat) (h : k < xs.length) : xs.take (k + 1) = xs.take k ++ [nth xs k] := by
  rw [List.take_succ_eq_append_getElem h, nth_of_lt xs k h]
theorem drop_nth (xs : List Int) (k : Nat) (h : k < xs.length) : xs.drop k = nth xs k :: xs.drop (k + 1) := by
  rw [nth_of_lt xs k h]; exact List.drop_eq_getElem_cons h

/-- one more number is stored into a row that was made of zeros -/
theorem put_nth (xs : List Int) (k : Nat) (h : k < xs.length) :
    ((xs.take k).map (Value.int .i64) ++ List.replicate (xs.length - k) (Value.int .i64 0)).set k (.int .i64 (nth xs k)) = (xs.take (k + 1)).map (Value.int .i64) ++ List.replicate (xs.length - (k + 1)) (.int .i64 0) := by
  have hl : ((xs.take k).map (Value.int .i64)).length = k := by simp; omega
  rw [List.set_append, if_neg (by omega), hl, Nat.sub_self, take_nth xs k h, show xs.length - k = (xs.length - (k + 1)) + 1 by omega, List.replicate_succ]
  simp

/-- slice value v reads as the numbers xs in world w -/
structure Ints (w : World) (v : Value) (xs : List Int) : Prop where
  len : xs.length ≤ 9223372036854775807
  ex : ∃ ad cap, v = .slice ad xs.length cap ∧ ∀ i, i < xs.length → ∃ b o, ad = some ⟨b, o, none⟩ ∧ w.cell? ⟨b, o + i, none⟩ = some (.int .i64 (nth xs i))

theorem below_cell {B : Nat} {w w1 : World} (hb : Below B w w1) : ∀ b o, b < B → w1.cell? ⟨b, o, none⟩ = w.cell? ⟨b, o, none⟩ :=
  fun b o h => hb.cell (p := ⟨b, o, none⟩) h
theorem below_frozen {B : Nat} {w w1 : World} (hb : Below B w w1) : ∀ b o, b < B → w1.frozen? ⟨b, o, none⟩ = w.frozen? ⟨b, o, none⟩ :=
  fun b o h => hb.frozen (p := ⟨b, o, none⟩) h

theorem Ints.below {w w' : World} {v : Value} {xs : List Int} (h : Ints w v xs) (hb : Below w.heap.size w w') : Ints w' v xs := by
  obtain ⟨hl, ad, cap, hv, hc⟩ := h
  refine ⟨hl, ad, cap, hv, fun i hi => ?_⟩
  obtain ⟨b, o, ha, hcell⟩ := hc i hi
  exact ⟨b, o, ha, by rw [hb.cell (p := ⟨b, o + i, none⟩) (World.block_lt_of_cell? w _ hcell)]; exact hcell⟩
theorem Ints.alloc {w : World} {v : Value} {xs : List Int} (h : Ints w v xs) (o : Obj) : Ints (w.alloc o) v xs := h.below ((Below.refl _ _).alloc (Nat.le_refl _) o)
theorem Ints.setCell {w : World} {v : Value} {xs : List Int} (h : Ints w v xs) {B : Nat} (hB : ∀ b, v.ownBlock = some b → b ≠ B) (o : Nat) (u : Value) : Ints (w.setCell ⟨B, o, none⟩ u) v xs := by
  obtain ⟨hl, ad, cap, rfl, hc⟩ := h
  refine ⟨hl, ad, cap, rfl, fun i hi => ?_⟩
  obtain ⟨b, o', rfl, hcell⟩ := hc i hi
  refine ⟨b, o', rfl, ?_⟩
  have hne : b ≠ B := hB b rfl
  rw [World.cell?_of_block (w := w) (by simpa using Below.heap_setCell w ⟨B, o, none⟩ u b hne)]
  exact hcell

theorem Ints.of_own {w : World} {base : Nat} {e : TypeId} {v : Value} {xs : List Int} (h : w.ownsRow base e 1 v xs.length (xs.map (Value.int .i64))) (hl : xs.length ≤ 9223372036854775807) : Ints w v xs := by
  refine ⟨hl, ?_⟩
  rcases h.2 with ⟨rfl, h0⟩ | ⟨g, cap, cur, rfl, hbg, hg, hnc, hcm, hcs, htake⟩
  · rw [h0]; exact ⟨none, 0, rfl, fun i hi => absurd hi (by omega)⟩
  · refine ⟨_, _, rfl, fun i hi => ⟨g, 0, rfl, ?_⟩⟩
    rw [Nat.zero_add, h.cellAt i (by omega)]
    simp [nth, hi]

theorem below_drewN {B : Nat} {a w : World} (h : Below B a w) (n : Nat) : Below B a (w.drewN n) := ⟨h.os, h.tape, h.output, h.size, h.block⟩
theorem Ints.drewN {w : World} {v : Value} {xs : List Int} (h : Ints w v xs) (n : Nat) : Ints (w.drewN n) v xs := h.below (below_drewN (Below.refl _ _) n)
theorem below_size {B : Nat} {a w : World} (h : Below B a w) : a.heap.size ≤ w.heap.size := h.size

/-! the chain of worlds of one call -/
theorem bref (w : World) : Below w.heap.size w w := Below.refl _ _
theorem bnext {a w1 w2 : World} (h : Below a.heap.size a w1) (h2 : Below w1.heap.size w1 w2) : Below a.heap.size a w2 := h.trans (h2.mono h.size)
theorem balloc {a w1 : World} (h : Below a.heap.size a w1) (o : Obj) : Below a.heap.size a (w1.alloc o) := h.alloc h.size o
theorem bdrew {a w1 : World} (h : Below a.heap.size a w1) : Below a.heap.size a w1.drew := h.drew
theorem bdrewN {a w1 : World} (h : Below a.heap.size a w1) (n : Nat) : Below a.heap.size a (w1.drewN n) := below_drewN h n
theorem bset {a w1 : World} (h : Below a.heap.size a w1) {p : Addr} (hp : a.heap.size ≤ p.block) (u : Value) : Below a.heap.size a (w1.setCell p u) := h.setCell hp u
theorem blt {a w1 : World} (o : Obj) (h : Below (a.alloc o).heap.size (a.alloc o) w1) : a.heap.size < w1.heap.size := by have := h.size; simp at this; omega

/-! what a call owns -/
theorem own_base {w : World} {B B' : Nat} {e : TypeId} {sz : Nat} {v : Value} {n : Nat} {xs : List Value} (h : w.ownsRow B e sz v n xs) (hB : B' ≤ B) : w.ownsRow B' e sz v n xs := by
  refine ⟨h.1, ?_⟩
  rcases h.2 with h0 | ⟨g, cap, cur, hv, hb, r⟩
  · exact .inl h0
  · exact .inr ⟨g, cap, cur, hv, Nat.le_trans hB hb, r⟩
theorem own_set {w : World} {B : Nat} {e : TypeId} {sz : Nat} {v : Value} {n : Nat} {xs : List Value} (h : w.ownsRow B e sz v n xs) {a : Addr} (ha : v.ownBlock ≠ some a.block) (u : Value) : (w.setCell a u).ownsRow B e sz v n xs :=
  ownsRow_setCell_other h ha u
theorem ob_ne {a b n c o : Nat} (h : a ≠ b) : (Value.slice (some ⟨a, 0, none⟩) n c).ownBlock ≠ some (⟨b, o, none⟩ : Addr).block := by simpa [Value.ownBlock] using h
theorem below_grown {a w : World} (h : Below a.heap.size a w) (row : Option Nat) : a.grownBy w row := ⟨h.os, h.tape, h.output, h.size, fun i hi _ => h.block i hi⟩
theorem own_below {w w' : World} {B : Nat} {e : TypeId} {sz : Nat} {v : Value} {n : Nat} {xs : List Value} (h : w.ownsRow B e sz v n xs) (hb : Below w.heap.size w w') : w'.ownsRow B e sz v n xs :=
  h.kept (below_grown hb none) (by cases v.ownBlock <;> simp)

/-! slices of structs of m integers each: the cells as one list of n * m integers -/
structure Recs (m : Nat) (w : World) (v : Value) (n : Nat) (xs : List Int) : Prop where
  len : n ≤ 9223372036854775807
  eq : xs.length = n * m
  ex : ∃ ad cap, v = .slice ad n cap ∧ ∀ i, i < xs.length → ∃ b o, ad = some ⟨b, o, none⟩ ∧ w.cell? ⟨b, o + i, none⟩ = some (.int .i64 (nth xs i))
theorem Recs.below {m : Nat} {w w' : World} {v : Value} {n : Nat} {xs : List Int} (h : Recs m w v n xs) (hb : Below w.heap.size w w') : Recs m w' v n xs := by
  obtain ⟨hl, he, ad, cap, hv, hc⟩ := h
  refine ⟨hl, he, ad, cap, hv, fun i hi => ?_⟩
  obtain ⟨b, o, ha, hcell⟩ := hc i hi
  exact ⟨b, o, ha, by rw [hb.cell (p := ⟨b, o + i, none⟩) (World.block_lt_of_cell? w _ hcell)]; exact hcell⟩
theorem Recs.alloc {m : Nat} {w : World} {v : Value} {n : Nat} {xs : List Int} (h : Recs m w v n xs) (o : Obj) : Recs m (w.alloc o) v n xs := h.below ((Below.refl _ _).alloc (Nat.le_refl _) o)
theorem Recs.of_own {m : Nat} {w : World} {base : Nat} {e : TypeId} {v : Value} {n : Nat} {xs : List Int} (h : w.ownsRow base e m v n (xs.map (Value.int .i64))) (hl : n ≤ 9223372036854775807) : Recs m w v n xs := by
  have he : xs.length = n * m := by simpa using h.1
  refine ⟨hl, he, ?_⟩
  rcases h.2 with ⟨rfl, h0⟩ | ⟨g, cap, cur, rfl, hbg, hg, hnc, hcm, hcs, htake⟩
  · rw [h0]; exact ⟨none, 0, rfl, fun i hi => by rw [he, h0] at hi; simp at hi⟩
  · refine ⟨_, _, rfl, fun i hi => ⟨g, 0, rfl, ?_⟩⟩
    rw [Nat.zero_add, h.cellAt i (by omega)]
    simp [nth, hi]
/-- the three integers of element k -/
def cP (xs : List Int) (k : Nat) : Int := nth xs (k * 3)
def cD (xs : List Int) (k : Nat) : Int := nth xs (k * 3 + 1)
def cE (xs : List Int) (k : Nat) : Int := nth xs (k * 3 + 2)
theorem at3 {w : World} {ad : Option Addr} {n : Nat} {xs : List Int} (he : xs.length = n * 3)
    (hc : ∀ i, i < xs.length → ∃ b o, ad = some ⟨b, o, none⟩ ∧ w.cell? ⟨b, o + i, none⟩ = some (.int .i64 (nth xs i))) (k : Nat) (hk : k < n) :
    ∃ b o, ad = some ⟨b, o, none⟩ ∧ w.cell? ⟨b, o + k * 3, none⟩ = some (.int .i64 (cP xs k)) ∧ w.cell? ⟨b, o + k * 3 + 1, none⟩ = some (.int .i64 (cD xs k)) ∧ w.cell? ⟨b, o + k * 3 + 2, none⟩ = some (.int .i64 (cE xs k)) ∧ b < w.heap.size := by
  obtain ⟨b, o, rfl, h0⟩ := hc (k * 3) (by omega)
  obtain ⟨b', o', h1', h1⟩ := hc (k * 3 + 1) (by omega)
  obtain ⟨b'', o'', h2', h2⟩ := hc (k * 3 + 2) (by omega)
  simp only [Option.some.injEq, Addr.mk.injEq, and_true] at h1' h2'
  obtain ⟨rfl, rfl⟩ := h1'
  obtain ⟨rfl, rfl⟩ := h2'
  exact ⟨b, o, rfl, h0, h1, h2, World.block_lt_of_cell? w _ h0⟩

/-- all numbers below n meet p -/
def allTo (p : Nat → Bool) : Nat → Bool
  | 0 => true
  | k + 1 => allTo p k && p k
theorem allTo_succ {p : Nat → Bool} {k : Nat} (h : allTo p k = true) (hp : p k = true) : allTo p (k + 1) = true := by simp [allTo, h, hp]
theorem allTo_at {p : Nat → Bool} {n : Nat} (h : allTo p n = true) {k : Nat} (hk : k < n) : p k = true := by
  induction n with
  | zero => omega
  | succ n ih =>
    simp only [allTo, Bool.and_eq_true] at h
    rcases Nat.lt_succ_iff_lt_or_eq.1 hk with hlt | rfl
    · exact ih h.1 hlt
    · exact h.2
theorem allTo_no {p : Nat → Bool} {n k : Nat} (hk : k < n) (hp : p k = false) : allTo p n = false := by
  cases h : allTo p n with
  | false => rfl
  | true => rw [allTo_at h hk] at hp; cases hp
theorem allTo_of {p : Nat → Bool} {n : Nat} (h : ∀ k, k < n → p k = true) : allTo p n = true := by
  induction n with
  | zero => rfl
  | succ n ih => simp [allTo, ih (fun k hk => h k (by omega)), h n (by omega)]

theorem made3 (n : Nat) : (madeCells #[.int .i64 0, .int .i64 0, .int .i64 0] (n * 3)).toList = List.replicate (n * 3) (Value.int .i64 0) := by
  apply List.ext_getElem?
  intro j
  by_cases hj : j < n * 3
  · have : j % 3 = 0 ∨ j % 3 = 1 ∨ j % 3 = 2 := by omega
    rcases this with h | h | h <;> simp [madeCells, hj, h]
  · simp [madeCells, hj]
/-- three more integers are stored into a row that was made of zeros -/
theorem put3 (xs : List Int) (k n : Nat) (he : xs.length = n * 3) (h : k < n) :
    ((((xs.take (k * 3)).map (Value.int .i64) ++ List.replicate (xs.length - k * 3) (Value.int .i64 0)).set (k * 3) (.int .i64 (cP xs k))).set (k * 3 + 1) (.int .i64 (cD xs k))).set (k * 3 + 2) (.int .i64 (cE xs k)) =
      (xs.take ((k + 1) * 3)).map (Value.int .i64) ++ List.replicate (xs.length - (k + 1) * 3) (.int .i64 0) := by
  have e1 := put_nth xs (k * 3) (by omega)
  have e2 := put_nth xs (k * 3 + 1) (by omega)
  have e3 := put_nth xs (k * 3 + 2) (by omega)
  unfold cP cD cE
  rw [e1, e2, e3]
  rw [show (k + 1) * 3 = k * 3 + 2 + 1 by omega]
theorem own_cell {w : World} {base g cap n sz : Nat} {e : TypeId} {xs : List Value} (h : w.ownsRow base e sz (.slice (some ⟨g, 0, none⟩) n cap) n xs) (j : Nat) (hj : j < n * sz) : ∃ u, w.cell? ⟨g, j, none⟩ = some u := by
  rw [h.cellAt j hj]
  exact ⟨_, List.getElem?_eq_getElem (by rw [h.1]; exact hj)⟩
/-- the sum of f over the numbers below n -/
def sumTo (f : Nat → Int) : Nat → Int
  | 0 => 0
  | k + 1 => sumTo f k + f k
theorem sumTo_bd (f : Nat → Int) (c : Int) (n : Nat) (h : ∀ k, k < n → 0 ≤ f k ∧ f k ≤ c) (k : Nat) (hk : k ≤ n) : 0 ≤ sumTo f k ∧ sumTo f k ≤ c * k := by
  induction k with
  | zero => simp [sumTo]
  | succ k ih =>
    have h1 := ih (by omega)
    have h2 := h k (by omega)
    refine ⟨by simp only [sumTo]; omega, ?_⟩
    have : c * ((k + 1 : Nat) : Int) = c * k + c := by rw [Int.natCast_add, Int.mul_add]; simp
    simp only [sumTo]
    omega
/-- the sum of a list -/
def sumI (xs : List Int) : Int := sumTo (nth xs) xs.length
end Go.Proofs.Ytdchgbhhlocmdaa
