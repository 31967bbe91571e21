/- How much must be added to each of a lot: the plain law. -/
import Derived.Test.YtkdpfjaebhgnoaaLotGood
import Derived.Test.YtkdpfjaebhgnoaaCopyInts
import Derived.Test.YtkdpfjaebhgnoaaOnly
import Derived.Test.YtkdpfjaebhgnoaaMakeFn
namespace Go.Proofs.Ytkdpfjaebhgnoaa
open Go.ChangeShapes Go.WideShapes Go.ChangeAt Go.RowKit

def shiftL (xs : List Int) (n : Int) : List Int := xs.map (· + n)
theorem shiftL_len (xs : List Int) (n : Int) : (shiftL xs n).length = xs.length := by simp [shiftL]
theorem shiftL_zero (xs : List Int) : shiftL xs 0 = xs := by simp [shiftL]
theorem shiftL_nth (xs : List Int) (n : Int) {k : Nat} (h : k < xs.length) : nth (shiftL xs n) k = nth xs k + n := by simp [nth, shiftL, h]
def leastFrom (nm : Int) (xs : List Int) : Nat → Nat → Int
  | 0, _ => -1
  | f + 1, n => if lotOk nm (shiftL xs n) = true then (if lotGood nm (shiftL xs n) = true then (n : Int) else leastFrom nm xs f (n + 1)) else -1
def leastMore (nm : Int) (xs : List Int) : Int := leastFrom nm xs 20002 0
theorem leastFrom_no {nm : Int} {xs : List Int} {f n : Nat} (h : lotOk nm (shiftL xs n) = false) : leastFrom nm xs f n = -1 := by
  cases f with
  | zero => rfl
  | succ f => simp [leastFrom, h]
theorem lotGood_ok {nm : Int} {xs : List Int} (h : lotGood nm xs = true) : lotOk nm xs = true := by
  simp only [lotGood, Bool.and_eq_true] at h; exact h.1
theorem leastFrom_yes {nm : Int} {xs : List Int} {n : Nat} (hn : n ≤ 20001) (h : lotGood nm (shiftL xs n) = true) : leastFrom nm xs (20002 - n) n = n := by
  obtain ⟨f, hf⟩ : ∃ f, 20002 - n = f + 1 := ⟨20001 - n, by omega⟩
  rw [hf]
  simp [leastFrom, lotGood_ok h, h]
theorem leastFrom_next {nm : Int} {xs : List Int} {n : Nat} (hn : n ≤ 20001) (h1 : lotOk nm (shiftL xs n) = true) (h2 : lotGood nm (shiftL xs n) = false) : leastFrom nm xs (20002 - n) n = leastFrom nm xs (20002 - (n + 1)) (n + 1) := by
  obtain ⟨f, hf, hf'⟩ : ∃ f, 20002 - n = f + 1 ∧ 20002 - (n + 1) = f := ⟨20001 - n, by omega, by omega⟩
  rw [hf, hf']
  simp [leastFrom, h1, h2]
theorem lot_small {nm : Int} {xs : List Int} {n : Nat} (h0 : lotOk nm xs = true) (h1 : lotOk nm (shiftL xs n) = true) : n ≤ 20000 := by
  obtain ⟨_, _, a, _, b⟩ := lotOk_in h0
  obtain ⟨_, _, _, _, c⟩ := lotOk_in h1
  have := b 0 (by omega)
  have := c 0 (by rw [shiftL_len]; omega)
  rw [shiftL_nth xs n (by omega)] at this
  omega
theorem leastMore_bd (nm : Int) (xs : List Int) : -1 ≤ leastMore nm xs ∧ leastMore nm xs ≤ 20002 := by
  have : ∀ f n, -1 ≤ leastFrom nm xs f n ∧ leastFrom nm xs f n ≤ f + n := by
    intro f
    induction f with
    | zero => intro n; simp only [leastFrom]; omega
    | succ f ih =>
      intro n
      simp only [leastFrom]
      have := ih (n + 1)
      split
      · split <;> omega
      · omega
  have := this 20002 0
  unfold leastMore; omega
theorem leastMore_no {nm : Int} {xs : List Int} (h : lotOk nm xs = false) : leastMore nm xs = -1 := leastFrom_no (by rw [Int.ofNat_zero, shiftL_zero]; exact h)
/-- the list while its elements are raised from a to b -/
def bumpL (xs : List Int) (a b : Int) (k : Nat) : List Int := (shiftL xs b).take k ++ (shiftL xs a).drop k
theorem bumpL_len (xs : List Int) (a b : Int) {k : Nat} (h : k ≤ xs.length) : (bumpL xs a b k).length = xs.length := by simp [bumpL, shiftL]; omega
theorem bumpL_zero (xs : List Int) (a b : Int) : bumpL xs a b 0 = shiftL xs a := by simp [bumpL]
theorem bumpL_all (xs : List Int) (a b : Int) : bumpL xs a b xs.length = shiftL xs b := by
  have e : (shiftL xs a).length = xs.length := shiftL_len _ _
  have e' : (shiftL xs b).length = xs.length := shiftL_len _ _
  simp [bumpL, List.take_of_length_le, List.drop_eq_nil_of_le, e, e']
theorem bumpL_set (xs : List Int) (a b : Int) {k : Nat} (h : k < xs.length) : (bumpL xs a b k).set k (nth xs k + b) = bumpL xs a b (k + 1) := by
  have e : (shiftL xs a).length = xs.length := shiftL_len _ _
  have e' : (shiftL xs b).length = xs.length := shiftL_len _ _
  apply List.ext_getElem?
  intro i
  simp only [bumpL, List.getElem?_set, List.getElem?_append, List.length_take, List.getElem?_take, List.getElem?_drop, List.length_append, List.length_drop, e, e', Nat.min_eq_left (Nat.le_of_lt h), Nat.min_eq_left h]
  rcases Nat.lt_trichotomy i k with q | q | q
  · simp [show k ≠ i by omega, q, show i < k + 1 by omega]
  · subst q
    simp [show i < xs.length by omega, shiftL, nth]
    omega
  · simp [show ¬ k = i by omega, show ¬ i < k by omega, show ¬ i < k + 1 by omega, show k + (i - k) = i by omega, show k + 1 + (i - (k + 1)) = i by omega]
theorem bumpL_nth (xs : List Int) (a b : Int) {k : Nat} (h : k < xs.length) : nth (bumpL xs a b k) k = nth xs k + a := by
  simp [nth, bumpL, List.getElem?_append, Nat.min_eq_left (Nat.le_of_lt h), shiftL, h]
/-- a lot of the call's own in a box at X -/
structure MoreS (L : Nat) (nm : Int) (X : Nat) (v : Value) (ys : List Int) (w : World) : Prop where
  lt : L ≤ X
  xl : X < w.heap.size
  c0 : w.cell? ⟨X, 0, none⟩ = some (.int .i64 nm)
  c1 : w.cell? ⟨X, 1, none⟩ = some v
  own : w.ownsRow L 3 1 v ys.length (ys.map (Value.int .i64))
  ne : v.ownBlock ≠ some X
theorem MoreS.below {L X : Nat} {nm : Int} {v : Value} {ys : List Int} {w w' : World} (h : MoreS L nm X v ys w) (hb : Below w.heap.size w w') : MoreS L nm X v ys w' :=
  ⟨h.lt, Nat.lt_of_lt_of_le h.xl hb.size, (hb.cell h.xl).trans h.c0, (hb.cell h.xl).trans h.c1, own_below h.own hb, h.ne⟩
theorem MoreS.ints {L X : Nat} {nm : Int} {v : Value} {ys : List Int} {w : World} (h : MoreS L nm X v ys w) (hl : ys.length ≤ 2000000) : Ints w v ys := Ints.of_own h.own (by omega)
theorem MoreS.cellAt {L X : Nat} {nm : Int} {g cap : Nat} {n : Nat} {ys : List Int} {w : World} (h : MoreS L nm X (.slice (some ⟨g, 0, none⟩) n cap) ys w) (hn : n = ys.length) {k : Nat} (hk : k < ys.length) : w.cell? ⟨g, k, none⟩ = some (.int .i64 (nth ys k)) := by
  subst hn
  rw [h.own.cellAt k (by omega)]
  simp [nth, hk]
theorem MoreS.frozen {L X : Nat} {nm : Int} {g cap : Nat} {n : Nat} {ys : List Int} {w : World} (h : MoreS L nm X (.slice (some ⟨g, 0, none⟩) n cap) ys w) (hn : n = ys.length) (k : Nat) : w.frozen? ⟨g, k, none⟩ = false := by
  subst hn
  exact h.own.frozenAt k
theorem MoreS.store {L X : Nat} {nm : Int} {g cap : Nat} {n : Nat} {ys : List Int} {w : World} (h : MoreS L nm X (.slice (some ⟨g, 0, none⟩) n cap) ys w) (hn : n = ys.length) {k : Nat} (y : Int) : MoreS L nm X (.slice (some ⟨g, 0, none⟩) n cap) (ys.set k y) (w.setCell ⟨g, k, none⟩ (.int .i64 y)) := by
  subst hn
  have hne : X ≠ g := fun e => h.ne (by rw [e]; rfl)
  have hs := (h.own.stored k (.int .i64 y)).1
  refine ⟨h.lt, by simpa using h.xl, ?_, ?_, by simpa [List.map_set] using hs, h.ne⟩
  · rw [World.cell?_of_block (w := w) (by simpa using Below.heap_setCell w ⟨g, k, none⟩ (.int .i64 y) X hne)]; exact h.c0
  · rw [World.cell?_of_block (w := w) (by simpa using Below.heap_setCell w ⟨g, k, none⟩ (.int .i64 y) X hne)]; exact h.c1
theorem MoreS.row {L X : Nat} {nm : Int} {v : Value} {ys : List Int} {w : World} (h : MoreS L nm X v ys w) (h0 : 0 < ys.length) : ∃ g cap, v = .slice (some ⟨g, 0, none⟩) ys.length cap ∧ L ≤ g := by
  rcases h.own.2 with ⟨_, e⟩ | ⟨g, cap, cur, e, hb, _⟩
  · exact absurd e (by omega)
  · exact ⟨g, cap, e, hb⟩
theorem more_new {nm : Int} {xs : List Int} {L : Nat} {wa : World} {v : Value} (hown : wa.ownsRow L 3 1 v xs.length (xs.map (Value.int .i64))) (hL : L ≤ wa.heap.size) : MoreS L nm wa.heap.size v xs (wa.alloc (.cells #[.int .i64 nm, v] 47)) :=
  ⟨hL, by simp, by go_simp, by go_simp, own_below hown (balloc (bref _) _), fun e => absurd (hown.lt _ e).2 (Nat.lt_irrefl _)⟩
theorem more_old {nm : Int} {xs : List Int} {L X : Nat} {wa : World} {v x y : Value} (hown : wa.ownsRow L 3 1 v xs.length (xs.map (Value.int .i64))) (hL : L ≤ X) (hX : X < wa.heap.size) (e0 : wa.cell? ⟨X, 0, none⟩ = some x) (e1 : wa.cell? ⟨X, 1, none⟩ = some y) (hne : v.ownBlock ≠ some X) :
    MoreS L nm X v xs ((wa.setCell ⟨X, 0, none⟩ (.int .i64 nm)).setCell ⟨X, 1, none⟩ v) :=
  ⟨hL, by simpa using hX, by go_simp, by go_simp, own_set (own_set hown hne _) hne _, hne⟩
structure ZeroAt (w : World) (X : Nat) : Prop where
  lt : X < w.heap.size
  c0 : w.cell? ⟨X, 0, none⟩ = some (.int .i64 0)
  c1 : w.cell? ⟨X, 1, none⟩ = some (.slice none 0 0)
  f0 : w.frozen? ⟨X, 0, none⟩ = false
  f1 : w.frozen? ⟨X, 1, none⟩ = false
theorem ZeroAt.grown {w w' : World} {X : Nat} {row : Option Nat} (h : ZeroAt w X) (hg : w.grownBy w' row) (hr : some X ≠ row) : ZeroAt w' X := by
  have hb := hg.block X h.lt hr
  exact ⟨Nat.lt_of_lt_of_le h.lt hg.size, (World.cell?_of_block hb).trans h.c0, (World.cell?_of_block hb).trans h.c1, (World.frozen?_of_block hb).trans h.f0, (World.frozen?_of_block hb).trans h.f1⟩
theorem not_app2 {wc : World} {v : Value} {X n : Nat} {B : Nat} {e : TypeId} {xs : List Value} (hown : wc.ownsRow B e 1 v n xs) (hB : X < B) : v.ownBlock ≠ some X := fun q => absurd (hown.lt _ q).1 (by omega)
end Go.Proofs.Ytkdpfjaebhgnoaa
