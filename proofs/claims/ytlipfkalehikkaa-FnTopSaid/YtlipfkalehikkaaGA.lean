/- Texts laid together: Base, Scalar, ChainFn, Chain, Sum, Seq, Only, HasInt, L31Has, DaysFn, LettersFn, HouseFn, HouseO, AffFn, Has, After, MarkIntS, MarkCopyS. -/
import Derived.WalkKit
import Derived.ProofKit
import Derived.OpenShut
import Derived.WalkLawsBesides
import Derived.Lib.Hide
import Derived.Deep.QuietTactic
import Derived.BigQuiet
import Derived.Test.YtlipfkalehikkaaProg
/- What the walks of this claim share: slices of integers as lists, cells below a block, small lemmas. Nothing here speaks of the program. -/
namespace Go.Proofs.Ytlipfkalehikkaa
open Go.ChangeShapes Go.WideShapes Go.ChangeAt Go.RowKit

theorem ret_int {k : IntKind} {a b : Int} (h : a = b) : Ending.returned (.int k a) = .returned (.int k b) := by rw [h]
theorem ret_bool {a b : Bool} (h : a = b) : Ending.returned (.bool a) = .returned (.bool b) := by rw [h]

theorem i64_bd {n : Int} (h : (Lit.int .i64 n).wf = true) : -9223372036854775808 ≤ n ∧ n ≤ 9223372036854775807 := bounds_i64 h

/-- whether a number lies in a range -/
def inB (a b c : Int) : Bool := decide (b ≤ a ∧ a ≤ c)
theorem inB_t {a b c : Int} (h1 : b ≤ a) (h2 : a ≤ c) : inB a b c = true := by simp [inB, h1, h2]
theorem inB_f {a b c : Int} (h : ¬ (b ≤ a ∧ a ≤ c)) : inB a b c = false := by simp only [inB, decide_eq_false h]
theorem inB_le {a b c : Int} (h : inB a b c = true) : b ≤ a ∧ a ≤ c := by simpa [inB] using h

/-- an element of a list of numbers, 0 behind its end -/
def nth (xs : List Int) (k : Nat) : Int := xs.getD k 0
theorem nth_of_lt (xs : List Int) (k : Nat) (h : k < xs.length) : nth xs k = xs[k] := by simp [nth, h]
theorem nth_mem (xs : List Int) (k : Nat) (h : k < xs.length) : nth xs k ∈ xs := by rw [nth_of_lt xs k h]; exact List.getElem_mem h
theorem take_nth (xs : List Int) (k : Nat) (h : k < xs.length) : xs.take (k + 1) = xs.take k ++ [nth xs k] := by
  rw [List.take_succ_eq_append_getElem h, nth_of_lt xs k h]
theorem drop_nth (xs : List Int) (k : Nat) (h : k < xs.length) : xs.drop k = nth xs k :: xs.drop (k + 1) := by
  rw [nth_of_lt xs k h]; exact List.drop_eq_getElem_cons h

/-- one more number is stored into a row that was made of zeros -/
theorem put_nth (xs : List Int) (k : Nat) (h : k < xs.length) :
    ((xs.take k).map (Value.int .i64) ++ List.replicate (xs.length - k) (Value.int .i64 0)).set k (.int .i64 (nth xs k)) = (xs.take (k + 1)).map (Value.int .i64) ++ List.replicate (xs.length - (k + 1)) (.int .i64 0) := by
  have hl : ((xs.take k).map (Value.int .i64)).length = k := by simp; omega
  rw [List.set_append, if_neg (by omega), hl, Nat.sub_self, take_nth xs k h, show xs.length - k = (xs.length - (k + 1)) + 1 by omega, List.replicate_succ]
  simp

/-- slice value v reads as the numbers xs in world w -/
structure Ints (w : World) (v : Value) (xs : List Int) : Prop where
  len : xs.length ≤ 9223372036854775807
  ex : ∃ ad cap, v = .slice ad xs.length cap ∧ ∀ i, i < xs.length → ∃ b o, ad = some ⟨b, o, none⟩ ∧ w.cell? ⟨b, o + i, none⟩ = some (.int .i64 (nth xs i))

theorem below_cell {B : Nat} {w w1 : World} (hb : Below B w w1) : ∀ b o, b < B → w1.cell? ⟨b, o, none⟩ = w.cell? ⟨b, o, none⟩ :=
  fun b o h => hb.cell (p := ⟨b, o, none⟩) h
theorem below_frozen {B : Nat} {w w1 : World} (hb : Below B w w1) : ∀ b o, b < B → w1.frozen? ⟨b, o, none⟩ = w.frozen? ⟨b, o, none⟩ :=
  fun b o h => hb.frozen (p := ⟨b, o, none⟩) h

theorem Ints.below {w w' : World} {v : Value} {xs : List Int} (h : Ints w v xs) (hb : Below w.heap.size w w') : Ints w' v xs := by
  obtain ⟨hl, ad, cap, hv, hc⟩ := h
  refine ⟨hl, ad, cap, hv, fun i hi => ?_⟩
  obtain ⟨b, o, ha, hcell⟩ := hc i hi
  exact ⟨b, o, ha, by rw [hb.cell (p := ⟨b, o + i, none⟩) (World.block_lt_of_cell? w _ hcell)]; exact hcell⟩
theorem Ints.alloc {w : World} {v : Value} {xs : List Int} (h : Ints w v xs) (o : Obj) : Ints (w.alloc o) v xs := h.below ((Below.refl _ _).alloc (Nat.le_refl _) o)
theorem Ints.setCell {w : World} {v : Value} {xs : List Int} (h : Ints w v xs) {B : Nat} (hB : ∀ b, v.ownBlock = some b → b ≠ B) (o : Nat) (u : Value) : Ints (w.setCell ⟨B, o, none⟩ u) v xs := by
  obtain ⟨hl, ad, cap, rfl, hc⟩ := h
  refine ⟨hl, ad, cap, rfl, fun i hi => ?_⟩
  obtain ⟨b, o', rfl, hcell⟩ := hc i hi
  refine ⟨b, o', rfl, ?_⟩
  have hne : b ≠ B := hB b rfl
  rw [World.cell?_of_block (w := w) (by simpa using Below.heap_setCell w ⟨B, o, none⟩ u b hne)]
  exact hcell

theorem Ints.of_own {w : World} {base : Nat} {e : TypeId} {v : Value} {xs : List Int} (h : w.ownsRow base e 1 v xs.length (xs.map (Value.int .i64))) (hl : xs.length ≤ 9223372036854775807) : Ints w v xs := by
  refine ⟨hl, ?_⟩
  rcases h.2 with ⟨rfl, h0⟩ | ⟨g, cap, cur, rfl, hbg, hg, hnc, hcm, hcs, htake⟩
  · rw [h0]; exact ⟨none, 0, rfl, fun i hi => absurd hi (by omega)⟩
  · refine ⟨_, _, rfl, fun i hi => ⟨g, 0, rfl, ?_⟩⟩
    rw [Nat.zero_add, h.cellAt i (by omega)]
    simp [nth, hi]

theorem below_drewN {B : Nat} {a w : World} (h : Below B a w) (n : Nat) : Below B a (w.drewN n) := ⟨h.os, h.tape, h.output, h.size, h.block⟩
theorem Ints.drewN {w : World} {v : Value} {xs : List Int} (h : Ints w v xs) (n : Nat) : Ints (w.drewN n) v xs := h.below (below_drewN (Below.refl _ _) n)
theorem below_size {B : Nat} {a w : World} (h : Below B a w) : a.heap.size ≤ w.heap.size := h.size

/-! the chain of worlds of one call -/
theorem bref (w : World) : Below w.heap.size w w := Below.refl _ _
theorem bnext {a w1 w2 : World} (h : Below a.heap.size a w1) (h2 : Below w1.heap.size w1 w2) : Below a.heap.size a w2 := h.trans (h2.mono h.size)
theorem balloc {a w1 : World} (h : Below a.heap.size a w1) (o : Obj) : Below a.heap.size a (w1.alloc o) := h.alloc h.size o
theorem bdrew {a w1 : World} (h : Below a.heap.size a w1) : Below a.heap.size a w1.drew := h.drew
theorem bdrewN {a w1 : World} (h : Below a.heap.size a w1) (n : Nat) : Below a.heap.size a (w1.drewN n) := below_drewN h n
theorem bset {a w1 : World} (h : Below a.heap.size a w1) {p : Addr} (hp : a.heap.size ≤ p.block) (u : Value) : Below a.heap.size a (w1.setCell p u) := h.setCell hp u
theorem blt {a w1 : World} (o : Obj) (h : Below (a.alloc o).heap.size (a.alloc o) w1) : a.heap.size < w1.heap.size := by have := h.size; simp at this; omega

/-! what a call owns -/
theorem own_base {w : World} {B B' : Nat} {e : TypeId} {sz : Nat} {v : Value} {n : Nat} {xs : List Value} (h : w.ownsRow B e sz v n xs) (hB : B' ≤ B) : w.ownsRow B' e sz v n xs := by
  refine ⟨h.1, ?_⟩
  rcases h.2 with h0 | ⟨g, cap, cur, hv, hb, r⟩
  · exact .inl h0
  · exact .inr ⟨g, cap, cur, hv, Nat.le_trans hB hb, r⟩
theorem own_set {w : World} {B : Nat} {e : TypeId} {sz : Nat} {v : Value} {n : Nat} {xs : List Value} (h : w.ownsRow B e sz v n xs) {a : Addr} (ha : v.ownBlock ≠ some a.block) (u : Value) : (w.setCell a u).ownsRow B e sz v n xs :=
  ownsRow_setCell_other h ha u
theorem ob_ne {a b n c o : Nat} (h : a ≠ b) : (Value.slice (some ⟨a, 0, none⟩) n c).ownBlock ≠ some (⟨b, o, none⟩ : Addr).block := by simpa [Value.ownBlock] using h
theorem below_grown {a w : World} (h : Below a.heap.size a w) (row : Option Nat) : a.grownBy w row := ⟨h.os, h.tape, h.output, h.size, fun i hi _ => h.block i hi⟩
theorem own_below {w w' : World} {B : Nat} {e : TypeId} {sz : Nat} {v : Value} {n : Nat} {xs : List Value} (h : w.ownsRow B e sz v n xs) (hb : Below w.heap.size w w') : w'.ownsRow B e sz v n xs :=
  h.kept (below_grown hb none) (by cases v.ownBlock <;> simp)

/-! slices of structs of m integers each: the cells as one list of n * m integers -/
structure Recs (m : Nat) (w : World) (v : Value) (n : Nat) (xs : List Int) : Prop where
  len : n ≤ 9223372036854775807
  eq : xs.length = n * m
  ex : ∃ ad cap, v = .slice ad n cap ∧ ∀ i, i < xs.length → ∃ b o, ad = some ⟨b, o, none⟩ ∧ w.cell? ⟨b, o + i, none⟩ = some (.int .i64 (nth xs i))
theorem Recs.below {m : Nat} {w w' : World} {v : Value} {n : Nat} {xs : List Int} (h : Recs m w v n xs) (hb : Below w.heap.size w w') : Recs m w' v n xs := by
  obtain ⟨hl, he, ad, cap, hv, hc⟩ := h
  refine ⟨hl, he, ad, cap, hv, fun i hi => ?_⟩
  obtain ⟨b, o, ha, hcell⟩ := hc i hi
  exact ⟨b, o, ha, by rw [hb.cell (p := ⟨b, o + i, none⟩) (World.block_lt_of_cell? w _ hcell)]; exact hcell⟩
theorem Recs.alloc {m : Nat} {w : World} {v : Value} {n : Nat} {xs : List Int} (h : Recs m w v n xs) (o : Obj) : Recs m (w.alloc o) v n xs := h.below ((Below.refl _ _).alloc (Nat.le_refl _) o)
theorem Recs.of_own {m : Nat} {w : World} {base : Nat} {e : TypeId} {v : Value} {n : Nat} {xs : List Int} (h : w.ownsRow base e m v n (xs.map (Value.int .i64))) (hl : n ≤ 9223372036854775807) : Recs m w v n xs := by
  have he : xs.length = n * m := by simpa using h.1
  refine ⟨hl, he, ?_⟩
  rcases h.2 with ⟨rfl, h0⟩ | ⟨g, cap, cur, rfl, hbg, hg, hnc, hcm, hcs, htake⟩
  · rw [h0]; exact ⟨none, 0, rfl, fun i hi => by rw [he, h0] at hi; simp at hi⟩
  · refine ⟨_, _, rfl, fun i hi => ⟨g, 0, rfl, ?_⟩⟩
    rw [Nat.zero_add, h.cellAt i (by omega)]
    simp [nth, hi]
/-- the three integers of element k -/
def cP (xs : List Int) (k : Nat) : Int := nth xs (k * 3)
def cD (xs : List Int) (k : Nat) : Int := nth xs (k * 3 + 1)
def cE (xs : List Int) (k : Nat) : Int := nth xs (k * 3 + 2)
theorem at3 {w : World} {ad : Option Addr} {n : Nat} {xs : List Int} (he : xs.length = n * 3)
    (hc : ∀ i, i < xs.length → ∃ b o, ad = some ⟨b, o, none⟩ ∧ w.cell? ⟨b, o + i, none⟩ = some (.int .i64 (nth xs i))) (k : Nat) (hk : k < n) :
    ∃ b o, ad = some ⟨b, o, none⟩ ∧ w.cell? ⟨b, o + k * 3, none⟩ = some (.int .i64 (cP xs k)) ∧ w.cell? ⟨b, o + k * 3 + 1, none⟩ = some (.int .i64 (cD xs k)) ∧ w.cell? ⟨b, o + k * 3 + 2, none⟩ = some (.int .i64 (cE xs k)) ∧ b < w.heap.size := by
  obtain ⟨b, o, rfl, h0⟩ := hc (k * 3) (by omega)
  obtain ⟨b', o', h1', h1⟩ := hc (k * 3 + 1) (by omega)
  obtain ⟨b'', o'', h2', h2⟩ := hc (k * 3 + 2) (by omega)
  simp only [Option.some.injEq, Addr.mk.injEq, and_true] at h1' h2'
  obtain ⟨rfl, rfl⟩ := h1'
  obtain ⟨rfl, rfl⟩ := h2'
  exact ⟨b, o, rfl, h0, h1, h2, World.block_lt_of_cell? w _ h0⟩

/-- all numbers below n meet p -/
def allTo (p : Nat → Bool) : Nat → Bool
  | 0 => true
  | k + 1 => allTo p k && p k
theorem allTo_succ {p : Nat → Bool} {k : Nat} (h : allTo p k = true) (hp : p k = true) : allTo p (k + 1) = true := by simp [allTo, h, hp]
theorem allTo_at {p : Nat → Bool} {n : Nat} (h : allTo p n = true) {k : Nat} (hk : k < n) : p k = true := by
  induction n with
  | zero => omega
  | succ n ih =>
    simp only [allTo, Bool.and_eq_true] at h
    rcases Nat.lt_succ_iff_lt_or_eq.1 hk with hlt | rfl
    · exact ih h.1 hlt
    · exact h.2
theorem allTo_no {p : Nat → Bool} {n k : Nat} (hk : k < n) (hp : p k = false) : allTo p n = false := by
  cases h : allTo p n with
  | false => rfl
  | true => rw [allTo_at h hk] at hp; cases hp
theorem allTo_of {p : Nat → Bool} {n : Nat} (h : ∀ k, k < n → p k = true) : allTo p n = true := by
  induction n with
  | zero => rfl
  | succ n ih => simp [allTo, ih (fun k hk => h k (by omega)), h n (by omega)]

theorem made3 (n : Nat) : (madeCells #[.int .i64 0, .int .i64 0, .int .i64 0] (n * 3)).toList = List.replicate (n * 3) (Value.int .i64 0) := by
  apply List.ext_getElem?
  intro j
  by_cases hj : j < n * 3
  · have : j % 3 = 0 ∨ j % 3 = 1 ∨ j % 3 = 2 := by omega
    rcases this with h | h | h <;> simp [madeCells, hj, h]
  · simp [madeCells, hj]
/-- three more integers are stored into a row that was made of zeros -/
theorem put3 (xs : List Int) (k n : Nat) (he : xs.length = n * 3) (h : k < n) :
    ((((xs.take (k * 3)).map (Value.int .i64) ++ List.replicate (xs.length - k * 3) (Value.int .i64 0)).set (k * 3) (.int .i64 (cP xs k))).set (k * 3 + 1) (.int .i64 (cD xs k))).set (k * 3 + 2) (.int .i64 (cE xs k)) =
      (xs.take ((k + 1) * 3)).map (Value.int .i64) ++ List.replicate (xs.length - (k + 1) * 3) (.int .i64 0) := by
  have e1 := put_nth xs (k * 3) (by omega)
  have e2 := put_nth xs (k * 3 + 1) (by omega)
  have e3 := put_nth xs (k * 3 + 2) (by omega)
  unfold cP cD cE
  rw [e1, e2, e3]
  rw [show (k + 1) * 3 = k * 3 + 2 + 1 by omega]
theorem own_cell {w : World} {base g cap n sz : Nat} {e : TypeId} {xs : List Value} (h : w.ownsRow base e sz (.slice (some ⟨g, 0, none⟩) n cap) n xs) (j : Nat) (hj : j < n * sz) : ∃ u, w.cell? ⟨g, j, none⟩ = some u := by
  rw [h.cellAt j hj]
  exact ⟨_, List.getElem?_eq_getElem (by rw [h.1]; exact hj)⟩
/-- the sum of f over the numbers below n -/
def sumTo (f : Nat → Int) : Nat → Int
  | 0 => 0
  | k + 1 => sumTo f k + f k
theorem sumTo_bd (f : Nat → Int) (c : Int) (n : Nat) (h : ∀ k, k < n → 0 ≤ f k ∧ f k ≤ c) (k : Nat) (hk : k ≤ n) : 0 ≤ sumTo f k ∧ sumTo f k ≤ c * k := by
  induction k with
  | zero => simp [sumTo]
  | succ k ih =>
    have h1 := ih (by omega)
    have h2 := h k (by omega)
    refine ⟨by simp only [sumTo]; omega, ?_⟩
    have : c * ((k + 1 : Nat) : Int) = c * k + c := by rw [Int.natCast_add, Int.mul_add]; simp
    simp only [sumTo]
    omega
/-- the sum of a list -/
def sumI (xs : List Int) : Int := sumTo (nth xs) xs.length
end Go.Proofs.Ytlipfkalehikkaa

/- The walks of the range tests, of ShortLimit, PriceOf, PriceAfterTare and GramsFor, in the program and in the reference. -/
namespace Go.Proofs.Ytlipfkalehikkaa
open Go.ChangeShapes Go.WideShapes Go.ChangeAt Go.RowKit

theorem in_any (a b c : Int) (w : World) : Calls Try.prog 38 #[.int .i64 a, .int .i64 b, .int .i64 c] w fun e w' => e = .returned (.bool (inB a b c)) ∧ w = w' := by
  by_cases h : b ≤ a
  all_goals
    go_enter Try.func38, Try.ntmps38
    go_wp2
    go_ret
    exact ⟨by (try rw [← Int.not_le] at h); simp [inB, h], rfl⟩
theorem l01In_any (a b c : Int) (w : World) : Calls Try.prog 55 #[.int .i64 a, .int .i64 b, .int .i64 c] w fun e w' => e = .returned (.bool (inB a b c)) ∧ w = w' := by
  by_cases h : b ≤ a
  all_goals
    go_enter Try.func55, Try.ntmps55
    go_wp2
    go_ret
    exact ⟨by (try rw [← Int.not_le] at h); simp [inB, h], rfl⟩
end Go.Proofs.Ytlipfkalehikkaa

/- Chains of copies as lists of integers: validity, the way up. -/
namespace Go.Proofs.Ytlipfkalehikkaa
/-- element k of a chain is valid -/
def cpOk (xs : List Int) (k : Nat) : Bool := inB (cP xs k) (-1) ((k : Int) - 1) && (inB (cD xs k) (-1000000) 1000000 && inB (cE xs k) 0 1000)
def chainOk (n : Nat) (xs : List Int) : Bool := inB n 1 12 && allTo (cpOk xs) n
theorem cpOk_1 {xs : List Int} {k : Nat} (h : inB (cP xs k) (-1) ((k : Int) - 1) = false) : cpOk xs k = false := by simp [cpOk, h]
theorem cpOk_2 {xs : List Int} {k : Nat} (h : inB (cD xs k) (-1000000) 1000000 = false) : cpOk xs k = false := by simp [cpOk, h]
theorem cpOk_3 {xs : List Int} {k : Nat} (h : inB (cE xs k) 0 1000 = false) : cpOk xs k = false := by simp [cpOk, h]
theorem cpOk_t {xs : List Int} {k : Nat} (h1 : inB (cP xs k) (-1) ((k : Int) - 1) = true) (h2 : inB (cD xs k) (-1000000) 1000000 = true) (h3 : inB (cE xs k) 0 1000 = true) : cpOk xs k = true := by simp [cpOk, h1, h2, h3]
theorem chainOk_len {n : Nat} {xs : List Int} (h : inB n 1 12 = false) : chainOk n xs = false := by simp [chainOk, h]
theorem chainOk_at {n : Nat} {xs : List Int} {k : Nat} (hk : k < n) (h : cpOk xs k = false) : chainOk n xs = false := by simp [chainOk, allTo_no hk h]
theorem chainOk_t {n : Nat} {xs : List Int} (h1 : inB n 1 12 = true) (h2 : allTo (cpOk xs) n = true) : chainOk n xs = true := by simp [chainOk, h1, h2]
theorem chainOk_n {n : Nat} {xs : List Int} (h : chainOk n xs = true) : 1 ≤ n ∧ n ≤ 12 := by
  simp only [chainOk, Bool.and_eq_true] at h
  have := inB_le h.1
  omega
theorem chainOk_p {n : Nat} {xs : List Int} (h : chainOk n xs = true) {k : Nat} (hk : k < n) : -1 ≤ cP xs k ∧ cP xs k < k := by
  simp only [chainOk, Bool.and_eq_true] at h
  have := allTo_at h.2 hk
  simp only [cpOk, Bool.and_eq_true] at this
  have := inB_le this.1
  omega
theorem chainOk_d {n : Nat} {xs : List Int} (h : chainOk n xs = true) {k : Nat} (hk : k < n) : -1000000 ≤ cD xs k ∧ cD xs k ≤ 1000000 ∧ 0 ≤ cE xs k ∧ cE xs k ≤ 1000 := by
  simp only [chainOk, Bool.and_eq_true] at h
  have := allTo_at h.2 hk
  simp only [cpOk, Bool.and_eq_true] at this
  have h1 := inB_le this.2.1
  have h2 := inB_le this.2.2
  omega

/-- the way up from k, with fuel -/
def upFrom (xs : List Int) : Nat → Int → List Int
  | 0, _ => []
  | f + 1, k => if 0 ≤ k then k :: upFrom xs f (cP xs k.toNat) else []
def upL (xs : List Int) (k : Int) : List Int := upFrom xs 12 k
theorem upFrom_yes {xs : List Int} {f : Nat} {k : Int} (h : 0 ≤ k) : upFrom xs (f + 1) k = k :: upFrom xs f (cP xs k.toNat) := by simp only [upFrom]; rw [if_pos h]
theorem upFrom_no {xs : List Int} {f : Nat} {k : Int} (h : ¬ 0 ≤ k) : upFrom xs f k = [] := by
  cases f with
  | zero => rfl
  | succ f => simp only [upFrom]; rw [if_neg h]
/-- the way up from k where the chain is valid and k is one of its copies; else nothing -/
def aboveL (n : Nat) (xs : List Int) (k : Int) : List Int := if chainOk n xs = true ∧ inB k 0 ((n : Int) - 1) = true then upL xs k else []
theorem aboveL_c {n : Nat} {xs : List Int} {k : Int} (h : chainOk n xs = false) : aboveL n xs k = [] := if_neg (by simp [h])
theorem aboveL_k {n : Nat} {xs : List Int} {k : Int} (h : inB k 0 ((n : Int) - 1) = false) : aboveL n xs k = [] := if_neg (by simp [h])
theorem aboveL_t {n : Nat} {xs : List Int} {k : Int} (h1 : chainOk n xs = true) (h2 : inB k 0 ((n : Int) - 1) = true) : aboveL n xs k = upL xs k := if_pos ⟨h1, h2⟩
theorem upFrom_len (xs : List Int) : ∀ (f : Nat) (k : Int), (upFrom xs f k).length ≤ f
  | 0, _ => by simp [upFrom]
  | f + 1, k => by
    simp only [upFrom]
    split
    · simp only [List.length_cons]; have := upFrom_len xs f (cP xs k.toNat); omega
    · simp
theorem aboveL_len (n : Nat) (xs : List Int) (k : Int) : (aboveL n xs k).length ≤ 12 := by
  unfold aboveL; split
  · exact upFrom_len xs 12 k
  · simp
theorem upFrom_mem {n : Nat} {xs : List Int} (h : chainOk n xs = true) : ∀ (f : Nat) (k : Int), k < n → ∀ x ∈ upFrom xs f k, 0 ≤ x ∧ x < n
  | 0, _, _, x, hx => by simp [upFrom] at hx
  | f + 1, k, hk, x, hx => by
    by_cases h0 : 0 ≤ k
    · rw [upFrom_yes h0, List.mem_cons] at hx
      rcases hx with rfl | hx
      · exact ⟨h0, hk⟩
      · have := chainOk_p h (k := k.toNat) (by omega)
        exact upFrom_mem h f _ (by omega) x hx
    · rw [upFrom_no h0] at hx; simp at hx
theorem aboveL_mem {n : Nat} {xs : List Int} {k x : Int} (hx : x ∈ aboveL n xs k) : chainOk n xs = true ∧ 0 ≤ x ∧ x < n := by
  unfold aboveL at hx
  split at hx
  · rename_i h
    have := inB_le h.2
    exact ⟨h.1, upFrom_mem h.1 12 k (by omega) x hx⟩
  · simp at hx
end Go.Proofs.Ytlipfkalehikkaa

/- The walks of ChainOk, isCopy, above and AboveIn, in the program and in the reference. -/
namespace Go.Proofs.Ytlipfkalehikkaa
open Go.ChangeShapes Go.WideShapes Go.ChangeAt Go.RowKit

theorem implChainOk_any (v : Value) (n : Nat) (xs : List Int) (w : World) (h : Recs 3 w v n xs) : Calls Try.prog 62 #[v] w fun e w' => e = .returned (.bool (chainOk n xs)) ∧ Below w.heap.size w w' := by
  obtain ⟨hl, he, ad, cap, rfl, hc⟩ := h
  have hat := fun k hk => at3 (w := w) he hc k hk
  clear hc he
  cases h0 : inB n 1 12 with
  | false =>
    have H := Lib.hid (chainOk_len (xs := xs) h0)
    clear hat
    go_enter Try.func62, Try.ntmps62
    go_wp2_with (go_at_call 38; refine (in_any _ _ _ _).mono ?_; rintro e w' ⟨rfl, rfl⟩)
    go_ret
    exact ⟨ret_bool H.out.symm, bref _⟩
  | true =>
    go_enter Try.func62, Try.ntmps62
    go_wp2_with (go_at_call 38; refine (in_any _ _ _ _).mono ?_; rintro e w' ⟨rfl, rfl⟩)
    go_loopw [11] (fun i wr => ∃ k : Nat, k ≤ n ∧ i = .int .i64 k ∧ Hid (allTo (cpOk xs) k = true) ∧ Below w.heap.size w wr) (fun i _ => n - (intOf i).toNat)
    case atStart => exact ⟨0, Nat.zero_le _, rfl, rfl, bref _⟩
    case round =>
      obtain ⟨k, hk, rfl, hx, hbel⟩ := hrel
      by_cases hlt : k < n
      · obtain ⟨b, o, rfl, e0, e1, e2, hb⟩ := hat k hlt
        clear hat
        rw [← hbel.cell (p := ⟨b, o + k * 3, none⟩) hb] at e0
        rw [← hbel.cell (p := ⟨b, o + k * 3 + 1, none⟩) hb] at e1
        rw [← hbel.cell (p := ⟨b, o + k * 3 + 2, none⟩) hb] at e2
        have HB := Lib.hid hbel
        clear hbel
        cases h1 : inB (cP xs k) (-1) ((k : Int) - 1) with
        | false =>
          have H := Lib.hid (chainOk_at hlt (cpOk_1 h1))
          go_wp2_with (go_at_call 38; refine (in_any _ _ _ _).mono ?_; rintro e w' ⟨rfl, rfl⟩)
          go_ret
          exact ⟨ret_bool H.out.symm, balloc HB.out _⟩
        | true =>
          cases h2 : inB (cD xs k) (-1000000) 1000000 with
          | false =>
            have H := Lib.hid (chainOk_at hlt (cpOk_2 h2))
            go_wp2_with (go_at_call 38; refine (in_any _ _ _ _).mono ?_; rintro e w' ⟨rfl, rfl⟩)
            go_ret
            exact ⟨ret_bool H.out.symm, balloc HB.out _⟩
          | true =>
            cases h3 : inB (cE xs k) 0 1000 with
            | false =>
              have H := Lib.hid (chainOk_at hlt (cpOk_3 h3))
              go_wp2_with (go_at_call 38; refine (in_any _ _ _ _).mono ?_; rintro e w' ⟨rfl, rfl⟩)
              go_ret
              exact ⟨ret_bool H.out.symm, balloc HB.out _⟩
            | true =>
              have H := Lib.hid (allTo_succ hx.out (cpOk_t h1 h2 h3))
              go_wp2_with (go_at_call 38; refine (in_any _ _ _ _).mono ?_; rintro e w' ⟨rfl, rfl⟩)
              go_roundw
              case rel => exact ⟨k + 1, by omega, by go_num, H.out, balloc HB.out _⟩
              case measure => simp [intOf]; omega
      · have hall := hx.out
        rw [show k = n by omega] at hall
        clear hat
        have HB := Lib.hid hbel
        clear hbel
        have H := Lib.hid (chainOk_t h0 hall)
        clear hall
        go_wp2
        go_ret
        exact ⟨ret_bool H.out.symm, HB.out⟩

theorem specChainOk_any (v : Value) (n : Nat) (xs : List Int) (w : World) (h : Recs 3 w v n xs) : Calls Try.prog 66 #[v] w fun e w' => e = .returned (.bool (chainOk n xs)) ∧ Below w.heap.size w w' := by
  obtain ⟨hl, he, ad, cap, rfl, hc⟩ := h
  have hat := fun k hk => at3 (w := w) he hc k hk
  clear hc he
  go_enter Try.func66, Try.ntmps66
  go_wp2_with fail
  go_loopw [3] (fun i wr => ∃ k : Nat, k ≤ n ∧ i = .int .i64 k ∧ Hid (allTo (cpOk xs) k = true) ∧ Below w.heap.size w wr) (fun i _ => n - (intOf i).toNat)
  case atStart => exact ⟨0, Nat.zero_le _, rfl, rfl, bref _⟩
  case round =>
    obtain ⟨k, hk, rfl, hx, hbel⟩ := hrel
    by_cases hlt : k < n
    · obtain ⟨b, o, rfl, e0, e1, e2, hb⟩ := hat k hlt
      clear hat
      rw [← hbel.cell (p := ⟨b, o + k * 3, none⟩) hb] at e0
      rw [← hbel.cell (p := ⟨b, o + k * 3 + 1, none⟩) hb] at e1
      rw [← hbel.cell (p := ⟨b, o + k * 3 + 2, none⟩) hb] at e2
      have HB := Lib.hid hbel
      clear hbel
      cases h1 : inB (cP xs k) (-1) ((k : Int) - 1) with
      | false =>
        have H := Lib.hid (chainOk_at hlt (cpOk_1 h1))
        go_wp2_with (go_at_call 55; refine (l01In_any _ _ _ _).mono ?_; rintro e w' ⟨rfl, rfl⟩)
        go_ret
        exact ⟨ret_bool H.out.symm, balloc HB.out _⟩
      | true =>
        cases h2 : inB (cD xs k) (-1000000) 1000000 with
        | false =>
          have H := Lib.hid (chainOk_at hlt (cpOk_2 h2))
          go_wp2_with (go_at_call 55; refine (l01In_any _ _ _ _).mono ?_; rintro e w' ⟨rfl, rfl⟩)
          go_ret
          exact ⟨ret_bool H.out.symm, balloc HB.out _⟩
        | true =>
          cases h3 : inB (cE xs k) 0 1000 with
          | false =>
            have H := Lib.hid (chainOk_at hlt (cpOk_3 h3))
            go_wp2_with (go_at_call 55; refine (l01In_any _ _ _ _).mono ?_; rintro e w' ⟨rfl, rfl⟩)
            go_ret
            exact ⟨ret_bool H.out.symm, balloc HB.out _⟩
          | true =>
            have H := Lib.hid (allTo_succ hx.out (cpOk_t h1 h2 h3))
            go_wp2_with (go_at_call 55; refine (l01In_any _ _ _ _).mono ?_; rintro e w' ⟨rfl, rfl⟩)
            go_roundw
            case rel => exact ⟨k + 1, by omega, by go_num, H.out, balloc HB.out _⟩
            case measure => simp [intOf]; omega
    · have hall := hx.out
      rw [show k = n by omega] at hall
      clear hat
      have HB := Lib.hid hbel
      clear hbel
      have H := Lib.hid (show chainOk n xs = inB n 1 12 by simp [chainOk, hall])
      clear hall
      go_wp2_with (go_at_call 55; refine (l01In_any _ _ _ _).mono ?_; rintro e w' ⟨rfl, rfl⟩)
      go_ret
      exact ⟨ret_bool H.out.symm, HB.out⟩

end Go.Proofs.Ytlipfkalehikkaa

/- The walks of the sum of a list, in the program and in the reference. -/
namespace Go.Proofs.Ytlipfkalehikkaa
open Go.ChangeShapes Go.WideShapes Go.ChangeAt Go.RowKit
end Go.Proofs.Ytlipfkalehikkaa

/- Rows that a law fills with the numbers k, k + 1, ..; slices that lie in different blocks. -/
namespace Go.Proofs.Ytlipfkalehikkaa
open Go.ChangeShapes Go.WideShapes Go.ChangeAt Go.RowKit

def seqL (k : Int) : Nat → List Int
  | 0 => []
  | n + 1 => seqL k n ++ [k + n]
theorem seqL_len (k : Int) : ∀ n, (seqL k n).length = n
  | 0 => rfl
  | n + 1 => by simp [seqL, seqL_len k n]
theorem seqL_nth (k : Int) : ∀ (n i : Nat), i < n → nth (seqL k n) i = k + i
  | 0, i, h => by omega
  | n + 1, i, h => by
    have hl := seqL_len k n
    simp only [nth, seqL, List.getD_eq_getElem?_getD]
    rcases Nat.lt_or_ge i n with h1 | h1
    · rw [List.getElem?_append_left (by omega)]
      have := seqL_nth k n i h1
      simpa only [nth, List.getD_eq_getElem?_getD] using this
    · obtain rfl : i = n := by omega
      rw [List.getElem?_append_right (by omega), hl]
      simp
theorem mark_set (xs : List Int) (k : Int) (j : Nat) (h : j < xs.length) :
    ((seqL k j).map (Value.int .i64) ++ (xs.drop j).map (Value.int .i64)).set j (.int .i64 (k + j)) = (seqL k (j + 1)).map (Value.int .i64) ++ (xs.drop (j + 1)).map (Value.int .i64) := by
  have hl : ((seqL k j).map (Value.int .i64)).length = j := by simp [seqL_len]
  rw [List.set_append, if_neg (by omega), hl, Nat.sub_self, drop_nth xs j h]
  simp [seqL]
theorem only_set {a w : World} {g : Nat} (h : a.grownBy w (some g)) (o : Nat) (u : Value) : a.grownBy (w.setCell ⟨g, o, none⟩ u) (some g) :=
  ⟨h.os, h.tape, h.output, by simpa [World.setCell] using h.size, fun i hi hne => (Below.heap_setCell w ⟨g, o, none⟩ u i (by rintro rfl; exact hne rfl)).trans (h.block i hi hne)⟩
theorem only_refl (w : World) (row : Option Nat) : w.grownBy w row := ⟨rfl, rfl, rfl, Nat.le_refl _, fun _ _ _ => rfl⟩
/-- no block belongs to both slices -/
def Sep (v u : Value) : Prop := ∀ b, v.ownBlock = some b → u.ownBlock ≠ some b
theorem Sep.symm {v u : Value} (h : Sep v u) : Sep u v := fun b hb hv => h b hv hb
/-- what was owned before a call, and what the call makes, lie in different blocks -/
theorem own_sep {w w' : World} {B B' : Nat} {e e' : TypeId} {s s' : Nat} {v u : Value} {n n' : Nat} {xs ys : List Value} (h : w.ownsRow B e s v n xs) (h' : w'.ownsRow B' e' s' u n' ys) (hB : w.heap.size ≤ B') : Sep v u := fun b hb hu => by
  have := (h.lt b hb).2
  have := (h'.lt b hu).1
  omega
theorem own_kept {w w' : World} {B : Nat} {e : TypeId} {s : Nat} {v u : Value} {n : Nat} {xs : List Value} (h : w.ownsRow B e s u n xs) (hg : w.grownBy w' v.ownBlock) (hs : Sep v u) : w'.ownsRow B e s u n xs := by
  refine h.kept hg ?_
  cases hu : u.ownBlock with
  | none => exact .inl rfl
  | some b => exact .inr fun hv => hs b hv.symm hu
/-- marks that go into a row from B on leave what lies below B -/
theorem below_mark {a w w' : World} {v : Value} {B : Nat} {e : TypeId} {s n : Nat} {xs : List Value} (h : Below a.heap.size a w) (hg : w.grownBy w' v.ownBlock) (ho : w.ownsRow B e s v n xs) (hB : a.heap.size ≤ B) : Below a.heap.size a w' :=
  h.grown hg h.size fun k hk => Nat.le_trans hB (ho.lt k hk).1
end Go.Proofs.Ytlipfkalehikkaa

/- What a call made lies in an interval of block numbers; what changes it leaves the rest. -/
namespace Go.Proofs.Ytlipfkalehikkaa
open Go.ChangeShapes Go.WideShapes Go.ChangeAt Go.RowKit

/-- of what there is in w only blocks of [lo, hi) may differ in w' -/
structure Only (lo hi : Nat) (w w' : World) : Prop where
  os : w'.os = w.os
  tape : w'.tape = w.tape
  output : w'.output = w.output
  size : w.heap.size ≤ w'.heap.size
  block : ∀ k, k < w.heap.size → ¬ (lo ≤ k ∧ k < hi) → w'.heap[k]? = w.heap[k]?
theorem Only.refl (lo hi : Nat) (w : World) : Only lo hi w w := ⟨rfl, rfl, rfl, Nat.le_refl _, fun _ _ _ => rfl⟩
theorem Only.of_grown {lo hi : Nat} {w w' : World} {row : Option Nat} (hg : w.grownBy w' row) (h : ∀ k, row = some k → lo ≤ k ∧ k < hi) : Only lo hi w w' :=
  ⟨hg.os, hg.tape, hg.output, hg.size, fun k hk hn => hg.block k hk fun e => hn (h k e.symm)⟩
theorem Only.of_below {lo hi : Nat} {w w' : World} (h : Below w.heap.size w w') : Only lo hi w w' := ⟨h.os, h.tape, h.output, h.size, fun k hk _ => h.block k hk⟩
theorem Only.trans {lo hi : Nat} {a b c : World} (h : Only lo hi a b) (k : Only lo hi b c) : Only lo hi a c :=
  ⟨k.os.trans h.os, k.tape.trans h.tape, k.output.trans h.output, Nat.le_trans h.size k.size, fun i hi hn => (k.block i (Nat.lt_of_lt_of_le hi h.size) hn).trans (h.block i hi hn)⟩
/-- marks in what the call made -/
theorem Only.below {lo hi : Nat} {a w w' : World} (h : Below a.heap.size a w) (ho : Only lo hi w w') (hl : a.heap.size ≤ lo) : Below a.heap.size a w' :=
  ⟨ho.os.trans h.os, ho.tape.trans h.tape, ho.output.trans h.output, Nat.le_trans h.size ho.size, fun k hk => (ho.block k (Nat.lt_of_lt_of_le hk h.size) (by omega)).trans (h.block k hk)⟩
theorem Only.set {lo hi : Nat} {a w : World} (h : Only lo hi a w) {p : Addr} (h1 : lo ≤ p.block) (h2 : p.block < hi) (u : Value) : Only lo hi a (w.setCell p u) :=
  h.trans ⟨rfl, rfl, rfl, by simp [World.setCell], fun k _ hn => Below.heap_setCell w p u k (by rintro rfl; exact hn ⟨h1, h2⟩)⟩
theorem Only.step {lo hi : Nat} {a w w' : World} (h : Only lo hi a w) (hb : Below w.heap.size w w') : Only lo hi a w' := h.trans (Only.of_below hb)
theorem Only.alloc {lo hi : Nat} {a w : World} (h : Only lo hi a w) (o : Obj) : Only lo hi a (w.alloc o) := h.trans (Only.of_below (balloc (bref w) o))
theorem lt2 (n : Nat) : n < n + 1 + 1 := by omega
theorem lt3 (n : Nat) : n < n + 1 + 1 + 1 := by omega
theorem lt4 (n : Nat) : n < n + 1 + 1 + 1 + 1 := by omega
theorem lt5 (n : Nat) : n < n + 1 + 1 + 1 + 1 + 1 := by omega
/-- two intervals that do not meet -/
def Off (lo hi lo' hi' : Nat) : Prop := hi ≤ lo' ∨ hi' ≤ lo
theorem off_l {lo hi lo' hi' : Nat} (h : hi ≤ lo') : Off lo hi lo' hi' := .inl h
theorem off_r {lo hi lo' hi' : Nat} (h : hi' ≤ lo) : Off lo hi lo' hi' := .inr h
/-- n elements of m integers each, in a block of [lo, hi), or nil -/
structure RowO (lo hi : Nat) (w : World) (e : TypeId) (m : Nat) (v : Value) (n : Nat) (xs : List Int) : Prop where
  own : w.ownsRow lo e m v n (xs.map (Value.int .i64))
  top : ∀ b, v.ownBlock = some b → b < hi
theorem RowO.of {lo : Nat} {w : World} {e : TypeId} {m : Nat} {v : Value} {n : Nat} {xs : List Int} (h : w.ownsRow lo e m v n (xs.map (Value.int .i64))) : RowO lo w.heap.size w e m v n xs := ⟨h, fun b hb => (h.lt b hb).2⟩
theorem RowO.at {lo hi : Nat} {w : World} {e : TypeId} {m : Nat} {v : Value} {n : Nat} {xs : List Int} (h : RowO lo hi w e m v n xs) : ∀ b, v.ownBlock = some b → lo ≤ b ∧ b < hi := fun b hb => ⟨(h.own.lt b hb).1, h.top b hb⟩
theorem RowO.below {lo hi : Nat} {w w' : World} {e : TypeId} {m : Nat} {v : Value} {n : Nat} {xs : List Int} (h : RowO lo hi w e m v n xs) (hb : Below w.heap.size w w') : RowO lo hi w' e m v n xs := ⟨own_below h.own hb, h.top⟩
theorem own_only {lo hi : Nat} {w w' : World} {B : Nat} {e : TypeId} {s : Nat} {v : Value} {n : Nat} {xs : List Value} (h : w.ownsRow B e s v n xs) (ho : Only lo hi w w') (hs : ∀ b, v.ownBlock = some b → ¬ (lo ≤ b ∧ b < hi)) : w'.ownsRow B e s v n xs := by
  refine ⟨h.1, ?_⟩
  rcases h.2 with hn | ⟨g, cap, cur, rfl, hb, hgg, rest⟩
  · exact .inl hn
  · refine .inr ⟨g, cap, cur, rfl, hb, ?_, rest⟩
    rw [ho.block g (Array.getElem?_eq_some_iff.1 hgg).1 (hs g rfl)]
    exact hgg
theorem RowO.only {lo hi lo' hi' : Nat} {w w' : World} {e : TypeId} {m : Nat} {v : Value} {n : Nat} {xs : List Int} (h : RowO lo hi w e m v n xs) (ho : Only lo' hi' w w') (hs : Off lo hi lo' hi') : RowO lo hi w' e m v n xs :=
  ⟨own_only h.own ho fun b hb => by have := h.at b hb; unfold Off at hs; omega, h.top⟩
theorem RowO.wide {lo hi lo' hi' : Nat} {w : World} {e : TypeId} {m : Nat} {v : Value} {n : Nat} {xs : List Int} (h : RowO lo hi w e m v n xs) (hl : lo' ≤ lo) (hh : hi ≤ hi') : RowO lo' hi' w e m v n xs :=
  ⟨own_base h.own hl, fun b hb => Nat.lt_of_lt_of_le (h.top b hb) hh⟩
theorem RowO.sep {lo hi lo' hi' : Nat} {w w' : World} {e e' : TypeId} {m m' : Nat} {v v' : Value} {n n' : Nat} {xs xs' : List Int} (h : RowO lo hi w e m v n xs) (h' : RowO lo' hi' w' e' m' v' n' xs') (hs : Off lo hi lo' hi') : Sep v v' := fun b hb hb' => by
  have := h.at b hb
  have := h'.at b hb'
  unfold Off at hs
  omega
theorem own_form {w : World} {B : Nat} {e : TypeId} {s : Nat} {v : Value} {n : Nat} {xs : List Value} (h : w.ownsRow B e s v n xs) : ∃ ad cap, v = .slice ad n cap := by
  rcases h.2 with ⟨rfl, rfl⟩ | ⟨g, cap, _, rfl, _⟩
  · exact ⟨_, _, rfl⟩
  · exact ⟨_, _, rfl⟩
theorem RowO.ints {lo hi : Nat} {w : World} {e : TypeId} {v : Value} {xs : List Int} (h : RowO lo hi w e 1 v xs.length xs) (hl : xs.length ≤ 9223372036854775807) : Ints w v xs := Ints.of_own h.own hl
theorem RowO.recs {lo hi : Nat} {w : World} {e : TypeId} {m : Nat} {v : Value} {n : Nat} {xs : List Int} (h : RowO lo hi w e m v n xs) (hl : n ≤ 9223372036854775807) : Recs m w v n xs := Recs.of_own h.own hl
end Go.Proofs.Ytlipfkalehikkaa

/- The walks of the tests whether a list holds a number. -/
namespace Go.Proofs.Ytlipfkalehikkaa
open Go.ChangeShapes Go.WideShapes Go.ChangeAt Go.RowKit
theorem hasInt_any (v : Value) (xs : List Int) (n : Int) (w : World) (h : Ints w v xs) : Calls Try.prog 39 #[v, .int .i64 n] w fun e w' => e = .returned (.bool (decide (n ∈ xs))) ∧ w = w' := by
  obtain ⟨hl, ad, cap, rfl, hc⟩ := h
  go_enter Try.func39, Try.ntmps39
  go_wp2_with fail
  go_loop [9] (fun i => ∃ k : Nat, k ≤ xs.length ∧ i = .int .i64 k ∧ Hid (n ∉ xs.take k)) (fun i => xs.length - (intOf i).toNat)
  case atStart => exact ⟨0, Nat.zero_le _, rfl, by simp [Hid]⟩
  case round =>
    obtain ⟨k, hk, rfl, hx⟩ := hrel
    by_cases hlt : k < xs.length
    · obtain ⟨b, o, rfl, hcell⟩ := hc k hlt
      clear hc
      by_cases heq : nth xs k = n
      · have hb : (nth xs k == n) = true := by simp [heq]
        have H := Lib.hid (show n ∈ xs from heq ▸ nth_mem xs k hlt)
        clear heq
        go_wp2
        go_ret
        exact ⟨ret_bool (by simp [H.out]), rfl⟩
      · have hb : (nth xs k == n) = false := by simp [heq]
        have H := Lib.hid (show n ∉ xs.take (k + 1) by rw [take_nth xs k hlt]; have := hx.out; simp only [List.mem_append, List.mem_singleton, not_or]; exact ⟨this, fun e => heq e.symm⟩)
        clear heq
        go_wp2
        go_round
        case rel => exact ⟨k + 1, by omega, by go_num, H.out⟩
        case measure => simp [intOf]; omega
    · have H := Lib.hid (show n ∉ xs by have := hx.out; rwa [List.take_of_length_le (by omega)] at this)
      clear hc
      go_wp2
      go_ret
      exact ⟨ret_bool (by simp [H.out]), rfl⟩

end Go.Proofs.Ytlipfkalehikkaa

/- The walk of the reference's test whether a list holds a number. -/
namespace Go.Proofs.Ytlipfkalehikkaa
open Go.ChangeShapes Go.WideShapes Go.ChangeAt Go.RowKit
theorem l31Has_any (v : Value) (xs : List Int) (n : Int) (w : World) (h : Ints w v xs) : Calls Try.prog 61 #[v, .int .i64 n] w fun e w' => e = .returned (.bool (decide (n ∈ xs))) ∧ w = w' := by
  obtain ⟨hl, ad, cap, rfl, hc⟩ := h
  go_enter Try.func61, Try.ntmps61
  go_wp2_with fail
  go_loop [5] (fun i => ∃ k : Nat, k ≤ xs.length ∧ i = .int .i64 k ∧ Hid (n ∉ xs.take k)) (fun i => xs.length - (intOf i).toNat)
  case atStart => exact ⟨0, Nat.zero_le _, rfl, by simp [Hid]⟩
  case round =>
    obtain ⟨k, hk, rfl, hx⟩ := hrel
    by_cases hlt : k < xs.length
    · obtain ⟨b, o, rfl, hcell⟩ := hc k hlt
      clear hc
      by_cases heq : nth xs k = n
      · have hb : (nth xs k == n) = true := by simp [heq]
        have H := Lib.hid (show n ∈ xs from heq ▸ nth_mem xs k hlt)
        clear heq
        go_wp2
        go_ret
        exact ⟨ret_bool (by simp [H.out]), rfl⟩
      · have hb : (nth xs k == n) = false := by simp [heq]
        have H := Lib.hid (show n ∉ xs.take (k + 1) by rw [take_nth xs k hlt]; have := hx.out; simp only [List.mem_append, List.mem_singleton, not_or]; exact ⟨this, fun e => heq e.symm⟩)
        clear heq
        go_wp2
        go_round
        case rel => exact ⟨k + 1, by omega, by go_num, H.out⟩
        case measure => simp [intOf]; omega
    · have H := Lib.hid (show n ∉ xs by have := hx.out; rwa [List.take_of_length_le (by omega)] at this)
      clear hc
      go_wp2
      go_ret
      exact ⟨ret_bool (by simp [H.out]), rfl⟩

end Go.Proofs.Ytlipfkalehikkaa

/- Days and owners of chains: what the tests answer. -/
namespace Go.Proofs.Ytlipfkalehikkaa
def dayOk (xs ms : List Int) (k : Nat) : Bool := inB (nth ms k) 0 10000 && (decide (cP xs k < 0) || decide (nth ms (cP xs k).toNat ≤ nth ms k))
def daysOk (n : Nat) (xs ms : List Int) : Bool := chainOk n xs && (decide (ms.length = n) && allTo (dayOk xs ms) n)
def ownersOk (n : Nat) (xs os : List Int) : Bool := chainOk n xs && (decide (os.length = n) && allTo (fun k => inB (nth os k) 0 20) os.length)
theorem daysOk_c {n : Nat} {xs ms : List Int} (h : chainOk n xs = false) : daysOk n xs ms = false := by simp [daysOk, h]
theorem daysOk_l {n : Nat} {xs ms : List Int} (h : ms.length ≠ n) : daysOk n xs ms = false := by simp [daysOk, h]
theorem daysOk_at {n : Nat} {xs ms : List Int} {k : Nat} (hk : k < n) (h : dayOk xs ms k = false) : daysOk n xs ms = false := by simp [daysOk, allTo_no hk h]
theorem daysOk_t {n : Nat} {xs ms : List Int} (h : chainOk n xs = true) (hl : ms.length = n) (ha : allTo (dayOk xs ms) n = true) : daysOk n xs ms = true := by simp [daysOk, h, hl, ha]
theorem daysOk_chain {n : Nat} {xs ms : List Int} (h : daysOk n xs ms = true) : chainOk n xs = true ∧ ms.length = n := by
  simp only [daysOk, Bool.and_eq_true, decide_eq_true_eq] at h; exact ⟨h.1, h.2.1⟩
theorem daysOk_day {n : Nat} {xs ms : List Int} (h : daysOk n xs ms = true) {k : Nat} (hk : k < n) : 0 ≤ nth ms k ∧ nth ms k ≤ 10000 := by
  simp only [daysOk, Bool.and_eq_true, decide_eq_true_eq] at h
  have := allTo_at h.2.2 hk
  simp only [dayOk, Bool.and_eq_true] at this
  exact inB_le this.1
theorem dayOk_1 {xs ms : List Int} {k : Nat} (h : inB (nth ms k) 0 10000 = false) : dayOk xs ms k = false := by simp [dayOk, h]
theorem dayOk_2 {xs ms : List Int} {k : Nat} (h : inB (nth ms k) 0 10000 = true) (hp : cP xs k < 0) : dayOk xs ms k = true := by simp [dayOk, h, hp]
theorem dayOk_3 {xs ms : List Int} {k : Nat} (h : inB (nth ms k) 0 10000 = true) (hq : nth ms (cP xs k).toNat ≤ nth ms k) : dayOk xs ms k = true := by simp [dayOk, h, hq]
theorem dayOk_4 {xs ms : List Int} {k : Nat} (hp : ¬ cP xs k < 0) (hq : ¬ nth ms (cP xs k).toNat ≤ nth ms k) : dayOk xs ms k = false := by
  have h1 : decide (cP xs k < 0) = false := by simpa using hp
  have h2 : decide (nth ms (cP xs k).toNat ≤ nth ms k) = false := by simpa using hq
  simp [dayOk, h1, h2]
theorem ownersOk_c {n : Nat} {xs os : List Int} (h : chainOk n xs = false) : ownersOk n xs os = false := by simp [ownersOk, h]
theorem ownersOk_l {n : Nat} {xs os : List Int} (h : os.length ≠ n) : ownersOk n xs os = false := by simp [ownersOk, h]
theorem ownersOk_at {n : Nat} {xs os : List Int} {k : Nat} (hk : k < os.length) (h : inB (nth os k) 0 20 = false) : ownersOk n xs os = false := by
  simp [ownersOk, allTo_no (p := fun k => inB (nth os k) 0 20) hk h]
theorem ownersOk_t {n : Nat} {xs os : List Int} (ha : allTo (fun k => inB (nth os k) 0 20) os.length = true) : ownersOk n xs os = (chainOk n xs && decide (os.length = n)) := by simp [ownersOk, ha]
theorem ownersOk_chain {n : Nat} {xs os : List Int} (h : ownersOk n xs os = true) : chainOk n xs = true ∧ os.length = n := by
  simp only [ownersOk, Bool.and_eq_true, decide_eq_true_eq] at h; exact ⟨h.1, h.2.1⟩
theorem ownersOk_at' {n : Nat} {xs os : List Int} (h : ownersOk n xs os = true) {k : Nat} (hk : k < n) : 0 ≤ nth os k ∧ nth os k ≤ 20 := by
  simp only [ownersOk, Bool.and_eq_true, decide_eq_true_eq] at h
  have := allTo_at h.2.2 (by omega : k < os.length)
  exact inB_le this
end Go.Proofs.Ytlipfkalehikkaa

/- Slices of letters as lists: an owner and the numbers of copies each. -/
namespace Go.Proofs.Ytlipfkalehikkaa
open Go.ChangeShapes Go.WideShapes Go.ChangeAt Go.RowKit

def lOwner (ls : List (Int × List Int)) (k : Nat) : Int := (ls.getD k (0, [])).1
def lCopies (ls : List (Int × List Int)) (k : Nat) : List Int := (ls.getD k (0, [])).2
theorem take_ls (ls : List (Int × List Int)) (k : Nat) (h : k < ls.length) : ls.take (k + 1) = ls.take k ++ [(lOwner ls k, lCopies ls k)] := by
  simp only [List.take_succ_eq_append_getElem h, lOwner, lCopies, List.getD_eq_getElem?_getD, List.getElem?_eq_getElem h, Option.getD_some]
/-- slice value v reads as the letters ls in world w -/
structure Letters (w : World) (v : Value) (ls : List (Int × List Int)) : Prop where
  len : ls.length ≤ 9223372036854775807
  ex : ∃ ad cap, v = .slice ad ls.length cap ∧ ∀ k, k < ls.length → ∃ b o u, ad = some ⟨b, o, none⟩ ∧ w.cell? ⟨b, o + k * 2, none⟩ = some (.int .i64 (lOwner ls k)) ∧ w.cell? ⟨b, o + k * 2 + 1, none⟩ = some u ∧ Ints w u (lCopies ls k)
theorem Letters.below {w w' : World} {v : Value} {ls : List (Int × List Int)} (h : Letters w v ls) (hb : Below w.heap.size w w') : Letters w' v ls := by
  obtain ⟨hl, ad, cap, hv, hc⟩ := h
  refine ⟨hl, ad, cap, hv, fun k hk => ?_⟩
  obtain ⟨b, o, u, ha, h0, h1, hi⟩ := hc k hk
  exact ⟨b, o, u, ha, (hb.cell (p := ⟨b, o + k * 2, none⟩) (World.block_lt_of_cell? w _ h0)).trans h0, (hb.cell (p := ⟨b, o + k * 2 + 1, none⟩) (World.block_lt_of_cell? w _ h1)).trans h1, hi.below hb⟩
/-- how many values the letters hold, as szLetterS counts -/
def lLen (ls : List (Int × List Int)) (k : Nat) : Int := (lCopies ls k).length
def bulkTo (ls : List (Int × List Int)) (k : Nat) : Int := ls.length + sumTo (lLen ls) k
def bulk (ls : List (Int × List Int)) : Int := bulkTo ls ls.length
theorem sumTo_mono (f : Nat → Int) (h : ∀ k, 0 ≤ f k) (n : Nat) : ∀ k, k ≤ n → sumTo f k ≤ sumTo f n := by
  induction n with
  | zero => intro k hk; rw [show k = 0 by omega]; exact Int.le_refl _
  | succ n ih =>
    intro k hk
    rcases Nat.lt_or_ge k (n + 1) with hlt | hge
    · have := ih k (by omega); have := h n; simp only [sumTo]; omega
    · rw [show k = n + 1 by omega]; exact Int.le_refl _
theorem lLen_nn (ls : List (Int × List Int)) (k : Nat) : 0 ≤ lLen ls k := by unfold lLen; omega
theorem bulkTo_le (ls : List (Int × List Int)) (k : Nat) (hk : k ≤ ls.length) : bulkTo ls k ≤ bulk ls := by
  have := sumTo_mono (lLen ls) (lLen_nn ls) ls.length k hk; unfold bulk bulkTo; omega
theorem bulkTo_ge (ls : List (Int × List Int)) (k : Nat) : (ls.length : Int) ≤ bulkTo ls k := by
  have := sumTo_mono (lLen ls) (lLen_nn ls) k 0 (Nat.zero_le _); unfold bulkTo; simp only [sumTo] at this; omega
theorem bulkTo_succ (ls : List (Int × List Int)) (k : Nat) : bulkTo ls (k + 1) = bulkTo ls k + (lCopies ls k).length := by unfold bulkTo; simp only [sumTo]; unfold lLen; omega
theorem bulk_len (ls : List (Int × List Int)) (k : Nat) (hk : k < ls.length) : ((lCopies ls k).length : Int) ≤ bulk ls := by
  have h1 := bulkTo_le ls (k + 1) hk
  have h2 := bulkTo_ge ls k
  rw [bulkTo_succ] at h1
  omega
def szRes (left n : Int) : Int := if left < n then -1 else left - n
theorem szRes_lt {left n : Int} (h : left < n) : szRes left n = -1 := if_pos h
theorem szRes_ge {left n : Int} (h : ¬ left < n) : szRes left n = left - n := if_neg h
theorem own_pair {w : World} {base g cap n : Nat} {e : TypeId} {xs : List Value} (h : w.ownsRow base e 2 (.slice (some ⟨g, 0, none⟩) n cap) n xs) (k : Nat) (hk : k < n) :
    (∃ u, w.cell? ⟨g, k * 2, none⟩ = some u) ∧ (∃ u, w.cell? ⟨g, k * 2 + 1, none⟩ = some u) ∧ w.frozen? ⟨g, k * 2, none⟩ = false ∧ w.frozen? ⟨g, k * 2 + 1, none⟩ = false :=
  ⟨own_cell h _ (by omega), own_cell h _ (by omega), h.frozenAt _, h.frozenAt _⟩
end Go.Proofs.Ytlipfkalehikkaa

/- A house as data; what the test of a house answers. -/
namespace Go.Proofs.Ytlipfkalehikkaa
open Go.ChangeShapes Go.WideShapes Go.ChangeAt Go.RowKit

structure HD where
  n : Nat
  xs : List Int
  ms : List Int
  os : List Int
  ts : List Int
  sent : Int
  day : Int
def ascAt (ts : List Int) (k : Nat) : Bool := decide (k = 0) || decide (nth ts (k - 1) < nth ts k)
def ascOk (ts : List Int) : Bool := allTo (ascAt ts) ts.length
def toldAt (n : Nat) (ts : List Int) (k : Nat) : Bool := inB (nth ts k) 0 ((n : Int) - 1)
def madeAt (ms : List Int) (day : Int) (k : Nat) : Bool := decide (nth ms k ≤ day)
def houseOk (h : HD) : Bool :=
  daysOk h.n h.xs h.ms && (ownersOk h.n h.xs h.os && (ascOk h.ts && (inB h.sent 0 1000 && (inB h.day 0 10000 && (allTo (toldAt h.n h.ts) h.ts.length && allTo (madeAt h.ms h.day) h.ms.length)))))
theorem house_1 {h : HD} (e : daysOk h.n h.xs h.ms = false) : houseOk h = false := by simp [houseOk, e]
theorem house_2 {h : HD} (e : ownersOk h.n h.xs h.os = false) : houseOk h = false := by simp [houseOk, e]
theorem house_3 {h : HD} (e : ascOk h.ts = false) : houseOk h = false := by simp [houseOk, e]
theorem house_4 {h : HD} (e : inB h.sent 0 1000 = false) : houseOk h = false := by simp [houseOk, e]
theorem house_5 {h : HD} (e : inB h.day 0 10000 = false) : houseOk h = false := by simp [houseOk, e]
theorem house_6 {h : HD} {k : Nat} (hk : k < h.ts.length) (e : toldAt h.n h.ts k = false) : houseOk h = false := by simp [houseOk, allTo_no hk e]
theorem house_7 {h : HD} {k : Nat} (hk : k < h.ms.length) (e : madeAt h.ms h.day k = false) : houseOk h = false := by simp [houseOk, allTo_no hk e]
theorem house_3' {h : HD} {k : Nat} (hk : k < h.ts.length) (e : ascAt h.ts k = false) : houseOk h = false := house_3 (allTo_no hk e)
theorem house_t {h : HD} (e1 : daysOk h.n h.xs h.ms = true) (e2 : ownersOk h.n h.xs h.os = true) (e3 : ascOk h.ts = true) (e6 : allTo (toldAt h.n h.ts) h.ts.length = true) (e7 : allTo (madeAt h.ms h.day) h.ms.length = true) :
    houseOk h = (inB h.sent 0 1000 && inB h.day 0 10000) := by simp [houseOk, e1, e2, e3, e6, e7]
structure HouseFacts (h : HD) : Prop where
  days : daysOk h.n h.xs h.ms = true
  owners : ownersOk h.n h.xs h.os = true
  asc : ascOk h.ts = true
  sent : 0 ≤ h.sent ∧ h.sent ≤ 1000
  day : 0 ≤ h.day ∧ h.day ≤ 10000
  told : ∀ k, k < h.ts.length → 0 ≤ nth h.ts k ∧ nth h.ts k < h.n
  made : ∀ k, k < h.ms.length → nth h.ms k ≤ h.day
theorem houseOk_facts {h : HD} (e : houseOk h = true) : HouseFacts h := by
  simp only [houseOk, Bool.and_eq_true] at e
  obtain ⟨e1, e2, e3, e4, e5, e6, e7⟩ := e
  refine ⟨e1, e2, e3, inB_le e4, inB_le e5, fun k hk => ?_, fun k hk => by simpa [madeAt] using allTo_at e7 hk⟩
  have := inB_le (allTo_at e6 hk)
  omega
/-- the four slices of a house read as its data -/
structure HouseR (w : World) (vc vm vo vt : Value) (h : HD) : Prop where
  c : Recs 3 w vc h.n h.xs
  m : Ints w vm h.ms
  o : Ints w vo h.os
  t : Ints w vt h.ts
theorem HouseR.below {w w' : World} {vc vm vo vt : Value} {h : HD} (r : HouseR w vc vm vo vt h) (hb : Below w.heap.size w w') : HouseR w' vc vm vo vt h :=
  ⟨r.c.below hb, r.m.below hb, r.o.below hb, r.t.below hb⟩
theorem HouseR.alloc {w : World} {vc vm vo vt : Value} {h : HD} (r : HouseR w vc vm vo vt h) (o : Obj) : HouseR (w.alloc o) vc vm vo vt h := r.below (balloc (bref w) o)
end Go.Proofs.Ytlipfkalehikkaa

/- A house that a call made. -/
namespace Go.Proofs.Ytlipfkalehikkaa
open Go.ChangeShapes Go.WideShapes Go.ChangeAt Go.RowKit

structure HouseO (lo hi : Nat) (w : World) (vc vm vo vt : Value) (h : HD) : Prop where
  c : RowO lo hi w 40 3 vc h.n h.xs
  m : RowO lo hi w 3 1 vm h.ms.length h.ms
  o : RowO lo hi w 3 1 vo h.os.length h.os
  t : RowO lo hi w 3 1 vt h.ts.length h.ts
  scm : Sep vc vm
  sco : Sep vc vo
  sct : Sep vc vt
  smo : Sep vm vo
  smt : Sep vm vt
  sot : Sep vo vt
theorem HouseO.below {lo hi : Nat} {w w' : World} {vc vm vo vt : Value} {h : HD} (r : HouseO lo hi w vc vm vo vt h) (hb : Below w.heap.size w w') : HouseO lo hi w' vc vm vo vt h :=
  ⟨r.c.below hb, r.m.below hb, r.o.below hb, r.t.below hb, r.scm, r.sco, r.sct, r.smo, r.smt, r.sot⟩
theorem HouseO.only {lo hi lo' hi' : Nat} {w w' : World} {vc vm vo vt : Value} {h : HD} (r : HouseO lo hi w vc vm vo vt h) (ho : Only lo' hi' w w') (hs : Off lo hi lo' hi') : HouseO lo hi w' vc vm vo vt h :=
  ⟨r.c.only ho hs, r.m.only ho hs, r.o.only ho hs, r.t.only ho hs, r.scm, r.sco, r.sct, r.smo, r.smt, r.sot⟩
theorem HouseO.wide {lo hi lo' hi' : Nat} {w : World} {vc vm vo vt : Value} {h : HD} (r : HouseO lo hi w vc vm vo vt h) (hl : lo' ≤ lo) (hh : hi ≤ hi') : HouseO lo' hi' w vc vm vo vt h :=
  ⟨r.c.wide hl hh, r.m.wide hl hh, r.o.wide hl hh, r.t.wide hl hh, r.scm, r.sco, r.sct, r.smo, r.smt, r.sot⟩
/-- the numbers of its slices are not above the greatest length -/
structure HouseB (h : HD) (N : Nat) : Prop where
  n : h.n ≤ N
  ms : h.ms.length ≤ N
  os : h.os.length ≤ N
  ts : h.ts.length ≤ N
theorem HouseO.read {lo hi : Nat} {w : World} {vc vm vo vt : Value} {h : HD} (r : HouseO lo hi w vc vm vo vt h) (b : HouseB h 1048576) : HouseR w vc vm vo vt h :=
  ⟨r.c.recs (by have := b.n; omega), r.m.ints (by have := b.ms; omega), r.o.ints (by have := b.os; omega), r.t.ints (by have := b.ts; omega)⟩
/-- how many places the laws' marks write -/
def HD.bulk (h : HD) : Nat := h.n * 3 + h.ms.length + h.os.length + h.ts.length
/-- a house with the laws' marks from k on -/
def HD.marked (h : HD) (k : Int) : HD :=
  ⟨h.n, seqL k (h.n * 3), seqL (k + ((h.n * 3 : Nat) : Int)) h.ms.length, seqL (k + ((h.n * 3 : Nat) : Int) + ((h.ms.length : Nat) : Int)) h.os.length, seqL (k + ((h.n * 3 : Nat) : Int) + ((h.ms.length : Nat) : Int) + ((h.os.length : Nat) : Int)) h.ts.length, h.sent, h.day⟩
def HD.size (h : HD) : Nat := h.n + h.ms.length + h.os.length + h.ts.length
theorem bulk_le {h : HD} (b : HouseB h 1048576) : h.bulk ≤ 6291456 := by have := b.n; have := b.ms; have := b.os; have := b.ts; unfold HD.bulk; omega
end Go.Proofs.Ytlipfkalehikkaa

/- What depends on a bad copy, as a list. -/
namespace Go.Proofs.Ytlipfkalehikkaa
open Go.ChangeShapes Go.WideShapes Go.ChangeAt Go.RowKit

def affHit (xs ms : List Int) (bad since : Int) (L : List Int) (k : Nat) : Bool := ((k : Int) == bad) || (decide (since ≤ nth ms k) && decide (cP xs k ∈ L))
def affTo (xs ms : List Int) (bad since : Int) : Nat → List Int
  | 0 => []
  | k + 1 => if affHit xs ms bad since (affTo xs ms bad since k) k = true then affTo xs ms bad since k ++ [(k : Int)] else affTo xs ms bad since k
def affected (n : Nat) (xs ms : List Int) (bad since : Int) : List Int :=
  if daysOk n xs ms = true ∧ inB bad 0 ((n : Int) - 1) = true ∧ inB since 0 10000 = true then affTo xs ms bad since n else []
theorem affTo_yes {xs ms : List Int} {bad since : Int} {k : Nat} (h : affHit xs ms bad since (affTo xs ms bad since k) k = true) : affTo xs ms bad since (k + 1) = affTo xs ms bad since k ++ [(k : Int)] := by
  simp only [affTo]; rw [if_pos h]
theorem affTo_no {xs ms : List Int} {bad since : Int} {k : Nat} (h : affHit xs ms bad since (affTo xs ms bad since k) k = false) : affTo xs ms bad since (k + 1) = affTo xs ms bad since k := by
  simp only [affTo]; rw [if_neg (by simp [h])]
theorem affTo_len (xs ms : List Int) (bad since : Int) : ∀ k, (affTo xs ms bad since k).length ≤ k
  | 0 => by simp [affTo]
  | k + 1 => by
    have := affTo_len xs ms bad since k
    simp only [affTo]
    split
    · simp; omega
    · omega
theorem affTo_mem {xs ms : List Int} {bad since : Int} : ∀ {k : Nat} {x : Int}, x ∈ affTo xs ms bad since k → 0 ≤ x ∧ x < k
  | 0, x, h => by simp [affTo] at h
  | k + 1, x, h => by
    simp only [affTo] at h
    split at h
    · rcases List.mem_append.1 h with h | h
      · have := affTo_mem h; omega
      · simp at h; omega
    · have := affTo_mem h; omega
theorem affected_1 {n : Nat} {xs ms : List Int} {bad since : Int} (h : daysOk n xs ms = false) : affected n xs ms bad since = [] := if_neg (by simp [h])
theorem affected_2 {n : Nat} {xs ms : List Int} {bad since : Int} (h : inB bad 0 ((n : Int) - 1) = false) : affected n xs ms bad since = [] := if_neg (by simp [h])
theorem affected_3 {n : Nat} {xs ms : List Int} {bad since : Int} (h : inB since 0 10000 = false) : affected n xs ms bad since = [] := if_neg (by simp [h])
theorem affected_t {n : Nat} {xs ms : List Int} {bad since : Int} (h1 : daysOk n xs ms = true) (h2 : inB bad 0 ((n : Int) - 1) = true) (h3 : inB since 0 10000 = true) : affected n xs ms bad since = affTo xs ms bad since n := if_pos ⟨h1, h2, h3⟩
theorem affected_len (n : Nat) (xs ms : List Int) (bad since : Int) : (affected n xs ms bad since).length ≤ 12 := by
  unfold affected
  split
  · rename_i h
    have := affTo_len xs ms bad since n
    have := chainOk_n (daysOk_chain h.1).1
    omega
  · simp
theorem affected_mem {n : Nat} {xs ms : List Int} {bad since x : Int} (h : x ∈ affected n xs ms bad since) : 0 ≤ x ∧ x < n := by
  unfold affected at h
  split at h
  · exact affTo_mem h
  · simp at h
end Go.Proofs.Ytlipfkalehikkaa

/- The walk of the laws' test whether a list holds a number. -/
namespace Go.Proofs.Ytlipfkalehikkaa
open Go.ChangeShapes Go.WideShapes Go.ChangeAt Go.RowKit
theorem has_any (v : Value) (xs : List Int) (n : Int) (w : World) (h : Ints w v xs) : Calls Try.prog 11 #[v, .int .i64 n] w fun e w' => e = .returned (.bool (decide (n ∈ xs))) ∧ w = w' := by
  obtain ⟨hl, ad, cap, rfl, hc⟩ := h
  go_enter Try.func11, Try.ntmps11
  go_wp2_with fail
  go_loop [5] (fun i => ∃ k : Nat, k ≤ xs.length ∧ i = .int .i64 k ∧ Hid (n ∉ xs.take k)) (fun i => xs.length - (intOf i).toNat)
  case atStart => exact ⟨0, Nat.zero_le _, rfl, by simp [Hid]⟩
  case round =>
    obtain ⟨k, hk, rfl, hx⟩ := hrel
    by_cases hlt : k < xs.length
    · obtain ⟨b, o, rfl, hcell⟩ := hc k hlt
      clear hc
      by_cases heq : nth xs k = n
      · have hb : (nth xs k == n) = true := by simp [heq]
        have H := Lib.hid (show n ∈ xs from heq ▸ nth_mem xs k hlt)
        clear heq
        go_wp2
        go_ret
        exact ⟨ret_bool (by simp [H.out]), rfl⟩
      · have hb : (nth xs k == n) = false := by simp [heq]
        have H := Lib.hid (show n ∉ xs.take (k + 1) by rw [take_nth xs k hlt]; have := hx.out; simp only [List.mem_append, List.mem_singleton, not_or]; exact ⟨this, fun e => heq e.symm⟩)
        clear heq
        go_wp2
        go_round
        case rel => exact ⟨k + 1, by omega, by go_num, H.out⟩
        case measure => simp [intOf]; omega
    · have H := Lib.hid (show n ∉ xs by have := hx.out; rwa [List.take_of_length_le (by omega)] at this)
      clear hc
      go_wp2
      go_ret
      exact ⟨ret_bool (by simp [H.out]), rfl⟩

end Go.Proofs.Ytlipfkalehikkaa

/- A region that draws its order, whose operations read and whose callees make memory at most: one walk in the text's order. -/
namespace Go.Proofs.Ytlipfkalehikkaa
open Go.ChangeShapes Go.WideShapes Go.ChangeAt Go.RowKit

/-- a world in which all that was there in W is as it was -/
def After (W : World) : Type := { x : World // Below W.heap.size W x }
instance instNonemptyAfter (W : World) : Nonempty (After W) := ⟨⟨W, bref W⟩⟩
def After.w {W : World} (u : After W) : World := u.val
theorem After.b {W : World} (u : After W) : Below W.heap.size W u.w := u.property
theorem After.cell {W : World} (u : After W) {b o : Nat} {x : Value} (h : W.cell? ⟨b, o, none⟩ = some x) : u.w.cell? ⟨b, o, none⟩ = some x :=
  (u.b.cell (p := ⟨b, o, none⟩) (World.block_lt_of_cell? W _ h)).trans h
theorem wp_region_after {P : Program} {id : Nat} {Q : Exit → Act → World → Prop} {a : Act} {W : World} {l : List Oper} (hm : P.follows .mixedOrders = true) (hB : Region.lexB .any l.toArray = true)
    (h : wpQuiet P l.toArray (fun w' => ∃ u : After W, w' = u.w) (fun a' => ∀ w', (∃ u : After W, w' = u.w) → Q .normal a' w') l a) : (Code.region id l.toArray true).wp P Q a W :=
  wp_region_quiet (C := fun w' => ∃ u : After W, w' = u.w) hm hB ⟨⟨_, bdrew (bref W)⟩, rfl⟩ (by simpa using h)
theorem after_call {P : Program} {f : FuncId} {args : Array Value} {W : World} {u : After W} {v : Value} (h : Calls P f args u.w fun e w' => e = .returned v ∧ Below u.w.heap.size u.w w') :
    Calls P f args u.w fun e w'' => e = .returned v ∧ ∃ u' : After W, w'' = u'.w :=
  h.mono fun _ w' ⟨he, hb⟩ => ⟨he, ⟨w', bnext u.b hb⟩, rfl⟩
theorem after_same {P : Program} {f : FuncId} {args : Array Value} {W : World} {u : After W} {v : Value} (h : Calls P f args u.w fun e w' => e = .returned v ∧ u.w = w') :
    Calls P f args u.w fun e w'' => e = .returned v ∧ ∃ u' : After W, w'' = u'.w :=
  h.mono fun _ _ ⟨he, hb⟩ => ⟨he, u, hb.symm⟩
end Go.Proofs.Ytlipfkalehikkaa

/- The walks of the laws' marks: markIntS, heldIntS. -/
namespace Go.Proofs.Ytlipfkalehikkaa
open Go.ChangeShapes Go.WideShapes Go.ChangeAt Go.RowKit

end Go.Proofs.Ytlipfkalehikkaa

/- The walks of the laws' marks: markCopyS, heldCopyS. -/
namespace Go.Proofs.Ytlipfkalehikkaa
open Go.ChangeShapes Go.WideShapes Go.ChangeAt Go.RowKit

end Go.Proofs.Ytlipfkalehikkaa
