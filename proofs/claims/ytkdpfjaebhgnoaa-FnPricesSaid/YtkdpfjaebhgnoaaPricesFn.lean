/- Prices of drawn goods: the plain law. -/
import Derived.Test.YtkdpfjaebhgnoaaPriceAll
namespace Go.Proofs.Ytkdpfjaebhgnoaa
open Go.ChangeShapes Go.WideShapes Go.ChangeAt Go.RowKit

theorem up_near {n : Int} : 2 * (1000 * priceUp n - n) ≤ 1000 ∧ 2 * (n - 1000 * priceUp n) ≤ 1000 := by
  unfold priceUp; split <;> omega
theorem up_thousand (p : Int) : priceUp (1000 * p) = p := by
  unfold priceUp; split <;> omega
theorem halve_props {m p : Int} : ∀ (f : Nat) (l h : Int), h - l ≤ f → 0 ≤ l → l ≤ h → h ≤ 100000 → priceOf l p ≤ m → (h < 100000 → m < priceOf (h + 1) p) →
    l ≤ halve m p f l h ∧ halve m p f l h ≤ h ∧ priceOf (halve m p f l h) p ≤ m ∧ (halve m p f l h < 100000 → m < priceOf (halve m p f l h + 1) p)
  | 0, l, h, hf, h0, h1, h2, h3, h4 => by
    obtain rfl : l = h := by omega
    simp only [halve]
    exact ⟨by omega, by omega, h3, h4⟩
  | f + 1, l, h, hf, h0, h1, h2, h3, h4 => by
    by_cases hlt : l < h
    · by_cases hp : priceOf ((l + h + 1) / 2) p ≤ m
      · rw [halve_yes hlt hp]
        have := halve_props f ((l + h + 1) / 2) h (by omega) (by omega) (by omega) h2 hp h4
        exact ⟨by omega, this.2.1, this.2.2⟩
      · rw [halve_no hlt hp]
        have := halve_props f l ((l + h + 1) / 2 - 1) (by omega) h0 (by omega) (by omega) h3 (fun _ => by rw [show (l + h + 1) / 2 - 1 + 1 = (l + h + 1) / 2 by omega]; omega)
        exact ⟨this.1, by omega, this.2.2⟩
    · rw [halve_end (by omega)]
      obtain rfl : l = h := by omega
      exact ⟨by omega, by omega, h3, h4⟩
theorem grams_props {m p : Int} (hp0 : 1 ≤ p) (hp1 : p ≤ 100000) (hm0 : 0 ≤ m) (hm1 : m ≤ 1000000) : 0 ≤ gramsFor m p ∧ gramsFor m p ≤ 100000 ∧ priceOf (gramsFor m p) p ≤ m ∧ (gramsFor m p < 100000 → m < priceOf (gramsFor m p + 1) p) := by
  have e : gramsFor m p = halve m p 100000 0 100000 := if_pos ⟨by simp [inB]; omega, by simp [inB]; omega⟩
  rw [e]
  refine halve_props 100000 0 100000 (by omega) (by omega) (by omega) (by omega) ?_ (by omega)
  rw [priceOf_in (by simp [inB]) (by simp [inB]; omega)]
  simp [priceUp]; omega
/-- weights as they are drawn -/
structure Goods (xs : List Int) (p : Int) : Prop where
  len : xs.length ≤ 7
  each : ∀ k, k < xs.length → 0 ≤ nth xs k ∧ nth xs k < 900
  p0 : 1 ≤ p
  p1 : p ≤ 4000
theorem Goods.price {xs : List Int} {p : Int} (h : Goods xs p) {k : Nat} (hk : k < xs.length) : priceOf (nth xs k) p = priceUp (nth xs k * p) := by
  have := h.each k hk; have := h.p0; have := h.p1
  exact priceOf_in (by simp [inB]; omega) (by simp [inB]; omega)
theorem Goods.price_bd {xs : List Int} {p : Int} (h : Goods xs p) {k : Nat} (hk : k < xs.length) : 0 ≤ nth xs k * p ∧ nth xs k * p ≤ 3600000 ∧ 0 ≤ priceOf (nth xs k) p ∧ priceOf (nth xs k) p ≤ 3600 ∧ 2 * (1000 * priceOf (nth xs k) p - nth xs k * p) ≤ 1000 ∧ 2 * (nth xs k * p - 1000 * priceOf (nth xs k) p) ≤ 1000 := by
  have a := h.each k hk; have := h.p0; have := h.p1
  have m0 := Int.mul_nonneg a.1 (show 0 ≤ p by omega)
  have m1 := Int.mul_le_mul (show nth xs k ≤ 900 by omega) h.p1 (by omega) (by omega)
  rw [h.price hk]
  have n := up_near (n := nth xs k * p)
  refine ⟨m0, by omega, ?_, ?_, n.1, n.2⟩ <;> (unfold priceUp; split <;> omega)
theorem Goods.sum {xs : List Int} {p : Int} (h : Goods xs p) : ∀ k, k ≤ xs.length → 0 ≤ sumTo (nth xs) k ∧ sumTo (nth xs) k ≤ 900 * k ∧ 0 ≤ sumTo (priceAt xs p) k ∧ 2 * (1000 * sumTo (priceAt xs p) k - sumTo (nth xs) k * p) ≤ 1000 * k ∧ 2 * (sumTo (nth xs) k * p - 1000 * sumTo (priceAt xs p) k) ≤ 1000 * k
  | 0, _ => by simp [sumTo]
  | k + 1, hk => by
    have ih := h.sum k (by omega)
    have a := h.each k (by omega)
    have b := h.price_bd (k := k) (by omega)
    have e : (sumTo (nth xs) k + nth xs k) * p = sumTo (nth xs) k * p + nth xs k * p := Int.add_mul _ _ _
    simp only [sumTo, priceAt]
    rw [e]
    omega
theorem Goods.all {xs : List Int} {p : Int} (h : Goods xs p) : priceOfAll xs p = sumTo (priceAt xs p) xs.length :=
  priceAll_t (by have := h.len; omega) (allTo_of fun k hk => decide_eq_true (h.price_bd hk).2.2.1)
theorem Goods.one {xs : List Int} {p : Int} (h : Goods xs p) : priceOf (sumI xs) p = priceUp (sumI xs * p) ∧ 0 ≤ priceOf (sumI xs) p ∧ priceOf (sumI xs) p ≤ 10000000 := by
  have a := h.sum _ (Nat.le_refl _); have := h.p0; have := h.p1; have := h.len
  have e : priceOf (sumI xs) p = priceUp (sumI xs * p) := priceOf_in (by unfold inB; rw [decide_eq_true_eq]; unfold sumI; omega) (by simp [inB]; omega)
  have m0 := Int.mul_nonneg (show 0 ≤ sumI xs from a.1) (show 0 ≤ p by omega)
  refine ⟨e, ?_, (priceOf_bd _ _).2⟩
  rw [e]
  unfold priceUp; split <;> omega
theorem Goods.loss {xs : List Int} {p : Int} (h : Goods xs p) : lossOf xs p = sumTo (priceAt xs p) xs.length - priceOf (sumI xs) p ∧ 2 * lossOf xs p ≤ xs.length + 1 ∧ 2 * (- lossOf xs p) ≤ xs.length + 1 := by
  have a := h.sum _ (Nat.le_refl _)
  have b := h.one
  have c := h.all
  have e : lossOf xs p = sumTo (priceAt xs p) xs.length - priceOf (sumI xs) p := by
    unfold lossOf
    rw [c, if_neg (by omega), if_neg (by omega)]
  have n := up_near (n := sumI xs * p)
  rw [e, b.1]
  refine ⟨rfl, ?_⟩
  unfold sumI at *
  omega
theorem Goods.tare {xs : List Int} {p : Int} (h : Goods xs p) {t : Int} (h0 : 0 ≤ t) : priceAfterTare (sumI xs + t) t p = priceOf (sumI xs) p := by
  have a := h.sum _ (Nat.le_refl _)
  unfold priceAfterTare
  rw [if_neg (by unfold sumI; omega), show sumI xs + t - t = sumI xs by omega]
theorem Goods.thousand {xs : List Int} {p : Int} (h : Goods xs p) : priceOf 1000 p = p := by
  have := h.p0; have := h.p1
  rw [priceOf_in (by simp [inB]) (by simp [inB]; omega), up_thousand]
end Go.Proofs.Ytkdpfjaebhgnoaa
