/- A drawn lot can be made good by adding: the plain law. -/
import Derived.Test.YtkdpfjaebhgnoaaMoreFn
import Derived.Test.YtkdpfjaebhgnoaaAverage
namespace Go.Proofs.Ytkdpfjaebhgnoaa
open Go.ChangeShapes Go.WideShapes Go.ChangeAt Go.RowKit

/-- a lot as it is drawn -/
structure LotD (nm : Int) (xs : List Int) : Prop where
  n0 : 50 ≤ nm
  n1 : nm ≤ 1000
  s0 : 1 ≤ shortLimit nm
  s1 : shortLimit nm ≤ 30
  s2 : 2 * shortLimit nm ≤ nm
  l0 : 1 ≤ xs.length
  l1 : xs.length ≤ 12
  each : ∀ k, k < xs.length → nm - 2 * shortLimit nm ≤ nth xs k ∧ nth xs k ≤ nm + shortLimit nm + 5
theorem lotOk_of {nm : Int} {xs : List Int} (h0 : 10 ≤ nm) (h1 : nm ≤ 10000) (h2 : 1 ≤ xs.length) (h3 : xs.length ≤ 30) (h : ∀ k, k < xs.length → 0 ≤ nth xs k ∧ nth xs k ≤ 20000) : lotOk nm xs = true := by
  unfold lotOk
  simp only [Bool.and_eq_true]
  refine ⟨⟨by simp [inB]; omega, by simp [inB]; omega⟩, ?_⟩
  rw [List.all_eq_true]
  intro x hx
  obtain ⟨k, hk, rfl⟩ := List.getElem_of_mem hx
  have := h k hk
  simp [nth, hk] at this
  simp [inB]; omega
theorem LotD.okAt {nm : Int} {xs : List Int} (h : LotD nm xs) {n : Int} (h0 : 0 ≤ n) (h1 : n ≤ 100) : lotOk nm (shiftL xs n) = true := by
  obtain ⟨n0, n1, s0, s1, s2, l0, l1, he⟩ := h
  refine lotOk_of (by omega) (by omega) (by rw [shiftL_len]; omega) (by rw [shiftL_len]; omega) fun k hk => ?_
  rw [shiftL_len] at hk
  have := he k hk
  rw [shiftL_nth _ _ hk]
  omega
theorem sumTo_le {f g : Nat → Int} : ∀ n, (∀ k, k < n → f k ≤ g k) → sumTo f n ≤ sumTo g n
  | 0, _ => by simp [sumTo]
  | n + 1, h => by
    have := sumTo_le n (fun k hk => h k (by omega))
    have := h n (by omega)
    simp only [sumTo]; omega
theorem sumTo_const (c : Int) : ∀ n : Nat, sumTo (fun _ => c) n = c * n
  | 0 => by simp [sumTo]
  | n + 1 => by simp only [sumTo, sumTo_const c n]; rw [Int.natCast_add, Int.mul_add]; omega
theorem shortAt_bd (nm : Int) (xs : List Int) (t : Int) (k : Nat) : 0 ≤ shortAt nm xs t k ∧ shortAt nm xs t k ≤ 1 := by
  unfold shortAt; split <;> omega
theorem short_sum (nm : Int) (xs : List Int) (t : Int) (n : Nat) : 0 ≤ sumTo (shortAt nm xs t) n ∧ sumTo (shortAt nm xs t) n ≤ n := by
  have a := sumTo_le (f := fun _ => 0) (g := shortAt nm xs t) n (fun k _ => (shortAt_bd nm xs t k).1)
  have b := sumTo_le (f := shortAt nm xs t) (g := fun _ => 1) n (fun k _ => (shortAt_bd nm xs t k).2)
  rw [sumTo_const] at a b
  omega
theorem count_is {nm : Int} {xs : List Int} (h : lotOk nm xs = true) {t : Int} (h0 : 0 ≤ t) (h1 : t ≤ 3) : countShort nm xs t = sumTo (shortAt nm xs t) xs.length := if_pos ⟨h, by simp [inB]; omega⟩
theorem count_bd {nm : Int} {xs : List Int} {t : Int} : -1 ≤ countShort nm xs t ∧ countShort nm xs t ≤ xs.length := by
  have := short_sum nm xs t xs.length
  unfold countShort; split <;> omega
theorem count_anti {nm : Int} {xs : List Int} (h : lotOk nm xs = true) (hs : 0 ≤ shortLimit nm) {a b : Int} (h0 : 0 ≤ a) (hab : a ≤ b) (h1 : b ≤ 3) : countShort nm xs b ≤ countShort nm xs a := by
  rw [count_is h h0 (by omega), count_is h (by omega) h1]
  refine sumTo_le _ fun k _ => ?_
  have := Int.mul_le_mul_of_nonneg_right hab hs
  unfold shortAt
  split <;> split <;> omega
theorem LotD.goodAt {nm : Int} {xs : List Int} (h : LotD nm xs) : lotGood nm (shiftL xs (2 * shortLimit nm)) = true := by
  have hok := h.okAt (n := 2 * shortLimit nm) (by have := h.s0; omega) (by have := h.s1; omega)
  obtain ⟨n0, n1, s0, s1, s2, l0, l1, he⟩ := h
  have hl := shiftL_len xs (2 * shortLimit nm)
  have hk : ∀ k, k < (shiftL xs (2 * shortLimit nm)).length → nm ≤ nth (shiftL xs (2 * shortLimit nm)) k := fun k hk => by
    rw [hl] at hk
    rw [shiftL_nth _ _ hk]
    have := he k hk
    omega
  have hs : ∀ t : Int, 0 ≤ t → ∀ k, k < (shiftL xs (2 * shortLimit nm)).length → shortAt nm (shiftL xs (2 * shortLimit nm)) t k ≤ 0 := fun t ht k hk' => by
    have := hk k hk'
    have := Int.mul_nonneg ht (show 0 ≤ shortLimit nm by omega)
    unfold shortAt
    rw [if_neg (by omega)]
    exact Int.le_refl _
  have hc : ∀ t : Int, 0 ≤ t → t ≤ 3 → countShort nm (shiftL xs (2 * shortLimit nm)) t = 0 := fun t h0 h1 => by
    rw [count_is hok h0 h1]
    have a := sumTo_le (g := fun _ => 0) (f := shortAt nm (shiftL xs (2 * shortLimit nm)) t) _ (hs t h0)
    have b := (short_sum nm (shiftL xs (2 * shortLimit nm)) t (shiftL xs (2 * shortLimit nm)).length).1
    rw [sumTo_const] at a
    omega
  unfold lotGood
  simp only [Bool.and_eq_true, decide_eq_true_eq, beq_iff_eq]
  refine ⟨hok, ?_, ?_, hc 2 (by omega) (by omega)⟩
  · have a := sumTo_le (f := fun _ => nm) (g := nth (shiftL xs (2 * shortLimit nm))) _ hk
    rw [sumTo_const] at a
    unfold sumI
    exact a
  · rw [hc 1 (by omega) (by omega)]
    omega
theorem least_find {nm : Int} {xs : List Int} (h : LotD nm xs) : ∀ (d n : Nat), (n : Int) + d = 2 * shortLimit nm → (∀ j : Nat, j < n → lotGood nm (shiftL xs j) = false) →
    ∃ m : Nat, (m : Int) ≤ 2 * shortLimit nm ∧ leastFrom nm xs (20002 - n) n = m ∧ lotGood nm (shiftL xs m) = true ∧ ∀ j : Nat, j < m → lotGood nm (shiftL xs j) = false
  | 0, n, hn, hj => by
    have hg := h.goodAt
    rw [show 2 * shortLimit nm = (n : Int) by omega] at hg
    have := h.s1
    exact ⟨n, by omega, leastFrom_yes (by omega) hg, hg, hj⟩
  | d + 1, n, hn, hj => by
    have := h.s1
    cases hg : lotGood nm (shiftL xs n) with
    | true => exact ⟨n, by omega, leastFrom_yes (by omega) hg, hg, hj⟩
    | false =>
      obtain ⟨m, h1, h2, h3⟩ := least_find h d (n + 1) (by omega) (fun j hj' => by
        rcases Nat.lt_or_ge j n with q | q
        · exact hj j q
        · obtain rfl : j = n := by omega
          exact hg)
      exact ⟨m, h1, by rw [leastFrom_next (by omega) (h.okAt (by omega) (by omega)) hg]; exact h2, h3⟩
theorem LotD.least {nm : Int} {xs : List Int} (h : LotD nm xs) : ∃ m : Nat, m ≤ 60 ∧ leastMore nm xs = m ∧ lotGood nm (shiftL xs m) = true ∧ ∀ j : Nat, j < m → lotGood nm (shiftL xs j) = false := by
  have := h.s0; have := h.s1
  obtain ⟨m, h1, h2, h3⟩ := least_find h (2 * shortLimit nm).toNat 0 (by omega) (fun j hj => absurd hj (by omega))
  exact ⟨m, by omega, h2, h3⟩
theorem sumI_bd {xs : List Int} {c : Int} (h : ∀ k, k < xs.length → 0 ≤ nth xs k ∧ nth xs k ≤ c) : 0 ≤ sumI xs ∧ sumI xs ≤ c * xs.length := by
  have a := sumTo_le (f := fun _ => 0) (g := nth xs) xs.length (fun k hk => (h k hk).1)
  have b := sumTo_le (f := nth xs) (g := fun _ => c) xs.length (fun k hk => (h k hk).2)
  rw [sumTo_const] at a b
  unfold sumI
  omega
theorem frac_ge {nm : Int} {t b : Nat} (hb0 : 1 ≤ b) (hb : b ≤ 30) (ht : t ≤ 1000000) (h0 : 0 ≤ nm) (h : nm * b ≤ t) : (fracN t b).2.2 = true ∧ nm * (fracN t b).2.1 ≤ (fracN t b).1 ∧ 0 ≤ (fracN t b).1 ∧ (fracN t b).1 ≤ 1000000 ∧ 1 ≤ (fracN t b).2.1 ∧ (fracN t b).2.1 ≤ 30 := by
  have hg := Nat.gcd_pos_of_pos_right t (show 0 < b by omega)
  obtain ⟨x, hx⟩ := Nat.gcd_dvd_left t b
  obtain ⟨y, hy⟩ := Nat.gcd_dvd_right t b
  have hco : Nat.gcd (t / Nat.gcd t b) (b / Nat.gcd t b) = 1 := Nat.gcd_div_gcd_div_gcd_of_pos_right (by omega)
  generalize hgd : Nat.gcd t b = g at *
  have e1 : t / g = x := by rw [hx]; exact Nat.mul_div_cancel_left _ hg
  have e2 : b / g = y := by rw [hy]; exact Nat.mul_div_cancel_left _ hg
  rw [e1, e2] at hco
  have hxt : x ≤ t := by rw [hx]; exact Nat.le_mul_of_pos_left _ hg
  have hyb : y ≤ b := by rw [hy]; exact Nat.le_mul_of_pos_left _ hg
  have hy0 : 1 ≤ y := by
    rcases Nat.eq_zero_or_pos y with q | q
    · subst q; simp at hy; omega
    · exact q
  have hok : fracOk x y = true := by
    unfold fracOk
    simp only [Bool.and_eq_true, beq_iff_eq]
    refine ⟨by simp [inB]; omega, by simp [inB]; omega, by rw [hco]; rfl⟩
  have e : fracN t b = ((x : Int), (y : Int), true) := by
    rw [fracN_t (by rw [hgd, e1, e2]; exact hok), hgd, e1, e2]
  rw [e]
  refine ⟨rfl, ?_, by simp only []; omega, by simp only []; omega, by simp only []; omega, by simp only []; omega⟩
  show nm * (y : Int) ≤ (x : Int)
  obtain ⟨m, rfl⟩ := Int.eq_ofNat_of_zero_le h0
  have h' : m * b ≤ t := by exact_mod_cast h
  have : g * (m * y) ≤ g * x := by rw [← hx, Nat.mul_left_comm, ← hy]; exact h'
  have := Nat.le_of_mul_le_mul_left this hg
  exact_mod_cast this
theorem good_avg {nm : Int} {xs : List Int} (h : lotGood nm xs = true) : (avgN nm xs).2.2 = true ∧ nm * (avgN nm xs).2.1 ≤ (avgN nm xs).1 ∧ 0 ≤ (avgN nm xs).1 ∧ (avgN nm xs).1 ≤ 1000000 ∧ 1 ≤ (avgN nm xs).2.1 ∧ (avgN nm xs).2.1 ≤ 30 := by
  have hok := lotGood_ok h
  obtain ⟨a, b, c, d, e⟩ := lotOk_in hok
  have hs := sumI_bd e
  have hle : nm * xs.length ≤ sumI xs := by
    simp only [lotGood, Bool.and_eq_true, decide_eq_true_eq] at h
    exact h.2.1
  have e : avgN nm xs = fracN (sumI xs).toNat xs.length := if_pos hok
  rw [e]
  exact frac_ge (by omega) (by omega) (by omega) (by omega) (by omega)
end Go.Proofs.Ytkdpfjaebhgnoaa
