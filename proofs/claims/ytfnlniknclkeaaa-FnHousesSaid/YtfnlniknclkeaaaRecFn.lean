/- What is affected, and what depends: the plain law of recalls. -/
import Derived.Test.YtfnlniknclkeaaaGA
import Derived.Test.YtfnlniknclkeaaaGB
import Derived.Test.YtfnlniknclkeaaaFirstGood
namespace Go.Proofs.Ytfnlniknclkeaaa
open Go.ChangeShapes Go.WideShapes Go.ChangeAt Go.RowKit

theorem upFrom_fuel {n : Nat} {xs : List Int} (h : chainOk n xs = true) : ∀ (f g : Nat) (k : Int), k < f → k < g → k < n → upFrom xs f k = upFrom xs g k
  | 0, g, k, hf, _, _ => by rw [upFrom_no (by omega), upFrom_no (by omega)]
  | f + 1, 0, k, _, hg, _ => by rw [upFrom_no (by omega), upFrom_no (by omega)]
  | f + 1, g + 1, k, hf, hg, hn => by
    by_cases h0 : 0 ≤ k
    · have := chainOk_p h (k := k.toNat) (by omega)
      rw [upFrom_yes h0, upFrom_yes h0, upFrom_fuel h f g _ (by omega) (by omega) (by omega)]
    · rw [upFrom_no h0, upFrom_no h0]
theorem upL_step {n : Nat} {xs : List Int} (h : chainOk n xs = true) {k : Nat} (hk : k < n) : upL xs k = (k : Int) :: upL xs (cP xs k) := by
  have := chainOk_n h
  have := chainOk_p h hk
  show upFrom xs (11 + 1) k = _
  rw [upFrom_yes (by omega)]
  exact congrArg _ (upFrom_fuel h _ _ _ (by simp; omega) (by simp; omega) (by simp; omega))
theorem dep_iff {n : Nat} {xs : List Int} (h : chainOk n xs = true) {k : Nat} (hk : k < n) (b : Int) : depends n xs k b = true ↔ b = k ∨ b ∈ upL xs (cP xs k) := by
  unfold depends
  rw [decide_eq_true_eq, aboveL_t h (by simp [inB]; omega), upL_step h hk, List.mem_cons]
theorem affTo_keep (xs ms : List Int) (bad since : Int) {x : Int} {k : Nat} (hx : x < k) : ∀ d, (x ∈ affTo xs ms bad since (k + d) ↔ x ∈ affTo xs ms bad since k)
  | 0 => Iff.rfl
  | d + 1 => by
    rw [← affTo_keep xs ms bad since hx d]
    show x ∈ affTo xs ms bad since ((k + d) + 1) ↔ _
    simp only [affTo]
    split
    · rw [List.mem_append]
      constructor
      · rintro (q | q)
        · exact q
        · simp at q; omega
      · exact .inl
    · rfl
theorem affTo_hit {xs ms : List Int} {bad since : Int} {k : Nat} : (k : Int) ∈ affTo xs ms bad since (k + 1) ↔ affHit xs ms bad since (affTo xs ms bad since k) k = true := by
  cases h : affHit xs ms bad since (affTo xs ms bad since k) k with
  | true => rw [affTo_yes h]; simp
  | false =>
    rw [affTo_no h]
    simp only [Bool.false_eq_true, iff_false]
    intro q
    have := affTo_mem q
    omega
theorem aff_iff {n : Nat} {xs ms : List Int} {bad since : Int} (h : chainOk n xs = true) {k : Nat} (hk : k < n) :
    (k : Int) ∈ affTo xs ms bad since n ↔ (k : Int) = bad ∨ (since ≤ nth ms k ∧ cP xs k ∈ affTo xs ms bad since n) := by
  have hp := chainOk_p h hk
  have e1 := affTo_keep xs ms bad since (x := (k : Int)) (k := k + 1) (by omega) (n - (k + 1))
  have e2 := affTo_keep xs ms bad since (x := cP xs k) (k := k) (by omega) (n - k)
  rw [show k + 1 + (n - (k + 1)) = n by omega] at e1
  rw [show k + (n - k) = n by omega] at e2
  rw [e1, e2, affTo_hit]
  unfold affHit
  simp
/-- a valid chain with days, one of its copies, and a day -/
structure RecL (n : Nat) (xs ms : List Int) (b s : Int) : Prop where
  ok : daysOk n xs ms = true
  b0 : 0 ≤ b
  b1 : b < n
  s0 : 0 ≤ s
  s1 : s ≤ 10000
section
variable {n : Nat} {xs ms : List Int} {b s : Int}
theorem RecL.at (h : RecL n xs ms b s) {t : Int} (h0 : 0 ≤ t) (h1 : t ≤ s) : RecL n xs ms b t := ⟨h.ok, h.b0, h.b1, h0, by have := h.s1; omega⟩
theorem RecL.aff (h : RecL n xs ms b s) : affected n xs ms b s = affTo xs ms b s n := by
  have := h.b0; have := h.b1; have := h.s0; have := h.s1
  exact affected_t h.ok (by simp [inB]; omega) (by simp [inB]; omega)
theorem RecL.iff (h : RecL n xs ms b s) {k : Nat} (hk : k < n) : (k : Int) ∈ affected n xs ms b s ↔ (k : Int) = b ∨ (s ≤ nth ms k ∧ cP xs k ∈ affected n xs ms b s) := by
  rw [h.aff]; exact aff_iff (daysOk_chain h.ok).1 hk
theorem RecL.neg (_h : RecL n xs ms b s) {x : Int} (hx : x < 0) : ¬ x ∈ affected n xs ms b s := fun q => by have := affected_mem q; omega
theorem RecL.bad (h : RecL n xs ms b s) : b ∈ affected n xs ms b s := by
  obtain ⟨k, rfl⟩ := Int.eq_ofNat_of_zero_le h.b0
  have := h.b1
  exact (h.iff (by omega)).2 (.inl rfl)
theorem RecL.mono (h : RecL n xs ms b s) {t : Int} (h0 : 0 ≤ t) (h1 : t ≤ s) : ∀ (m k : Nat), k < m → k < n → (k : Int) ∈ affected n xs ms b s → (k : Int) ∈ affected n xs ms b t
  | 0, k, hm, _, _ => absurd hm (by omega)
  | m + 1, k, hm, hk, hq => by
    rcases (h.iff hk).1 hq with q | ⟨q1, q2⟩
    · exact ((h.at h0 h1).iff hk).2 (.inl q)
    · have hp := chainOk_p (daysOk_chain h.ok).1 hk
      rcases Int.lt_or_le (cP xs k) 0 with z | z
      · exact absurd q2 (h.neg z)
      · obtain ⟨p, hpe⟩ := Int.eq_ofNat_of_zero_le z
        rw [hpe] at q2
        refine ((h.at h0 h1).iff hk).2 (.inr ⟨by omega, ?_⟩)
        rw [hpe]
        exact h.mono h0 h1 m p (by omega) (by omega) q2
theorem RecL.dep (h : RecL n xs ms b s) : ∀ (m k : Nat), k < m → k < n → ((k : Int) ∈ affected n xs ms b 0 ↔ depends n xs k b = true)
  | 0, k, hm, _ => absurd hm (by omega)
  | m + 1, k, hm, hk => by
    have hc := (daysOk_chain h.ok).1
    have hp := chainOk_p hc hk
    rw [(h.at (Int.le_refl 0) h.s0).iff hk, dep_iff hc hk]
    have hd := daysOk_day h.ok hk
    rcases Int.lt_or_le (cP xs k) 0 with z | z
    · have e : upL xs (cP xs k) = [] := upFrom_no (by omega)
      rw [e]
      have := (h.at (Int.le_refl 0) h.s0).neg z
      simp only [this, List.not_mem_nil, and_false, or_false]
      omega
    · obtain ⟨p, hpe⟩ := Int.eq_ofNat_of_zero_le z
      have ih := h.dep m p (by omega) (by omega)
      rw [hpe, ih]
      unfold depends
      rw [aboveL_t hc (by simp [inB]; omega), decide_eq_true_eq]
      simp only [hd.1, true_and]
      constructor
      · rintro (q | q)
        · exact .inl q.symm
        · exact .inr q
      · rintro (q | q)
        · exact .inl q.symm
        · exact .inr q
theorem RecL.depOf (h : RecL n xs ms b s) {k : Nat} (hk : k < n) : decide ((k : Int) ∈ affected n xs ms b 0) = depends n xs k b := by
  have := h.dep (k + 1) k (by omega) hk
  cases q : depends n xs k b with
  | true => exact decide_eq_true (this.2 q)
  | false => exact decide_eq_false fun z => by rw [this.1 z] at q; cases q
theorem RecL.count (h : RecL n xs ms b s) : ((affected n xs ms b 0).length : Int) = countDep n xs b n := by
  have h0 := h.at (Int.le_refl 0) h.s0
  have hc := (daysOk_chain h.ok).1
  rw [h0.aff]
  have key : ∀ m : Nat, m ≤ n → ((affTo xs ms b 0 m).length : Int) = countDep n xs b m := by
    intro m
    induction m with
    | zero => intro _; rfl
    | succ m ih =>
      intro hm
      have ih := ih (by omega)
      have e : countDep n xs b (m + 1) = countDep n xs b m + (if depends n xs m b = true then 1 else 0) := rfl
      have e1 := affTo_keep xs ms b 0 (x := (m : Int)) (k := m + 1) (by omega) (n - (m + 1))
      rw [show m + 1 + (n - (m + 1)) = n by omega] at e1
      have hd := h.dep (m + 1) m (by omega) (by omega)
      rw [h0.aff, e1, affTo_hit] at hd
      rw [e]
      cases q : affHit xs ms b 0 (affTo xs ms b 0 m) m with
      | true => rw [affTo_yes q, if_pos (hd.1 q)]; simp; omega
      | false => rw [affTo_no q, if_neg (by rw [← hd, q]; simp)]; omega
  exact key n (Nat.le_refl _)
/-- what the law asks of one copy -/
theorem RecL.each (h : RecL n xs ms b s) {t : Int} (h0 : 0 ≤ t) (h1 : t ≤ s) {k : Nat} (hk : k < n) (hq : (k : Int) ∈ affected n xs ms b s) :
    (k : Int) ∈ affected n xs ms b t ∧ (k : Int) ∈ affected n xs ms b 0 ∧ depends n xs k b = true ∧ ((k : Int) = b ∨ s ≤ nth ms k) := by
  have a := h.mono (Int.le_refl 0) h.s0 (k + 1) k (by omega) hk hq
  refine ⟨h.mono h0 h1 (k + 1) k (by omega) hk hq, a, (h.dep (k + 1) k (by omega) hk).1 a, ?_⟩
  rcases (h.iff hk).1 hq with q | q
  · exact .inl q
  · exact .inr q.1
theorem firstOut_cases (A : List Int) : ∀ L : List Int, (∃ g ∈ L, firstOut A L = g ∧ ¬ g ∈ A) ∨ firstOut A L = -1
  | [] => .inr rfl
  | x :: L => by
    simp only [firstOut]
    split
    · rcases firstOut_cases A L with ⟨g, h1, h2, h3⟩ | q
      · exact .inl ⟨g, List.mem_cons_of_mem _ h1, h2, h3⟩
      · exact .inr q
    · exact .inl ⟨x, List.mem_cons_self, rfl, by assumption⟩
theorem RecL.first (h : RecL n xs ms b s) {k : Nat} (hk : k < n) :
    (firstGood n xs ms k b s < 0 ∨ (0 ≤ firstGood n xs ms k b s ∧ ¬ firstGood n xs ms k b s ∈ affected n xs ms b s ∧ depends n xs k (firstGood n xs ms k b s) = true)) ∧ ((k : Int) ∈ affected n xs ms b s ∨ firstGood n xs ms k b s = k) := by
  have hc := (daysOk_chain h.ok).1
  have hne : affected n xs ms b s ≠ [] := fun e => by have := h.bad; rw [e] at this; simp at this
  have e : firstGood n xs ms k b s = firstOut (affected n xs ms b s) (aboveL n xs k) := by unfold firstGood; rw [if_neg hne]
  rw [e]
  constructor
  · rcases firstOut_cases (affected n xs ms b s) (aboveL n xs k) with ⟨g, h1, h2, h3⟩ | q
    · rw [h2]
      have := aboveL_mem h1
      exact .inr ⟨this.2.1, h3, decide_eq_true h1⟩
    · rw [q]; exact .inl (by omega)
  · by_cases q : (k : Int) ∈ affected n xs ms b s
    · exact .inl q
    · right
      rw [aboveL_t hc (by simp [inB]; omega), upL_step hc hk]
      simp only [firstOut]
      rw [if_neg q]
end
end Go.Proofs.Ytfnlniknclkeaaa
