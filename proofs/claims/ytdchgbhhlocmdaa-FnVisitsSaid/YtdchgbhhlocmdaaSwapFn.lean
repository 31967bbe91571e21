/- Swapped places, and what was seen: the plain law. -/
import Derived.Test.YtdchgbhhlocmdaaVisFn
namespace Go.Proofs.Ytdchgbhhlocmdaa
open Go.ChangeShapes Go.WideShapes Go.ChangeAt Go.RowKit

theorem swap_perm (L : List Int) (i k : Nat) (hi : i < L.length) (hk : k < L.length) : ((L.set i (nth L k)).set k (nth L i)).Perm L := by
  have h := Array.swap_perm (xs := L.toArray) (i := i) (j := k) (by simpa using hi) (by simpa using hk)
  have e : (L.toArray.swap i k (by simpa using hi) (by simpa using hk)).toList = (L.set i (nth L k)).set k (nth L i) := by
    simp [Array.swap, nth, hi, hk]
  rw [← e]
  simpa using Array.perm_iff_toList_perm.1 h
/-- the places that were seen -/
def seenV (n : Nat) (L : List Int) : List Value := (List.range n).map fun j : Nat => Value.bool (decide ((j : Int) ∈ L))
theorem seenV_len (n : Nat) (L : List Int) : (seenV n L).length = n := by simp [seenV]
theorem seenV_nil (n : Nat) : seenV n [] = List.replicate n (.bool false) := by
  apply List.ext_getElem?
  intro i
  by_cases h : i < n
  · simp [seenV, h]
  · simp [seenV, h]
theorem seenV_get {n : Nat} {L : List Int} {j : Nat} (h : j < n) : (seenV n L)[j]? = some (.bool (decide ((j : Int) ∈ L))) := by simp [seenV, h]
theorem seenV_set {n : Nat} {L : List Int} {j : Nat} (h : j < n) : (seenV n L).set j (.bool true) = seenV n (L ++ [(j : Int)]) := by
  apply List.ext_getElem?
  intro i
  rw [List.getElem?_set]
  by_cases e : j = i
  · subst e
    simp [seenV, h]
  · by_cases q : i < n
    · have : ¬ (i : Int) = (j : Int) := by omega
      simp [seenV, q, e, this]
    · simp [seenV, q, e]
theorem perm_in {n : Nat} {R : List Int} (h : R.Perm (rangeI n)) : InR n R := fun _ hk => rangeI_mem.1 (h.mem_iff.1 (nth_in hk))
theorem perm_len {n : Nat} {R : List Int} (h : R.Perm (rangeI n)) : R.length = n := by rw [h.length_eq, rangeI_len]
theorem perm_fresh {n : Nat} {R : List Int} (h : R.Perm (rangeI n)) {k : Nat} (hk : k < R.length) : ¬ nth R k ∈ R.take k := by
  have hnd : R.Nodup := h.nodup_iff.2 (rangeI_nodup n)
  intro q
  obtain ⟨j, hj, e⟩ := List.getElem_of_mem q
  simp at hj e
  have := (List.pairwise_iff_getElem.1 hnd) j k (by omega) hk (by omega)
  exact this (by rw [e]; simp [nth, hk])
theorem take_next {R : List Int} {k : Nat} (hk : k < R.length) : R.take (k + 1) = R.take k ++ [nth R k] := by rw [List.take_add_one]; simp [nth, hk]
/-- drawn visits -/
structure VisD (n : Nat) (xs : List Int) : Prop where
  len : xs.length = n * 2
  each : ∀ k, k < n → 1 ≤ dayV xs k ∧ dayV xs k ≤ 6 ∧ dayV xs k ≤ dueV xs k ∧ dueV xs k ≤ 25
theorem VisD.nil : VisD 0 [] := ⟨rfl, fun _ h => absurd h (by omega)⟩
theorem VisD.push {n : Nat} {xs : List Int} (h : VisD n xs) {d e : Int} (d0 : 1 ≤ e) (d1 : e ≤ 6) (d2 : e ≤ d) (d3 : d ≤ 25) : VisD (n + 1) (xs ++ [d, e]) := by
  refine ⟨by simp [h.len]; omega, fun k hk => ?_⟩
  have hl := h.len
  rcases Nat.lt_or_ge k n with z | z
  · have e1 : dueV (xs ++ [d, e]) k = dueV xs k := by simp [dueV, nth, List.getElem?_append, show k * 2 < xs.length by omega]
    have e2 : dayV (xs ++ [d, e]) k = dayV xs k := by simp [dayV, nth, List.getElem?_append, show k * 2 + 1 < xs.length by omega]
    rw [e1, e2]; exact h.each k z
  · obtain rfl : k = n := by omega
    have e1 : dueV (xs ++ [d, e]) k = d := by simp [dueV, nth, List.getElem?_append, show ¬ k * 2 < xs.length by omega, show k * 2 - xs.length = 0 by omega]
    have e2 : dayV (xs ++ [d, e]) k = e := by simp [dayV, nth, List.getElem?_append, show ¬ k * 2 + 1 < xs.length by omega, show k * 2 + 1 - xs.length = 1 by omega]
    rw [e1, e2]; exact ⟨d0, d1, d2, d3⟩
theorem VisD.ok {n : Nat} {xs : List Int} (h : VisD n xs) (hn : n ≤ 12) : visitsOk n xs = true := by
  simp only [visitsOk, Bool.and_eq_true, decide_eq_true_eq]
  refine ⟨hn, allTo_of fun k hk => ?_⟩
  have := h.each k hk
  simp only [visitOk, inB, Bool.and_eq_true, decide_eq_true_eq]
  omega
end Go.Proofs.Ytdchgbhhlocmdaa
