/- What depends on a bad copy, as a list. -/
import Derived.Test.YtdchgbhhlocmdaaDaysFn
namespace Go.Proofs.Ytdchgbhhlocmdaa
open Go.ChangeShapes Go.WideShapes Go.ChangeAt Go.RowKit

def affHit (xs ms : List Int) (bad since : Int) (L : List Int) (k : Nat) : Bool := ((k : Int) == bad) || (decide (since ≤ nth ms k) && decide (cP xs k ∈ L))
def affTo (xs ms : List Int) (bad since : Int) : Nat → List Int
  | 0 => []
  | k + 1 => if affHit xs ms bad since (affTo xs ms bad since k) k = true then affTo xs ms bad since k ++ [(k : Int)] else affTo xs ms bad since k
def affected (n : Nat) (xs ms : List Int) (bad since : Int) : List Int :=
  if daysOk n xs ms = true ∧ inB bad 0 ((n : Int) - 1) = true ∧ inB since 0 10000 = true then affTo xs ms bad since n else []
theorem affTo_yes {xs ms : List Int} {bad since : Int} {k : Nat} (h : affHit xs ms bad since (affTo xs ms bad since k) k = true) : affTo xs ms bad since (k + 1) = affTo xs ms bad since k ++ [(k : Int)] := by
  simp only [affTo]; rw [if_pos h]
theorem affTo_no {xs ms : List Int} {bad since : Int} {k : Nat} (h : affHit xs ms bad since (affTo xs ms bad since k) k = false) : affTo xs ms bad since (k + 1) = affTo xs ms bad since k := by
  simp only [affTo]; rw [if_neg (by simp [h])]
theorem affTo_len (xs ms : List Int) (bad since : Int) : ∀ k, (affTo xs ms bad since k).length ≤ k
  | 0 => by simp [affTo]
  | k + 1 => by
    have := affTo_len xs ms bad since k
    simp only [affTo]
    split
    · simp; omega
    · omega
theorem affTo_mem {xs ms : List Int} {bad since : Int} : ∀ {k : Nat} {x : Int}, x ∈ affTo xs ms bad since k → 0 ≤ x ∧ x < k
  | 0, x, h => by simp [affTo] at h
  | k + 1, x, h => by
    simp only [affTo] at h
    split at h
    · rcases List.mem_append.1 h with h | h
      · have := affTo_mem h; omega
      · simp at h; omega
    · have := affTo_mem h; omega
theorem affected_1 {n : Nat} {xs ms : List Int} {bad since : Int} (h : daysOk n xs ms = false) : affected n xs ms bad since = [] := if_neg (by simp [h])
theorem affected_2 {n : Nat} {xs ms : List Int} {bad since : Int} (h : inB bad 0 ((n : Int) - 1) = false) : affected n xs ms bad since = [] := if_neg (by simp [h])
theorem affected_3 {n : Nat} {xs ms : List Int} {bad since : Int} (h : inB since 0 10000 = false) : affected n xs ms bad since = [] := if_neg (by simp [h])
theorem affected_t {n : Nat} {xs ms : List Int} {bad since : Int} (h1 : daysOk n xs ms = true) (h2 : inB bad 0 ((n : Int) - 1) = true) (h3 : inB since 0 10000 = true) : affected n xs ms bad since = affTo xs ms bad since n := if_pos ⟨h1, h2, h3⟩
theorem affected_len (n : Nat) (xs ms : List Int) (bad since : Int) : (affected n xs ms bad since).length ≤ 12 := by
  unfold affected
  split
  · rename_i h
    have := affTo_len xs ms bad since n
    have := chainOk_n (daysOk_chain h.1).1
    omega
  · simp
theorem affected_mem {n : Nat} {xs ms : List Int} {bad since x : Int} (h : x ∈ affected n xs ms bad since) : 0 ≤ x ∧ x < n := by
  unfold affected at h
  split at h
  · exact affTo_mem h
  · simp at h
end Go.Proofs.Ytdchgbhhlocmdaa
