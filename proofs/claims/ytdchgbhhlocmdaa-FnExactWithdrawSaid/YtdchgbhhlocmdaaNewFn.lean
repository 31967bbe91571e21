/- The affected copies that were not told: the plain law. -/
import Derived.Test.YtdchgbhhlocmdaaSortFn
namespace Go.Proofs.Ytdchgbhhlocmdaa
open Go.ChangeShapes Go.WideShapes Go.ChangeAt Go.RowKit

def newOnes (ts xs : List Int) : List Int := (diffL xs).filter (fun x => !decide (x ∈ ts))
theorem newOnes_strict (ts xs : List Int) : StrictI (newOnes ts xs) := strict_filter (diffL_strict xs) _
theorem newOnes_mem {ts xs : List Int} {x : Int} : x ∈ newOnes ts xs ↔ x ∈ xs ∧ ¬ x ∈ ts := by
  simp [newOnes, List.mem_filter, diffL_mem]
theorem newOnes_len (ts xs : List Int) : (newOnes ts xs).length ≤ xs.length := Nat.le_trans (List.length_filter_le _ _) (diffL_len xs)
/-- the program's loop -/
def fltTo (D ts : List Int) : Nat → List Int
  | 0 => []
  | k + 1 => if nth D k ∈ ts then fltTo D ts k else fltTo D ts k ++ [nth D k]
theorem fltTo_yes {D ts : List Int} {k : Nat} (h : nth D k ∈ ts) : fltTo D ts (k + 1) = fltTo D ts k := by simp only [fltTo]; rw [if_pos h]
theorem fltTo_no {D ts : List Int} {k : Nat} (h : ¬ nth D k ∈ ts) : fltTo D ts (k + 1) = fltTo D ts k ++ [nth D k] := by simp only [fltTo]; rw [if_neg h]
theorem fltTo_len (D ts : List Int) : ∀ k, (fltTo D ts k).length ≤ k
  | 0 => by simp [fltTo]
  | k + 1 => by
    have := fltTo_len D ts k
    simp only [fltTo]
    split
    · omega
    · simp; omega
theorem fltTo_eq (D ts : List Int) : ∀ k, k ≤ D.length → fltTo D ts k = (D.take k).filter (fun x => !decide (x ∈ ts))
  | 0, _ => by simp [fltTo]
  | k + 1, h => by
    have e : D.take (k + 1) = D.take k ++ [nth D k] := by
      rw [List.take_add_one]
      simp [nth, show k < D.length by omega]
    rw [e, List.filter_append, ← fltTo_eq D ts k (by omega)]
    by_cases c : nth D k ∈ ts
    · rw [fltTo_yes c]; simp [c]
    · rw [fltTo_no c]; simp [c]
theorem fltTo_all (ts xs : List Int) : fltTo (diffL xs) ts (diffL xs).length = newOnes ts xs := by
  rw [fltTo_eq _ _ _ (Nat.le_refl _), List.take_length]; rfl
/-- the reference's loop -/
def freshTo (ts xs : List Int) : Nat → List Int
  | 0 => []
  | k + 1 => if nth xs k ∈ ts ∨ nth xs k ∈ freshTo ts xs k then freshTo ts xs k else freshTo ts xs k ++ [nth xs k]
theorem freshTo_yes {ts xs : List Int} {k : Nat} (h : nth xs k ∈ ts ∨ nth xs k ∈ freshTo ts xs k) : freshTo ts xs (k + 1) = freshTo ts xs k := by simp only [freshTo]; rw [if_pos h]
theorem freshTo_no {ts xs : List Int} {k : Nat} (h1 : ¬ nth xs k ∈ ts) (h2 : ¬ nth xs k ∈ freshTo ts xs k) : freshTo ts xs (k + 1) = freshTo ts xs k ++ [nth xs k] := by simp only [freshTo]; rw [if_neg (by rintro (q | q); exact h1 q; exact h2 q)]
theorem freshTo_len (ts xs : List Int) : ∀ k, (freshTo ts xs k).length ≤ k
  | 0 => by simp [freshTo]
  | k + 1 => by
    have := freshTo_len ts xs k
    simp only [freshTo]
    split
    · omega
    · simp; omega
theorem freshTo_props (ts xs : List Int) : ∀ k, (freshTo ts xs k).Nodup ∧ ∀ x, x ∈ freshTo ts xs k ↔ (∃ i, i < k ∧ nth xs i = x) ∧ ¬ x ∈ ts := by
  intro k
  induction k with
  | zero => exact ⟨List.nodup_nil, fun x => by simp [freshTo]⟩
  | succ k ih =>
    obtain ⟨h1, h2⟩ := ih
    by_cases c : nth xs k ∈ ts ∨ nth xs k ∈ freshTo ts xs k
    · rw [freshTo_yes c]
      refine ⟨h1, fun x => ?_⟩
      rw [h2]
      refine ⟨fun ⟨⟨i, hi, e⟩, q⟩ => ⟨⟨i, by omega, e⟩, q⟩, ?_⟩
      rintro ⟨⟨i, hi, e⟩, q⟩
      rcases Nat.lt_or_ge i k with z | z
      · exact ⟨⟨i, z, e⟩, q⟩
      · obtain rfl : i = k := by omega
        subst e
        rcases c with c | c
        · exact absurd c q
        · exact (h2 _).1 c
    · have c1 : ¬ nth xs k ∈ ts := fun q => c (.inl q)
      have c2 : ¬ nth xs k ∈ freshTo ts xs k := fun q => c (.inr q)
      rw [freshTo_no c1 c2]
      refine ⟨List.nodup_append.2 ⟨h1, by simp, fun a ha b hb e => ?_⟩, fun x => ?_⟩
      · obtain rfl := List.mem_singleton.1 hb
        exact c2 (e ▸ ha)
      · rw [List.mem_append, h2, List.mem_singleton]
        refine ⟨?_, ?_⟩
        · rintro (⟨⟨i, hi, e⟩, q⟩ | e)
          · exact ⟨⟨i, by omega, e⟩, q⟩
          · exact ⟨⟨k, by omega, e.symm⟩, by rw [e]; exact c1⟩
        · rintro ⟨⟨i, hi, e⟩, q⟩
          rcases Nat.lt_or_ge i k with z | z
          · exact .inl ⟨⟨i, z, e⟩, q⟩
          · obtain rfl : i = k := by omega
            exact .inr e.symm
theorem strict_of {xs : List Int} (h : SortedI xs) (hn : xs.Nodup) : StrictI xs := by
  have := List.Pairwise.and h hn
  exact this.imp (fun q => by have := q.1; have := q.2; omega)
theorem freshTo_all (ts xs : List Int) : sortL (freshTo ts xs xs.length) = newOnes ts xs := by
  obtain ⟨h1, h2⟩ := freshTo_props ts xs xs.length
  refine strict_ext (strict_of (sortL_sorted _) ((sortL_perm _).nodup_iff.2 h1)) (newOnes_strict _ _) fun x => ?_
  rw [sortL_mem, h2, newOnes_mem]
  refine and_congr_left fun _ => ⟨fun ⟨i, hi, e⟩ => e ▸ nth_in hi, fun h => ?_⟩
  obtain ⟨i, hi, e⟩ := List.getElem_of_mem h
  exact ⟨i, hi, by simp [nth, hi, e]⟩
end Go.Proofs.Ytdchgbhhlocmdaa
