/- Sorted lists of integers: the sorted list, its different elements, the step of an insertion. -/
import Derived.Test.YtdchgbhhlocmdaaCopyInts
namespace Go.Proofs.Ytdchgbhhlocmdaa
open Go.ChangeShapes Go.WideShapes Go.ChangeAt Go.RowKit

def leI (x y : Int) : Bool := decide (x ≤ y)
def sortL (xs : List Int) : List Int := xs.mergeSort leI
def SortedI (xs : List Int) : Prop := xs.Pairwise (· ≤ ·)
def StrictI (xs : List Int) : Prop := xs.Pairwise (· < ·)
theorem sortL_perm (xs : List Int) : (sortL xs).Perm xs := List.mergeSort_perm xs leI
theorem sortL_len (xs : List Int) : (sortL xs).length = xs.length := (sortL_perm xs).length_eq
theorem sortL_sorted (xs : List Int) : SortedI (sortL xs) := by
  have h := List.pairwise_mergeSort (le := leI) (fun _ _ _ h1 h2 => by simp [leI] at *; omega) (fun _ _ => by simp [leI]; omega) xs
  exact h.imp (fun q => by simpa [leI] using q)
theorem sorted_unique {xs ys : List Int} (h : xs.Perm ys) (hx : SortedI xs) (hy : SortedI ys) : xs = ys :=
  h.eq_of_pairwise (fun _ _ _ _ h1 h2 => Int.le_antisymm h1 h2) hx hy
theorem sortL_of {xs ys : List Int} (h : ys.Perm xs) (hs : SortedI ys) : ys = sortL xs := sorted_unique (h.trans (sortL_perm xs).symm) hs (sortL_sorted xs)
theorem sortL_mem {xs : List Int} {x : Int} : x ∈ sortL xs ↔ x ∈ xs := (sortL_perm xs).mem_iff
theorem strict_sorted {xs : List Int} (h : StrictI xs) : SortedI xs := h.imp (fun q => Int.le_of_lt q)
theorem strict_ext : ∀ {xs ys : List Int}, StrictI xs → StrictI ys → (∀ x, x ∈ xs ↔ x ∈ ys) → xs = ys := by
  intro xs
  induction xs with
  | nil =>
    intro ys _ _ h
    cases ys with
    | nil => rfl
    | cons y ys => exact absurd ((h y).2 (by simp)) (by simp)
  | cons x xs ih =>
    intro ys hx hy h
    cases ys with
    | nil => exact absurd ((h x).1 (by simp)) (by simp)
    | cons y ys =>
      have px := List.pairwise_cons.1 hx
      have py := List.pairwise_cons.1 hy
      have exy : x = y := by
        rcases List.mem_cons.1 ((h x).1 (by simp)) with e | e
        · exact e
        · rcases List.mem_cons.1 ((h y).2 (by simp)) with e2 | e2
          · exact e2.symm
          · have := px.1 _ e2; have := py.1 _ e; omega
      subst exy
      congr 1
      refine ih px.2 py.2 fun z => ⟨fun hz => ?_, fun hz => ?_⟩
      · rcases List.mem_cons.1 ((h z).1 (List.mem_cons_of_mem _ hz)) with e | e
        · have := px.1 _ hz; omega
        · exact e
      · rcases List.mem_cons.1 ((h z).2 (List.mem_cons_of_mem _ hz)) with e | e
        · have := py.1 _ hz; omega
        · exact e
theorem strict_filter {xs : List Int} (h : StrictI xs) (p : Int → Bool) : StrictI (xs.filter p) := List.Pairwise.sublist List.filter_sublist h
theorem nth_in {xs : List Int} {k : Nat} (h : k < xs.length) : nth xs k ∈ xs := by
  have : nth xs k = xs[k] := by simp [nth, h]
  rw [this]; exact List.getElem_mem h
theorem sorted_le {xs : List Int} (h : SortedI xs) {i j : Nat} (hij : i ≤ j) (hj : j < xs.length) : nth xs i ≤ nth xs j := by
  rcases Nat.lt_or_ge i j with q | q
  · have := (List.pairwise_iff_getElem.1 h) i j (by omega) hj q
    simpa [nth, hj, show i < xs.length by omega] using this
  · rw [show i = j by omega]; exact Int.le_refl _
/-- each element that differs from the one ahead of it, in order -/
def diffTo (l : List Int) : Nat → List Int
  | 0 => []
  | k + 1 => if k = 0 ∨ nth l (k - 1) ≠ nth l k then diffTo l k ++ [nth l k] else diffTo l k
def diffL (xs : List Int) : List Int := diffTo (sortL xs) (sortL xs).length
theorem diffTo_len (l : List Int) : ∀ k, (diffTo l k).length ≤ k
  | 0 => by simp [diffTo]
  | k + 1 => by
    have := diffTo_len l k
    simp only [diffTo]
    split
    · simp; omega
    · omega
theorem diffTo_yes {l : List Int} {k : Nat} (h : k = 0 ∨ nth l (k - 1) ≠ nth l k) : diffTo l (k + 1) = diffTo l k ++ [nth l k] := by simp only [diffTo]; rw [if_pos h]
theorem diffTo_no {l : List Int} {k : Nat} (h : ¬ (k = 0 ∨ nth l (k - 1) ≠ nth l k)) : diffTo l (k + 1) = diffTo l k := by simp only [diffTo]; rw [if_neg h]
theorem diffTo_props {l : List Int} (hs : SortedI l) : ∀ k, k ≤ l.length → StrictI (diffTo l k) ∧ (∀ x, x ∈ diffTo l k ↔ ∃ i, i < k ∧ nth l i = x) := by
  intro k
  induction k with
  | zero => intro _; exact ⟨List.Pairwise.nil, fun x => by simp [diffTo]⟩
  | succ k ih =>
    intro hk
    obtain ⟨h1, h2⟩ := ih (by omega)
    by_cases c : k = 0 ∨ nth l (k - 1) ≠ nth l k
    · rw [diffTo_yes c]
      refine ⟨List.pairwise_append.2 ⟨h1, List.pairwise_singleton _ _, fun a ha b hb => ?_⟩, fun x => ?_⟩
      · obtain rfl := List.mem_singleton.1 hb
        obtain ⟨i, hi, rfl⟩ := (h2 a).1 ha
        have a1 := sorted_le hs (i := i) (j := k - 1) (by omega) (by omega)
        have a2 := sorted_le hs (i := k - 1) (j := k) (by omega) (by omega)
        rcases c with c | c
        · omega
        · omega
      · rw [List.mem_append, h2, List.mem_singleton]
        refine ⟨?_, ?_⟩
        · rintro (⟨i, hi, e⟩ | e)
          · exact ⟨i, by omega, e⟩
          · exact ⟨k, by omega, e.symm⟩
        · rintro ⟨i, hi, e⟩
          rcases Nat.lt_or_ge i k with q | q
          · exact .inl ⟨i, q, e⟩
          · obtain rfl : i = k := by omega
            exact .inr e.symm
    · rw [diffTo_no c]
      refine ⟨h1, fun x => ?_⟩
      rw [h2]
      refine ⟨fun ⟨i, hi, e⟩ => ⟨i, by omega, e⟩, ?_⟩
      rintro ⟨i, hi, e⟩
      rcases Nat.lt_or_ge i k with q | q
      · exact ⟨i, q, e⟩
      · obtain rfl : i = k := by omega
        have hk0 : i ≠ 0 := fun q => c (.inl q)
        exact ⟨i - 1, by omega, by have : nth l (i - 1) = nth l i := Classical.not_not.1 (fun q => c (.inr q)); rw [this]; exact e⟩
theorem diffL_strict (xs : List Int) : StrictI (diffL xs) := (diffTo_props (sortL_sorted xs) _ (Nat.le_refl _)).1
theorem diffL_mem {xs : List Int} {x : Int} : x ∈ diffL xs ↔ x ∈ xs := by
  rw [diffL, (diffTo_props (sortL_sorted xs) _ (Nat.le_refl _)).2, ← sortL_mem (xs := xs)]
  refine ⟨fun ⟨i, hi, e⟩ => e ▸ nth_in hi, fun h => ?_⟩
  obtain ⟨i, hi, e⟩ := List.getElem_of_mem h
  exact ⟨i, hi, by simp [nth, hi, e]⟩
theorem diffL_len (xs : List Int) : (diffL xs).length ≤ xs.length := by
  have := diffTo_len (sortL xs) (sortL xs).length
  rw [sortL_len] at this
  unfold diffL
  rw [sortL_len]; exact this
/-- the row while the element of place i moves down: its place is k -/
def shiftRow (R : List Int) (i k : Nat) (g : Int) : List Int := R.take k ++ g :: ((R.take i).drop k ++ R.drop (i + 1))
theorem shiftRow_len {R : List Int} {i k : Nat} (g : Int) (hk : k ≤ i) (hi : i < R.length) : (shiftRow R i k g).length = R.length := by
  simp [shiftRow]; omega
theorem shiftRow_get {R : List Int} {i k : Nat} (g : Int) (hk : k ≤ i) (hi : i < R.length) (j : Nat) : (shiftRow R i k g)[j]? = if j < k then R[j]? else if j = k then some g else if j ≤ i then R[j - 1]? else R[j]? := by
  unfold shiftRow
  rw [List.getElem?_append, List.length_take, Nat.min_eq_left (by omega)]
  split
  · rw [List.getElem?_take_of_lt (by assumption)]
  · rename_i q
    split
    · rename_i e; subst e; simp
    · obtain ⟨d, hd⟩ : ∃ d, j - k = d + 1 := ⟨j - k - 1, by omega⟩
      rw [hd, List.getElem?_cons_succ, List.getElem?_append, List.length_drop, List.length_take, Nat.min_eq_left (by omega)]
      split
      · split
        · rw [List.getElem?_drop, List.getElem?_take_of_lt (by omega)]; congr 1; omega
        · omega
      · split
        · omega
        · rw [List.getElem?_drop]; congr 1; omega
theorem shiftRow_start {R : List Int} {i : Nat} (hi : i < R.length) : shiftRow R i i (nth R i) = R := by
  apply List.ext_getElem?
  intro j
  rw [shiftRow_get _ (Nat.le_refl _) hi]
  split
  · rfl
  · split
    · rename_i e; subst e; simp [nth, hi]
    · split
      · omega
      · rfl
theorem shiftRow_nth {R : List Int} {i k : Nat} (g : Int) (hk : k ≤ i) (hi : i < R.length) {j : Nat} (hj : j < k) : nth (shiftRow R i k g) j = nth R j := by
  simp only [nth, List.getD_eq_getElem?_getD]
  rw [shiftRow_get g hk hi, if_pos hj]
theorem shiftRow_set {R : List Int} {i k : Nat} (g x : Int) (hk : k ≤ i) (hi : i < R.length) : (shiftRow R i k g).set k x = shiftRow R i k x := by
  have hl : (R.take k).length = k := by simp; omega
  unfold shiftRow
  rw [List.set_append, if_neg (by omega), hl, Nat.sub_self, List.set_cons_zero]
theorem shiftRow_step {R : List Int} {i k : Nat} (g : Int) (h0 : 0 < k) (hk : k ≤ i) (hi : i < R.length) : (shiftRow R i k g).set k (nth R (k - 1)) = shiftRow R i (k - 1) (nth R (k - 1)) := by
  rw [shiftRow_set _ _ hk hi]
  apply List.ext_getElem?
  intro j
  rw [shiftRow_get _ hk hi, shiftRow_get _ (by omega) hi]
  have e : R[k - 1]? = some (nth R (k - 1)) := by simp [nth, show k - 1 < R.length by omega]
  rcases Nat.lt_trichotomy j k with q | q | q
  · rcases Nat.lt_or_ge j (k - 1) with q2 | q2
    · simp [q, q2]
    · obtain rfl : j = k - 1 := by omega
      simp [q, e]
  · subst q
    simp [show ¬ j < j - 1 by omega, show j ≠ j - 1 by omega, hk, e]
  · simp [show ¬ j < k by omega, show j ≠ k by omega, show ¬ j < k - 1 by omega, show j ≠ k - 1 by omega]
theorem shiftRow_perm {R : List Int} {i k : Nat} (hk : k ≤ i) (hi : i < R.length) : (shiftRow R i k (nth R i)).Perm R := by
  have e : R = R.take k ++ ((R.take i).drop k ++ nth R i :: R.drop (i + 1)) := by
    have e1 : R = R.take i ++ R.drop i := (List.take_append_drop i R).symm
    have e2 : R.drop i = nth R i :: R.drop (i + 1) := by rw [List.drop_eq_getElem_cons hi]; simp [nth, hi]
    have e3 : R.take i = R.take k ++ (R.take i).drop k := by
      have := (List.take_append_drop k (R.take i)).symm
      rwa [List.take_take, Nat.min_eq_left hk] at this
    rw [← e2, ← List.append_assoc, ← e3]; exact e1
  have e' : (R.take k ++ ((R.take i).drop k ++ nth R i :: R.drop (i + 1))).Perm (shiftRow R i k (nth R i)) := by
    unfold shiftRow
    exact List.Perm.append_left _ List.perm_middle
  rw [← e] at e'
  exact e'.symm
theorem shiftRow_sorted {R : List Int} {i k : Nat} (hk : k ≤ i) (hi : i < R.length) (hs : SortedI (R.take i)) (hlow : k = 0 ∨ nth R (k - 1) ≤ nth R i) (hhigh : ∀ j, k ≤ j → j < i → nth R i < nth R j) :
    SortedI ((shiftRow R i k (nth R i)).take (i + 1)) := by
  have e : (shiftRow R i k (nth R i)).take (i + 1) = R.take k ++ nth R i :: (R.take i).drop k := by
    unfold shiftRow
    rw [List.take_append, List.take_take, List.length_take, Nat.min_eq_left (show k ≤ R.length by omega), Nat.min_eq_right (by omega : k ≤ i + 1), show i + 1 - k = (i - k) + 1 by omega, List.take_succ_cons]
    rw [List.take_append, List.length_drop, List.length_take, Nat.min_eq_left (by omega), Nat.sub_self, List.take_zero, List.append_nil, List.take_of_length_le (l := (R.take i).drop k) (by simp; omega)]
  rw [e]
  have hget : ∀ j, j < i → (R.take i)[j]? = some (nth R j) := fun j hj => by rw [List.getElem?_take_of_lt hj]; simp [nth, show j < R.length by omega]
  have hle : ∀ a b, a ≤ b → b < i → nth R a ≤ nth R b := fun a b hab hb => by
    have := sorted_le hs (i := a) (j := b) hab (by simp; omega)
    simpa [nth, List.getElem?_take, hb, show a < i by omega] using this
  have m1 : ∀ a, a ∈ R.take k → ∃ j, j < k ∧ a = nth R j := fun a ha => by
    obtain ⟨j, hj, e⟩ := List.getElem_of_mem ha
    simp at hj e
    exact ⟨j, by omega, by simp [nth, ← e, show j < R.length by omega]⟩
  have m2 : ∀ a, a ∈ (R.take i).drop k → ∃ j, k ≤ j ∧ j < i ∧ a = nth R j := fun a ha => by
    obtain ⟨j, hj, e⟩ := List.getElem_of_mem ha
    simp at hj e
    exact ⟨k + j, by omega, by omega, by simp [nth, ← e, show k + j < R.length by omega]⟩
  refine List.pairwise_append.2 ⟨?_, List.pairwise_cons.2 ⟨fun a ha => ?_, ?_⟩, fun a ha b hb => ?_⟩
  · have := hs
    refine List.Pairwise.sublist ?_ this
    have e3 := (List.take_append_drop k (R.take i)).symm
    rw [List.take_take, Nat.min_eq_left hk] at e3
    rw [e3]
    exact List.sublist_append_left _ _
  · obtain ⟨j, h1, h2, rfl⟩ := m2 a ha
    exact Int.le_of_lt (hhigh j h1 h2)
  · exact List.Pairwise.sublist (List.drop_sublist _ _) hs
  · obtain ⟨j, h1, rfl⟩ := m1 a ha
    have hji : nth R j ≤ nth R i := by
      rcases hlow with q | q
      · omega
      · have := hle j (k - 1) (by omega) (by omega); omega
    rcases List.mem_cons.1 hb with rfl | hb
    · exact hji
    · obtain ⟨j2, h3, h4, rfl⟩ := m2 b hb
      exact hle j j2 (by omega) h4
end Go.Proofs.Ytdchgbhhlocmdaa
