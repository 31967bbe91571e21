/- The order of visits by due days: the plain law. -/
import Derived.Test.YtdchgbhhlocmdaaSortFn
import Derived.Shelf.GgSortMore.Stable
namespace Go.Proofs.Ytdchgbhhlocmdaa
open Go.ChangeShapes Go.WideShapes Go.ChangeAt Go.RowKit

def dueV (xs : List Int) (k : Nat) : Int := nth xs (k * 2)
def dayV (xs : List Int) (k : Nat) : Int := nth xs (k * 2 + 1)
def visitOk (xs : List Int) (k : Nat) : Bool := inB (dueV xs k) 1 1000 && inB (dayV xs k) 1 100
def visitsOk (n : Nat) (xs : List Int) : Bool := decide (n ≤ 12) && allTo (visitOk xs) n
/-- a comes ahead of b -/
def dueLt (xs : List Int) (a b : Int) : Prop := dueV xs a.toNat < dueV xs b.toNat ∨ (dueV xs a.toNat = dueV xs b.toNat ∧ a < b)
def dueLe (xs : List Int) (a b : Int) : Bool := decide (dueV xs a.toNat < dueV xs b.toNat ∨ (dueV xs a.toNat = dueV xs b.toNat ∧ a ≤ b))
def rangeI (n : Nat) : List Int := (List.range n).map (fun k : Nat => (k : Int))
theorem rangeI_len (n : Nat) : (rangeI n).length = n := by simp [rangeI]
theorem rangeI_succ (n : Nat) : rangeI (n + 1) = rangeI n ++ [(n : Int)] := by simp [rangeI, List.range_succ]
theorem rangeI_nth {n k : Nat} (h : k < n) : nth (rangeI n) k = k := by simp [nth, rangeI, h]
theorem rangeI_mem {n : Nat} {x : Int} : x ∈ rangeI n ↔ 0 ≤ x ∧ x < n := by
  simp only [rangeI, List.mem_map, List.mem_range]
  exact ⟨fun ⟨k, hk, e⟩ => by omega, fun h => ⟨x.toNat, by omega, by omega⟩⟩
theorem rangeI_nodup (n : Nat) : (rangeI n).Nodup := by
  unfold rangeI List.Nodup
  rw [List.pairwise_map]
  exact List.nodup_range.imp (fun h e => h (by omega))
/-- the order by due days -/
def dueP (n : Nat) (xs : List Int) : List Int := (rangeI n).mergeSort (dueLe xs)
def dueOrder (n : Nat) (xs : List Int) : List Int := if visitsOk n xs = true then dueP n xs else []
theorem dueP_perm (n : Nat) (xs : List Int) : (dueP n xs).Perm (rangeI n) := List.mergeSort_perm _ _
theorem dueP_len (n : Nat) (xs : List Int) : (dueP n xs).length = n := by rw [(dueP_perm n xs).length_eq, rangeI_len]
theorem dueP_mem {n : Nat} {xs : List Int} {x : Int} : x ∈ dueP n xs ↔ 0 ≤ x ∧ x < n := by rw [(dueP_perm n xs).mem_iff, rangeI_mem]
theorem dueP_sorted (n : Nat) (xs : List Int) : (dueP n xs).Pairwise (dueLt xs) := by
  have h := List.pairwise_mergeSort (le := dueLe xs) (fun _ _ _ h1 h2 => by simp only [dueLe, decide_eq_true_eq] at *; omega) (fun _ _ => by simp only [dueLe, Bool.or_eq_true, decide_eq_true_eq]; omega) (rangeI n)
  have hn : (dueP n xs).Nodup := (dueP_perm n xs).nodup_iff.2 (rangeI_nodup n)
  refine (List.Pairwise.and h hn).imp fun q => ?_
  have := q.1; have := q.2
  simp only [dueLe, decide_eq_true_eq] at *
  unfold dueLt
  omega
theorem dueP_of {n : Nat} {xs R : List Int} (h : R.Perm (rangeI n)) (hs : R.Pairwise (dueLt xs)) : R = dueP n xs :=
  (h.trans (dueP_perm n xs).symm).eq_of_pairwise (fun _ _ _ _ h1 h2 => by unfold dueLt at h1 h2; omega) hs (dueP_sorted n xs)
theorem dueOrder_len (n : Nat) (xs : List Int) : (dueOrder n xs).length ≤ n := by
  unfold dueOrder
  split
  · rw [dueP_len]; exact Nat.le_refl _
  · simp
theorem visitsOk_n {n : Nat} {xs : List Int} (h : visitsOk n xs = true) : n ≤ 12 := by
  simp only [visitsOk, Bool.and_eq_true, decide_eq_true_eq] at h; exact h.1
theorem visitsOk_at {n : Nat} {xs : List Int} (h : visitsOk n xs = true) {k : Nat} (hk : k < n) : 1 ≤ dueV xs k ∧ dueV xs k ≤ 1000 ∧ 1 ≤ dayV xs k ∧ dayV xs k ≤ 100 := by
  simp only [visitsOk, Bool.and_eq_true] at h
  have := allTo_at h.2 hk
  simp only [visitOk, Bool.and_eq_true] at this
  have a := inB_le this.1; have b := inB_le this.2
  omega
/-! the library's insertion sort, its comparison by due days alone, keeps the earlier of two equals ahead -/
section
open Go.Sort
variable {m : Nat}
def ltD (xs : List Int) (a b : Fin (m + 1)) : Bool := decide (dueV xs a.val < dueV xs b.val)
def lexD (xs : List Int) (a b : Fin (m + 1)) : Bool := decide (dueV xs a.val < dueV xs b.val ∨ (dueV xs a.val = dueV xs b.val ∧ a.val < b.val))
theorem lexD_swo (xs : List Int) : SWO (lexD (m := m) xs) := by
  constructor
  · intro x; simp [lexD]
  · intro x y z h1 h2; simp only [lexD, decide_eq_true_eq] at *; omega
  · intro x y z h1 h2; simp only [lexD, decide_eq_false_iff_not] at *; omega
theorem insInner_lex (xs : List Int) : ∀ (j : Nat) (d : Array (Fin (m + 1))), j < d.size → (∀ p, p < j → (d[p]!).val < (d[j]!).val) → insInner (ltD xs) 0 j d = insInner (lexD xs) 0 j d
  | 0, d, _, _ => by unfold insInner; rfl
  | j + 1, d, hj, h => by
    unfold insInner
    have hlt := h j (by omega)
    have e : ltD xs d[j + 1]! d[j]! = lexD xs d[j + 1]! d[j]! := by
      unfold ltD lexD
      congr 1
      simp only [eq_iff_iff]
      omega
    rw [e]
    split
    · refine insInner_lex xs j _ (by rw [swp_size]; omega) fun p hp => ?_
      have g := swp_get d hj (show j < d.size by omega)
      rw [g, g]
      simp only [show p ≠ j by omega, show p ≠ j + 1 by omega, if_false, if_true]
      exact h p (by omega)
    · rfl
theorem insOuter_lex (xs : List Int) : ∀ (c i : Nat) (d : Array (Fin (m + 1))), d.size - i = c → 0 < i → i ≤ d.size → SortedIn (lexD xs) 0 i d → (∀ p, p < i → (d[p]!).val < i) → (∀ q, i ≤ q → q < d.size → (d[q]!).val = q) →
    insOuter (ltD xs) 0 d.size i d = insOuter (lexD xs) 0 d.size i d
  | 0, i, d, hc, _, hi, _, _, _ => by rw [insOuter, if_neg (by omega), insOuter, if_neg (by omega)]
  | c + 1, i, d, hc, h0, hi, hs, hp, hq => by
    have hlt : i < d.size := by omega
    have e1 : insOuter (ltD xs) 0 d.size i d = insOuter (ltD xs) 0 d.size (i + 1) (insInner (ltD xs) 0 i d) := by rw [insOuter, if_pos hlt]
    have e2 : insOuter (lexD xs) 0 d.size i d = insOuter (lexD xs) 0 d.size (i + 1) (insInner (lexD xs) 0 i d) := by rw [insOuter, if_pos hlt]
    rw [e1, e2]
    have hqi := hq i (Nat.le_refl _) hlt
    rw [insInner_lex xs i d hlt (fun p hpi => by rw [hqi]; exact hp p hpi)]
    have h1 := insInner_spec (lexD_swo xs) swp_permIn permIn_refl permIn_trans 0 (i + 1) i (by omega) i d (Nat.zero_le _) (Nat.le_refl _) (by omega) ⟨fun p q hap hpq hqi _ hne => hs p q hap hpq (by omega), fun q h1 h2 => by omega⟩
    have hsz : (insInner (lexD xs) 0 i d).size = d.size := h1.1.1
    rw [← hsz]
    refine insOuter_lex xs c (i + 1) _ (by omega) (by omega) (by omega) h1.2 ?_ ?_
    · have := permIn_all d _ 0 (i + 1) (fun x => x.val < i + 1) (by omega) h1.1 (fun p _ hpi => by
        rcases Nat.lt_or_ge p i with z | z
        · have := hp p z; omega
        · obtain rfl : p = i := by omega
          rw [hqi]; omega)
      exact fun p hpi => this p (Nat.zero_le _) hpi
    · intro q h3 h4
      rw [h1.1.2.1 q (Or.inr h3)]
      exact hq q (by omega) (by omega)
def finA (m : Nat) : Array (Fin (m + 1)) := (List.finRange (m + 1)).toArray
theorem finA_size (m : Nat) : (finA m).size = m + 1 := by simp [finA]
theorem finA_get {m p : Nat} (h : p < m + 1) : ((finA m)[p]!).val = p := by
  rw [getElem!_pos _ p (by rw [finA_size]; exact h)]
  simp [finA]
def valI (a : Fin (m + 1)) : Int := (a.val : Int)
theorem finA_list (m : Nat) : (finA m).toList.map valI = rangeI (m + 1) := by
  apply List.ext_getElem?
  intro i
  by_cases h : i < m + 1
  · simp [finA, rangeI, valI, h]
  · simp [finA, rangeI, h]
theorem sorted_finA (xs : List Int) (m : Nat) : (insertionSort (ltD xs) (finA m) 0 (finA m).size).toList.map valI = dueP (m + 1) xs ∧ (insertionSort (ltD xs) (finA m) 0 (finA m).size).size = m + 1 := by
  have e : insertionSort (ltD xs) (finA m) 0 (finA m).size = insertionSort (lexD xs) (finA m) 0 (finA m).size := by
    unfold insertionSort
    refine insOuter_lex xs _ 1 (finA m) rfl (by omega) (by rw [finA_size]; omega) (fun i j _ _ _ => by omega) (fun p hp => ?_) (fun q h1 h2 => finA_get (by rw [finA_size] at h2; exact h2))
    rw [finA_get (by omega)]; exact hp
  rw [e]
  obtain ⟨hP, hS⟩ := insertionSort_holds (lexD_swo xs) (finA m) 0 (finA m).size (Nat.zero_le _) (Nat.le_refl _)
  clear e
  generalize insertionSort (lexD xs) (finA m) 0 (finA m).size = A at *
  have hsz : A.size = (finA m).size := hP.1
  have hperm : A.toList.Perm (finA m).toList := by
    have := hP.2.2
    have q1 : A.extract 0 (finA m).size = A := by rw [← hsz]; exact Array.extract_size
    have q2 : (finA m).extract 0 (finA m).size = finA m := Array.extract_size
    rwa [q1, q2] at this
  refine ⟨dueP_of ?_ ?_, by rw [hsz, finA_size]⟩
  · rw [← finA_list]; exact hperm.map _
  · rw [List.pairwise_map]
    have hnd : A.toList.Nodup := hperm.nodup_iff.2 (by simp [finA, List.nodup_finRange])
    rw [List.pairwise_iff_getElem]
    intro i j hi hj hij
    have hne := (List.pairwise_iff_getElem.1 hnd) i j hi hj hij
    have hlt := hS i j (Nat.zero_le _) hij (by rw [← hsz]; simpa using hj)
    rw [getElem!_pos _ i (by simpa using hi), getElem!_pos _ j (by simpa using hj)] at hlt
    simp only [Array.getElem_toList] at hne ⊢
    generalize A[i] = a at *
    generalize A[j] = b at *
    have hv : a.val ≠ b.val := fun e => hne (Fin.ext e)
    simp only [lexD, decide_eq_false_iff_not] at hlt
    simp only [dueLt, valI, Int.toNat_natCast]
    omega
end
/-! the reference's insertion -/
theorem shiftRow_pw {r : Int → Int → Prop} {R : List Int} {i k : Nat} (hk : k ≤ i) (hi : i < R.length) (hs : (R.take i).Pairwise r) (hlow : ∀ j, j < k → r (nth R j) (nth R i)) (hhigh : ∀ j, k ≤ j → j < i → r (nth R i) (nth R j)) :
    ((shiftRow R i k (nth R i)).take (i + 1)).Pairwise r := by
  have e : (shiftRow R i k (nth R i)).take (i + 1) = R.take k ++ nth R i :: (R.take i).drop k := by
    unfold shiftRow
    rw [List.take_append, List.take_take, List.length_take, Nat.min_eq_left (show k ≤ R.length by omega), Nat.min_eq_right (by omega : k ≤ i + 1), show i + 1 - k = (i - k) + 1 by omega, List.take_succ_cons]
    rw [List.take_append, List.length_drop, List.length_take, Nat.min_eq_left (by omega), Nat.sub_self, List.take_zero, List.append_nil, List.take_of_length_le (l := (R.take i).drop k) (by simp; omega)]
  rw [e]
  have e3 := (List.take_append_drop k (R.take i)).symm
  rw [List.take_take, Nat.min_eq_left hk] at e3
  have hs2 := hs
  rw [e3] at hs2
  obtain ⟨p1, p2, p3⟩ := List.pairwise_append.1 hs2
  have m1 : ∀ a, a ∈ R.take k → ∃ j, j < k ∧ a = nth R j := fun a ha => by
    obtain ⟨j, hj, e⟩ := List.getElem_of_mem ha
    simp at hj e
    exact ⟨j, by omega, by simp [nth, ← e, show j < R.length by omega]⟩
  have m2 : ∀ a, a ∈ (R.take i).drop k → ∃ j, k ≤ j ∧ j < i ∧ a = nth R j := fun a ha => by
    obtain ⟨j, hj, e⟩ := List.getElem_of_mem ha
    simp at hj e
    exact ⟨k + j, by omega, by omega, by simp [nth, ← e, show k + j < R.length by omega]⟩
  refine List.pairwise_append.2 ⟨p1, List.pairwise_cons.2 ⟨fun a ha => ?_, p2⟩, fun a ha b hb => ?_⟩
  · obtain ⟨j, h1, h2, rfl⟩ := m2 a ha
    exact hhigh j h1 h2
  · rcases List.mem_cons.1 hb with rfl | hb
    · obtain ⟨j, h1, rfl⟩ := m1 a ha
      exact hlow j h1
    · exact p3 a ha b hb
end Go.Proofs.Ytdchgbhhlocmdaa
