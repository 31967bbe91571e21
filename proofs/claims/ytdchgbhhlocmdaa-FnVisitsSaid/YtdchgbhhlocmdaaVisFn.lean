/- No order of visits has a smaller greatest delay than that by due days: the plain law. -/
import Derived.Test.YtdchgbhhlocmdaaMostFn
namespace Go.Proofs.Ytdchgbhhlocmdaa
open Go.ChangeShapes Go.WideShapes Go.ChangeAt Go.RowKit

def addL : List Int → Int
  | [] => 0
  | a :: l => a + addL l
theorem addL_app : ∀ (l m : List Int), addL (l ++ m) = addL l + addL m
  | [], m => by simp [addL]
  | a :: l, m => by simp only [List.cons_append, addL, addL_app l m]; omega
theorem addL_perm {l m : List Int} (h : l.Perm m) : addL l = addL m := by
  induction h with
  | nil => rfl
  | cons x _ ih => simp only [addL, ih]
  | swap x y l => simp only [addL]; omega
  | trans _ _ h1 h2 => exact h1.trans h2
theorem addL_pos (f : Int → Int) : ∀ U : List Int, (∀ x, x ∈ U → 0 ≤ f x) → 0 ≤ addL (U.map f)
  | [], _ => Int.le_refl _
  | a :: l, h => by
    have := h a (List.mem_cons_self ..)
    have := addL_pos f l fun x hx => h x (List.mem_cons_of_mem _ hx)
    simp only [List.map_cons, addL]
    omega
theorem addL_sub (f : Int → Int) : ∀ (T U : List Int), T.Nodup → (∀ x, x ∈ T → x ∈ U) → (∀ x, x ∈ U → 0 ≤ f x) → addL (T.map f) ≤ addL (U.map f)
  | [], U, _, _, h => addL_pos f U h
  | a :: T, U, hn, hs, h => by
    have ha := hs a (List.mem_cons_self ..)
    have hp := List.perm_cons_erase ha
    have e := addL_perm (hp.map f)
    have hn2 := List.nodup_cons.1 hn
    have ih := addL_sub f T (U.erase a) hn2.2 (fun x hx => (List.mem_erase_of_ne (fun q => by subst q; exact hn2.1 hx)).2 (hs x (List.mem_cons_of_mem _ hx))) (fun x hx => h x (List.mem_of_mem_erase hx))
    rw [e]
    simp only [List.map_cons, addL]
    omega
theorem delayD_sum (xs L : List Int) : ∀ k, k ≤ L.length → (delayD xs L k).1 = addL ((L.take k).map fun i => dayV xs i.toNat)
  | 0, _ => by simp [delayD, addL]
  | k + 1, hk => by
    have e : L.take (k + 1) = L.take k ++ [nth L k] := by rw [List.take_add_one]; simp [nth, show k < L.length by omega]
    simp only [delayD]
    rw [delayD_sum xs L k (by omega), e, List.map_append, addL_app]
    simp [addL]
theorem delayD_le (xs L : List Int) : ∀ j k, j ≤ k → (delayD xs L j).2 ≤ (delayD xs L k).2
  | j, 0, h => by
    obtain rfl : j = 0 := by omega
    exact Int.le_refl _
  | j, k + 1, h => by
    rcases Nat.lt_or_ge j (k + 1) with z | z
    · have := delayD_le xs L j k (by omega)
      simp only [delayD]; omega
    · obtain rfl : j = k + 1 := by omega
      exact Int.le_refl _
theorem delayD_at (xs L : List Int) (p : Nat) (hp : p < L.length) : (delayD xs L (p + 1)).1 - dueV xs (nth L p).toNat ≤ delayL xs L := by
  have h1 := delayD_le xs L (p + 1) L.length hp
  unfold delayL
  have h2 : (delayD xs L (p + 1)).1 - dueV xs (nth L p).toNat ≤ (delayD xs L (p + 1)).2 := by simp only [delayD]; omega
  omega
/-- the last place in R of one of T's -/
theorem last_of {T R : List Int} (hT : T ≠ []) (hs : ∀ x, x ∈ T → x ∈ R) : ∃ p, p < R.length ∧ nth R p ∈ T ∧ ∀ x, x ∈ T → x ∈ R.take (p + 1) := by
  have main : ∀ m, m ≤ R.length → (∀ x, x ∈ T → x ∈ R.take m) → ∃ p, p < R.length ∧ nth R p ∈ T ∧ ∀ x, x ∈ T → x ∈ R.take (p + 1) := by
    intro m
    induction m with
    | zero =>
      intro _ h
      obtain ⟨a, T', rfl⟩ := List.exists_cons_of_ne_nil hT
      exact absurd (h a (List.mem_cons_self ..)) (by simp)
    | succ m ih =>
      intro hm h
      by_cases q : nth R m ∈ T
      · exact ⟨m, by omega, q, h⟩
      · refine ih (by omega) fun x hx => ?_
        have e : R.take (m + 1) = R.take m ++ [nth R m] := by rw [List.take_add_one]; simp [nth, show m < R.length by omega]
        have := h x hx
        rw [e, List.mem_append, List.mem_singleton] at this
        rcases this with y | y
        · exact y
        · exact absurd (y ▸ hx) q
  exact main R.length (Nat.le_refl _) (by simpa using hs)
theorem due_best {n : Nat} {xs R : List Int} (hv : visitsOk n xs = true) (hR : R.Perm (rangeI n)) : delayL xs (dueP n xs) ≤ delayL xs R := by
  have hlR : R.length = n := by rw [hR.length_eq, rangeI_len]
  have hin : InR n R := fun k hk => rangeI_mem.1 (hR.mem_iff.1 (nth_in hk))
  have h0 := (delayL_bd hv hin).1
  have hld := dueP_len n xs
  have hnd : (dueP n xs).Nodup := (dueP_perm n xs).nodup_iff.2 (rangeI_nodup n)
  have hso := dueP_sorted n xs
  have main : ∀ k, k ≤ (dueP n xs).length → (delayD xs (dueP n xs) k).2 ≤ delayL xs R := by
    intro k
    induction k with
    | zero => intro _; exact h0
    | succ k ih =>
      intro hk
      have i1 := ih (by omega)
      have eT : (dueP n xs).take (k + 1) = (dueP n xs).take k ++ [nth (dueP n xs) k] := by rw [List.take_add_one]; simp [nth, show k < (dueP n xs).length by omega]
      have hmem : ∀ x, x ∈ (dueP n xs).take (k + 1) → x ∈ R := fun x hx => by
        rw [hR.mem_iff, ← (dueP_perm n xs).mem_iff]
        exact List.mem_of_mem_take hx
      obtain ⟨p, hp, hpT, hall⟩ := last_of (T := (dueP n xs).take (k + 1)) (R := R) (by rw [eT]; simp) hmem
      have hsum := addL_sub (fun i => dayV xs i.toNat) _ _ (hnd.sublist (List.take_sublist (k + 1) _)) hall (fun x hx => by
        have hx2 := rangeI_mem.1 (hR.mem_iff.1 (List.mem_of_mem_take hx))
        have := visitsOk_at hv (k := x.toNat) (by omega)
        omega)
      rw [← delayD_sum xs _ (k + 1) hk, ← delayD_sum xs R (p + 1) hp] at hsum
      have hdue : dueV xs (nth R p).toNat ≤ dueV xs (nth (dueP n xs) k).toNat := by
        rw [eT, List.mem_append, List.mem_singleton] at hpT
        rcases hpT with z | z
        · have h2 := (List.pairwise_append.1 (eT ▸ hso.sublist (List.take_sublist (k + 1) _))).2.2 _ z _ (List.mem_singleton.2 rfl)
          unfold dueLt at h2
          omega
        · rw [z]; exact Int.le_refl _
      have hat := delayD_at xs R p hp
      have e2 : (delayD xs (dueP n xs) (k + 1)).2 = max (delayD xs (dueP n xs) k).2 ((delayD xs (dueP n xs) (k + 1)).1 - dueV xs (nth (dueP n xs) k).toNat) := by simp only [delayD]
      rw [e2]
      omega
  exact main _ (Nat.le_refl _)
/-! the greatest number of visits in time -/
theorem mostTo_le (n : Nat) (xs : List Int) : ∀ j k, j ≤ k → mostTo n xs j ≤ mostTo n xs k
  | j, 0, h => by
    obtain rfl : j = 0 := by omega
    exact Int.le_refl _
  | j, k + 1, h => by
    rcases Nat.lt_or_ge j (k + 1) with z | z
    · have := mostTo_le n xs j k (by omega)
      simp only [mostTo]; split <;> omega
    · obtain rfl : j = k + 1 := by omega
      exact Int.le_refl _
theorem mostTo_ge {n : Nat} {xs : List Int} {s m : Nat} (h : s < m) (h0 : delayL xs (someL n xs s) = 0) : ((someL n xs s).length : Int) ≤ mostTo n xs m := by
  have := mostTo_le n xs (s + 1) m h
  have e : mostTo n xs (s + 1) = max (mostTo n xs s) ((someL n xs s).length : Int) := by simp only [mostTo]; rw [if_pos h0]
  omega
theorem mostTo_some {n : Nat} {xs : List Int} : ∀ m, 0 < mostTo n xs m → ∃ s, s < m ∧ delayL xs (someL n xs s) = 0 ∧ mostTo n xs m = ((someL n xs s).length : Int)
  | 0, h => by simp [mostTo] at h
  | m + 1, h => by
    by_cases q : delayL xs (someL n xs m) = 0
    · have e : mostTo n xs (m + 1) = max (mostTo n xs m) ((someL n xs m).length : Int) := by simp only [mostTo]; rw [if_pos q]
      rcases Int.lt_or_le (mostTo n xs m) ((someL n xs m).length : Int) with z | z
      · exact ⟨m, by omega, q, by omega⟩
      · obtain ⟨s, hs, h1, h2⟩ := mostTo_some (n := n) (xs := xs) m (by omega)
        exact ⟨s, by omega, h1, by omega⟩
    · have e : mostTo n xs (m + 1) = mostTo n xs m := by simp only [mostTo]; rw [if_neg q]
      obtain ⟨s, hs, h1, h2⟩ := mostTo_some (n := n) (xs := xs) m (by omega)
      exact ⟨s, by omega, h1, by omega⟩
def bitsAll (n : Nat) : Bool := (List.range n).all fun k => bitB (2 ^ n - 1) (k : Int)
def bitsOne (n : Nat) : Bool := (List.range n).all fun k => bitB 1 (k : Int) == decide (k = 0)
theorem bits_six : ∀ n, n ≤ 6 → bitsAll n = true ∧ bitsOne n = true := by decide
theorem some_all {n : Nat} {xs : List Int} (h6 : n ≤ 6) : someL n xs (2 ^ n - 1) = dueP n xs := by
  unfold someL
  rw [List.filter_eq_self]
  intro a ha
  have h := dueP_mem.1 ha
  have hb := (bits_six n h6).1
  unfold bitsAll at hb
  have := List.all_eq_true.1 hb a.toNat (List.mem_range.2 (by omega))
  rw [show ((a.toNat : Nat) : Int) = a by omega] at this
  exact this
theorem most_all {n : Nat} {xs : List Int} (hv : visitsOk n xs = true) (h6 : n ≤ 6) : (mostIn n xs == (n : Int)) = (delayL xs (dueP n xs) == 0) := by
  rw [mostIn_t hv (by omega)]
  have hbd := mostTo_bd n xs (2 ^ n)
  have hp : 0 < 2 ^ n := Nat.pow_pos (by omega)
  by_cases q : delayL xs (dueP n xs) = 0
  · have := mostTo_ge (n := n) (xs := xs) (s := 2 ^ n - 1) (m := 2 ^ n) (by omega) (by rw [some_all h6]; exact q)
    rw [some_all h6, dueP_len] at this
    rw [show mostTo n xs (2 ^ n) = (n : Int) by omega, q]
    simp
  · have hne : ¬ mostTo n xs (2 ^ n) = (n : Int) := fun e => by
      rcases Nat.eq_zero_or_pos n with z | z
      · subst z
        exact q (by have e0 : dueP 0 xs = [] := List.eq_nil_of_length_eq_zero (dueP_len 0 xs); rw [e0]; rfl)
      · obtain ⟨s, _, h1, h2⟩ := mostTo_some (n := n) (xs := xs) (2 ^ n) (by omega)
        have hl : (someL n xs s).length = (dueP n xs).length := by rw [dueP_len]; omega
        have : someL n xs s = dueP n xs := List.Sublist.eq_of_length List.filter_sublist hl
        rw [this] at h1
        exact q h1
    have e1 : (mostTo n xs (2 ^ n) == (n : Int)) = false := beq_eq_false_iff_ne.2 hne
    have e2 : (delayL xs (dueP n xs) == 0) = false := beq_eq_false_iff_ne.2 q
    rw [e1, e2]
theorem most_one {n : Nat} {xs : List Int} (hv : visitsOk n xs = true) (h6 : n ≤ 6) (h0 : 0 < n) (hd : dayV xs 0 ≤ dueV xs 0) : 1 ≤ mostIn n xs := by
  rw [mostIn_t hv (by omega)]
  have hone : someL n xs 1 = [0] := by
    have e : someL n xs 1 = (dueP n xs).filter (fun x => x == 0) := by
      unfold someL
      refine List.filter_congr fun a ha => ?_
      have h := dueP_mem.1 ha
      have hb := (bits_six n h6).2
      unfold bitsOne at hb
      have := List.all_eq_true.1 hb a.toNat (List.mem_range.2 (by omega))
      rw [show ((a.toNat : Nat) : Int) = a by omega] at this
      rw [eq_of_beq this]
      rw [Bool.eq_iff_iff]
      simp
      omega
    have hnd : (dueP n xs).Nodup := (dueP_perm n xs).nodup_iff.2 (rangeI_nodup n)
    have hmem : (0 : Int) ∈ dueP n xs := dueP_mem.2 (by omega)
    have hp := List.perm_cons_erase hmem
    have hp2 := hp.filter (fun x => x == 0)
    have hnd2 := hp.nodup_iff.1 hnd
    have e2 : ((dueP n xs).erase 0).filter (fun x => x == 0) = [] := by
      rw [List.filter_eq_nil_iff]
      intro a ha hz
      have := eq_of_beq hz
      subst this
      exact (List.nodup_cons.1 hnd2).1 ha
    rw [List.filter_cons_of_pos (by rfl), e2] at hp2
    rw [e]
    exact List.perm_singleton.1 hp2
  have hz : delayL xs [0] = 0 := by
    show (delayD xs [0] 1).2 = 0
    simp only [delayD, nth, List.getD_cons_zero, Int.toNat_zero]
    omega
  have hp : 1 < 2 ^ n := Nat.one_lt_two_pow (by omega)
  have := mostTo_ge (n := n) (xs := xs) (s := 1) (m := 2 ^ n) hp (by rw [hone]; exact hz)
  rw [hone] at this
  simpa using this
theorem due_asc {n : Nat} {xs : List Int} {k : Nat} (hk : k < n) (h0 : 0 < k) : dueV xs (nth (dueP n xs) (k - 1)).toNat ≤ dueV xs (nth (dueP n xs) k).toNat := by
  have hl := dueP_len n xs
  have := List.pairwise_iff_getElem.1 (dueP_sorted n xs) (k - 1) k (by omega) (by omega) (by omega)
  have e1 : nth (dueP n xs) (k - 1) = (dueP n xs)[k - 1]'(by omega) := by simp [nth, show k - 1 < (dueP n xs).length by omega]
  have e2 : nth (dueP n xs) k = (dueP n xs)[k]'(by omega) := by simp [nth, show k < (dueP n xs).length by omega]
  rw [e1, e2]
  unfold dueLt at this
  omega
end Go.Proofs.Ytdchgbhhlocmdaa
