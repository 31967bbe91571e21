/- The greatest number of visits in time: the plain law. -/
import Derived.Test.YtdchgbhhlocmdaaTimeFn
namespace Go.Proofs.Ytdchgbhhlocmdaa
open Go.ChangeShapes Go.WideShapes Go.ChangeAt Go.RowKit

def bitB (s : Nat) (x : Int) : Bool := bits BinOp.and IntKind.i64 ((s : Int) / 2 ^ x.toNat) 1 == 1
def subI (n s : Nat) : List Int := (rangeI n).filter (bitB s)
def subV (xs I : List Int) : List Int := I.flatMap (fun i => [dueV xs i.toNat, dayV xs i.toNat])
def someL (n : Nat) (xs : List Int) (s : Nat) : List Int := (dueP n xs).filter (bitB s)
def mostTo (n : Nat) (xs : List Int) : Nat → Int
  | 0 => 0
  | s + 1 => if delayL xs (someL n xs s) = 0 then max (mostTo n xs s) ((someL n xs s).length : Int) else mostTo n xs s
def mostIn (n : Nat) (xs : List Int) : Int := if visitsOk n xs = true ∧ n ≤ 8 then mostTo n xs (2 ^ n) else -1
theorem mostIn_f {n : Nat} {xs : List Int} (h : visitsOk n xs = false) : mostIn n xs = -1 := if_neg (by simp [h])
theorem mostIn_g {n : Nat} {xs : List Int} (h : ¬ n ≤ 8) : mostIn n xs = -1 := if_neg (fun q => h q.2)
theorem mostIn_t {n : Nat} {xs : List Int} (h : visitsOk n xs = true) (h8 : n ≤ 8) : mostIn n xs = mostTo n xs (2 ^ n) := if_pos ⟨h, h8⟩
theorem someL_perm (n : Nat) (xs : List Int) (s : Nat) : (someL n xs s).Perm (subI n s) := (dueP_perm n xs).filter _
theorem someL_len (n : Nat) (xs : List Int) (s : Nat) : (someL n xs s).length ≤ n := by
  have := List.length_filter_le (bitB s) (dueP n xs)
  rw [dueP_len] at this
  exact this
theorem someL_in (n : Nat) (xs : List Int) (s : Nat) : InR n (someL n xs s) := fun _ hk => dueP_mem.1 (List.mem_filter.1 (nth_in hk)).1
theorem mostTo_bd (n : Nat) (xs : List Int) : ∀ s, 0 ≤ mostTo n xs s ∧ mostTo n xs s ≤ n
  | 0 => by simp [mostTo]
  | s + 1 => by
    have := mostTo_bd n xs s
    have := someL_len n xs s
    simp only [mostTo]
    split <;> omega
/-- the program's inner loop -/
def fltB (s : Nat) (D : List Int) (k : Nat) : List Int := (D.take k).filter (bitB s)
theorem fltB_yes {s : Nat} {D : List Int} {k : Nat} (hk : k < D.length) (h : bitB s (nth D k) = true) : fltB s D (k + 1) = fltB s D k ++ [nth D k] := by
  have e : D.take (k + 1) = D.take k ++ [nth D k] := by rw [List.take_add_one]; simp [nth, hk]
  simp [fltB, e, List.filter_append, h]
theorem fltB_no {s : Nat} {D : List Int} {k : Nat} (hk : k < D.length) (h : bitB s (nth D k) = false) : fltB s D (k + 1) = fltB s D k := by
  have e : D.take (k + 1) = D.take k ++ [nth D k] := by rw [List.take_add_one]; simp [nth, hk]
  simp [fltB, e, List.filter_append, h]
theorem fltB_len (s : Nat) (D : List Int) (k : Nat) : (fltB s D k).length ≤ k := Nat.le_trans (List.length_filter_le _ _) (by simp; omega)
theorem fltB_all (n : Nat) (xs : List Int) (s : Nat) : fltB s (dueP n xs) n = someL n xs s := by
  unfold fltB someL
  rw [List.take_of_length_le (by rw [dueP_len]; exact Nat.le_refl _)]
/-- the reference's inner loop -/
theorem subI_yes {s k : Nat} (h : bitB s (k : Int) = true) : subI (k + 1) s = subI k s ++ [(k : Int)] := by simp [subI, rangeI_succ, List.filter_append, h]
theorem subI_no {s k : Nat} (h : bitB s (k : Int) = false) : subI (k + 1) s = subI k s := by simp [subI, rangeI_succ, List.filter_append, h]
theorem subI_len (n s : Nat) : (subI n s).length ≤ n := by
  have := List.length_filter_le (bitB s) (rangeI n)
  rw [rangeI_len] at this
  exact this
theorem subV_app (xs I : List Int) (i : Int) : subV xs (I ++ [i]) = subV xs I ++ [dueV xs i.toNat, dayV xs i.toNat] := by simp [subV]
theorem subV_len (xs : List Int) : ∀ I : List Int, (subV xs I).length = I.length * 2
  | [] => rfl
  | a :: I => by
    have := subV_len xs I
    simp only [subV, List.flatMap_cons, List.length_append, List.length_cons, List.length_nil] at *
    omega
theorem subV_at (xs : List Int) : ∀ (I : List Int) (j : Nat), j < I.length → dueV (subV xs I) j = dueV xs (nth I j).toNat ∧ dayV (subV xs I) j = dayV xs (nth I j).toNat
  | [], j, h => by simp at h
  | a :: I, 0, _ => by simp [dueV, dayV, subV, nth]
  | a :: I, j + 1, h => by
    have := subV_at xs I j (by simpa using h)
    have e1 : (j + 1) * 2 = j * 2 + 1 + 1 := by omega
    have e2 : (j + 1) * 2 + 1 = j * 2 + 1 + 1 + 1 := by omega
    unfold dueV dayV at *
    rw [e2, e1]
    simpa [subV, nth] using this
theorem subI_strict (n s : Nat) : (subI n s).Pairwise (· < ·) := by
  refine List.Pairwise.sublist List.filter_sublist ?_
  unfold rangeI
  rw [List.pairwise_map]
  exact List.pairwise_lt_range.imp (fun h => by omega)
theorem subI_in (n s : Nat) : InR n (subI n s) := fun _ hk => rangeI_mem.1 (List.mem_filter.1 (nth_in hk)).1
theorem visits_sub {n : Nat} {xs : List Int} (h : visitsOk n xs = true) (s : Nat) : visitsOk (subI n s).length (subV xs (subI n s)) = true := by
  have hn := visitsOk_n h
  have hl := subI_len n s
  simp only [visitsOk, Bool.and_eq_true, decide_eq_true_eq]
  refine ⟨by omega, allTo_of fun k hk => ?_⟩
  obtain ⟨a, b⟩ := subV_at xs (subI n s) k hk
  have hi := subI_in n s k hk
  have q := visitsOk_at h (k := (nth (subI n s) k).toNat) (by omega)
  simp only [visitOk, a, b, inB, Bool.and_eq_true, decide_eq_true_eq]
  omega
theorem delayD_map {xs ys L : List Int} {f : Int → Int} (h : ∀ k, k < L.length → dueV ys (nth L k).toNat = dueV xs (f (nth L k)).toNat ∧ dayV ys (nth L k).toNat = dayV xs (f (nth L k)).toNat) : ∀ k, k ≤ L.length → delayD ys L k = delayD xs (L.map f) k
  | 0, _ => rfl
  | k + 1, hk => by
    obtain ⟨a, b⟩ := h k (by omega)
    have e : nth (L.map f) k = f (nth L k) := by simp [nth, show k < L.length by omega]
    simp only [delayD]
    rw [delayD_map h k (by omega), a, b, e]
theorem sub_delay {n : Nat} (xs : List Int) (s : Nat) : delayL (subV xs (subI n s)) (dueP (subI n s).length (subV xs (subI n s))) = delayL xs (someL n xs s) := by
  have hI := subI_strict n s
  have hin : ∀ a, a ∈ dueP (subI n s).length (subV xs (subI n s)) → 0 ≤ a ∧ a < (subI n s).length := fun a ha => dueP_mem.1 ha
  generalize hg : subI n s = I at *
  have e : (dueP I.length (subV xs I)).map (fun j => nth I j.toNat) = someL n xs s := by
    have hp1 : ((dueP I.length (subV xs I)).map (fun j => nth I j.toNat)).Pairwise (dueLt xs) := by
      rw [List.pairwise_map]
      refine List.Pairwise.imp_of_mem ?_ (dueP_sorted I.length (subV xs I))
      intro a b ha hb hab
      have h1 := hin a ha
      have h2 := hin b hb
      have q1 := (subV_at xs I a.toNat (by omega)).1
      have q2 := (subV_at xs I b.toNat (by omega)).1
      unfold dueLt at hab ⊢
      rw [q1, q2] at hab
      rcases hab with z | ⟨z, z2⟩
      · exact .inl z
      · refine .inr ⟨z, ?_⟩
        have := (List.pairwise_iff_getElem.1 hI) a.toNat b.toNat (by omega) (by omega) (by omega)
        simpa [nth, show a.toNat < I.length by omega, show b.toNat < I.length by omega] using this
    have hp2 : (someL n xs s).Pairwise (dueLt xs) := List.Pairwise.sublist List.filter_sublist (dueP_sorted n xs)
    have hperm : ((dueP I.length (subV xs I)).map (fun j => nth I j.toNat)).Perm (someL n xs s) := by
      have p1 := (dueP_perm I.length (subV xs I)).map (fun j : Int => nth I j.toNat)
      have e1 : (rangeI I.length).map (fun j : Int => nth I j.toNat) = I := by
        apply List.ext_getElem?
        intro i
        by_cases h : i < I.length
        · simp [rangeI, nth, h]
        · simp [rangeI, h]
      rw [e1] at p1
      have p2 := someL_perm n xs s
      rw [hg] at p2
      exact p1.trans p2.symm
    exact hperm.eq_of_pairwise (le := dueLt xs) (fun _ _ _ _ h1 h2 => by unfold dueLt at h1 h2; omega) hp1 hp2
  unfold delayL
  rw [← e, List.length_map, delayD_map (xs := xs) (f := fun j => nth I j.toNat) (fun k hk => ?_) _ (Nat.le_refl _)]
  have := hin _ (nth_in hk)
  exact subV_at xs I _ (by omega)
theorem sub_canBe {n : Nat} {xs : List Int} (h : visitsOk n xs = true) (s : Nat) : canBe (subI n s).length (subV xs (subI n s)) = decide (delayL xs (someL n xs s) = 0) := by
  simp only [canBe, visits_sub h s, Bool.true_and, sub_delay]
theorem mostTo_step {n : Nat} {xs : List Int} (s : Nat) : mostTo n xs (s + 1) = if delayL xs (someL n xs s) = 0 then max (mostTo n xs s) ((subI n s).length : Int) else mostTo n xs s := by
  rw [← (someL_perm n xs s).length_eq]; rfl
end Go.Proofs.Ytdchgbhhlocmdaa
