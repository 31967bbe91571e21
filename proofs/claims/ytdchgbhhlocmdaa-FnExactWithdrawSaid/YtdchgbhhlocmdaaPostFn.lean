/- The letters to owners: the plain law. -/
import Derived.Test.YtdchgbhhlocmdaaSortFn
import Derived.Test.YtdchgbhhlocmdaaDaysFn
import Derived.Test.YtdchgbhhlocmdaaLettersFn
namespace Go.Proofs.Ytdchgbhhlocmdaa
open Go.ChangeShapes Go.WideShapes Go.ChangeAt Go.RowKit

def pickP (os : List Int) (o : Int) (k : Int) : Bool := nth os k.toNat == o
def pickO (D os : List Int) (o : Int) : List Int := D.filter (pickP os o)
def pickTo (D os : List Int) (o : Int) (k : Nat) : List Int := (D.take k).filter (pickP os o)
theorem pickTo_yes {D os : List Int} {o : Int} {k : Nat} (hk : k < D.length) (h : (nth os (nth D k).toNat == o) = true) : pickTo D os o (k + 1) = pickTo D os o k ++ [nth D k] := by
  have e : D.take (k + 1) = D.take k ++ [nth D k] := by rw [List.take_add_one]; simp [nth, hk]
  have h' : pickP os o (nth D k) = true := h
  simp [pickTo, e, List.filter_append, h']
theorem pickTo_no {D os : List Int} {o : Int} {k : Nat} (hk : k < D.length) (h : (nth os (nth D k).toNat == o) = false) : pickTo D os o (k + 1) = pickTo D os o k := by
  have e : D.take (k + 1) = D.take k ++ [nth D k] := by rw [List.take_add_one]; simp [nth, hk]
  have h' : pickP os o (nth D k) = false := h
  simp [pickTo, e, List.filter_append, h']
theorem pickTo_len (D os : List Int) (o : Int) (k : Nat) : (pickTo D os o k).length ≤ k := Nat.le_trans (List.length_filter_le _ _) (by simp; omega)
theorem pickTo_all (D os : List Int) (o : Int) : pickTo D os o D.length = pickO D os o := by simp [pickTo, pickO]
/-- the reference goes over the copies -/
def natsI (n : Nat) : List Int := (List.range n).map (fun k : Nat => (k : Int))
theorem natsI_succ (n : Nat) : natsI (n + 1) = natsI n ++ [(n : Int)] := by simp [natsI, List.range_succ]
theorem natsI_mem {n : Nat} {x : Int} : x ∈ natsI n ↔ 0 ≤ x ∧ x < n := by
  simp only [natsI, List.mem_map, List.mem_range]
  exact ⟨fun ⟨k, hk, e⟩ => by omega, fun h => ⟨x.toNat, by omega, by omega⟩⟩
theorem natsI_strict (n : Nat) : StrictI (natsI n) := by
  unfold natsI StrictI
  rw [List.pairwise_map]
  exact List.pairwise_lt_range.imp (fun h => by omega)
def pickQ (os aff : List Int) (o : Int) (k : Int) : Bool := nth os k.toNat == o && decide (k ∈ aff)
def pickN (os aff : List Int) (o : Int) (n : Nat) : List Int := (natsI n).filter (pickQ os aff o)
theorem pickN_yes {os aff : List Int} {o : Int} {k : Nat} (h : (nth os k == o) = true) (h2 : (k : Int) ∈ aff) : pickN os aff o (k + 1) = pickN os aff o k ++ [(k : Int)] := by
  have h' : pickQ os aff o (k : Int) = true := by simp only [pickQ, Int.toNat_natCast, h, h2]; simp
  simp [pickN, natsI_succ, List.filter_append, h']
theorem pickN_no {os aff : List Int} {o : Int} {k : Nat} (h : (nth os k == o) = false) : pickN os aff o (k + 1) = pickN os aff o k := by
  have h' : pickQ os aff o (k : Int) = false := by simp only [pickQ, Int.toNat_natCast, h]; simp
  simp [pickN, natsI_succ, List.filter_append, h']
theorem pickN_no2 {os aff : List Int} {o : Int} {k : Nat} (h2 : ¬ (k : Int) ∈ aff) : pickN os aff o (k + 1) = pickN os aff o k := by
  have h' : pickQ os aff o (k : Int) = false := by simp [pickQ, h2]
  simp [pickN, natsI_succ, List.filter_append, h']
theorem pickN_len (os aff : List Int) (o : Int) (k : Nat) : (pickN os aff o k).length ≤ k := by
  have := List.length_filter_le (pickQ os aff o) (natsI k)
  simp [natsI] at this
  exact this
theorem pick_eq {n : Nat} {os aff : List Int} {o : Int} (h : ∀ k, k < aff.length → 0 ≤ nth aff k ∧ nth aff k < n) : pickN os aff o n = pickO (diffL aff) os o := by
  refine strict_ext (strict_filter (natsI_strict n) _) (strict_filter (diffL_strict aff) _) fun x => ?_
  simp only [pickN, pickO, List.mem_filter, natsI_mem, diffL_mem, pickQ, pickP, Bool.and_eq_true, decide_eq_true_eq]
  refine ⟨fun q => ⟨q.2.2, q.2.1⟩, fun q => ⟨?_, q.2, q.1⟩⟩
  obtain ⟨i, hi, e⟩ := List.getElem_of_mem q.1
  have := h i hi
  rw [show nth aff i = x by simp [nth, hi, e]] at this
  exact this
def postTo (D os : List Int) : Nat → List (Int × List Int)
  | 0 => []
  | o + 1 => if pickO D os o = [] then postTo D os o else postTo D os o ++ [((o : Int), pickO D os o)]
def inChain (n : Nat) (aff : List Int) (k : Nat) : Bool := inB (nth aff k) 0 ((n : Int) - 1)
def lettersFor (n : Nat) (xs os aff : List Int) : List (Int × List Int) :=
  if ownersOk n xs os = true ∧ allTo (inChain n aff) aff.length = true then postTo (diffL aff) os 21 else []
theorem letters_f {n : Nat} {xs os aff : List Int} (h : ownersOk n xs os = false) : lettersFor n xs os aff = [] := if_neg (by simp [h])
theorem letters_g {n : Nat} {xs os aff : List Int} {k : Nat} (hk : k < aff.length) (h : inChain n aff k = false) : lettersFor n xs os aff = [] := if_neg fun q => by
  have := allTo_at q.2 hk
  rw [h] at this
  cases this
theorem letters_t {n : Nat} {xs os aff : List Int} (h : ownersOk n xs os = true) (h2 : allTo (inChain n aff) aff.length = true) : lettersFor n xs os aff = postTo (diffL aff) os 21 := if_pos ⟨h, h2⟩
theorem postTo_len (D os : List Int) : ∀ o, (postTo D os o).length ≤ o
  | 0 => by simp [postTo]
  | o + 1 => by
    have := postTo_len D os o
    simp only [postTo]
    split
    · omega
    · simp; omega
theorem postTo_no {D os : List Int} {o : Nat} (h : (pickO D os o).length = 0) : postTo D os (o + 1) = postTo D os o := by
  simp only [postTo]; rw [if_pos (List.eq_nil_of_length_eq_zero h)]
theorem postTo_yes {D os : List Int} {o : Nat} (h : 0 < (pickO D os o).length) : postTo D os (o + 1) = postTo D os o ++ [((o : Int), pickO D os o)] := by
  simp only [postTo]; rw [if_neg (fun e => by rw [e] at h; simp at h)]
theorem in_chain {n : Nat} {aff : List Int} (h : allTo (inChain n aff) aff.length = true) : ∀ k, k < aff.length → 0 ≤ nth aff k ∧ nth aff k < n := fun k hk => by
  have := inB_le (allTo_at h hk)
  omega
end Go.Proofs.Ytdchgbhhlocmdaa
