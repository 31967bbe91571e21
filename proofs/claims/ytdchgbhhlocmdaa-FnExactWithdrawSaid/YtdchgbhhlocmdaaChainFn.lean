/- Chains of copies as lists of integers: validity, the way up. -/
import Derived.Test.YtdchgbhhlocmdaaBase
namespace Go.Proofs.Ytdchgbhhlocmdaa
/-- element k of a chain is valid -/
def cpOk (xs : List Int) (k : Nat) : Bool := inB (cP xs k) (-1) ((k : Int) - 1) && (inB (cD xs k) (-1000000) 1000000 && inB (cE xs k) 0 1000)
def chainOk (n : Nat) (xs : List Int) : Bool := inB n 1 12 && allTo (cpOk xs) n
theorem cpOk_1 {xs : List Int} {k : Nat} (h : inB (cP xs k) (-1) ((k : Int) - 1) = false) : cpOk xs k = false := by simp [cpOk, h]
theorem cpOk_2 {xs : List Int} {k : Nat} (h : inB (cD xs k) (-1000000) 1000000 = false) : cpOk xs k = false := by simp [cpOk, h]
theorem cpOk_3 {xs : List Int} {k : Nat} (h : inB (cE xs k) 0 1000 = false) : cpOk xs k = false := by simp [cpOk, h]
theorem cpOk_t {xs : List Int} {k : Nat} (h1 : inB (cP xs k) (-1) ((k : Int) - 1) = true) (h2 : inB (cD xs k) (-1000000) 1000000 = true) (h3 : inB (cE xs k) 0 1000 = true) : cpOk xs k = true := by simp [cpOk, h1, h2, h3]
theorem chainOk_len {n : Nat} {xs : List Int} (h : inB n 1 12 = false) : chainOk n xs = false := by simp [chainOk, h]
theorem chainOk_at {n : Nat} {xs : List Int} {k : Nat} (hk : k < n) (h : cpOk xs k = false) : chainOk n xs = false := by simp [chainOk, allTo_no hk h]
theorem chainOk_t {n : Nat} {xs : List Int} (h1 : inB n 1 12 = true) (h2 : allTo (cpOk xs) n = true) : chainOk n xs = true := by simp [chainOk, h1, h2]
theorem chainOk_n {n : Nat} {xs : List Int} (h : chainOk n xs = true) : 1 ≤ n ∧ n ≤ 12 := by
  simp only [chainOk, Bool.and_eq_true] at h
  have := inB_le h.1
  omega
theorem chainOk_p {n : Nat} {xs : List Int} (h : chainOk n xs = true) {k : Nat} (hk : k < n) : -1 ≤ cP xs k ∧ cP xs k < k := by
  simp only [chainOk, Bool.and_eq_true] at h
  have := allTo_at h.2 hk
  simp only [cpOk, Bool.and_eq_true] at this
  have := inB_le this.1
  omega
theorem chainOk_d {n : Nat} {xs : List Int} (h : chainOk n xs = true) {k : Nat} (hk : k < n) : -1000000 ≤ cD xs k ∧ cD xs k ≤ 1000000 ∧ 0 ≤ cE xs k ∧ cE xs k ≤ 1000 := by
  simp only [chainOk, Bool.and_eq_true] at h
  have := allTo_at h.2 hk
  simp only [cpOk, Bool.and_eq_true] at this
  have h1 := inB_le this.2.1
  have h2 := inB_le this.2.2
  omega

/-- the way up from k, with fuel -/
def upFrom (xs : List Int) : Nat → Int → List Int
  | 0, _ => []
  | f + 1, k => if 0 ≤ k then k :: upFrom xs f (cP xs k.toNat) else []
def upL (xs : List Int) (k : Int) : List Int := upFrom xs 12 k
theorem upFrom_yes {xs : List Int} {f : Nat} {k : Int} (h : 0 ≤ k) : upFrom xs (f + 1) k = k :: upFrom xs f (cP xs k.toNat) := by simp only [upFrom]; rw [if_pos h]
theorem upFrom_no {xs : List Int} {f : Nat} {k : Int} (h : ¬ 0 ≤ k) : upFrom xs f k = [] := by
  cases f with
  | zero => rfl
  | succ f => simp only [upFrom]; rw [if_neg h]
/-- the way up from k where the chain is valid and k is one of its copies; else nothing -/
def aboveL (n : Nat) (xs : List Int) (k : Int) : List Int := if chainOk n xs = true ∧ inB k 0 ((n : Int) - 1) = true then upL xs k else []
theorem aboveL_c {n : Nat} {xs : List Int} {k : Int} (h : chainOk n xs = false) : aboveL n xs k = [] := if_neg (by simp [h])
theorem aboveL_k {n : Nat} {xs : List Int} {k : Int} (h : inB k 0 ((n : Int) - 1) = false) : aboveL n xs k = [] := if_neg (by simp [h])
theorem aboveL_t {n : Nat} {xs : List Int} {k : Int} (h1 : chainOk n xs = true) (h2 : inB k 0 ((n : Int) - 1) = true) : aboveL n xs k = upL xs k := if_pos ⟨h1, h2⟩
theorem upFrom_len (xs : List Int) : ∀ (f : Nat) (k : Int), (upFrom xs f k).length ≤ f
  | 0, _ => by simp [upFrom]
  | f + 1, k => by
    simp only [upFrom]
    split
    · simp only [List.length_cons]; have := upFrom_len xs f (cP xs k.toNat); omega
    · simp
theorem aboveL_len (n : Nat) (xs : List Int) (k : Int) : (aboveL n xs k).length ≤ 12 := by
  unfold aboveL; split
  · exact upFrom_len xs 12 k
  · simp
theorem upFrom_mem {n : Nat} {xs : List Int} (h : chainOk n xs = true) : ∀ (f : Nat) (k : Int), k < n → ∀ x ∈ upFrom xs f k, 0 ≤ x ∧ x < n
  | 0, _, _, x, hx => by simp [upFrom] at hx
  | f + 1, k, hk, x, hx => by
    by_cases h0 : 0 ≤ k
    · rw [upFrom_yes h0, List.mem_cons] at hx
      rcases hx with rfl | hx
      · exact ⟨h0, hk⟩
      · have := chainOk_p h (k := k.toNat) (by omega)
        exact upFrom_mem h f _ (by omega) x hx
    · rw [upFrom_no h0] at hx; simp at hx
theorem aboveL_mem {n : Nat} {xs : List Int} {k x : Int} (hx : x ∈ aboveL n xs k) : chainOk n xs = true ∧ 0 ≤ x ∧ x < n := by
  unfold aboveL at hx
  split at hx
  · rename_i h
    have := inB_le h.2
    exact ⟨h.1, upFrom_mem h.1 12 k (by omega) x hx⟩
  · simp at hx
end Go.Proofs.Ytdchgbhhlocmdaa
