/- Days and owners of chains: what the tests answer. -/
import Derived.Test.YtdchgbhhlocmdaaChainFn
namespace Go.Proofs.Ytdchgbhhlocmdaa
def dayOk (xs ms : List Int) (k : Nat) : Bool := inB (nth ms k) 0 10000 && (decide (cP xs k < 0) || decide (nth ms (cP xs k).toNat ≤ nth ms k))
def daysOk (n : Nat) (xs ms : List Int) : Bool := chainOk n xs && (decide (ms.length = n) && allTo (dayOk xs ms) n)
def ownersOk (n : Nat) (xs os : List Int) : Bool := chainOk n xs && (decide (os.length = n) && allTo (fun k => inB (nth os k) 0 20) os.length)
theorem daysOk_c {n : Nat} {xs ms : List Int} (h : chainOk n xs = false) : daysOk n xs ms = false := by simp [daysOk, h]
theorem daysOk_l {n : Nat} {xs ms : List Int} (h : ms.length ≠ n) : daysOk n xs ms = false := by simp [daysOk, h]
theorem daysOk_at {n : Nat} {xs ms : List Int} {k : Nat} (hk : k < n) (h : dayOk xs ms k = false) : daysOk n xs ms = false := by simp [daysOk, allTo_no hk h]
theorem daysOk_t {n : Nat} {xs ms : List Int} (h : chainOk n xs = true) (hl : ms.length = n) (ha : allTo (dayOk xs ms) n = true) : daysOk n xs ms = true := by simp [daysOk, h, hl, ha]
theorem daysOk_chain {n : Nat} {xs ms : List Int} (h : daysOk n xs ms = true) : chainOk n xs = true ∧ ms.length = n := by
  simp only [daysOk, Bool.and_eq_true, decide_eq_true_eq] at h; exact ⟨h.1, h.2.1⟩
theorem daysOk_day {n : Nat} {xs ms : List Int} (h : daysOk n xs ms = true) {k : Nat} (hk : k < n) : 0 ≤ nth ms k ∧ nth ms k ≤ 10000 := by
  simp only [daysOk, Bool.and_eq_true, decide_eq_true_eq] at h
  have := allTo_at h.2.2 hk
  simp only [dayOk, Bool.and_eq_true] at this
  exact inB_le this.1
theorem dayOk_1 {xs ms : List Int} {k : Nat} (h : inB (nth ms k) 0 10000 = false) : dayOk xs ms k = false := by simp [dayOk, h]
theorem dayOk_2 {xs ms : List Int} {k : Nat} (h : inB (nth ms k) 0 10000 = true) (hp : cP xs k < 0) : dayOk xs ms k = true := by simp [dayOk, h, hp]
theorem dayOk_3 {xs ms : List Int} {k : Nat} (h : inB (nth ms k) 0 10000 = true) (hq : nth ms (cP xs k).toNat ≤ nth ms k) : dayOk xs ms k = true := by simp [dayOk, h, hq]
theorem dayOk_4 {xs ms : List Int} {k : Nat} (hp : ¬ cP xs k < 0) (hq : ¬ nth ms (cP xs k).toNat ≤ nth ms k) : dayOk xs ms k = false := by
  have h1 : decide (cP xs k < 0) = false := by simpa using hp
  have h2 : decide (nth ms (cP xs k).toNat ≤ nth ms k) = false := by simpa using hq
  simp [dayOk, h1, h2]
theorem ownersOk_c {n : Nat} {xs os : List Int} (h : chainOk n xs = false) : ownersOk n xs os = false := by simp [ownersOk, h]
theorem ownersOk_l {n : Nat} {xs os : List Int} (h : os.length ≠ n) : ownersOk n xs os = false := by simp [ownersOk, h]
theorem ownersOk_at {n : Nat} {xs os : List Int} {k : Nat} (hk : k < os.length) (h : inB (nth os k) 0 20 = false) : ownersOk n xs os = false := by
  simp [ownersOk, allTo_no (p := fun k => inB (nth os k) 0 20) hk h]
theorem ownersOk_t {n : Nat} {xs os : List Int} (ha : allTo (fun k => inB (nth os k) 0 20) os.length = true) : ownersOk n xs os = (chainOk n xs && decide (os.length = n)) := by simp [ownersOk, ha]
theorem ownersOk_chain {n : Nat} {xs os : List Int} (h : ownersOk n xs os = true) : chainOk n xs = true ∧ os.length = n := by
  simp only [ownersOk, Bool.and_eq_true, decide_eq_true_eq] at h; exact ⟨h.1, h.2.1⟩
theorem ownersOk_at' {n : Nat} {xs os : List Int} (h : ownersOk n xs os = true) {k : Nat} (hk : k < n) : 0 ≤ nth os k ∧ nth os k ≤ 20 := by
  simp only [ownersOk, Bool.and_eq_true, decide_eq_true_eq] at h
  have := allTo_at h.2.2 (by omega : k < os.length)
  exact inB_le this
end Go.Proofs.Ytdchgbhhlocmdaa
