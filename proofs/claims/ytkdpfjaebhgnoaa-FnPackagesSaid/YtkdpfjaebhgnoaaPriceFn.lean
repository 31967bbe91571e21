/- What ShortLimit, PriceOf and GramsFor compute, as functions on integers. -/
import Derived.Test.YtkdpfjaebhgnoaaBase
namespace Go.Proofs.Ytkdpfjaebhgnoaa
def shortLimit (a : Int) : Int := if 10 ≤ a ∧ a ≤ 10000 then (if a ≤ 100 then max 1 (a * 9 / 100) else if a ≤ 500 then max 1 (a * 6 / 100) else max 1 (a * 3 / 100)) else 0
/-- thousandths rounded to the nearest whole, of two the even one -/
def priceUp (n : Int) : Int := if n % 1000 > 500 ∨ (n % 1000 = 500 ∧ n / 1000 % 2 = 1) then n / 1000 + 1 else n / 1000
def priceOf (g p : Int) : Int := if inB g 0 100000 = true ∧ inB p 0 100000 = true then priceUp (g * p) else -1
theorem prod_bd {g p : Int} (h1 : inB g 0 100000 = true) (h2 : inB p 0 100000 = true) : 0 ≤ g * p ∧ g * p ≤ 10000000000 := by
  have a := inB_le h1
  have b := inB_le h2
  refine ⟨Int.mul_nonneg a.1 b.1, ?_⟩
  have := Int.mul_le_mul a.2 b.2 b.1 (by omega)
  omega
theorem priceUp_bd {n : Int} (h0 : 0 ≤ n) (h1 : n ≤ 10000000000) : 0 ≤ priceUp n ∧ priceUp n ≤ 10000000 := by
  unfold priceUp; split <;> omega
theorem priceOf_bd (g p : Int) : -1 ≤ priceOf g p ∧ priceOf g p ≤ 10000000 := by
  unfold priceOf
  split
  · rename_i h; have := prod_bd h.1 h.2; have := priceUp_bd this.1 this.2; omega
  · omega
theorem priceOf_in {g p : Int} (h1 : inB g 0 100000 = true) (h2 : inB p 0 100000 = true) : priceOf g p = priceUp (g * p) := if_pos ⟨h1, h2⟩
theorem priceOf_g {g p : Int} (h : inB g 0 100000 = false) : priceOf g p = -1 := if_neg (by simp [h])
theorem priceOf_p {g p : Int} (h : inB p 0 100000 = false) : priceOf g p = -1 := if_neg (by simp [h])

/-- the halving of GramsFor, with fuel -/
def halve (m p : Int) : Nat → Int → Int → Int
  | 0, l, _ => l
  | f + 1, l, h => if l < h then (if priceOf ((l + h + 1) / 2) p ≤ m then halve m p f ((l + h + 1) / 2) h else halve m p f l ((l + h + 1) / 2 - 1)) else l
theorem halve_yes {m p : Int} {f : Nat} {l h : Int} (hlt : l < h) (hp : priceOf ((l + h + 1) / 2) p ≤ m) : halve m p (f + 1) l h = halve m p f ((l + h + 1) / 2) h := by
  simp only [halve]; rw [if_pos hlt, if_pos hp]
theorem halve_no {m p : Int} {f : Nat} {l h : Int} (hlt : l < h) (hp : ¬ priceOf ((l + h + 1) / 2) p ≤ m) : halve m p (f + 1) l h = halve m p f l ((l + h + 1) / 2 - 1) := by
  simp only [halve]; rw [if_pos hlt, if_neg hp]
theorem halve_end {m p : Int} {f : Nat} {l h : Int} (hle : h ≤ l) : halve m p f l h = l := by
  cases f with
  | zero => rfl
  | succ f => simp only [halve]; rw [if_neg (by omega)]
def gramsFor (m p : Int) : Int := if inB p 1 100000 = true ∧ inB m 0 1000000 = true then halve m p 100000 0 100000 else -1
end Go.Proofs.Ytkdpfjaebhgnoaa
