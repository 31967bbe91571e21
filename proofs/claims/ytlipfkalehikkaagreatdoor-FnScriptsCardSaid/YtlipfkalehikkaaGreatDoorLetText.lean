/- The text of a letter, walked. -/
import Derived.Test.YtlipfkalehikkaaGreatDoorFormat
import Derived.Test.YtlipfkalehikkaaGreatDoorGA
namespace Go.Proofs.YtlipfkalehikkaaGreatDoor
open Go.ChangeShapes Go.WideShapes Go.ChangeAt Go.RowKit

theorem add_at {P : Program} (x y : List UInt8) (s : ByteArray) (hs : s = bstr x) (h : x.length + y.length ≤ 1000000000) : ∀ W : World, (Op.stringOp .add s (bstr y)).run P W = .ok (.string (bstr (x ++ y))) W := fun W => by subst hs; exact add_bstr W x y h
theorem add_to {P : Program} (x y : List UInt8) (s : ByteArray) (hs : s = bstr y) (h : x.length + y.length ≤ 1000000000) : ∀ W : World, (Op.stringOp .add (bstr x) s).run P W = .ok (.string (bstr (x ++ y))) W := fun W => by subst hs; exact add_bstr W x y h
/-- the numbers' texts, each behind a space -/
def spTo (f : Nat → Int) : Nat → List UInt8
  | 0 => []
  | k + 1 => spTo f k ++ (32 :: Lib.itoa (f k))
def letterText (o : Int) (ks : List Int) : List UInt8 := if inB o 0 20 = true ∧ allTo (fun j => inB (nth ks j) 0 11) ks.length = true then [116, 111, 32] ++ Lib.itoa o ++ [58] ++ spTo (nth ks) ks.length else []
theorem letterText_o {o : Int} {ks : List Int} (h : inB o 0 20 = false) : letterText o ks = [] := if_neg (by simp [h])
theorem letterText_k {o : Int} {ks : List Int} {k : Nat} (hk : k < ks.length) (h : inB (nth ks k) 0 11 = false) : letterText o ks = [] := if_neg (by rw [allTo_no (p := fun j => inB (nth ks j) 0 11) hk h]; simp)
theorem letterText_t {o : Int} {ks : List Int} (h : inB o 0 20 = true) (h1 : allTo (fun j => inB (nth ks j) 0 11) ks.length = true) : letterText o ks = [116, 111, 32] ++ Lib.itoa o ++ [58] ++ spTo (nth ks) ks.length := if_pos ⟨h, h1⟩

end Go.Proofs.YtlipfkalehikkaaGreatDoor
