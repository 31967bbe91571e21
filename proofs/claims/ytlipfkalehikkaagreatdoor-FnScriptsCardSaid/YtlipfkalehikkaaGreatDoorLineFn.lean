/- The lines of a house: the plain law. -/
import Derived.Test.YtlipfkalehikkaaGreatDoorGB
import Derived.Test.YtlipfkalehikkaaGreatDoorGA
import Derived.Test.YtlipfkalehikkaaGreatDoorLetText
import Derived.Test.YtlipfkalehikkaaGreatDoorTexts
namespace Go.Proofs.YtlipfkalehikkaaGreatDoor
open Go.ChangeShapes Go.WideShapes Go.ChangeAt Go.RowKit

/-- copy k of a house as a line, without the word on whether its owner was told -/
def houseLine0 (h : HD) (k : Nat) : List UInt8 := Lib.itoa k ++ [58, 32] ++ Lib.itoa (weightIn h.n h.xs k) ++ [32] ++ Lib.itoa (errorIn h.n h.xs k) ++ [32] ++ Lib.itoa (nth h.os k)
def houseLine (h : HD) (k : Nat) : List UInt8 := if (k : Int) ∈ h.ts then houseLine0 h k ++ [32, 116, 111, 108, 100] else houseLine0 h k
def linesTo (h : HD) (k : Nat) : List (List UInt8) := (List.range k).map (houseLine h)
theorem linesTo_succ (h : HD) (k : Nat) : linesTo h (k + 1) = linesTo h k ++ [houseLine h k] := by simp [linesTo, List.range_succ]
theorem linesTo_len (h : HD) (k : Nat) : (linesTo h k).length = k := by simp [linesTo]
def dayLine (h : HD) : List UInt8 := [100, 97, 121, 32] ++ Lib.itoa h.day
def sentLine (h : HD) : List UInt8 := [108, 101, 116, 116, 101, 114, 115, 32] ++ Lib.itoa h.sent
def formatHouse (h : HD) : List (List UInt8) := if houseOk h = true then linesTo h h.n ++ [dayLine h, sentLine h] else []
theorem formatHouse_f {h : HD} (q : houseOk h = false) : formatHouse h = [] := if_neg (by simp [q])
theorem formatHouse_t {h : HD} (q : houseOk h = true) : formatHouse h = linesTo h h.n ++ [dayLine h, sentLine h] := if_pos q
theorem houseLine0_len {h : HD} {k : Nat} (hk : k ≤ 1000) (h0 : 0 ≤ nth h.os k) (h1 : nth h.os k ≤ 1000) : (houseLine0 h k).length ≤ 84 := by
  have a := itoa_len (n := (k : Int)) (by omega) (by omega)
  have b := weightIn_bd h.n h.xs k
  have c := errorIn_bd h.n h.xs k
  have b' := itoa_len (n := weightIn h.n h.xs k) (by omega) (by omega)
  have c' := itoa_len (n := errorIn h.n h.xs k) (by omega) (by omega)
  have d' := itoa_len (n := nth h.os k) (by omega) (by omega)
  unfold houseLine0
  simp only [List.length_append, List.length_cons, List.length_nil]
  omega
end Go.Proofs.YtlipfkalehikkaaGreatDoor
