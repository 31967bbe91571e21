/- The walk of the laws' marks on texts. -/
import Derived.Test.YtfnlniknclkeaaaDoorMarkText
import Derived.Test.YtfnlniknclkeaaaDoorGA
namespace Go.Proofs.YtfnlniknclkeaaaDoor
open Go.ChangeShapes Go.WideShapes Go.ChangeAt Go.RowKit

def sv (t : List UInt8) : Value := .string (bstr t)
def markLs (k n : Nat) : List (List UInt8) := (List.range n).map fun i => markL (k + i)
theorem markLs_succ (k n : Nat) : markLs k (n + 1) = markLs k n ++ [markL (k + n)] := by simp [markLs, List.range_succ]
theorem markLs_len (k n : Nat) : (markLs k n).length = n := by simp [markLs]
theorem mark_setT (ts : List (List UInt8)) (k0 k : Nat) (h : k < ts.length) : (((markLs k0 k).map sv ++ (ts.drop k).map sv).set k (sv (markL (k0 + k)))) = (markLs k0 (k + 1)).map sv ++ (ts.drop (k + 1)).map sv := by
  rw [List.set_append_right _ _ (by simp [markLs_len])]
  rw [List.drop_eq_getElem_cons h, markLs_succ, List.map_append]
  simp only [List.map_cons, List.map_nil, List.length_map, markLs_len, Nat.sub_self, List.set_cons_zero, List.append_assoc, List.cons_append, List.nil_append]
theorem grown_below' {a w w' : World} {g : Nat} (h : a.grownBy w (some g)) (hb : Below w.heap.size w w') : a.grownBy w' (some g) :=
  ⟨hb.os.trans h.os, hb.tape.trans h.tape, hb.output.trans h.output, Nat.le_trans h.size hb.size, fun i hi hn => (hb.block i (Nat.lt_of_lt_of_le hi h.size)).trans (h.block i hi hn)⟩
end Go.Proofs.YtfnlniknclkeaaaDoor
