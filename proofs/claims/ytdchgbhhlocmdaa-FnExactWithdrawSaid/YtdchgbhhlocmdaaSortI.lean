/- The library's sort of a slice of integers that the call itself has made. -/
import Derived.Test.YtdchgbhhlocmdaaShelf
import Derived.Test.YtdchgbhhlocmdaaSortFn
import Derived.Sort.OwnSortedInts
namespace Go.Proofs.Ytdchgbhhlocmdaa
open Go.ChangeShapes Go.WideShapes Go.ChangeAt Go.RowKit

open Go.Sort in
theorem sortInts_any {B : Nat} {ad : Option Addr} {cap : Nat} (xs : List Int) (w : World) (h : w.ownsRow B 3 1 (.slice ad xs.length cap) xs.length (xs.map (Value.int .i64))) (hl : xs.length ≤ 1048576) :
    Calls Try.prog 98 #[.slice ad xs.length cap] w fun e w' => e = .returned (.tuple #[]) ∧ w'.ownsRow B 3 1 (.slice ad xs.length cap) xs.length ((sortL xs).map (Value.int .i64)) ∧ w.grownBy w' (Value.slice ad xs.length cap).ownBlock := by
  rcases h.2 with ⟨hnil, hk0⟩ | ⟨g, c, cur, hv, hbase, hb, h1, h2, h3, h4⟩
  · obtain rfl : xs = [] := List.eq_nil_of_length_eq_zero hk0
    refine (Any.sort_Ints_none laysInts ad cap w).mono ?_
    rintro e w' ⟨rfl, rfl⟩
    exact ⟨rfl, by simpa [sortL] using h, only_refl _ _⟩
  · cases hv
    have hH : Holds (Value.int .i64) w g 0 xs.toArray := holds_of_blockI hb (by simpa using h4)
    have hgl : g < w.heap.size := (Array.getElem?_eq_some_iff.1 hb).1
    refine (Any.sort_Ints laysInts g 0 cap xs w hH hgl (by omega)).mono ?_
    rintro e w' ⟨rfl, n, os, rfl⟩
    have hro := ownsRow_sortedI (n := n) (os := os) (ts := sortL xs) (sortL_len xs) hbase hb h1 h2 h3
    have hg := grownBy_sortedI (w := w) (g := g) (n := n) (os := os) (sortL xs).toArray
    exact ⟨rfl, hro, hg⟩
end Go.Proofs.Ytdchgbhhlocmdaa
