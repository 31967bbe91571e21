/- Slices of letters as lists: an owner and the numbers of copies each. -/
import Derived.Test.YtdchgbhhlocmdaaBase
namespace Go.Proofs.Ytdchgbhhlocmdaa
open Go.ChangeShapes Go.WideShapes Go.ChangeAt Go.RowKit

def lOwner (ls : List (Int × List Int)) (k : Nat) : Int := (ls.getD k (0, [])).1
def lCopies (ls : List (Int × List Int)) (k : Nat) : List Int := (ls.getD k (0, [])).2
theorem take_ls (ls : List (Int × List Int)) (k : Nat) (h : k < ls.length) : ls.take (k + 1) = ls.take k ++ [(lOwner ls k, lCopies ls k)] := by
  simp only [List.take_succ_eq_append_getElem h, lOwner, lCopies, List.getD_eq_getElem?_getD, List.getElem?_eq_getElem h, Option.getD_some]
/-- slice value v reads as the letters ls in world w -/
structure Letters (w : World) (v : Value) (ls : List (Int × List Int)) : Prop where
  len : ls.length ≤ 9223372036854775807
  ex : ∃ ad cap, v = .slice ad ls.length cap ∧ ∀ k, k < ls.length → ∃ b o u, ad = some ⟨b, o, none⟩ ∧ w.cell? ⟨b, o + k * 2, none⟩ = some (.int .i64 (lOwner ls k)) ∧ w.cell? ⟨b, o + k * 2 + 1, none⟩ = some u ∧ Ints w u (lCopies ls k)
theorem Letters.below {w w' : World} {v : Value} {ls : List (Int × List Int)} (h : Letters w v ls) (hb : Below w.heap.size w w') : Letters w' v ls := by
  obtain ⟨hl, ad, cap, hv, hc⟩ := h
  refine ⟨hl, ad, cap, hv, fun k hk => ?_⟩
  obtain ⟨b, o, u, ha, h0, h1, hi⟩ := hc k hk
  exact ⟨b, o, u, ha, (hb.cell (p := ⟨b, o + k * 2, none⟩) (World.block_lt_of_cell? w _ h0)).trans h0, (hb.cell (p := ⟨b, o + k * 2 + 1, none⟩) (World.block_lt_of_cell? w _ h1)).trans h1, hi.below hb⟩
/-- how many values the letters hold, as szLetterS counts -/
def lLen (ls : List (Int × List Int)) (k : Nat) : Int := (lCopies ls k).length
def bulkTo (ls : List (Int × List Int)) (k : Nat) : Int := ls.length + sumTo (lLen ls) k
def bulk (ls : List (Int × List Int)) : Int := bulkTo ls ls.length
theorem sumTo_mono (f : Nat → Int) (h : ∀ k, 0 ≤ f k) (n : Nat) : ∀ k, k ≤ n → sumTo f k ≤ sumTo f n := by
  induction n with
  | zero => intro k hk; rw [show k = 0 by omega]; exact Int.le_refl _
  | succ n ih =>
    intro k hk
    rcases Nat.lt_or_ge k (n + 1) with hlt | hge
    · have := ih k (by omega); have := h n; simp only [sumTo]; omega
    · rw [show k = n + 1 by omega]; exact Int.le_refl _
theorem lLen_nn (ls : List (Int × List Int)) (k : Nat) : 0 ≤ lLen ls k := by unfold lLen; omega
theorem bulkTo_le (ls : List (Int × List Int)) (k : Nat) (hk : k ≤ ls.length) : bulkTo ls k ≤ bulk ls := by
  have := sumTo_mono (lLen ls) (lLen_nn ls) ls.length k hk; unfold bulk bulkTo; omega
theorem bulkTo_ge (ls : List (Int × List Int)) (k : Nat) : (ls.length : Int) ≤ bulkTo ls k := by
  have := sumTo_mono (lLen ls) (lLen_nn ls) k 0 (Nat.zero_le _); unfold bulkTo; simp only [sumTo] at this; omega
theorem bulkTo_succ (ls : List (Int × List Int)) (k : Nat) : bulkTo ls (k + 1) = bulkTo ls k + (lCopies ls k).length := by unfold bulkTo; simp only [sumTo]; unfold lLen; omega
theorem bulk_len (ls : List (Int × List Int)) (k : Nat) (hk : k < ls.length) : ((lCopies ls k).length : Int) ≤ bulk ls := by
  have h1 := bulkTo_le ls (k + 1) hk
  have h2 := bulkTo_ge ls k
  rw [bulkTo_succ] at h1
  omega
def szRes (left n : Int) : Int := if left < n then -1 else left - n
theorem szRes_lt {left n : Int} (h : left < n) : szRes left n = -1 := if_pos h
theorem szRes_ge {left n : Int} (h : ¬ left < n) : szRes left n = left - n := if_neg h
theorem own_pair {w : World} {base g cap n : Nat} {e : TypeId} {xs : List Value} (h : w.ownsRow base e 2 (.slice (some ⟨g, 0, none⟩) n cap) n xs) (k : Nat) (hk : k < n) :
    (∃ u, w.cell? ⟨g, k * 2, none⟩ = some u) ∧ (∃ u, w.cell? ⟨g, k * 2 + 1, none⟩ = some u) ∧ w.frozen? ⟨g, k * 2, none⟩ = false ∧ w.frozen? ⟨g, k * 2 + 1, none⟩ = false :=
  ⟨own_cell h _ (by omega), own_cell h _ (by omega), h.frozenAt _, h.frozenAt _⟩
end Go.Proofs.Ytdchgbhhlocmdaa
