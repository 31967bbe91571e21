/- Drawn chains, walked. -/
import Derived.Test.YtlipfkalehikkaaGH
import Derived.Test.YtlipfkalehikkaaGA
import Derived.Test.YtlipfkalehikkaaGB
import Derived.Deep.RegionWith
import Derived.Deep.RegionHeld3
namespace Go.Proofs.Ytlipfkalehikkaa
open Go.ChangeShapes Go.WideShapes Go.ChangeAt Go.RowKit

theorem nth_appl {xs zs : List Int} {k : Nat} (h : k < xs.length) : nth (xs ++ zs) k = nth xs k := by simp [nth, List.getElem?_append, h]
theorem nth_appr {xs zs : List Int} {k j : Nat} (h : k = xs.length + j) : nth (xs ++ zs) k = nth zs j := by
  subst h
  simp only [nth, List.getD_eq_getElem?_getD]
  rw [List.getElem?_append_right (by omega), show xs.length + j - xs.length = j by omega]
theorem cpOk_ext {xs zs : List Int} {k : Nat} (h : k * 3 + 3 ≤ xs.length) : cpOk (xs ++ zs) k = cpOk xs k := by
  have e0 : cP (xs ++ zs) k = cP xs k := nth_appl (by omega)
  have e1 : cD (xs ++ zs) k = cD xs k := nth_appl (by omega)
  have e2 : cE (xs ++ zs) k = cE xs k := nth_appl (by omega)
  unfold cpOk
  rw [e0, e1, e2]
/-- n copies of a drawn chain -/
structure ChainD (n : Nat) (xs : List Int) : Prop where
  len : xs.length = n * 3
  ok : allTo (cpOk xs) n = true
theorem ChainD.push {n : Nat} {xs : List Int} (h : ChainD n xs) {p d e : Int} (p0 : -1 ≤ p) (p1 : p < n) (d0 : -1000000 ≤ d) (d1 : d ≤ 1000000) (e0 : 0 ≤ e) (e1 : e ≤ 1000) : ChainD (n + 1) (xs ++ [p, d, e]) := by
  obtain ⟨hl, ho⟩ := h
  refine ⟨by simp; omega, allTo_of fun j hj => ?_⟩
  rcases Nat.lt_or_ge j n with q | q
  · rw [cpOk_ext (by omega)]; exact allTo_at ho q
  · obtain rfl : j = n := by omega
    have f0 : cP (xs ++ [p, d, e]) j = p := nth_appr (j := 0) (by omega)
    have f1 : cD (xs ++ [p, d, e]) j = d := nth_appr (j := 1) (by omega)
    have f2 : cE (xs ++ [p, d, e]) j = e := nth_appr (j := 2) (by omega)
    exact cpOk_t (by rw [f0]; simp [inB]; omega) (by rw [f1]; simp [inB]; omega) (by rw [f2]; simp [inB]; omega)
theorem chainD_one {e : Int} (e0 : 0 ≤ e) (e1 : e ≤ 1000) : ChainD 1 [-1, 1000, e] := ChainD.push (n := 0) (xs := []) ⟨rfl, rfl⟩ (by omega) (by omega) (by omega) (by omega) e0 e1
theorem ChainD.chain {n : Nat} {xs : List Int} (h : ChainD n xs) (h0 : 1 ≤ n) (h1 : n ≤ 12) : chainOk n xs = true := chainOk_t (by simp [inB]; omega) h.ok
theorem only_past {lo hi lo' hi' : Nat} {a w w' : World} (h : Only lo hi a w) (k : Only lo' hi' w w') (hl : a.heap.size ≤ lo') : Only lo hi a w' :=
  ⟨k.os.trans h.os, k.tape.trans h.tape, k.output.trans h.output, Nat.le_trans h.size k.size, fun i hi hn => (k.block i (Nat.lt_of_lt_of_le hi h.size) (by omega)).trans (h.block i hi hn)⟩
theorem lit_copy (w : World) (B : Nat) (p d e : Int) (hB : B = w.heap.size) : Recs 3 (w.alloc (.cells #[.int .i64 p, .int .i64 d, .int .i64 e] 40)) (.slice (some ⟨B, 0, none⟩) 1 1) 1 [p, d, e] := by
  subst hB
  exact Recs.of_own (base := w.heap.size) (e := 40) (by have := World.ownsRow_lit (e := 40) (size := 3) w #[.int .i64 p, .int .i64 d, .int .i64 e] 1 (Nat.le_refl _) (by decide) rfl; simpa using this) (by omega)
theorem copy_row {w : World} {B n : Nat} {v : Value} {xs : List Int} {p d e : Int} (h : w.ownsRow B 40 3 v (n + 1) (xs.map (Value.int .i64) ++ [p, d, e].map (Value.int .i64))) : w.ownsRow B 40 3 v (n + 1) ((xs ++ [p, d, e]).map (Value.int .i64)) := by
  rw [List.map_append]; exact h

end Go.Proofs.Ytlipfkalehikkaa
