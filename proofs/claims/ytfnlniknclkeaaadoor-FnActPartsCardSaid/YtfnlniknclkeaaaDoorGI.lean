/- Texts laid together: CopyS, HouseS, ActS, MarkO. -/
import Derived.Deep.RegionHeld3
import Derived.Test.YtfnlniknclkeaaaDoorProg
import Derived.Test.YtfnlniknclkeaaaDoorGA
import Derived.Test.YtfnlniknclkeaaaDoorGB
/- The walks of the laws' helpers on copies: toCopyS, szCopyS, eqCopyS. -/
namespace Go.Proofs.YtfnlniknclkeaaaDoor
open Go.ChangeShapes Go.WideShapes Go.ChangeAt Go.RowKit

theorem Tryd.infoCopy : (Tryd.prog.info? 71).map (fun i => (i.zero, i.size, i.bytes)) = some (some (.agg #[.int .i64 0, .int .i64 0, .int .i64 0]), 3, 24) := by kernel_rfl

end Go.Proofs.YtfnlniknclkeaaaDoor

/- The walks of the laws' helpers on houses. -/
namespace Go.Proofs.YtfnlniknclkeaaaDoor
open Go.ChangeShapes Go.WideShapes Go.ChangeAt Go.RowKit

theorem box_kept {w w' : World} {v : Value} {b : Nat} (hg : w.grownBy w' v.ownBlock) (hb : b < w.heap.size) (hv : v.ownBlock ≠ some b) : ∀ o, w'.cell? ⟨b, o, none⟩ = w.cell? ⟨b, o, none⟩ :=
  fun _ => World.cell?_of_block (hg.block b hb fun e => hv e.symm)
end Go.Proofs.YtfnlniknclkeaaaDoor

/- The walks of the laws' helpers on slices of structs of 5 integers: Act. -/
namespace Go.Proofs.YtfnlniknclkeaaaDoor
open Go.ChangeShapes Go.WideShapes Go.ChangeAt Go.RowKit

theorem eqActR_any (p0 p1 p2 p3 p4 q0 q1 q2 q3 q4 : Int) (w : World) : Calls Tryd.prog 16 #[.agg #[.int .i64 p0, .int .i64 p1, .int .i64 p2, .int .i64 p3, .int .i64 p4], .agg #[.int .i64 q0, .int .i64 q1, .int .i64 q2, .int .i64 q3, .int .i64 q4]] w fun e w' =>
    e = .returned (.bool (p0 == q0 && (p1 == q1 && (p2 == q2 && (p3 == q3 && (p4 == q4)))))) ∧ Below w.heap.size w w' := by
  cases h0 : (p0 == q0) with
  | false =>
    have g0 : (p0 != q0) = true := by simp [bne, h0]
    go_enter Tryd.func16, Tryd.ntmps16
    go_wp2
    go_ret
    exact ⟨rfl, balloc (balloc (bref _) _) _⟩
  | true =>
    have g0 : (p0 != q0) = false := by simp [bne, h0]
    cases h1 : (p1 == q1) with
    | false =>
      have g1 : (p1 != q1) = true := by simp [bne, h1]
      go_enter Tryd.func16, Tryd.ntmps16
      go_wp2
      go_ret
      exact ⟨rfl, balloc (balloc (bref _) _) _⟩
    | true =>
      have g1 : (p1 != q1) = false := by simp [bne, h1]
      cases h2 : (p2 == q2) with
      | false =>
        have g2 : (p2 != q2) = true := by simp [bne, h2]
        go_enter Tryd.func16, Tryd.ntmps16
        go_wp2
        go_ret
        exact ⟨rfl, balloc (balloc (bref _) _) _⟩
      | true =>
        have g2 : (p2 != q2) = false := by simp [bne, h2]
        cases h3 : (p3 == q3) with
        | false =>
          have g3 : (p3 != q3) = true := by simp [bne, h3]
          go_enter Tryd.func16, Tryd.ntmps16
          go_wp2
          go_ret
          exact ⟨rfl, balloc (balloc (bref _) _) _⟩
        | true =>
          have g3 : (p3 != q3) = false := by simp [bne, h3]
          cases h4 : (p4 == q4) with
          | false =>
            have g4 : (p4 != q4) = true := by simp [bne, h4]
            go_enter Tryd.func16, Tryd.ntmps16
            go_wp2
            go_ret
            exact ⟨rfl, balloc (balloc (bref _) _) _⟩
          | true =>
            have g4 : (p4 != q4) = false := by simp [bne, h4]
            go_enter Tryd.func16, Tryd.ntmps16
            go_wp2
            go_ret
            exact ⟨rfl, balloc (balloc (bref _) _) _⟩

theorem infoAct' : (Tryd.prog.info? 39).map (fun i => (i.zero, i.size, i.bytes)) = some (some (.agg #[.int .i64 0, .int .i64 0, .int .i64 0, .int .i64 0, .int .i64 0]), 5, 40) := by kernel_rfl

theorem atAct {w : World} {ad : Option Addr} {n : Nat} {xs : List Int} (he : xs.length = n * 5)
    (hc : ∀ i, i < xs.length → ∃ b o, ad = some ⟨b, o, none⟩ ∧ w.cell? ⟨b, o + i, none⟩ = some (.int .i64 (nth xs i))) (k : Nat) (hk : k < n) :
    ∃ b o, ad = some ⟨b, o, none⟩ ∧ w.cell? ⟨b, o + k * 5, none⟩ = some (.int .i64 (nth xs (k * 5))) ∧ w.cell? ⟨b, o + k * 5 + 1, none⟩ = some (.int .i64 (nth xs (k * 5 + 1))) ∧ w.cell? ⟨b, o + k * 5 + 2, none⟩ = some (.int .i64 (nth xs (k * 5 + 2))) ∧ w.cell? ⟨b, o + k * 5 + 3, none⟩ = some (.int .i64 (nth xs (k * 5 + 3))) ∧ w.cell? ⟨b, o + k * 5 + 4, none⟩ = some (.int .i64 (nth xs (k * 5 + 4))) ∧ b < w.heap.size := by
  obtain ⟨b, o, rfl, h0⟩ := hc (k * 5) (by omega)
  obtain ⟨b1, o1, g1, h1⟩ := hc (k * 5 + 1) (by omega)
  simp only [Option.some.injEq, Addr.mk.injEq, and_true] at g1
  obtain ⟨rfl, rfl⟩ := g1
  obtain ⟨b2, o2, g2, h2⟩ := hc (k * 5 + 2) (by omega)
  simp only [Option.some.injEq, Addr.mk.injEq, and_true] at g2
  obtain ⟨rfl, rfl⟩ := g2
  obtain ⟨b3, o3, g3, h3⟩ := hc (k * 5 + 3) (by omega)
  simp only [Option.some.injEq, Addr.mk.injEq, and_true] at g3
  obtain ⟨rfl, rfl⟩ := g3
  obtain ⟨b4, o4, g4, h4⟩ := hc (k * 5 + 4) (by omega)
  simp only [Option.some.injEq, Addr.mk.injEq, and_true] at g4
  obtain ⟨rfl, rfl⟩ := g4
  exact ⟨b, o, rfl, h0, h1, h2, h3, h4, World.block_lt_of_cell? w _ h0⟩
theorem madeAct (n : Nat) : (madeCells #[Value.int .i64 0, Value.int .i64 0, Value.int .i64 0, Value.int .i64 0, Value.int .i64 0] (n * 5)).toList = List.replicate (n * 5) (Value.int .i64 0) := by
  apply List.ext_getElem?
  intro j
  by_cases hj : j < n * 5
  · have : j % 5 = 0 ∨ j % 5 = 1 ∨ j % 5 = 2 ∨ j % 5 = 3 ∨ j % 5 = 4 := by omega
    rcases this with h | h | h | h | h <;> simp [madeCells, hj, h]
  · simp [madeCells, hj]
theorem putAct (xs : List Int) (k n : Nat) (he : xs.length = n * 5) (h : k < n) :
    (((((((xs.take (k * 5)).map (Value.int .i64) ++ List.replicate (xs.length - k * 5) (Value.int .i64 0)).set (k * 5) (.int .i64 (nth xs (k * 5)))).set (k * 5 + 1) (.int .i64 (nth xs (k * 5 + 1)))).set (k * 5 + 2) (.int .i64 (nth xs (k * 5 + 2)))).set (k * 5 + 3) (.int .i64 (nth xs (k * 5 + 3)))).set (k * 5 + 4) (.int .i64 (nth xs (k * 5 + 4)))) =
      (xs.take ((k + 1) * 5)).map (Value.int .i64) ++ List.replicate (xs.length - (k + 1) * 5) (.int .i64 0) := by
  have e0 := put_nth xs (k * 5) (by omega)
  have e1 := put_nth xs (k * 5 + 1) (by omega)
  have e2 := put_nth xs (k * 5 + 2) (by omega)
  have e3 := put_nth xs (k * 5 + 3) (by omega)
  have e4 := put_nth xs (k * 5 + 4) (by omega)
  rw [e0, e1, e2, e3, e4]
  rw [show (k + 1) * 5 = k * 5 + 4 + 1 by omega]

end Go.Proofs.YtfnlniknclkeaaaDoor

/- The laws' marks, over what a call made. -/
namespace Go.Proofs.YtfnlniknclkeaaaDoor
open Go.ChangeShapes Go.WideShapes Go.ChangeAt Go.RowKit

end Go.Proofs.YtfnlniknclkeaaaDoor
