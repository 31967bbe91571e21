/- The law that compares ParseAct with the reference, walked. -/
import Derived.Test.YtfnlniknclkeaaaDoorParseI
import Derived.Test.YtfnlniknclkeaaaDoorParseS
namespace Go.Proofs.YtfnlniknclkeaaaDoor
open Go.ChangeShapes Go.WideShapes Go.ChangeAt Go.RowKit

set_option maxRecDepth 100000 in
theorem eqAct_same (p0 p1 p2 p3 p4 : Int) (w : World) : Calls Tryd.prog 16 #[.agg #[.int .i64 p0, .int .i64 p1, .int .i64 p2, .int .i64 p3, .int .i64 p4], .agg #[.int .i64 p0, .int .i64 p1, .int .i64 p2, .int .i64 p3, .int .i64 p4]] w fun e w' => e = .returned (.bool true) ∧ Below w.heap.size w w' := by
  go_enter Tryd.func16, Tryd.ntmps16
  go_wp2
  go_ret
  exact ⟨rfl, balloc (balloc (bref w) _) _⟩
set_option maxRecDepth 100000 in
set_option maxHeartbeats 4000000 in
theorem fnExactParseAct_any (l : List UInt8) (w : World) (ht : ParT w) : Calls Tryd.prog 4 #[.string (bstr l)] w fun e w' => e = .returned (.bool true) ∧ Below w.heap.size w w' := by
  have hsz := bstr_size l
  by_cases hb : 1048576 < l.length
  · have i1 : (1048576 : Int) < (l.length : Int) := by omega
    go_enter Tryd.func4, Tryd.ntmps4
    go_wp2
    go_ret
    exact ⟨rfl, bref _⟩
  · have i1 : ¬ (1048576 : Int) < (l.length : Int) := by omega
    have hl : l.length ≤ 1000000000 := by omega
    obtain ⟨r, hr⟩ : ∃ r, parseAct (splitFields l) = r := ⟨_, rfl⟩
    obtain ⟨⟨K, A, B, C, D⟩, ok⟩ := r
    have HR := Lib.hid hr
    clear hr
    go_enter Tryd.func4, Tryd.ntmps4
    go_wp2_with (first
      | (go_at_call 14; refine (specParseAct l hl _).mono ?_; rw [HR.out]; simp only [PP, PV]; rintro e w1 ⟨rfl, hb1⟩; have X1 := Lib.hid (five_new w1 (.int .i64 K) (.int .i64 A) (.int .i64 B) (.int .i64 C) (.int .i64 D)); have HB1 := Lib.hid (balloc hb1 (.cells #[.int .i64 K, .int .i64 A, .int .i64 B, .int .i64 C, .int .i64 D] 39)); clear hb1)
      | (go_at_call 15; refine (implParseAct l hl _ (ht.below HB1.out)).mono ?_; rw [HR.out]; simp only [PP, PV]; rintro e w2 ⟨rfl, hb2⟩; have Y1 := (X1.out.below hb2).below (balloc (bref w2) (.cells #[.int .i64 K, .int .i64 A, .int .i64 B, .int .i64 C, .int .i64 D] 39)); have HB2 := Lib.hid (balloc (bnext HB1.out hb2) (.cells #[.int .i64 K, .int .i64 A, .int .i64 B, .int .i64 C, .int .i64 D] 39)); obtain ⟨s0, s1, s2, s3, s4, -, -, -, -, -⟩ := Y1; clear hb2)
      | (go_at_call 16; refine (eqAct_same K A B C D _).mono ?_; rintro e w3 ⟨rfl, hb3⟩; have HB3 := Lib.hid (bnext HB2.out hb3); clear hb3))
    go_ret
    exact ⟨rfl, HB3.out⟩
end Go.Proofs.YtfnlniknclkeaaaDoor
