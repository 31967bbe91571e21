/- The walks of ActOk and toAct. -/
import Derived.Test.YtejgkighejcooaaScalar
import Derived.BigGuardPart
namespace Go.Proofs.Ytejgkighejcooaa
open Go.ChangeShapes Go.WideShapes Go.ChangeAt Go.RowKit

def actV (k a b c d : Int) : Value := .agg #[.int .i64 k, .int .i64 a, .int .i64 b, .int .i64 c, .int .i64 d]
def actOk (k a b c d : Int) : Bool :=
  if k = 1 then inB a 0 11 && inB b 0 1000 && inB c 0 1000 && inB d 0 20
  else if k = 2 then inB a 1 1000 && (b == 0) && (c == 0) && (d == 0)
  else if k = 3 then inB a 0 11 && inB b 0 10000 && (c == 0) && (d == 0)
  else if k = 4 then inB a 0 11 && (b == 0) && (c == 0) && (d == 0)
  else if k = 5 then inB a 0 11 && inB b 0 11 && (c == 0) && (d == 0)
  else false

theorem implActOk_any (k a b c d : Int) (w : World) : Calls Try.prog 15 #[.agg #[.int .i64 k, .int .i64 a, .int .i64 b, .int .i64 c, .int .i64 d]] w fun e w' =>
    e = .returned (.bool (actOk k a b c d)) ∧ Below w.heap.size w w' := by
  go_enter Try.func15, Try.ntmps15
  go_wp2_with (go_at_call 26; refine (in_any _ _ _ _).mono ?_; rintro e w' ⟨rfl, rfl⟩)
  all_goals
    go_ret
    exact ⟨ret_bool (by simp_all [actOk]), (Below.refl _ _).alloc (Nat.le_refl _) _⟩

theorem specActOk_any (k a b c d : Int) (w : World) : Calls Try.prog 13 #[.agg #[.int .i64 k, .int .i64 a, .int .i64 b, .int .i64 c, .int .i64 d]] w fun e w' =>
    e = .returned (.bool (actOk k a b c d)) ∧ Below w.heap.size w w' := by
  go_enter Try.func13, Try.ntmps13
  go_wp2_with (go_at_call 25; refine (l01In_any _ _ _ _).mono ?_; rintro e w' ⟨rfl, rfl⟩)
  all_goals
    go_ret
    exact ⟨ret_bool (by simp_all [actOk]), (Below.refl _ _).alloc (Nat.le_refl _) _⟩

theorem toAct_any (k a b c d : Int) (w : World) : Calls Try.prog 14 #[.agg #[.int .i64 k, .int .i64 a, .int .i64 b, .int .i64 c, .int .i64 d]] w fun e w' =>
    e = .returned (.agg #[.int .i64 k, .int .i64 a, .int .i64 b, .int .i64 c, .int .i64 d]) ∧ Below w.heap.size w w' := by
  go_enter Try.func14, Try.ntmps14
  go_wp2
  refine bodyPost_ret (v := .agg #[.int .i64 k, .int .i64 a, .int .i64 b, .int .i64 c, .int .i64 d]) (by simp [results, Try.results14, go_sem]) rfl ⟨rfl, ?_⟩
  exact (((Below.refl _ _).alloc (Nat.le_refl _) _).alloc (by simp) _).alloc (by simp; omega) _

theorem fnExactActOk_any (k a b c d : Int) (w : World) : Calls Try.prog 5 #[.agg #[.int .i64 k, .int .i64 a, .int .i64 b, .int .i64 c, .int .i64 d]] w fun e w' =>
    e = .returned (.bool true) ∧ Below w.heap.size w w' := by
  go_enter Try.func5, Try.ntmps5
  go_wp2_with fail
  refine (toAct_any _ _ _ _ _ _).mono ?_
  rintro e w1 ⟨rfl, hb1⟩
  have c1 := below_cell hb1
  go_wp2_with fail
  refine (specActOk_any _ _ _ _ _ _).mono ?_
  rintro e w2 ⟨rfl, hb2⟩
  have c2 := below_cell hb2
  have z1 := blt _ hb1
  go_wp2_with fail
  refine (toAct_any _ _ _ _ _ _).mono ?_
  rintro e w3 ⟨rfl, hb3⟩
  go_wp2_with fail
  refine (implActOk_any _ _ _ _ _ _).mono ?_
  rintro e w4 ⟨rfl, hb4⟩
  go_wp2
  go_ret
  refine ⟨rfl, ?_⟩
  exact bnext (bnext (bnext (bnext (balloc (bref _) _) hb1) hb2) hb3) hb4
end Go.Proofs.Ytejgkighejcooaa
