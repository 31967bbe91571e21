/- The walks of ActOk and toAct. -/
import Derived.Test.YtdeongecbmjkjaaDoorScalar
import Derived.BigGuardPart
namespace Go.Proofs.YtdeongecbmjkjaaDoor
open Go.ChangeShapes Go.WideShapes Go.ChangeAt Go.RowKit

def actV (k a b c d : Int) : Value := .agg #[.int .i64 k, .int .i64 a, .int .i64 b, .int .i64 c, .int .i64 d]
def actOk (k a b c d : Int) : Bool :=
  if k = 1 then inB a 0 11 && inB b 0 1000 && inB c 0 1000 && inB d 0 20
  else if k = 2 then inB a 1 1000 && (b == 0) && (c == 0) && (d == 0)
  else if k = 3 then inB a 0 11 && inB b 0 10000 && (c == 0) && (d == 0)
  else if k = 4 then inB a 0 11 && (b == 0) && (c == 0) && (d == 0)
  else if k = 5 then inB a 0 11 && inB b 0 11 && (c == 0) && (d == 0)
  else false

theorem implActOk_any (k a b c d : Int) (w : World) : Calls Tryd.prog 50 #[.agg #[.int .i64 k, .int .i64 a, .int .i64 b, .int .i64 c, .int .i64 d]] w fun e w' =>
    e = .returned (.bool (actOk k a b c d)) ∧ Below w.heap.size w w' := by
  go_enter Tryd.func50, Tryd.ntmps50
  go_wp2_with (go_at_call 54; refine (in_any _ _ _ _).mono ?_; rintro e w' ⟨rfl, rfl⟩)
  all_goals
    go_ret
    exact ⟨ret_bool (by simp_all [actOk]), (Below.refl _ _).alloc (Nat.le_refl _) _⟩

theorem specActOk_any (k a b c d : Int) (w : World) : Calls Tryd.prog 48 #[.agg #[.int .i64 k, .int .i64 a, .int .i64 b, .int .i64 c, .int .i64 d]] w fun e w' =>
    e = .returned (.bool (actOk k a b c d)) ∧ Below w.heap.size w w' := by
  go_enter Tryd.func48, Tryd.ntmps48
  go_wp2_with (go_at_call 52; refine (l01In_any _ _ _ _).mono ?_; rintro e w' ⟨rfl, rfl⟩)
  all_goals
    go_ret
    exact ⟨ret_bool (by simp_all [actOk]), (Below.refl _ _).alloc (Nat.le_refl _) _⟩

theorem toAct_any (k a b c d : Int) (w : World) : Calls Tryd.prog 12 #[.agg #[.int .i64 k, .int .i64 a, .int .i64 b, .int .i64 c, .int .i64 d]] w fun e w' =>
    e = .returned (.agg #[.int .i64 k, .int .i64 a, .int .i64 b, .int .i64 c, .int .i64 d]) ∧ Below w.heap.size w w' := by
  go_enter Tryd.func12, Tryd.ntmps12
  go_wp2
  refine bodyPost_ret (v := .agg #[.int .i64 k, .int .i64 a, .int .i64 b, .int .i64 c, .int .i64 d]) (by simp [results, Tryd.results12, go_sem]) rfl ⟨rfl, ?_⟩
  exact (((Below.refl _ _).alloc (Nat.le_refl _) _).alloc (by simp) _).alloc (by simp; omega) _

end Go.Proofs.YtdeongecbmjkjaaDoor
