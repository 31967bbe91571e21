/- The law that compares ScriptText with the reference, walked. -/
import Derived.Test.YtdeongecbmjkjaaDoorScript
namespace Go.Proofs.YtdeongecbmjkjaaDoor
open Go.ChangeShapes Go.WideShapes Go.ChangeAt Go.RowKit

theorem fnExactScriptText_any (v : Value) (n : Nat) (xs : List Int) (w : World) (h : Recs 5 w v n xs) (ht : ActT w) : Calls Tryd.prog 5 #[v] w fun e w' => e = .returned (.bool true) ∧ Below w.heap.size w w' := by
  by_cases hlt : (1048576 : Int) < n
  · go_enter Tryd.func5, Tryd.ntmps5
    go_wp2_with fail
    refine (szActS_any _ n xs _ _ h (by omega) (by omega)).mono ?_
    rintro e w' ⟨rfl, rfl⟩
    rw [if_pos (by omega)]
    go_wp2
    go_ret
    exact ⟨rfl, bref _⟩
  · go_enter Tryd.func5, Tryd.ntmps5
    go_wp2_with fail
    refine (szActS_any _ n xs _ _ h (by omega) (by omega)).mono ?_
    rintro e w' ⟨rfl, rfl⟩
    rw [if_neg (by omega)]
    go_wp2_with fail
    refine (toActS_any _ n xs _ h (by omega)).mono ?_
    rintro e w2 ⟨rfl, hO2, hb2⟩
    have I2 := Recs.of_own hO2 (by omega)
    go_wp2_with fail
    refine (specScriptText _ n xs _ I2 (by omega)).mono ?_
    rintro e w3 ⟨rfl, hb3⟩
    have D3 := bnext hb2 hb3
    go_wp2_with fail
    refine (toActS_any _ n xs _ (h.below D3) (by omega)).mono ?_
    rintro e w4 ⟨rfl, hO4, hb4⟩
    have D4 := bnext D3 hb4
    have I4 := Recs.of_own hO4 (by omega)
    go_wp2_with fail
    refine (implScriptText _ n xs _ I4 (ht.below D4) (by omega)).mono ?_
    rintro e w5 ⟨rfl, hb5⟩
    have D5 := bnext D4 hb5
    generalize scriptText n xs = r
    obtain ⟨s, ok⟩ := r
    go_wp2_with fail
    refine (toActS_any _ n xs _ (h.below D5) (by omega)).mono ?_
    rintro e w6 ⟨rfl, hO6, hb6⟩
    have D6 := bnext D5 hb6
    go_wp2_with fail
    refine (eqActS_any _ _ n n xs xs _ ((I4.below hb5).below hb6) (Recs.of_own hO6 (by omega))).mono ?_
    rintro e w7 ⟨rfl, hb7⟩
    go_wp2
    go_ret
    exact ⟨rfl, bnext D6 hb7⟩
end Go.Proofs.YtdeongecbmjkjaaDoor
