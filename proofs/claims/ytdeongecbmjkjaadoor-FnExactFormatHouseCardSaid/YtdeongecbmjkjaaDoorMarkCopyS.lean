/- The walks of the laws' marks: markCopyS, heldCopyS. -/
import Derived.Test.YtdeongecbmjkjaaDoorProg
import Derived.Test.YtdeongecbmjkjaaDoorSeq
namespace Go.Proofs.YtdeongecbmjkjaaDoor
open Go.ChangeShapes Go.WideShapes Go.ChangeAt Go.RowKit

theorem markCopyS_any (v : Value) (n : Nat) (xs : List Int) (k0 : Int) (B : Nat) (T : TypeId) (w : World) (h : w.ownsRow B T 3 v n (xs.map (Value.int .i64))) (hk0 : 0 ≤ k0) (hkb : k0 ≤ 1000000000000) (hn : n ≤ 1000000000) :
    Calls Tryd.prog 65 #[v, .int .i64 k0] w fun e w' => e = .returned (.int .i64 (k0 + (n : Int) * 3)) ∧ w'.ownsRow B T 3 v n ((seqL k0 (n * 3)).map (Value.int .i64)) ∧ w.grownBy w' v.ownBlock := by
  have he : xs.length = (n * 3) := by have := h.1; simp at this; omega
  have HE := Lib.hid he
  clear he
  rcases id h.2 with ⟨rfl, rfl⟩ | ⟨g, cap, cur, rfl, _⟩
  · obtain rfl : xs = [] := List.eq_nil_of_length_eq_zero (by have := HE.out; omega)
    have HH := Lib.hid h
    clear h
    go_enter Tryd.func65, Tryd.ntmps65
    go_wp2_with fail
    go_loop [1, 5] (fun a i => a = .int .i64 k0 ∧ i = .int .i64 0) (fun _ _ => 0)
    case atStart => exact ⟨rfl, rfl⟩
    case round =>
      obtain ⟨rfl, rfl⟩ := hrel
      go_wp2
      go_ret
      exact ⟨ret_int (by simp), by simpa [seqL] using HH.out, only_refl _ _⟩
  · have HO := Lib.hid h
    clear h
    go_enter Tryd.func65, Tryd.ntmps65
    go_wp2_with fail
    go_loopw [1, 5] (fun a i wr => ∃ k : Nat, k ≤ n ∧ i = .int .i64 k ∧ a = .int .i64 (k0 + (((k * 3) : Nat) : Int)) ∧ wr.ownsRow B T 3 (.slice (some ⟨g, 0, none⟩) n cap) n ((seqL k0 (k * 3)).map (Value.int .i64) ++ (xs.drop (k * 3)).map (Value.int .i64)) ∧ w.grownBy wr (some g)) (fun _ i _ => n - (intOf i).toNat)
    case atStart => exact ⟨0, Nat.zero_le _, rfl, by simp, by simpa [seqL] using HO.out, only_refl _ _⟩
    case round =>
      obtain ⟨k, hk, rfl, rfl, hown, hg⟩ := hrel
      have HG := Lib.hid hg
      clear hg
      by_cases hlt : k < n
      · have i0 : (0 : Int) ≤ (k : Int) := by omega
        obtain ⟨u0, q0⟩ := own_cell hown (k * 3) (by omega)
        have f0 := hown.frozenAt (k * 3)
        obtain ⟨u1, q1⟩ := own_cell hown (k * 3 + 1) (by omega)
        have f1 := hown.frozenAt (k * 3 + 1)
        obtain ⟨u2, q2⟩ := own_cell hown (k * 3 + 2) (by omega)
        have f2 := hown.frozenAt (k * 3 + 2)
        have HS := Lib.hid (((hown.stored (k * 3) (.int .i64 (k0 + ((k * 3 : Nat) : Int)))).1.stored (k * 3 + 1) (.int .i64 (k0 + ((k * 3 + 1 : Nat) : Int)))).1.stored (k * 3 + 2) (.int .i64 (k0 + ((k * 3 + 2 : Nat) : Int)))).1
        clear hown
        go_wp2
        go_roundw
        case rel =>
          refine ⟨k + 1, by omega, by go_num, by go_num, ?_, (only_set (only_set (only_set HG.out (k * 3) _) (k * 3 + 1) _) (k * 3 + 2) _)⟩
          have h1 := HS.out
          rw [mark_set xs k0 (k * 3) (by have := HE.out; omega), mark_set xs k0 (k * 3 + 1) (by have := HE.out; omega), mark_set xs k0 (k * 3 + 2) (by have := HE.out; omega)] at h1
          rw [show (k + 1) * 3 = k * 3 + 3 by omega]
          rw [show k0 + ((k * 3 + 2 : Nat) : Int) = k0 + (k : Int) * 3 + 1 + 1 by omega, show k0 + ((k * 3 + 1 : Nat) : Int) = k0 + (k : Int) * 3 + 1 by omega, show k0 + ((k * 3 : Nat) : Int) = k0 + (k : Int) * 3 by omega] at h1
          exact h1
        case measure => simp [intOf]; omega
      · obtain rfl : k = n := by omega
        have H1 := Lib.hid hown
        clear hown
        go_wp2
        go_ret
        refine ⟨ret_int (by simp), ?_, HG.out⟩
        have h1 := H1.out
        rw [show xs.drop (k * 3) = [] from List.drop_eq_nil_of_le (by have := HE.out; omega), List.map_nil, List.append_nil] at h1
        exact h1

end Go.Proofs.YtdeongecbmjkjaaDoor
