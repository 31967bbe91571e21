/- The walks of the laws' marks: markIntS, heldIntS. -/
import Derived.Test.YtdchgbhhlocmdaaProg
import Derived.Test.YtdchgbhhlocmdaaSeq
namespace Go.Proofs.Ytdchgbhhlocmdaa
open Go.ChangeShapes Go.WideShapes Go.ChangeAt Go.RowKit

theorem markIntS_any (v : Value) (n : Nat) (xs : List Int) (k0 : Int) (B : Nat) (T : TypeId) (w : World) (h : w.ownsRow B T 1 v n (xs.map (Value.int .i64))) (hk0 : 0 ≤ k0) (hkb : k0 ≤ 1000000000000) (hn : n ≤ 1000000000) :
    Calls Try.prog 19 #[v, .int .i64 k0] w fun e w' => e = .returned (.int .i64 (k0 + (n : Int))) ∧ w'.ownsRow B T 1 v n ((seqL k0 n).map (Value.int .i64)) ∧ w.grownBy w' v.ownBlock := by
  have he : xs.length = n := by have := h.1; simp at this; omega
  have HE := Lib.hid he
  clear he
  rcases id h.2 with ⟨rfl, rfl⟩ | ⟨g, cap, cur, rfl, _⟩
  · obtain rfl : xs = [] := List.eq_nil_of_length_eq_zero (by have := HE.out; omega)
    have HH := Lib.hid h
    clear h
    go_enter Try.func19, Try.ntmps19
    go_wp2_with fail
    go_loop [1, 5] (fun a i => a = .int .i64 k0 ∧ i = .int .i64 0) (fun _ _ => 0)
    case atStart => exact ⟨rfl, rfl⟩
    case round =>
      obtain ⟨rfl, rfl⟩ := hrel
      go_wp2
      go_ret
      exact ⟨ret_int (by simp), by simpa [seqL] using HH.out, only_refl _ _⟩
  · have HO := Lib.hid h
    clear h
    go_enter Try.func19, Try.ntmps19
    go_wp2_with fail
    go_loopw [1, 5] (fun a i wr => ∃ k : Nat, k ≤ n ∧ i = .int .i64 k ∧ a = .int .i64 (k0 + ((k : Nat) : Int)) ∧ wr.ownsRow B T 1 (.slice (some ⟨g, 0, none⟩) n cap) n ((seqL k0 k).map (Value.int .i64) ++ (xs.drop k).map (Value.int .i64)) ∧ w.grownBy wr (some g)) (fun _ i _ => n - (intOf i).toNat)
    case atStart => exact ⟨0, Nat.zero_le _, rfl, by simp, by simpa [seqL] using HO.out, only_refl _ _⟩
    case round =>
      obtain ⟨k, hk, rfl, rfl, hown, hg⟩ := hrel
      have HG := Lib.hid hg
      clear hg
      by_cases hlt : k < n
      · have i0 : (0 : Int) ≤ (k : Int) := by omega
        obtain ⟨u0, q0⟩ := own_cell hown (k) (by omega)
        have f0 := hown.frozenAt (k)
        have HS := Lib.hid (hown.stored (k) (.int .i64 (k0 + ((k : Nat) : Int)))).1
        clear hown
        go_wp2
        go_roundw
        case rel =>
          refine ⟨k + 1, by omega, by go_num, by go_num, ?_, (only_set HG.out (k) _)⟩
          have h1 := HS.out
          rw [mark_set xs k0 (k) (by have := HE.out; omega)] at h1
          exact h1
        case measure => simp [intOf]; omega
      · obtain rfl : k = n := by omega
        have H1 := Lib.hid hown
        clear hown
        go_wp2
        go_ret
        refine ⟨ret_int (by simp), ?_, HG.out⟩
        have h1 := H1.out
        rw [show xs.drop k = [] from List.drop_eq_nil_of_le (by have := HE.out; omega), List.map_nil, List.append_nil] at h1
        exact h1

theorem heldIntS_any (v : Value) (n : Nat) (k0 : Int) (w : World) (h : Recs 1 w v n (seqL k0 n)) (hk0 : 0 ≤ k0) (hkb : k0 ≤ 1000000000000) (hn : n ≤ 1000000000) :
    Calls Try.prog 20 #[v, .int .i64 k0] w fun e w' => e = .returned (.int .i64 (k0 + (n : Int))) ∧ Below w.heap.size w w' := by
  obtain ⟨hl, he, ad, cap, rfl, hc⟩ := h
  have hat : ∀ i, i < n → ∃ b o, ad = some ⟨b, o, none⟩ ∧ w.cell? ⟨b, o + i, none⟩ = some (.int .i64 (k0 + i)) := fun i hi => by
    obtain ⟨b, o, ha, e⟩ := hc i (by rw [seqL_len]; exact hi)
    rw [seqL_nth k0 _ i hi] at e
    exact ⟨b, o, ha, e⟩
  clear hc he
  go_enter Try.func20, Try.ntmps20
  go_wp2_with fail
  go_loop [1, 5] (fun a i => ∃ k : Nat, k ≤ n ∧ i = .int .i64 k ∧ a = .int .i64 (k0 + ((k : Nat) : Int))) (fun _ i => n - (intOf i).toNat)
  case atStart => exact ⟨0, Nat.zero_le _, rfl, by simp⟩
  case round =>
    obtain ⟨k, hk, rfl, rfl⟩ := hrel
    by_cases hlt : k < n
    · obtain ⟨b, o, rfl, e0⟩ := hat (k) (by omega)
      clear hat
      go_wp2
      go_round
      case rel => exact ⟨k + 1, by omega, by go_num, by go_num⟩
      case measure => simp [intOf]; omega
    · obtain rfl : k = n := by omega
      clear hat
      go_wp2
      go_ret
      exact ⟨ret_int (by simp), bref _⟩

end Go.Proofs.Ytdchgbhhlocmdaa
