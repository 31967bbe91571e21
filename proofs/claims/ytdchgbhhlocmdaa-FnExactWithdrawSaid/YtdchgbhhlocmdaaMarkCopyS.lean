/- The walks of the laws' marks: markCopyS, heldCopyS. -/
import Derived.Test.YtdchgbhhlocmdaaProg
import Derived.Test.YtdchgbhhlocmdaaSeq
namespace Go.Proofs.Ytdchgbhhlocmdaa
open Go.ChangeShapes Go.WideShapes Go.ChangeAt Go.RowKit

theorem markCopyS_any (v : Value) (n : Nat) (xs : List Int) (k0 : Int) (B : Nat) (T : TypeId) (w : World) (h : w.ownsRow B T 3 v n (xs.map (Value.int .i64))) (hk0 : 0 ≤ k0) (hkb : k0 ≤ 1000000000000) (hn : n ≤ 1000000000) :
    Calls Try.prog 40 #[v, .int .i64 k0] w fun e w' => e = .returned (.int .i64 (k0 + (n : Int) * 3)) ∧ w'.ownsRow B T 3 v n ((seqL k0 (n * 3)).map (Value.int .i64)) ∧ w.grownBy w' v.ownBlock := by
  have he : xs.length = (n * 3) := by have := h.1; simp at this; omega
  have HE := Lib.hid he
  clear he
  rcases id h.2 with ⟨rfl, rfl⟩ | ⟨g, cap, cur, rfl, _⟩
  · obtain rfl : xs = [] := List.eq_nil_of_length_eq_zero (by have := HE.out; omega)
    have HH := Lib.hid h
    clear h
    go_enter Try.func40, Try.ntmps40
    go_wp2_with fail
    go_loop [1, 5] (fun a i => a = .int .i64 k0 ∧ i = .int .i64 0) (fun _ _ => 0)
    case atStart => exact ⟨rfl, rfl⟩
    case round =>
      obtain ⟨rfl, rfl⟩ := hrel
      go_wp2
      go_ret
      exact ⟨ret_int (by simp), by simpa [seqL] using HH.out, only_refl _ _⟩
  · have HO := Lib.hid h
    clear h
    go_enter Try.func40, Try.ntmps40
    go_wp2_with fail
    go_loopw [1, 5] (fun a i wr => ∃ k : Nat, k ≤ n ∧ i = .int .i64 k ∧ a = .int .i64 (k0 + (((k * 3) : Nat) : Int)) ∧ wr.ownsRow B T 3 (.slice (some ⟨g, 0, none⟩) n cap) n ((seqL k0 (k * 3)).map (Value.int .i64) ++ (xs.drop (k * 3)).map (Value.int .i64)) ∧ w.grownBy wr (some g)) (fun _ i _ => n - (intOf i).toNat)
    case atStart => exact ⟨0, Nat.zero_le _, rfl, by simp, by simpa [seqL] using HO.out, only_refl _ _⟩
    case round =>
      obtain ⟨k, hk, rfl, rfl, hown, hg⟩ := hrel
      have HG := Lib.hid hg
      clear hg
      by_cases hlt : k < n
      · have i0 : (0 : Int) ≤ (k : Int) := by omega
        obtain ⟨u0, q0⟩ := own_cell hown (k * 3) (by omega)
        have f0 := hown.frozenAt (k * 3)
        obtain ⟨u1, q1⟩ := own_cell hown (k * 3 + 1) (by omega)
        have f1 := hown.frozenAt (k * 3 + 1)
        obtain ⟨u2, q2⟩ := own_cell hown (k * 3 + 2) (by omega)
        have f2 := hown.frozenAt (k * 3 + 2)
        have HS := Lib.hid (((hown.stored (k * 3) (.int .i64 (k0 + ((k * 3 : Nat) : Int)))).1.stored (k * 3 + 1) (.int .i64 (k0 + ((k * 3 + 1 : Nat) : Int)))).1.stored (k * 3 + 2) (.int .i64 (k0 + ((k * 3 + 2 : Nat) : Int)))).1
        clear hown
        go_wp2
        go_roundw
        case rel =>
          refine ⟨k + 1, by omega, by go_num, by go_num, ?_, (only_set (only_set (only_set HG.out (k * 3) _) (k * 3 + 1) _) (k * 3 + 2) _)⟩
          have h1 := HS.out
          rw [mark_set xs k0 (k * 3) (by have := HE.out; omega), mark_set xs k0 (k * 3 + 1) (by have := HE.out; omega), mark_set xs k0 (k * 3 + 2) (by have := HE.out; omega)] at h1
          rw [show (k + 1) * 3 = k * 3 + 3 by omega]
          rw [show k0 + ((k * 3 + 2 : Nat) : Int) = k0 + (k : Int) * 3 + 1 + 1 by omega, show k0 + ((k * 3 + 1 : Nat) : Int) = k0 + (k : Int) * 3 + 1 by omega, show k0 + ((k * 3 : Nat) : Int) = k0 + (k : Int) * 3 by omega] at h1
          exact h1
        case measure => simp [intOf]; omega
      · obtain rfl : k = n := by omega
        have H1 := Lib.hid hown
        clear hown
        go_wp2
        go_ret
        refine ⟨ret_int (by simp), ?_, HG.out⟩
        have h1 := H1.out
        rw [show xs.drop (k * 3) = [] from List.drop_eq_nil_of_le (by have := HE.out; omega), List.map_nil, List.append_nil] at h1
        exact h1

theorem heldCopyS_any (v : Value) (n : Nat) (k0 : Int) (w : World) (h : Recs 3 w v n (seqL k0 (n * 3))) (hk0 : 0 ≤ k0) (hkb : k0 ≤ 1000000000000) (hn : n ≤ 1000000000) :
    Calls Try.prog 88 #[v, .int .i64 k0] w fun e w' => e = .returned (.int .i64 (k0 + (n : Int) * 3)) ∧ Below w.heap.size w w' := by
  obtain ⟨hl, he, ad, cap, rfl, hc⟩ := h
  have hat : ∀ i, i < (n * 3) → ∃ b o, ad = some ⟨b, o, none⟩ ∧ w.cell? ⟨b, o + i, none⟩ = some (.int .i64 (k0 + i)) := fun i hi => by
    obtain ⟨b, o, ha, e⟩ := hc i (by rw [seqL_len]; exact hi)
    rw [seqL_nth k0 _ i hi] at e
    exact ⟨b, o, ha, e⟩
  clear hc he
  go_enter Try.func88, Try.ntmps88
  go_wp2_with fail
  go_loop [1, 5] (fun a i => ∃ k : Nat, k ≤ n ∧ i = .int .i64 k ∧ a = .int .i64 (k0 + (((k * 3) : Nat) : Int))) (fun _ i => n - (intOf i).toNat)
  case atStart => exact ⟨0, Nat.zero_le _, rfl, by simp⟩
  case round =>
    obtain ⟨k, hk, rfl, rfl⟩ := hrel
    by_cases hlt : k < n
    · obtain ⟨b, o, rfl, e0⟩ := hat (k * 3) (by omega)
      obtain ⟨b1, o1, ha1, e1⟩ := hat (k * 3 + 1) (by omega)
      simp only [Option.some.injEq, Addr.mk.injEq, and_true] at ha1
      obtain ⟨rfl, rfl⟩ := ha1
      obtain ⟨b2, o2, ha2, e2⟩ := hat (k * 3 + 2) (by omega)
      simp only [Option.some.injEq, Addr.mk.injEq, and_true] at ha2
      obtain ⟨rfl, rfl⟩ := ha2
      clear hat
      have e1 : w.cell? ⟨b, o + k * 3 + 1, none⟩ = some (.int .i64 (k0 + ((k * 3 : Nat) : Int) + 1)) := by rw [Nat.add_assoc, e1]; exact congrArg (fun z => some (Value.int .i64 z)) (by omega)
      have e2 : w.cell? ⟨b, o + k * 3 + 2, none⟩ = some (.int .i64 (k0 + ((k * 3 : Nat) : Int) + 2)) := by rw [Nat.add_assoc, e2]; exact congrArg (fun z => some (Value.int .i64 z)) (by omega)
      go_wp2
      go_round
      case rel => exact ⟨k + 1, by omega, by go_num, by go_num⟩
      case measure => simp [intOf]; omega
    · obtain rfl : k = n := by omega
      clear hat
      go_wp2
      go_ret
      exact ⟨ret_int (by simp), bref _⟩

end Go.Proofs.Ytdchgbhhlocmdaa
