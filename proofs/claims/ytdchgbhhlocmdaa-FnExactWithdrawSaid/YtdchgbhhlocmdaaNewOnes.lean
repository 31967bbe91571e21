/- The walks of NewOnes, in the program and in the reference. -/
import Derived.Test.YtdchgbhhlocmdaaSortW
import Derived.Test.YtdchgbhhlocmdaaNewFn
import Derived.Test.YtdchgbhhlocmdaaHasInt
import Derived.Test.YtdchgbhhlocmdaaL31Has
namespace Go.Proofs.Ytdchgbhhlocmdaa
open Go.ChangeShapes Go.WideShapes Go.ChangeAt Go.RowKit

set_option maxRecDepth 100000 in
set_option maxHeartbeats 1000000 in
theorem implNewOnes (vt : Value) (ts : List Int) (v : Value) (xs : List Int) (w : World) (ht : Ints w vt ts) (h : Ints w v xs) (hn : NilOk v) (h20 : xs.length ≤ 1048576) : Calls Try.prog 33 #[vt, v] w (CopyOf w (newOnes ts xs)) := by
  obtain ⟨i0, hi0, hz0, hz1, hz2⟩ := info_parts infoInt'
  have hS := diffL_len xs
  go_enter Try.func33, Try.ntmps33
  go_wp2_with (first | (go_at_call 75; refine (different_any _ xs _ h hn h20).mono ?_; rintro e w1 ⟨ad, cap, rfl, hown, hb1⟩))
  have HD := Lib.hid hb1
  have HI := Lib.hid (Ints.of_own hown (by omega))
  have HT := Lib.hid (ht.below hb1)
  have HZ := Lib.hid hb1.size
  clear hown hb1
  go_wp2
  go_loopw [5, 11] (fun u i wr => ∃ k : Nat, k ≤ (diffL xs).length ∧ i = .int .i64 k ∧ wr.ownsRow w1.heap.size 3 1 u (fltTo (diffL xs) ts k).length ((fltTo (diffL xs) ts k).map (Value.int .i64)) ∧ Below w1.heap.size w1 wr) (fun _ i _ => (diffL xs).length - (intOf i).toNat)
  case atStart => exact ⟨0, Nat.zero_le _, rfl, World.ownsRow_nil _ _ _ _, bref _⟩
  case round =>
    obtain ⟨k, hk, rfl, hown, hbel⟩ := hrel
    have hlk := fltTo_len (diffL xs) ts k
    have z1 := hbel.size
    have hT := HT.out.below hbel
    by_cases hlt : k < (diffL xs).length
    · obtain ⟨_, ad2, cap2, hv, hc⟩ := HI.out.below hbel
      cases hv
      obtain ⟨b, f, rfl, e0⟩ := hc k (by omega)
      clear hc
      by_cases hm : nth (diffL xs) k ∈ ts
      · have HL := Lib.hid (fltTo_yes hm)
        go_wp2_with (first | (go_at_call 76; refine (hasInt_any vt _ _ _ hT).mono ?_; rintro e w' ⟨rfl, rfl⟩))
        go_roundw
        case rel => exact ⟨k + 1, by omega, by go_num, by rw [HL.out]; exact hown, hbel⟩
        case measure => simp [intOf]; omega
      · have HL := Lib.hid (fltTo_no hm)
        go_wp2_with (first | (go_at_call 76; refine (hasInt_any vt _ _ _ hT).mono ?_; rintro e w' ⟨rfl, rfl⟩) | (at_builtin; refine wpList_append_own _ rfl _ _ 24 rfl w1.heap.size 3 i0 (.int .i64 0) 1 8 Try.underlying24 hi0 hz0 hz1 hz2 rfl (by decide) _ _ _ rfl (hown.alloc _) ⟨wr.heap.size, 0, none⟩ 1 1 [.int .i64 (nth (diffL xs) k)] rfl rfl (cell_one_new _ _ _) (ints_oneCell .i64 [(nth (diffL xs) k)]) (by unfold maxLen; omega) (by omega) (by simp; omega) ?_; intro v' w3 hown' hgrow hnil; have HR := Lib.hid (app_step hown hown' hgrow hbel (Nat.le_refl _)); clear hown' hgrow hnil))
        go_roundw
        case rel => exact ⟨k + 1, by omega, by go_num, by rw [HL.out]; exact HR.out.1, HR.out.2⟩
        case measure => simp [intOf]; omega
    · obtain rfl : k = (diffL xs).length := by omega
      have HO := Lib.hid hown
      have HB := Lib.hid (bnext HD.out hbel)
      clear hown hbel
      obtain ⟨ad', cap', rfl⟩ := own_form HO.out
      go_wp2
      go_ret
      refine ⟨ad', cap', ?_, ?_, HB.out⟩
      · simp [← fltTo_all]
      · have := own_base (B' := w.heap.size) HO.out HZ.out
        simpa [← fltTo_all] using this

set_option maxRecDepth 100000 in
set_option maxHeartbeats 1000000 in
theorem specNewOnes (vt : Value) (ts : List Int) (v : Value) (xs : List Int) (w : World) (ht : Ints w vt ts) (h : Ints w v xs) (hn : NilOk v) (h20 : xs.length ≤ 1048576) : Calls Try.prog 31 #[vt, v] w (CopyOf w (newOnes ts xs)) := by
  obtain ⟨i0, hi0, hz0, hz1, hz2⟩ := info_parts infoInt'
  obtain ⟨adt, capt, rfl⟩ : ∃ ad cap, vt = .slice ad ts.length cap := by obtain ⟨_, ad, cap, hh, _⟩ := ht; exact ⟨ad, cap, hh⟩
  obtain ⟨adv, capv, rfl⟩ : ∃ ad cap, v = .slice ad xs.length cap := by obtain ⟨_, ad, cap, hh, _⟩ := h; exact ⟨ad, cap, hh⟩
  have R0 := Lib.hid (World.ownsRow_lit (e := 3) (size := 1) w #[] 0 (Nat.le_refl _) (by decide) rfl)
  go_enter Try.func31, Try.ntmps31
  go_wp2
  go_loopw [5, 6] (fun u i wr => ∃ k : Nat, k ≤ xs.length ∧ i = .int .i64 k ∧ wr.ownsRow w.heap.size 3 1 u (freshTo ts xs k).length ((freshTo ts xs k).map (Value.int .i64)) ∧ Below w.heap.size w wr) (fun _ i _ => xs.length - (intOf i).toNat)
  case atStart => exact ⟨0, Nat.zero_le _, rfl, R0.out, balloc (bref _) _⟩
  case round =>
    obtain ⟨k, hk, rfl, hown, hbel⟩ := hrel
    have hlk := freshTo_len ts xs k
    have z1 := hbel.size
    have hT := ht.below hbel
    obtain ⟨adu, capu, rfl⟩ := own_form hown
    have hU : Ints wr (.slice adu (freshTo ts xs k).length capu) (freshTo ts xs k) := Ints.of_own hown (by omega)
    by_cases hlt : k < xs.length
    · obtain ⟨_, ad2, cap2, hv, hc⟩ := h.below hbel
      cases hv
      obtain ⟨b, f, rfl, e0⟩ := hc k (by omega)
      clear hc
      by_cases hm : nth xs k ∈ ts
      · have HL := Lib.hid (freshTo_yes (xs := xs) (k := k) (.inl hm))
        go_wp2_with (first | (go_at_call_of 73 (Value.slice adt ts.length capt); refine (l31Has_any (Value.slice adt ts.length capt) ts (nth xs k) _ hT).mono ?_; rintro e w' ⟨rfl, rfl⟩))
        go_roundw
        case rel => exact ⟨k + 1, by omega, by go_num, by rw [HL.out]; exact hown, hbel⟩
        case measure => simp [intOf]; omega
      · by_cases hm2 : nth xs k ∈ freshTo ts xs k
        · have HL := Lib.hid (freshTo_yes (ts := ts) (.inr hm2))
          go_wp2_with (first | (go_at_call_of 73 (Value.slice adt ts.length capt); refine (l31Has_any (Value.slice adt ts.length capt) ts (nth xs k) _ hT).mono ?_; rintro e w' ⟨rfl, rfl⟩) | (go_at_call_of 73 (Value.slice adu (freshTo ts xs k).length capu); refine (l31Has_any (Value.slice adu (freshTo ts xs k).length capu) (freshTo ts xs k) (nth xs k) _ hU).mono ?_; rintro e w' ⟨rfl, rfl⟩))
          go_roundw
          case rel => exact ⟨k + 1, by omega, by go_num, by rw [HL.out]; exact hown, hbel⟩
          case measure => simp [intOf]; omega
        · have HL := Lib.hid (freshTo_no hm hm2)
          go_wp2_with (first | (go_at_call_of 73 (Value.slice adt ts.length capt); refine (l31Has_any (Value.slice adt ts.length capt) ts (nth xs k) _ hT).mono ?_; rintro e w' ⟨rfl, rfl⟩) | (go_at_call_of 73 (Value.slice adu (freshTo ts xs k).length capu); refine (l31Has_any (Value.slice adu (freshTo ts xs k).length capu) (freshTo ts xs k) (nth xs k) _ hU).mono ?_; rintro e w' ⟨rfl, rfl⟩) | (at_builtin; refine wpList_append_own _ rfl _ _ 24 rfl w.heap.size 3 i0 (.int .i64 0) 1 8 Try.underlying24 hi0 hz0 hz1 hz2 rfl (by decide) _ _ _ rfl (hown.alloc _) ⟨wr.heap.size, 0, none⟩ 1 1 [.int .i64 (nth xs k)] rfl rfl (cell_one_new _ _ _) (ints_oneCell .i64 [(nth xs k)]) (by unfold maxLen; omega) (by omega) (by simp; omega) ?_; intro v' w3 hown' hgrow hnil; have HR := Lib.hid (app_step hown hown' hgrow hbel (Nat.le_refl _)); clear hown' hgrow hnil))
          go_roundw
          case rel => exact ⟨k + 1, by omega, by go_num, by rw [HL.out]; exact HR.out.1, HR.out.2⟩
          case measure => simp [intOf]; omega
    · obtain rfl : k = xs.length := by omega
      have HN := Lib.hid (nilOk_own hown)
      have HB := Lib.hid hbel
      have HZ := Lib.hid hbel.size
      clear hown hbel
      go_wp2_with (first | (go_at_call 74; refine (l10Sorted_any _ (freshTo ts xs xs.length) _ hU HN.out (by omega)).mono ?_; rintro e w1 ⟨ad', cap', rfl, hown, hb1⟩))
      go_ret
      refine ⟨ad', cap', by simp [freshTo_all], ?_, bnext HB.out hb1⟩
      have := own_base (B' := w.heap.size) hown HZ.out
      simpa [freshTo_all] using this

theorem implNewOnesV (vt : Value) (ts : List Int) (v : Value) (xs : List Int) (w : World) (ht : Ints w vt ts) (h : Ints w v xs) (hn : NilOk v) (h20 : xs.length ≤ 1048576) : Calls Try.prog 33 #[vt, v] w fun e w' => ∃ u, e = .returned u ∧ w'.ownsRow w.heap.size 3 1 u (newOnes ts xs).length ((newOnes ts xs).map (Value.int .i64)) ∧ Below w.heap.size w w' :=
  (implNewOnes vt ts v xs w ht h hn h20).mono fun _ _ ⟨_, _, q1, q2, q3⟩ => ⟨_, q1, q2, q3⟩

theorem specNewOnesV (vt : Value) (ts : List Int) (v : Value) (xs : List Int) (w : World) (ht : Ints w vt ts) (h : Ints w v xs) (hn : NilOk v) (h20 : xs.length ≤ 1048576) : Calls Try.prog 31 #[vt, v] w fun e w' => ∃ u, e = .returned u ∧ w'.ownsRow w.heap.size 3 1 u (newOnes ts xs).length ((newOnes ts xs).map (Value.int .i64)) ∧ Below w.heap.size w w' :=
  (specNewOnes vt ts v xs w ht h hn h20).mono fun _ _ ⟨_, _, q1, q2, q3⟩ => ⟨_, q1, q2, q3⟩
end Go.Proofs.Ytdchgbhhlocmdaa
