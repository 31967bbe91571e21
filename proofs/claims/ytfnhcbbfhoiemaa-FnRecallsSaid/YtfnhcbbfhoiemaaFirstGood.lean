/- The walks of FirstGood, in the program and in the reference. -/
import Derived.Test.YtfnhcbbfhoiemaaAffected
import Derived.Test.YtfnhcbbfhoiemaaAbove
import Derived.WalkSpells
namespace Go.Proofs.Ytfnhcbbfhoiemaa
open Go.ChangeShapes Go.WideShapes Go.ChangeAt Go.RowKit

/-- the first of a list that is not in another one, or -1 -/
def firstOut (A : List Int) : List Int → Int
  | [] => -1
  | x :: r => if x ∈ A then firstOut A r else x
def firstGood (n : Nat) (xs ms : List Int) (k b s : Int) : Int := if affected n xs ms b s = [] then -1 else firstOut (affected n xs ms b s) (aboveL n xs k)
theorem firstOut_hit (A : List Int) : ∀ (L : List Int) (k : Nat), allTo (fun j => decide (nth L j ∈ A)) k = true → k < L.length → ¬ nth L k ∈ A → firstOut A L = nth L k
  | [], k, _, h, _ => by simp at h
  | x :: r, 0, _, _, h => by
    have h : ¬ x ∈ A := h
    show firstOut A (x :: r) = x
    simp only [firstOut]; rw [if_neg h]
  | x :: r, k + 1, ha, hk, h => by
    have h0 : x ∈ A := by simpa [nth] using allTo_at ha (Nat.zero_lt_succ k)
    have := firstOut_hit A r k (allTo_of fun j hj => by simpa [nth] using allTo_at ha (show j + 1 < k + 1 by omega)) (by simpa using hk) (by simpa [nth] using h)
    simp only [firstOut]; rw [if_pos h0, this]; simp [nth]
theorem firstOut_none (A : List Int) : ∀ (L : List Int), allTo (fun j => decide (nth L j ∈ A)) L.length = true → firstOut A L = -1
  | [], _ => rfl
  | x :: r, ha => by
    have h0 : x ∈ A := by simpa [nth] using allTo_at ha (k := 0) (by simp)
    have := firstOut_none A r (allTo_of fun j hj => by simpa [nth] using allTo_at ha (k := j + 1) (by simpa using hj))
    simp only [firstOut]; rw [if_pos h0, this]

set_option maxRecDepth 100000 in
theorem implFirstGood (v : Value) (n : Nat) (xs : List Int) (u : Value) (ms : List Int) (k b s : Int) (w : World) (h : Recs 3 w v n xs) (hm : Ints w u ms) :
    Calls Try.prog 18 #[v, u, .int .i64 k, .int .i64 b, .int .i64 s] w fun e w' => e = .returned (.int .i64 (firstGood n xs ms k b s)) ∧ Below w.heap.size w w' := by
  have hla := affected_len n xs ms b s
  have hll := aboveL_len n xs k
  have hne : ∀ (w : World) (a : Option Addr) (n c n' c' : Nat), (binOp .eql 25 (.slice a n c) (.slice none n' c')).run Try.prog w = .ok (.bool a.isNone) w := fun w a n c n' c' => Lib.run_eql_slice_nil w _ _ a n c n' c' Try.underlying25
  go_enter Try.func18, Try.ntmps18
  go_wp2_with fail
  refine (implAffectedBy _ n xs _ ms b s _ h hm).mono ?_
  rintro e w1 ⟨va, rfl, hO1, hnil, hb1⟩
  by_cases hA : affected n xs ms b s = []
  · obtain rfl := hnil.2 hA
    have H := Lib.hid (show firstGood n xs ms k b s = -1 from if_pos hA)
    clear hA hnil hO1
    go_wp2
    go_ret
    exact ⟨ret_int H.out.symm, hb1⟩
  rcases id hO1.2 with ⟨rfl, h0⟩ | ⟨g, cap, cur, rfl, _⟩
  · exact absurd (List.eq_nil_of_length_eq_zero h0) hA
  have HI1 := Lib.hid (Ints.of_own hO1 (by omega))
  have H := Lib.hid (show firstGood n xs ms k b s = firstOut (affected n xs ms b s) (aboveL n xs k) from if_neg hA)
  have D1 := Lib.hid hb1
  clear hO1 hnil hA hb1
  go_wp2_with fail
  refine (implAboveIn _ n xs k _ (h.below D1.out)).mono ?_
  rintro e w2 ⟨vl, rfl, hO2, _, hb2⟩
  have HA := Lib.hid (HI1.out.below hb2)
  have D2 := Lib.hid (bnext D1.out hb2)
  obtain ⟨_, ad2, cap2, rfl, hc2⟩ := Ints.of_own hO2 (by omega)
  clear hO2 hb2 D1 HI1
  go_wp2_with fail
  go_loop [25] (fun i => ∃ j : Nat, j ≤ (aboveL n xs k).length ∧ i = .int .i64 j ∧ Hid (allTo (fun j => decide (nth (aboveL n xs k) j ∈ affected n xs ms b s)) j = true)) (fun i => (aboveL n xs k).length - (intOf i).toNat)
  case atStart => exact ⟨0, Nat.zero_le _, rfl, rfl⟩
  case round =>
    obtain ⟨j, hj, rfl, hx⟩ := hrel
    by_cases hlt : j < (aboveL n xs k).length
    · obtain ⟨b0, o0, rfl, e0⟩ := hc2 j hlt
      have i0 : (0 : Int) ≤ (j : Int) := by omega
      clear hc2
      by_cases hin : nth (aboveL n xs k) j ∈ affected n xs ms b s
      · have H1 := Lib.hid (allTo_succ (p := fun j => decide (nth (aboveL n xs k) j ∈ affected n xs ms b s)) hx.out (by simpa using hin))
        have hd : decide (nth (aboveL n xs k) j ∈ affected n xs ms b s) = true := by simpa using hin
        clear hin
        go_wp2_with (go_at_call 63; refine (hasInt_any _ _ (nth (aboveL n xs k) j) _ HA.out).mono ?_; rintro e w' ⟨rfl, rfl⟩)
        go_round
        case rel => exact ⟨j + 1, by omega, by go_num, H1.out⟩
        case measure => simp [intOf]; omega
      · have H1 := Lib.hid (firstOut_hit _ _ j hx.out hlt hin)
        have hd : decide (nth (aboveL n xs k) j ∈ affected n xs ms b s) = false := by simpa using hin
        clear hin
        go_wp2_with (go_at_call 63; refine (hasInt_any _ _ (nth (aboveL n xs k) j) _ HA.out).mono ?_; rintro e w' ⟨rfl, rfl⟩)
        go_ret
        exact ⟨ret_int (by rw [H.out, H1.out]), D2.out⟩
    · obtain rfl : j = (aboveL n xs k).length := by omega
      have H1 := Lib.hid (firstOut_none _ _ hx.out)
      clear hc2
      go_wp2
      go_ret
      exact ⟨ret_int (by rw [H.out, H1.out]), D2.out⟩

set_option maxRecDepth 100000 in
theorem specFirstGood (v : Value) (n : Nat) (xs : List Int) (u : Value) (ms : List Int) (k b s : Int) (w : World) (h : Recs 3 w v n xs) (hm : Ints w u ms) :
    Calls Try.prog 40 #[v, u, .int .i64 k, .int .i64 b, .int .i64 s] w fun e w' => e = .returned (.int .i64 (firstGood n xs ms k b s)) ∧ Below w.heap.size w w' := by
  have hla := affected_len n xs ms b s
  have hll := aboveL_len n xs k
  go_enter Try.func40, Try.ntmps40
  go_wp2_with fail
  refine (specAffectedBy _ n xs _ ms b s _ h hm).mono ?_
  rintro e w1 ⟨va, rfl, hO1, hb1⟩
  obtain ⟨hl1, ad1, cap1, rfl, hc1⟩ := Ints.of_own hO1 (by omega)
  have HI1 := Lib.hid (show Ints w1 _ _ from ⟨hl1, ad1, cap1, rfl, hc1⟩)
  have D1 := Lib.hid hb1
  clear hO1 hb1 hc1
  go_wp2_with fail
  refine (specAboveIn _ n xs k _ (h.below D1.out)).mono ?_
  rintro e w2 ⟨vl, rfl, hO2, hb2⟩
  have HA := Lib.hid (HI1.out.below hb2)
  have D2 := Lib.hid (bnext D1.out hb2)
  obtain ⟨_, ad2, cap2, rfl, hc2⟩ := Ints.of_own hO2 (by omega)
  clear hO2 hb2 D1 HI1
  by_cases hA : affected n xs ms b s = []
  · have H := Lib.hid (show firstGood n xs ms k b s = -1 from if_pos hA)
    have q0 : (affected n xs ms b s).length = 0 := by rw [hA]; rfl
    clear hA hc2
    go_wp2
    go_loop [13] (fun i => i = .int .i64 0) (fun _ => 0)
    case atStart => rfl
    case round =>
      obtain rfl := hrel
      by_cases hlt : 0 < (aboveL n xs k).length
      all_goals
        go_wp2
        go_ret
        exact ⟨ret_int H.out.symm, D2.out⟩
  have H := Lib.hid (show firstGood n xs ms k b s = firstOut (affected n xs ms b s) (aboveL n xs k) from if_neg hA)
  have q0 : 0 < (affected n xs ms b s).length := List.length_pos_iff.2 hA
  clear hA
  go_wp2
  go_loop [13] (fun i => ∃ j : Nat, j ≤ (aboveL n xs k).length ∧ i = .int .i64 j ∧ Hid (allTo (fun j => decide (nth (aboveL n xs k) j ∈ affected n xs ms b s)) j = true)) (fun i => (aboveL n xs k).length - (intOf i).toNat)
  case atStart => exact ⟨0, Nat.zero_le _, rfl, rfl⟩
  case round =>
    obtain ⟨j, hj, rfl, hx⟩ := hrel
    by_cases hlt : j < (aboveL n xs k).length
    · obtain ⟨b0, o0, rfl, e0⟩ := hc2 j hlt
      have i0 : (0 : Int) ≤ (j : Int) := by omega
      clear hc2
      by_cases hin : nth (aboveL n xs k) j ∈ affected n xs ms b s
      · have H1 := Lib.hid (allTo_succ (p := fun j => decide (nth (aboveL n xs k) j ∈ affected n xs ms b s)) hx.out (by simpa using hin))
        have hd : decide (nth (aboveL n xs k) j ∈ affected n xs ms b s) = true := by simpa using hin
        clear hin
        go_wp2_with (go_at_call 78; refine (l31Has_any _ _ (nth (aboveL n xs k) j) _ HA.out).mono ?_; rintro e w' ⟨rfl, rfl⟩)
        go_round
        case rel => exact ⟨j + 1, by omega, by go_num, H1.out⟩
        case measure => simp [intOf]; omega
      · have H1 := Lib.hid (firstOut_hit _ _ j hx.out hlt hin)
        have hd : decide (nth (aboveL n xs k) j ∈ affected n xs ms b s) = false := by simpa using hin
        clear hin
        go_wp2_with (go_at_call 78; refine (l31Has_any _ _ (nth (aboveL n xs k) j) _ HA.out).mono ?_; rintro e w' ⟨rfl, rfl⟩)
        go_ret
        exact ⟨ret_int (by rw [H.out, H1.out]), D2.out⟩
    · obtain rfl : j = (aboveL n xs k).length := by omega
      have H1 := Lib.hid (firstOut_none _ _ hx.out)
      clear hc2
      go_wp2
      go_ret
      exact ⟨ret_int (by rw [H.out, H1.out]), D2.out⟩
end Go.Proofs.Ytfnhcbbfhoiemaa
