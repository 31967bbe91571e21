/- Texts laid together: Diff, Act, DoFn. -/
import Derived.Deep.RegionWith
import Derived.BigGuardPart
import Derived.Test.YtlipfkalehikkaaGB
import Derived.Test.YtlipfkalehikkaaGA
import Derived.Test.YtlipfkalehikkaaBoxH
/- The walks of DifferenceError, in the program and in the reference. -/
namespace Go.Proofs.Ytlipfkalehikkaa
open Go.ChangeShapes Go.WideShapes Go.ChangeAt Go.RowKit

/-- what element i adds to the error of a difference -/
def dAt (xs X Y : List Int) (i : Nat) : Int := if decide ((i : Int) ∈ X) = decide ((i : Int) ∈ Y) then 0 else cE xs i
def diffError (n : Nat) (xs : List Int) (a b : Int) : Int := if aboveL n xs a = [] ∨ aboveL n xs b = [] then -1 else sumTo (dAt xs (aboveL n xs a) (aboveL n xs b)) n
theorem diff_a {n : Nat} {xs : List Int} {a b : Int} (h : aboveL n xs a = []) : diffError n xs a b = -1 := if_pos (.inl h)
theorem diff_b {n : Nat} {xs : List Int} {a b : Int} (h : aboveL n xs b = []) : diffError n xs a b = -1 := if_pos (.inr h)
theorem diff_t {n : Nat} {xs : List Int} {a b : Int} (h : ¬ aboveL n xs a = []) (h' : ¬ aboveL n xs b = []) : diffError n xs a b = sumTo (dAt xs (aboveL n xs a) (aboveL n xs b)) n := if_neg (by rintro (q | q); exact h q; exact h' q)
theorem dAt_same {xs X Y : List Int} {i : Nat} {p : Bool} (h1 : decide ((i : Int) ∈ X) = p) (h2 : decide ((i : Int) ∈ Y) = p) : dAt xs X Y i = 0 := if_pos (h1.trans h2.symm)
theorem dAt_diff {xs X Y : List Int} {i : Nat} {p q : Bool} (h1 : decide ((i : Int) ∈ X) = p) (h2 : decide ((i : Int) ∈ Y) = q) (h : ¬ p = q) : dAt xs X Y i = cE xs i := if_neg (by rw [h1, h2]; exact h)
theorem d_bd {xs X Y : List Int} {m : Nat} (h : ∀ i, i < m → 0 ≤ cE xs i ∧ cE xs i ≤ 1000) : ∀ j, j ≤ m → 0 ≤ sumTo (dAt xs X Y) j ∧ sumTo (dAt xs X Y) j ≤ 1000 * (j : Int)
  | 0, _ => by simp [sumTo]
  | j + 1, hj => by
    have a := d_bd (X := X) (Y := Y) h j (by omega)
    have b := h j (by omega)
    simp only [sumTo]
    have c : 0 ≤ dAt xs X Y j ∧ dAt xs X Y j ≤ 1000 := by unfold dAt; split <;> omega
    omega
theorem above_yes {n : Nat} {xs : List Int} {k : Int} (hok : (chainOk n xs && inB k 0 ((n : Int) - 1)) = true) : ¬ aboveL n xs k = [] ∧ aboveL n xs k = upL xs k ∧ chainOk n xs = true ∧ 0 ≤ k ∧ k < n := by
  simp only [Bool.and_eq_true] at hok
  obtain ⟨hch, hin⟩ := hok
  obtain ⟨k0, k1⟩ := inB_le hin
  have hup : aboveL n xs k = upL xs k := aboveL_t hch hin
  refine ⟨?_, hup, hch, k0, by omega⟩
  rw [hup]; show ¬ upFrom xs (11 + 1) k = []; rw [upFrom_yes k0]; simp
theorem above_nil {n : Nat} {xs : List Int} {k : Int} (hok : (chainOk n xs && inB k 0 ((n : Int) - 1)) = false) : aboveL n xs k = [] := if_neg (fun q => by rw [q.1, q.2] at hok; cases hok)
theorem above_ok {n : Nat} {xs : List Int} {k : Int} (h : ¬ aboveL n xs k = []) : chainOk n xs = true := by
  cases q : chainOk n xs with
  | true => rfl
  | false => exact absurd (aboveL_c q) h
theorem diffError_bd (n : Nat) (xs : List Int) (a b : Int) : -1 ≤ diffError n xs a b ∧ diffError n xs a b ≤ 12000 := by
  unfold diffError
  split
  · omega
  next q =>
    have hc := above_ok (fun z => q (.inl z))
    have hn := chainOk_n hc
    have := d_bd (xs := xs) (X := aboveL n xs a) (Y := aboveL n xs b) (m := n) (fun i hi => (chainOk_d hc hi).2.2) n (Nat.le_refl _)
    omega

set_option maxRecDepth 100000 in
set_option maxHeartbeats 4000000 in
theorem implDifferenceError (v : Value) (n : Nat) (xs : List Int) (a b : Int) (w : World) (h : Recs 3 w v n xs) : Calls Try.prog 14 #[v, .int .i64 a, .int .i64 b] w fun e w' => e = .returned (.int .i64 (diffError n xs a b)) ∧ Below w.heap.size w w' := by
  have hla := aboveL_len n xs a
  have hlb := aboveL_len n xs b
  have HX := Lib.hid h.eq
  obtain ⟨adv, capv, rfl⟩ : ∃ ad cap, v = .slice ad n cap := by obtain ⟨_, _, ad, cap, hh, _⟩ := h; exact ⟨ad, cap, hh⟩
  have HR := Lib.hid h
  have D := Lib.hid (bref w)
  clear h
  cases hoka : (chainOk n xs && inB a 0 ((n : Int) - 1)) with
  | false =>
    have HE := Lib.hid (diff_a (b := b) (above_nil hoka))
    go_enter Try.func14, Try.ntmps14
    go_wp2_with (first | (go_at_call_of 41 (Value.int .i64 a); refine (isCopy_any _ n xs a _ HR.out).mono ?_; rw [hoka]; rintro e w0 ⟨rfl, hb0⟩; have HR := Lib.hid (HR.out.below hb0); have D := Lib.hid (bnext D.out hb0); clear hb0))
    go_ret
    exact ⟨by rw [HE.out]; rfl, D.out⟩
  | true =>
    cases hokb : (chainOk n xs && inB b 0 ((n : Int) - 1)) with
    | false =>
      have HE := Lib.hid (diff_b (a := a) (above_nil hokb))
      go_enter Try.func14, Try.ntmps14
      go_wp2_with (first | (go_at_call_of 41 (Value.int .i64 a); refine (isCopy_any _ n xs a _ HR.out).mono ?_; rw [hoka]; rintro e w0 ⟨rfl, hb0⟩; have HR := Lib.hid (HR.out.below hb0); have D := Lib.hid (bnext D.out hb0); clear hb0) | (go_at_call_of 41 (Value.int .i64 b); refine (isCopy_any _ n xs b _ HR.out).mono ?_; rw [hokb]; rintro e w0 ⟨rfl, hb0⟩; have HR := Lib.hid (HR.out.below hb0); have D := Lib.hid (bnext D.out hb0); clear hb0))
      go_ret
      exact ⟨by rw [HE.out]; rfl, D.out⟩
    | true =>
      obtain ⟨nea, upa, hch, a0, a1⟩ := above_yes hoka
      obtain ⟨neb, upb, -, b0, b1⟩ := above_yes hokb
      have HUa := Lib.hid upa
      have HUb := Lib.hid upb
      have HE := Lib.hid (diff_t nea neb)
      have HR0 := HR
      clear upa upb nea neb
      go_enter Try.func14, Try.ntmps14
      go_wp2_with (first | (go_at_call_of 41 (Value.int .i64 a); refine (isCopy_any _ n xs a _ HR.out).mono ?_; rw [hoka]; rintro e w0 ⟨rfl, hb0⟩; have HR := Lib.hid (HR.out.below hb0); have D := Lib.hid (bnext D.out hb0); clear hb0) | (go_at_call_of 41 (Value.int .i64 b); refine (isCopy_any _ n xs b _ HR.out).mono ?_; rw [hokb]; rintro e w0 ⟨rfl, hb0⟩; have HR := Lib.hid (HR.out.below hb0); have D := Lib.hid (bnext D.out hb0); clear hb0) | (go_at_call_of 42 (Value.int .i64 a); refine (above_any _ n xs a _ HR.out hch a0 a1).mono ?_; rw [← HUa.out]; rintro e w1 ⟨u, rfl, hown, -, hb1⟩; obtain ⟨adx, capx, rfl⟩ := own_form hown; have HIx := Lib.hid (own_ints hown (by omega)); have HR := Lib.hid (HR.out.below hb1); have D := Lib.hid (bnext D.out hb1); clear hown hb1) | (go_at_call_of 42 (Value.int .i64 b); refine (above_any _ n xs b _ HR.out hch b0 b1).mono ?_; rw [← HUb.out]; rintro e w2 ⟨u, rfl, hown, -, hb1⟩; obtain ⟨ady, capy, rfl⟩ := own_form hown; have HIy := Lib.hid (own_ints hown (by omega)); have HIx := Lib.hid (HIx.out.below hb1); have HR := Lib.hid (HR.out.below hb1); have D := Lib.hid (bnext D.out hb1); clear hown hb1))
      clear hoka hokb HUa HUb
      clear HR0
      generalize aboveL n xs a = X at *
      generalize aboveL n xs b = Y at *
      go_loopw [9, 30] (fun s i wr => ∃ j : Nat, j ≤ n ∧ i = .int .i64 j ∧ s = .int .i64 (sumTo (dAt xs X Y) j) ∧ Hid (Below w2.heap.size w2 wr)) (fun _ i _ => n - (intOf i).toNat)
      case atStart => exact ⟨0, Nat.zero_le _, rfl, rfl, bref _⟩
      case round =>
        obtain ⟨j, hj, rfl, rfl, HB⟩ := hrel
        by_cases hlt : j < n
        · obtain ⟨_, _, _, _, hv2, hc2⟩ := HR.out.below HB.out
          cases hv2
          obtain ⟨b2, o2, rfl, f0, f1, f2, _⟩ := at3 HX.out hc2 j hlt
          have hs := d_bd (xs := xs) (X := X) (Y := Y) (m := n) (fun i hi => (chainOk_d hch hi).2.2) j hj
          have hd := (chainOk_d hch hlt).2.2
          have hjn : (j : Int) < n := by omega
          have hS : sumTo (dAt xs X Y) (j + 1) = sumTo (dAt xs X Y) j + dAt xs X Y j := rfl
          have hn12 := (chainOk_n hch).2
          have HIx := Lib.hid (HIx.out.below HB.out)
          have HIy := Lib.hid (HIy.out.below HB.out)
          have HD0 := Lib.hid (fun (p : Bool) (h1 : decide ((j : Int) ∈ X) = p) (h2 : decide ((j : Int) ∈ Y) = p) => dAt_same (xs := xs) h1 h2)
          have HD1 := Lib.hid (fun (p q : Bool) (h1 : decide ((j : Int) ∈ X) = p) (h2 : decide ((j : Int) ∈ Y) = q) (h : ¬ p = q) => dAt_diff (xs := xs) h1 h2 h)
          clear hc2
          generalize dAt xs X Y j = q at *
          generalize cP xs j = c0 at *
          generalize cD xs j = c1 at *
          generalize cE xs j = c2 at *
          have HS := Lib.hid hS
          clear hS
          generalize sumTo (dAt xs X Y) j = s0 at *
          obtain ⟨s00, s01⟩ := hs
          obtain ⟨d00, d01⟩ := hd
          have hsl : s0 ≤ 12000 := by omega
          cases dx : decide ((j : Int) ∈ X) with
          | false =>
            cases dy : decide ((j : Int) ∈ Y) with
            | false =>
              have HQ := Lib.hid (HD0.out false dx dy)
              clear HD0 HD1
              go_wp2_with (first | (go_at_call_of 39 (Value.slice adx X.length capx); refine (hasInt_any _ X _ _ (HIx.out.alloc _)).mono ?_; rw [dx]; rintro e w' ⟨rfl, rfl⟩) | (go_at_call_of 39 (Value.slice ady Y.length capy); refine (hasInt_any _ Y _ _ (HIy.out.alloc _)).mono ?_; rw [dy]; rintro e w' ⟨rfl, rfl⟩))
              go_roundw
              case rel => exact ⟨j + 1, by omega, by go_num, by rw [HS.out, HQ.out]; simp, balloc HB.out _⟩
              case measure => simp [intOf]; omega
            | true =>
              have HQ := Lib.hid (HD1.out false true dx dy (by decide))
              clear HD0 HD1
              go_wp2_with (first | (go_at_call_of 39 (Value.slice adx X.length capx); refine (hasInt_any _ X _ _ (HIx.out.alloc _)).mono ?_; rw [dx]; rintro e w' ⟨rfl, rfl⟩) | (go_at_call_of 39 (Value.slice ady Y.length capy); refine (hasInt_any _ Y _ _ (HIy.out.alloc _)).mono ?_; rw [dy]; rintro e w' ⟨rfl, rfl⟩))
              go_roundw
              case rel => exact ⟨j + 1, by omega, by go_num, by rw [HS.out, HQ.out], balloc HB.out _⟩
              case measure => simp [intOf]; omega
          | true =>
            cases dy : decide ((j : Int) ∈ Y) with
            | false =>
              have HQ := Lib.hid (HD1.out true false dx dy (by decide))
              clear HD0 HD1
              go_wp2_with (first | (go_at_call_of 39 (Value.slice adx X.length capx); refine (hasInt_any _ X _ _ (HIx.out.alloc _)).mono ?_; rw [dx]; rintro e w' ⟨rfl, rfl⟩) | (go_at_call_of 39 (Value.slice ady Y.length capy); refine (hasInt_any _ Y _ _ (HIy.out.alloc _)).mono ?_; rw [dy]; rintro e w' ⟨rfl, rfl⟩))
              go_roundw
              case rel => exact ⟨j + 1, by omega, by go_num, by rw [HS.out, HQ.out], balloc HB.out _⟩
              case measure => simp [intOf]; omega
            | true =>
              have HQ := Lib.hid (HD0.out true dx dy)
              clear HD0 HD1
              go_wp2_with (first | (go_at_call_of 39 (Value.slice adx X.length capx); refine (hasInt_any _ X _ _ (HIx.out.alloc _)).mono ?_; rw [dx]; rintro e w' ⟨rfl, rfl⟩) | (go_at_call_of 39 (Value.slice ady Y.length capy); refine (hasInt_any _ Y _ _ (HIy.out.alloc _)).mono ?_; rw [dy]; rintro e w' ⟨rfl, rfl⟩))
              go_roundw
              case rel => exact ⟨j + 1, by omega, by go_num, by rw [HS.out, HQ.out]; simp, balloc HB.out _⟩
              case measure => simp [intOf]; omega
        · obtain rfl : j = n := by omega
          go_wp2
          go_ret
          exact ⟨by rw [HE.out]; rfl, bnext D.out HB.out⟩


set_option maxRecDepth 100000 in
set_option maxHeartbeats 4000000 in
theorem specDifferenceError (v : Value) (n : Nat) (xs : List Int) (a b : Int) (w : World) (h : Recs 3 w v n xs) : Calls Try.prog 33 #[v, .int .i64 a, .int .i64 b] w fun e w' => e = .returned (.int .i64 (diffError n xs a b)) ∧ Below w.heap.size w w' := by
  have hla := aboveL_len n xs a
  have hlb := aboveL_len n xs b
  have HX := Lib.hid h.eq
  obtain ⟨adv, capv, rfl⟩ : ∃ ad cap, v = .slice ad n cap := by obtain ⟨_, _, ad, cap, hh, _⟩ := h; exact ⟨ad, cap, hh⟩
  have HR := Lib.hid h
  have D := Lib.hid (bref w)
  clear h
  by_cases nea : aboveL n xs a = []
  · have HE := Lib.hid (diff_a (b := b) nea)
    have l0 : (((aboveL n xs a).length : Int) == 0) = true := by rw [nea]; rfl
    clear nea
    go_enter Try.func33, Try.ntmps33
    go_wp2_with (first | (go_at_call_of 60 (Value.int .i64 a); refine (specAboveIn _ n xs a _ HR.out).mono ?_; rintro e w1 ⟨u, rfl, hown, hb1⟩; obtain ⟨adx, capx, rfl⟩ := own_form hown; have HIx := Lib.hid (own_ints hown (by omega)); have HR := Lib.hid (HR.out.below hb1); have D := Lib.hid (bnext D.out hb1); clear hown hb1) | (go_at_call_of 60 (Value.int .i64 b); refine (specAboveIn _ n xs b _ HR.out).mono ?_; rintro e w2 ⟨u, rfl, hown, hb1⟩; obtain ⟨ady, capy, rfl⟩ := own_form hown; have HIy := Lib.hid (own_ints hown (by omega)); have HIx := Lib.hid (HIx.out.below hb1); have HR := Lib.hid (HR.out.below hb1); have D := Lib.hid (bnext D.out hb1); clear hown hb1))
    go_ret
    exact ⟨by rw [HE.out]; rfl, D.out⟩
  · by_cases neb : aboveL n xs b = []
    · have HE := Lib.hid (diff_b (a := a) neb)
      have l0 : (((aboveL n xs a).length : Int) == 0) = false := by rw [beq_eq_false_iff_ne]; intro q; exact nea (List.eq_nil_of_length_eq_zero (by omega))
      have l1 : (((aboveL n xs b).length : Int) == 0) = true := by rw [neb]; rfl
      clear nea neb
      go_enter Try.func33, Try.ntmps33
      go_wp2_with (first | (go_at_call_of 60 (Value.int .i64 a); refine (specAboveIn _ n xs a _ HR.out).mono ?_; rintro e w1 ⟨u, rfl, hown, hb1⟩; obtain ⟨adx, capx, rfl⟩ := own_form hown; have HIx := Lib.hid (own_ints hown (by omega)); have HR := Lib.hid (HR.out.below hb1); have D := Lib.hid (bnext D.out hb1); clear hown hb1) | (go_at_call_of 60 (Value.int .i64 b); refine (specAboveIn _ n xs b _ HR.out).mono ?_; rintro e w2 ⟨u, rfl, hown, hb1⟩; obtain ⟨ady, capy, rfl⟩ := own_form hown; have HIy := Lib.hid (own_ints hown (by omega)); have HIx := Lib.hid (HIx.out.below hb1); have HR := Lib.hid (HR.out.below hb1); have D := Lib.hid (bnext D.out hb1); clear hown hb1))
      go_ret
      exact ⟨by rw [HE.out]; rfl, D.out⟩
    · have HE := Lib.hid (diff_t nea neb)
      have hch := above_ok nea
      have l0 : (((aboveL n xs a).length : Int) == 0) = false := by rw [beq_eq_false_iff_ne]; intro q; exact nea (List.eq_nil_of_length_eq_zero (by omega))
      have l1 : (((aboveL n xs b).length : Int) == 0) = false := by rw [beq_eq_false_iff_ne]; intro q; exact neb (List.eq_nil_of_length_eq_zero (by omega))
      have HR0 := HR
      clear nea neb
      go_enter Try.func33, Try.ntmps33
      go_wp2_with (first | (go_at_call_of 60 (Value.int .i64 a); refine (specAboveIn _ n xs a _ HR.out).mono ?_; rintro e w1 ⟨u, rfl, hown, hb1⟩; obtain ⟨adx, capx, rfl⟩ := own_form hown; have HIx := Lib.hid (own_ints hown (by omega)); have HR := Lib.hid (HR.out.below hb1); have D := Lib.hid (bnext D.out hb1); clear hown hb1) | (go_at_call_of 60 (Value.int .i64 b); refine (specAboveIn _ n xs b _ HR.out).mono ?_; rintro e w2 ⟨u, rfl, hown, hb1⟩; obtain ⟨ady, capy, rfl⟩ := own_form hown; have HIy := Lib.hid (own_ints hown (by omega)); have HIx := Lib.hid (HIx.out.below hb1); have HR := Lib.hid (HR.out.below hb1); have D := Lib.hid (bnext D.out hb1); clear hown hb1))
      clear HR0
      generalize aboveL n xs a = X at *
      generalize aboveL n xs b = Y at *
      go_loopw [9, 10] (fun s i wr => ∃ j : Nat, j ≤ n ∧ i = .int .i64 j ∧ s = .int .i64 (sumTo (dAt xs X Y) j) ∧ Hid (Below w2.heap.size w2 wr)) (fun _ i _ => n - (intOf i).toNat)
      case atStart => exact ⟨0, Nat.zero_le _, rfl, rfl, bref _⟩
      case round =>
        obtain ⟨j, hj, rfl, rfl, HB⟩ := hrel
        by_cases hlt : j < n
        · obtain ⟨_, _, _, _, hv2, hc2⟩ := HR.out.below HB.out
          cases hv2
          obtain ⟨b2, o2, rfl, f0, f1, f2, _⟩ := at3 HX.out hc2 j hlt
          have hs := d_bd (xs := xs) (X := X) (Y := Y) (m := n) (fun i hi => (chainOk_d hch hi).2.2) j hj
          have hd := (chainOk_d hch hlt).2.2
          have hjn : (j : Int) < n := by omega
          have hS : sumTo (dAt xs X Y) (j + 1) = sumTo (dAt xs X Y) j + dAt xs X Y j := rfl
          have hn12 := (chainOk_n hch).2
          have HIx := Lib.hid (HIx.out.below HB.out)
          have HIy := Lib.hid (HIy.out.below HB.out)
          have HD0 := Lib.hid (fun (p : Bool) (h1 : decide ((j : Int) ∈ X) = p) (h2 : decide ((j : Int) ∈ Y) = p) => dAt_same (xs := xs) h1 h2)
          have HD1 := Lib.hid (fun (p q : Bool) (h1 : decide ((j : Int) ∈ X) = p) (h2 : decide ((j : Int) ∈ Y) = q) (h : ¬ p = q) => dAt_diff (xs := xs) h1 h2 h)
          clear hc2
          generalize dAt xs X Y j = q at *
          generalize cP xs j = c0 at *
          generalize cD xs j = c1 at *
          generalize cE xs j = c2 at *
          have HS := Lib.hid hS
          clear hS
          generalize sumTo (dAt xs X Y) j = s0 at *
          obtain ⟨s00, s01⟩ := hs
          obtain ⟨d00, d01⟩ := hd
          have hsl : s0 ≤ 12000 := by omega
          cases dx : decide ((j : Int) ∈ X) with
          | false =>
            cases dy : decide ((j : Int) ∈ Y) with
            | false =>
              have HQ := Lib.hid (HD0.out false dx dy)
              clear HD0 HD1
              go_wp2_with (first | (go_at_call_of 61 (Value.slice adx X.length capx); refine (l31Has_any _ X _ _ HIx.out).mono ?_; rw [dx]; rintro e w' ⟨rfl, rfl⟩) | (go_at_call_of 61 (Value.slice ady Y.length capy); refine (l31Has_any _ Y _ _ HIy.out).mono ?_; rw [dy]; rintro e w' ⟨rfl, rfl⟩))
              go_roundw
              case rel => exact ⟨j + 1, by omega, by go_num, by rw [HS.out, HQ.out]; simp, HB.out⟩
              case measure => simp [intOf]; omega
            | true =>
              have HQ := Lib.hid (HD1.out false true dx dy (by decide))
              clear HD0 HD1
              go_wp2_with (first | (go_at_call_of 61 (Value.slice adx X.length capx); refine (l31Has_any _ X _ _ HIx.out).mono ?_; rw [dx]; rintro e w' ⟨rfl, rfl⟩) | (go_at_call_of 61 (Value.slice ady Y.length capy); refine (l31Has_any _ Y _ _ HIy.out).mono ?_; rw [dy]; rintro e w' ⟨rfl, rfl⟩))
              go_roundw
              case rel => exact ⟨j + 1, by omega, by go_num, by rw [HS.out, HQ.out], HB.out⟩
              case measure => simp [intOf]; omega
          | true =>
            cases dy : decide ((j : Int) ∈ Y) with
            | false =>
              have HQ := Lib.hid (HD1.out true false dx dy (by decide))
              clear HD0 HD1
              go_wp2_with (first | (go_at_call_of 61 (Value.slice adx X.length capx); refine (l31Has_any _ X _ _ HIx.out).mono ?_; rw [dx]; rintro e w' ⟨rfl, rfl⟩) | (go_at_call_of 61 (Value.slice ady Y.length capy); refine (l31Has_any _ Y _ _ HIy.out).mono ?_; rw [dy]; rintro e w' ⟨rfl, rfl⟩))
              go_roundw
              case rel => exact ⟨j + 1, by omega, by go_num, by rw [HS.out, HQ.out], HB.out⟩
              case measure => simp [intOf]; omega
            | true =>
              have HQ := Lib.hid (HD0.out true dx dy)
              clear HD0 HD1
              go_wp2_with (first | (go_at_call_of 61 (Value.slice adx X.length capx); refine (l31Has_any _ X _ _ HIx.out).mono ?_; rw [dx]; rintro e w' ⟨rfl, rfl⟩) | (go_at_call_of 61 (Value.slice ady Y.length capy); refine (l31Has_any _ Y _ _ HIy.out).mono ?_; rw [dy]; rintro e w' ⟨rfl, rfl⟩))
              go_roundw
              case rel => exact ⟨j + 1, by omega, by go_num, by rw [HS.out, HQ.out]; simp, HB.out⟩
              case measure => simp [intOf]; omega
        · obtain rfl : j = n := by omega
          go_wp2
          go_ret
          exact ⟨by rw [HE.out]; rfl, bnext D.out HB.out⟩

end Go.Proofs.Ytlipfkalehikkaa

/- The walks of ActOk and toAct. -/
namespace Go.Proofs.Ytlipfkalehikkaa
open Go.ChangeShapes Go.WideShapes Go.ChangeAt Go.RowKit

def actV (k a b c d : Int) : Value := .agg #[.int .i64 k, .int .i64 a, .int .i64 b, .int .i64 c, .int .i64 d]
def actOk (k a b c d : Int) : Bool :=
  if k = 1 then inB a 0 11 && inB b 0 1000 && inB c 0 1000 && inB d 0 20
  else if k = 2 then inB a 1 1000 && (b == 0) && (c == 0) && (d == 0)
  else if k = 3 then inB a 0 11 && inB b 0 10000 && (c == 0) && (d == 0)
  else if k = 4 then inB a 0 11 && (b == 0) && (c == 0) && (d == 0)
  else if k = 5 then inB a 0 11 && inB b 0 11 && (c == 0) && (d == 0)
  else false

theorem implActOk_any (k a b c d : Int) (w : World) : Calls Try.prog 20 #[.agg #[.int .i64 k, .int .i64 a, .int .i64 b, .int .i64 c, .int .i64 d]] w fun e w' =>
    e = .returned (.bool (actOk k a b c d)) ∧ Below w.heap.size w w' := by
  go_enter Try.func20, Try.ntmps20
  go_wp2_with (go_at_call 38; refine (in_any _ _ _ _).mono ?_; rintro e w' ⟨rfl, rfl⟩)
  all_goals
    go_ret
    exact ⟨ret_bool (by simp_all [actOk]), (Below.refl _ _).alloc (Nat.le_refl _) _⟩

theorem specActOk_any (k a b c d : Int) (w : World) : Calls Try.prog 28 #[.agg #[.int .i64 k, .int .i64 a, .int .i64 b, .int .i64 c, .int .i64 d]] w fun e w' =>
    e = .returned (.bool (actOk k a b c d)) ∧ Below w.heap.size w w' := by
  go_enter Try.func28, Try.ntmps28
  go_wp2_with (go_at_call 55; refine (l01In_any _ _ _ _).mono ?_; rintro e w' ⟨rfl, rfl⟩)
  all_goals
    go_ret
    exact ⟨ret_bool (by simp_all [actOk]), (Below.refl _ _).alloc (Nat.le_refl _) _⟩

end Go.Proofs.Ytlipfkalehikkaa

/- The performing of acts: the plain law. -/
namespace Go.Proofs.Ytlipfkalehikkaa
open Go.ChangeShapes Go.WideShapes Go.ChangeAt Go.RowKit

theorem only_drew {lo hi : Nat} {a w : World} (h : Only lo hi a w) : Only lo hi a w.drew := h.step (bdrew (bref w))
def bit (b : Bool) : Int := if b then 1 else 0
/-- a house behind an act, and the act's number -/
def doAct (h : HD) (k a b c d : Int) : HD × Int :=
  if houseOk h = true ∧ actOk k a b c d = true then
    (if k = 1 then ((makeCopy h a b c d).1, bit (makeCopy h a b c d).2)
    else if k = 2 then ((passDays h a).1, bit (passDays h a).2)
    else if k = 3 then ((withdraw h a b).1, if (withdraw h a b).2.2 = true then ((withdraw h a b).2.1.length : Int) else -1)
    else if k = 4 then (h, weightIn h.n h.xs a)
    else (h, diffError h.n h.xs a b))
  else (h, -1)
section
variable {h : HD} {k a b c d : Int}
theorem doAct_no (q : ¬ (houseOk h = true ∧ actOk k a b c d = true)) : doAct h k a b c d = (h, -1) := if_neg q
theorem doAct_1 (e1 : houseOk h = true) (e2 : actOk 1 a b c d = true) : doAct h 1 a b c d = ((makeCopy h a b c d).1, bit (makeCopy h a b c d).2) := by unfold doAct; rw [if_pos ⟨e1, e2⟩]; rfl
theorem doAct_2 (e1 : houseOk h = true) (e2 : actOk 2 a b c d = true) : doAct h 2 a b c d = ((passDays h a).1, bit (passDays h a).2) := by unfold doAct; rw [if_pos ⟨e1, e2⟩]; rfl
theorem doAct_3 (e1 : houseOk h = true) (e2 : actOk 3 a b c d = true) : doAct h 3 a b c d = ((withdraw h a b).1, if (withdraw h a b).2.2 = true then ((withdraw h a b).2.1.length : Int) else -1) := by unfold doAct; rw [if_pos ⟨e1, e2⟩]; rfl
theorem doAct_4 (e1 : houseOk h = true) (e2 : actOk 4 a b c d = true) : doAct h 4 a b c d = (h, weightIn h.n h.xs a) := by unfold doAct; rw [if_pos ⟨e1, e2⟩]; rfl
theorem doAct_5 (e1 : houseOk h = true) (e2 : actOk 5 a b c d = true) : doAct h 5 a b c d = (h, diffError h.n h.xs a b) := by unfold doAct; rw [if_pos ⟨e1, e2⟩]; rfl
theorem actOk_kind (e : actOk k a b c d = true) : k = 1 ∨ k = 2 ∨ k = 3 ∨ k = 4 ∨ k = 5 := by
  by_cases h1 : k = 1
  · exact .inl h1
  by_cases h2 : k = 2
  · exact .inr (.inl h2)
  by_cases h3 : k = 3
  · exact .inr (.inr (.inl h3))
  by_cases h4 : k = 4
  · exact .inr (.inr (.inr (.inl h4)))
  by_cases h5 : k = 5
  · exact .inr (.inr (.inr (.inr h5)))
  unfold actOk at e
  rw [if_neg h1, if_neg h2, if_neg h3, if_neg h4, if_neg h5] at e
  cases e
theorem doAct_b (hB : HouseB h 1048576) (k a b c d : Int) : HouseB (doAct h k a b c d).1 1048576 := by
  unfold doAct
  split
  · split
    · exact makeCopy_b hB a b c d
    · split
      · exact passDays_b hB a
      · split
        · exact (withdraw_b hB a b).1
        · split <;> exact hB
  · exact hB
theorem doAct_ok (q : houseOk h = true) (k a b c d : Int) : houseOk (doAct h k a b c d).1 = true := by
  unfold doAct
  split
  next z =>
    split
    · exact makeCopy_ok q
    · split
      next e =>
        subst e
        have e2 := z.2
        simp only [actOk] at e2
        have a0 : 1 ≤ a := by
          have : inB a 1 1000 = true := by
            rcases hq : inB a 1 1000 with _ | _
            · simp [hq] at e2
            · rfl
          exact (inB_le this).1
        exact passDays_ok q (by omega)
      · split
        · exact withdraw_ok q
        · split <;> exact q
  · exact q
theorem doAct_bd (h : HD) (k a b c d : Int) : -12000000 ≤ (doAct h k a b c d).2 ∧ (doAct h k a b c d).2 ≤ 12000000 := by
  have hb : ∀ p : Bool, 0 ≤ bit p ∧ bit p ≤ 1 := fun p => by cases p <;> decide
  unfold doAct
  split
  · split
    · have := hb (makeCopy h a b c d).2; show _ ≤ bit _ ∧ bit _ ≤ _; omega
    · split
      · have := hb (passDays h a).2; show _ ≤ bit _ ∧ bit _ ≤ _; omega
      · split
        · show _ ≤ (if _ then _ else _) ∧ (if _ then _ else _) ≤ _
          have hl : (withdraw h a b).2.1.length ≤ 21 := by
            unfold withdraw
            split
            · exact wL_len h a b
            · simp
          split <;> omega
        · split
          · have := weightIn_bd h.n h.xs a; show _ ≤ weightIn _ _ _ ∧ weightIn _ _ _ ≤ _; omega
          · have := diffError_bd h.n h.xs a b; show _ ≤ diffError _ _ _ _ ∧ diffError _ _ _ _ ≤ _; omega
  · show (-12000000 : Int) ≤ -1 ∧ (-1 : Int) ≤ 12000000; omega
end
/-- element i of a list of acts, of five integers each -/
def actAt (xs : List Int) (i j : Nat) : Int := nth xs (i * 5 + j)
/-- the house behind the first acts -/
def runTo (xs : List Int) (h : HD) : Nat → HD
  | 0 => h
  | i + 1 => (doAct (runTo xs h i) (actAt xs i 0) (actAt xs i 1) (actAt xs i 2) (actAt xs i 3) (actAt xs i 4)).1
/-- the number of act i -/
def actNum (xs : List Int) (h : HD) (i : Nat) : Int := (doAct (runTo xs h i) (actAt xs i 0) (actAt xs i 1) (actAt xs i 2) (actAt xs i 3) (actAt xs i 4)).2
def numsTo (xs : List Int) (h : HD) : Nat → List Int
  | 0 => []
  | i + 1 => numsTo xs h i ++ [actNum xs h i]
theorem numsTo_len (xs : List Int) (h : HD) : ∀ i, (numsTo xs h i).length = i
  | 0 => rfl
  | i + 1 => by simp [numsTo, numsTo_len xs h i]
theorem runTo_b {h : HD} (hB : HouseB h 1048576) (xs : List Int) : ∀ i, HouseB (runTo xs h i) 1048576
  | 0 => hB
  | i + 1 => doAct_b (runTo_b hB xs i) _ _ _ _ _
theorem runTo_ok {h : HD} (q : houseOk h = true) (xs : List Int) : ∀ i, houseOk (runTo xs h i) = true
  | 0 => q
  | i + 1 => doAct_ok (runTo_ok q xs i) _ _ _ _ _
theorem houseOk_B {h : HD} (e : houseOk h = true) : HouseB h 1048576 := by have c := houseOk_b e; exact ⟨by have := c.n; omega, by have := c.ms; omega, by have := c.os; omega, by have := c.ts; omega⟩
def runActs (h : HD) (n : Nat) (xs : List Int) : HD × List Int := if houseOk h = true ∧ n ≤ 40 then (runTo xs h n, numsTo xs h n) else (h, [])
theorem runActs_t {h : HD} {n : Nat} {xs : List Int} (e1 : houseOk h = true) (e2 : n ≤ 40) : runActs h n xs = (runTo xs h n, numsTo xs h n) := if_pos ⟨e1, e2⟩
theorem runActs_no {h : HD} {n : Nat} {xs : List Int} (e : ¬ (houseOk h = true ∧ n ≤ 40)) : runActs h n xs = (h, []) := if_neg e
theorem runActs_b {h : HD} (hB : HouseB h 1048576) (n : Nat) (xs : List Int) : HouseB (runActs h n xs).1 1048576 := by
  unfold runActs
  split
  · exact runTo_b hB xs n
  · exact hB
theorem runActs_len (h : HD) (n : Nat) (xs : List Int) : (runActs h n xs).2.length ≤ 40 := by
  unfold runActs
  split
  next q => show (numsTo xs h n).length ≤ 40; rw [numsTo_len]; exact q.2
  · simp
theorem numsTo_bd (h : HD) (xs : List Int) : ∀ n, ∀ x ∈ numsTo xs h n, -12000000 ≤ x ∧ x ≤ 12000000
  | 0, x, hx => by simp [numsTo] at hx
  | i + 1, x, hx => by
    rw [numsTo, List.mem_append, List.mem_singleton] at hx
    rcases hx with hx | rfl
    · exact numsTo_bd h xs i x hx
    · exact doAct_bd _ _ _ _ _ _
def isReplay (h : HD) (n : Nat) (xs zs : List Int) : Bool := houseOk h && (decide (n ≤ 40) && decide (numsTo xs h n = zs))
end Go.Proofs.Ytlipfkalehikkaa
