/- The walks of OwnersOk, in the program and in the reference. -/
import Derived.Test.YtdchgbhhlocmdaaChain
import Derived.Test.YtdchgbhhlocmdaaDaysFn
import Derived.BigGuardPart
namespace Go.Proofs.Ytdchgbhhlocmdaa
open Go.ChangeShapes Go.WideShapes Go.ChangeAt Go.RowKit

theorem l_ne {a b : Nat} (h : a ≠ b) : ((a : Int) != (b : Int)) = true := by rw [bne_iff_ne]; omega
theorem l_eq {a b : Nat} (h : a = b) : ((a : Int) != (b : Int)) = false := by rw [h]; simp
theorem implOwnersOk (v : Value) (n : Nat) (xs : List Int) (u : Value) (os : List Int) (w : World) (h : Recs 3 w v n xs) (ho : Ints w u os) : Calls Try.prog 80 #[v, u] w fun e w' => e = .returned (.bool (ownersOk n xs os)) ∧ Below w.heap.size w w' := by
  have hv := h
  obtain ⟨hl, he, ad, cap, rfl, hc⟩ := h
  clear hc he
  cases h1 : chainOk n xs with
  | false =>
    have H := Lib.hid (ownersOk_c (os := os) h1)
    go_enter Try.func80, Try.ntmps80
    go_wp2_with fail
    refine (implChainOk_any _ n xs _ hv).mono ?_
    rintro e w1 ⟨rfl, hb1⟩
    go_wp2
    go_ret
    exact ⟨ret_bool H.out.symm, hb1⟩
  | true =>
    by_cases hn : os.length = n
    · have hne := l_eq hn
      have HN := Lib.hid hn
      clear hn
      obtain ⟨hl', ad', cap', rfl, hc'⟩ := ho
      go_enter Try.func80, Try.ntmps80
      go_wp2_with fail
      refine (implChainOk_any _ n xs _ hv).mono ?_
      rintro e w1 ⟨rfl, hb1⟩
      have hC : ∀ i, i < os.length → ∃ b o, ad' = some ⟨b, o, none⟩ ∧ w1.cell? ⟨b, o + i, none⟩ = some (.int .i64 (nth os i)) := fun i hi => by
        obtain ⟨b, o, ha, hcell⟩ := hc' i hi
        exact ⟨b, o, ha, (hb1.cell (p := ⟨b, o + i, none⟩) (World.block_lt_of_cell? w _ hcell)).trans hcell⟩
      clear hc'
      go_wp2
      go_loop [19] (fun i => ∃ k : Nat, k ≤ os.length ∧ i = .int .i64 k ∧ Hid (allTo (fun k => inB (nth os k) 0 20) k = true)) (fun i => os.length - (intOf i).toNat)
      case atStart => exact ⟨0, Nat.zero_le _, rfl, rfl⟩
      case round =>
        obtain ⟨k, hk, rfl, hx⟩ := hrel
        by_cases hlt : k < os.length
        · obtain ⟨b, o, rfl, hcell⟩ := hC k hlt
          clear hC
          cases h3 : inB (nth os k) 0 20 with
          | false =>
            have H := Lib.hid (ownersOk_at (n := n) (xs := xs) hlt h3)
            go_wp2_with (go_at_call 72; refine (in_any _ _ _ _).mono ?_; rintro e w' ⟨rfl, rfl⟩)
            go_ret
            exact ⟨ret_bool H.out.symm, hb1⟩
          | true =>
            have H := Lib.hid (allTo_succ (p := fun k => inB (nth os k) 0 20) hx.out h3)
            go_wp2_with (go_at_call 72; refine (in_any _ _ _ _).mono ?_; rintro e w' ⟨rfl, rfl⟩)
            go_round
            case rel => exact ⟨k + 1, by omega, by go_num, H.out⟩
            case measure => simp [intOf]; omega
        · obtain rfl : k = os.length := by omega
          have H := Lib.hid (ownersOk_t (n := n) (xs := xs) hx.out)
          clear hC
          go_wp2
          go_ret
          exact ⟨ret_bool (by rw [H.out, HN.out]; simp [h1]), hb1⟩
    · have hne := l_ne hn
      obtain ⟨hl', ad', cap', rfl, hc'⟩ := ho
      have H := Lib.hid (ownersOk_l (xs := xs) hn)
      clear hc'
      go_enter Try.func80, Try.ntmps80
      go_wp2_with fail
      refine (implChainOk_any _ n xs _ hv).mono ?_
      rintro e w1 ⟨rfl, hb1⟩
      go_wp2
      go_ret
      exact ⟨ret_bool H.out.symm, hb1⟩

theorem specOwnersOk (v : Value) (n : Nat) (xs : List Int) (u : Value) (os : List Int) (w : World) (h : Recs 3 w v n xs) (ho : Ints w u os) : Calls Try.prog 78 #[v, u] w fun e w' => e = .returned (.bool (ownersOk n xs os)) ∧ Below w.heap.size w w' := by
  have hv := h
  obtain ⟨hl, he, ad, cap, rfl, hc⟩ := h
  clear hc he
  obtain ⟨hl', ad', cap', rfl, hC⟩ := ho
  go_enter Try.func78, Try.ntmps78
  go_wp2_with fail
  go_loop [5] (fun i => ∃ k : Nat, k ≤ os.length ∧ i = .int .i64 k ∧ Hid (allTo (fun k => inB (nth os k) 0 20) k = true)) (fun i => os.length - (intOf i).toNat)
  case atStart => exact ⟨0, Nat.zero_le _, rfl, rfl⟩
  case round =>
    obtain ⟨k, hk, rfl, hx⟩ := hrel
    by_cases hlt : k < os.length
    · obtain ⟨b, o, rfl, hcell⟩ := hC k hlt
      clear hC
      cases h3 : inB (nth os k) 0 20 with
      | false =>
        have H := Lib.hid (ownersOk_at (n := n) (xs := xs) hlt h3)
        go_wp2_with (go_at_call 77; refine (l01In_any _ _ _ _).mono ?_; rintro e w' ⟨rfl, rfl⟩)
        go_ret
        exact ⟨ret_bool H.out.symm, bref _⟩
      | true =>
        have H := Lib.hid (allTo_succ (p := fun k => inB (nth os k) 0 20) hx.out h3)
        go_wp2_with (go_at_call 77; refine (l01In_any _ _ _ _).mono ?_; rintro e w' ⟨rfl, rfl⟩)
        go_round
        case rel => exact ⟨k + 1, by omega, by go_num, H.out⟩
        case measure => simp [intOf]; omega
    · obtain rfl : k = os.length := by omega
      have H := Lib.hid (ownersOk_t (n := n) (xs := xs) hx.out)
      clear hC
      go_wp2_with fail
      refine (specChainOk_any _ n xs _ hv).mono ?_
      rintro e w1 ⟨rfl, hb1⟩
      cases h1 : chainOk n xs with
      | false =>
        go_wp2
        go_ret
        exact ⟨ret_bool (by rw [H.out]; simp [h1]), hb1⟩
      | true =>
        by_cases hn : os.length = n
        · have hne : ((os.length : Int) == (n : Int)) = true := by simp [hn]
          have HN := Lib.hid hn
          clear hn
          go_wp2
          go_ret
          exact ⟨ret_bool (by rw [H.out, HN.out]; simp [h1]), hb1⟩
        · have hne : ((os.length : Int) == (n : Int)) = false := by rw [beq_eq_false_iff_ne]; omega
          go_wp2
          go_ret
          exact ⟨ret_bool (by rw [H.out]; simp [h1, hn]), hb1⟩

end Go.Proofs.Ytdchgbhhlocmdaa
