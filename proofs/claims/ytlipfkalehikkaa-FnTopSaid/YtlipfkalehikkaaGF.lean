/- Texts laid together: Owners, Days, Ascending, HouseOk, Safe. -/
import Derived.BigGuardPart
import Derived.BigQuiet
import Derived.Test.YtlipfkalehikkaaGA
import Derived.Test.YtlipfkalehikkaaProg
import Derived.Test.YtlipfkalehikkaaGB
/- The walks of OwnersOk, in the program and in the reference. -/
namespace Go.Proofs.Ytlipfkalehikkaa
open Go.ChangeShapes Go.WideShapes Go.ChangeAt Go.RowKit

theorem l_ne {a b : Nat} (h : a ≠ b) : ((a : Int) != (b : Int)) = true := by rw [bne_iff_ne]; omega
theorem l_eq {a b : Nat} (h : a = b) : ((a : Int) != (b : Int)) = false := by rw [h]; simp
theorem implOwnersOk (v : Value) (n : Nat) (xs : List Int) (u : Value) (os : List Int) (w : World) (h : Recs 3 w v n xs) (ho : Ints w u os) : Calls Try.prog 36 #[v, u] w fun e w' => e = .returned (.bool (ownersOk n xs os)) ∧ Below w.heap.size w w' := by
  have hv := h
  obtain ⟨hl, he, ad, cap, rfl, hc⟩ := h
  clear hc he
  cases h1 : chainOk n xs with
  | false =>
    have H := Lib.hid (ownersOk_c (os := os) h1)
    go_enter Try.func36, Try.ntmps36
    go_wp2_with fail
    refine (implChainOk_any _ n xs _ hv).mono ?_
    rintro e w1 ⟨rfl, hb1⟩
    go_wp2
    go_ret
    exact ⟨ret_bool H.out.symm, hb1⟩
  | true =>
    by_cases hn : os.length = n
    · have hne := l_eq hn
      have HN := Lib.hid hn
      clear hn
      obtain ⟨hl', ad', cap', rfl, hc'⟩ := ho
      go_enter Try.func36, Try.ntmps36
      go_wp2_with fail
      refine (implChainOk_any _ n xs _ hv).mono ?_
      rintro e w1 ⟨rfl, hb1⟩
      have hC : ∀ i, i < os.length → ∃ b o, ad' = some ⟨b, o, none⟩ ∧ w1.cell? ⟨b, o + i, none⟩ = some (.int .i64 (nth os i)) := fun i hi => by
        obtain ⟨b, o, ha, hcell⟩ := hc' i hi
        exact ⟨b, o, ha, (hb1.cell (p := ⟨b, o + i, none⟩) (World.block_lt_of_cell? w _ hcell)).trans hcell⟩
      clear hc'
      go_wp2
      go_loop [19] (fun i => ∃ k : Nat, k ≤ os.length ∧ i = .int .i64 k ∧ Hid (allTo (fun k => inB (nth os k) 0 20) k = true)) (fun i => os.length - (intOf i).toNat)
      case atStart => exact ⟨0, Nat.zero_le _, rfl, rfl⟩
      case round =>
        obtain ⟨k, hk, rfl, hx⟩ := hrel
        by_cases hlt : k < os.length
        · obtain ⟨b, o, rfl, hcell⟩ := hC k hlt
          clear hC
          cases h3 : inB (nth os k) 0 20 with
          | false =>
            have H := Lib.hid (ownersOk_at (n := n) (xs := xs) hlt h3)
            go_wp2_with (go_at_call 38; refine (in_any _ _ _ _).mono ?_; rintro e w' ⟨rfl, rfl⟩)
            go_ret
            exact ⟨ret_bool H.out.symm, hb1⟩
          | true =>
            have H := Lib.hid (allTo_succ (p := fun k => inB (nth os k) 0 20) hx.out h3)
            go_wp2_with (go_at_call 38; refine (in_any _ _ _ _).mono ?_; rintro e w' ⟨rfl, rfl⟩)
            go_round
            case rel => exact ⟨k + 1, by omega, by go_num, H.out⟩
            case measure => simp [intOf]; omega
        · obtain rfl : k = os.length := by omega
          have H := Lib.hid (ownersOk_t (n := n) (xs := xs) hx.out)
          clear hC
          go_wp2
          go_ret
          exact ⟨ret_bool (by rw [H.out, HN.out]; simp [h1]), hb1⟩
    · have hne := l_ne hn
      obtain ⟨hl', ad', cap', rfl, hc'⟩ := ho
      have H := Lib.hid (ownersOk_l (xs := xs) hn)
      clear hc'
      go_enter Try.func36, Try.ntmps36
      go_wp2_with fail
      refine (implChainOk_any _ n xs _ hv).mono ?_
      rintro e w1 ⟨rfl, hb1⟩
      go_wp2
      go_ret
      exact ⟨ret_bool H.out.symm, hb1⟩

theorem specOwnersOk (v : Value) (n : Nat) (xs : List Int) (u : Value) (os : List Int) (w : World) (h : Recs 3 w v n xs) (ho : Ints w u os) : Calls Try.prog 54 #[v, u] w fun e w' => e = .returned (.bool (ownersOk n xs os)) ∧ Below w.heap.size w w' := by
  have hv := h
  obtain ⟨hl, he, ad, cap, rfl, hc⟩ := h
  clear hc he
  obtain ⟨hl', ad', cap', rfl, hC⟩ := ho
  go_enter Try.func54, Try.ntmps54
  go_wp2_with fail
  go_loop [5] (fun i => ∃ k : Nat, k ≤ os.length ∧ i = .int .i64 k ∧ Hid (allTo (fun k => inB (nth os k) 0 20) k = true)) (fun i => os.length - (intOf i).toNat)
  case atStart => exact ⟨0, Nat.zero_le _, rfl, rfl⟩
  case round =>
    obtain ⟨k, hk, rfl, hx⟩ := hrel
    by_cases hlt : k < os.length
    · obtain ⟨b, o, rfl, hcell⟩ := hC k hlt
      clear hC
      cases h3 : inB (nth os k) 0 20 with
      | false =>
        have H := Lib.hid (ownersOk_at (n := n) (xs := xs) hlt h3)
        go_wp2_with (go_at_call 55; refine (l01In_any _ _ _ _).mono ?_; rintro e w' ⟨rfl, rfl⟩)
        go_ret
        exact ⟨ret_bool H.out.symm, bref _⟩
      | true =>
        have H := Lib.hid (allTo_succ (p := fun k => inB (nth os k) 0 20) hx.out h3)
        go_wp2_with (go_at_call 55; refine (l01In_any _ _ _ _).mono ?_; rintro e w' ⟨rfl, rfl⟩)
        go_round
        case rel => exact ⟨k + 1, by omega, by go_num, H.out⟩
        case measure => simp [intOf]; omega
    · obtain rfl : k = os.length := by omega
      have H := Lib.hid (ownersOk_t (n := n) (xs := xs) hx.out)
      clear hC
      go_wp2_with fail
      refine (specChainOk_any _ n xs _ hv).mono ?_
      rintro e w1 ⟨rfl, hb1⟩
      cases h1 : chainOk n xs with
      | false =>
        go_wp2
        go_ret
        exact ⟨ret_bool (by rw [H.out]; simp [h1]), hb1⟩
      | true =>
        by_cases hn : os.length = n
        · have hne : ((os.length : Int) == (n : Int)) = true := by simp [hn]
          have HN := Lib.hid hn
          clear hn
          go_wp2
          go_ret
          exact ⟨ret_bool (by rw [H.out, HN.out]; simp [h1]), hb1⟩
        · have hne : ((os.length : Int) == (n : Int)) = false := by rw [beq_eq_false_iff_ne]; omega
          go_wp2
          go_ret
          exact ⟨ret_bool (by rw [H.out]; simp [h1, hn]), hb1⟩

end Go.Proofs.Ytlipfkalehikkaa

/- The walks of DaysOk, in the program and in the reference. -/
namespace Go.Proofs.Ytlipfkalehikkaa
open Go.ChangeShapes Go.WideShapes Go.ChangeAt Go.RowKit

theorem l_ne' {a b : Nat} (h : a ≠ b) : ((a : Int) != (b : Int)) = true := by rw [bne_iff_ne]; omega
theorem l_eq' {a b : Nat} (h : a = b) : ((a : Int) != (b : Int)) = false := by rw [h]; simp
theorem quiet_in {P : Program} {f : FuncId} {args : Array Value} {w : World} {n : Nat} {v : Value}
    (h : Calls P f args (w.drewN n) fun e w' => e = .returned v ∧ w.drewN n = w') : Calls P f args (w.drewN n) fun e w'' => e = .returned v ∧ ∃ m, w'' = w.drewN m :=
  h.mono fun _ _ ⟨he, hm⟩ => ⟨he, n, hm.symm⟩
theorem quiet_in_add {P : Program} {f : FuncId} {args : Array Value} {w : World} {a n : Nat} {v : Value}
    (h : Calls P f args (w.drewN (a + n)) fun e w' => e = .returned v ∧ w.drewN (a + n) = w') :
    Calls P f args (w.drewN (a + n)) fun e w'' => e = .returned v ∧ ∃ m, w'' = w.drewN (a + m) :=
  h.mono fun _ _ ⟨he, hm⟩ => ⟨he, n, hm.symm⟩
theorem implDaysOk (v : Value) (n : Nat) (xs : List Int) (u : Value) (ms : List Int) (w : World) (h : Recs 3 w v n xs) (hm : Ints w u ms) : Calls Try.prog 35 #[v, u] w fun e w' => e = .returned (.bool (daysOk n xs ms)) ∧ Below w.heap.size w w' := by
  have hv := h
  obtain ⟨hl, he, ad, cap, rfl, hc⟩ := h
  have hat := fun k hk => at3 (w := w) he hc k hk
  clear hc he
  obtain ⟨hl', ad', cap', rfl, hc'⟩ := hm
  cases h1 : chainOk n xs with
  | false =>
    have H := Lib.hid (daysOk_c (ms := ms) h1)
    clear hat hc'
    go_enter Try.func35, Try.ntmps35
    go_wp2_with fail
    refine (implChainOk_any _ n xs _ hv).mono ?_
    rintro e w1 ⟨rfl, hb1⟩
    go_wp2
    go_ret
    exact ⟨ret_bool H.out.symm, hb1⟩
  | true =>
    by_cases hn : ms.length = n
    · have hne := l_eq' hn
      have HN := Lib.hid hn
      clear hn
      go_enter Try.func35, Try.ntmps35
      go_wp2_with fail
      refine (implChainOk_any _ n xs _ hv).mono ?_
      rintro e w1 ⟨rfl, hb1⟩
      go_wp2
      go_loopw [19] (fun i wr => ∃ k : Nat, k ≤ n ∧ i = .int .i64 k ∧ Hid (allTo (dayOk xs ms) k = true) ∧ Below w.heap.size w wr) (fun i _ => n - (intOf i).toNat)
      case atStart => exact ⟨0, Nat.zero_le _, rfl, rfl, hb1⟩
      case round =>
        obtain ⟨k, hk, rfl, hx, hbel⟩ := hrel
        by_cases hlt : k < n
        · obtain ⟨b, o, rfl, e0, e1, e2, hb⟩ := hat k hlt
          obtain ⟨b', o', rfl, m0⟩ := hc' k (by have := HN.out; omega)
          have hb' : b' < w.heap.size := World.block_lt_of_cell? w _ m0
          have hp := chainOk_p h1 hlt
          obtain ⟨p1, p2⟩ := hp
          have m1 : 0 ≤ cP xs k → w.cell? ⟨b', o' + (cP xs k).toNat, none⟩ = some (.int .i64 (nth ms (cP xs k).toNat)) := fun h0 => by
            obtain ⟨b2, o2, ha, hc2⟩ := hc' (cP xs k).toNat (by have := HN.out; omega)
            simp only [Option.some.injEq, Addr.mk.injEq, and_true] at ha
            obtain ⟨rfl, rfl⟩ := ha
            exact hc2
          clear hat hc'
          rw [← hbel.cell (p := ⟨b, o + k * 3, none⟩) hb] at e0
          rw [← hbel.cell (p := ⟨b, o + k * 3 + 1, none⟩) hb] at e1
          rw [← hbel.cell (p := ⟨b, o + k * 3 + 2, none⟩) hb] at e2
          rw [← hbel.cell (p := ⟨b', o' + k, none⟩) hb'] at m0
          rw [← hbel.cell (p := ⟨b', o' + (cP xs k).toNat, none⟩) hb'] at m1
          have z1 := hbel.size
          have lb : b < wr.heap.size := by omega
          have lb' : b' < wr.heap.size := by omega
          have HB := Lib.hid hbel
          clear hbel z1
          have i0 : (0 : Int) ≤ (k : Int) := by omega
          have i1 : (k : Int) < (ms.length : Int) := by have := HN.out; omega
          have i2 : (k : Int) < (n : Int) := by omega
          cases h2 : inB (nth ms k) 0 10000 with
          | false =>
            have H := Lib.hid (daysOk_at hlt (dayOk_1 (xs := xs) h2))
            clear m1
            go_wp2_with fail
            go_quiet ((go_at_call 38; first | exact quiet_in (in_any _ _ _ _) | exact quiet_in_add (in_any _ _ _ _)))
            go_wp2
            go_ret
            exact ⟨ret_bool H.out.symm, bdrewN (balloc HB.out _) _⟩
          | true =>
            by_cases hp : cP xs k < 0
            · have H := Lib.hid (allTo_succ hx.out (dayOk_2 h2 hp))
              have hd : decide (0 ≤ cP xs k) = false := by simpa using hp
              clear m1
              go_wp2_with fail
              go_quiet ((go_at_call 38; first | exact quiet_in (in_any _ _ _ _) | exact quiet_in_add (in_any _ _ _ _)))
              go_wp2
              go_roundw
              case rel => exact ⟨k + 1, by omega, by go_num, H.out, bdrewN (balloc HB.out _) _⟩
              case measure => simp [intOf]; omega
            · have m1 := m1 (by omega)
              have j0 : (0 : Int) ≤ cP xs k := by omega
              have j1 : cP xs k < (ms.length : Int) := by have := HN.out; omega
              have j2 : cP xs k < (n : Int) := by omega
              by_cases hq : nth ms (cP xs k).toNat ≤ nth ms k
              · have H := Lib.hid (allTo_succ hx.out (dayOk_3 h2 hq))
                have hr : decide (nth ms k < nth ms (cP xs k).toNat) = false := by simpa using hq
                go_wp2_with fail
                go_quiet ((go_at_call 38; first | exact quiet_in (in_any _ _ _ _) | exact quiet_in_add (in_any _ _ _ _)))
                go_wp2
                go_roundw
                case rel => exact ⟨k + 1, by omega, by go_num, H.out, bdrewN (balloc HB.out _) _⟩
                case measure => simp [intOf]; omega
              · have H := Lib.hid (daysOk_at hlt (dayOk_4 hp hq))
                have hr : decide (nth ms k < nth ms (cP xs k).toNat) = true := by simpa using hq
                go_wp2_with fail
                go_quiet ((go_at_call 38; first | exact quiet_in (in_any _ _ _ _) | exact quiet_in_add (in_any _ _ _ _)))
                go_wp2
                go_ret
                exact ⟨ret_bool H.out.symm, bdrewN (balloc HB.out _) _⟩
        · have H := Lib.hid (daysOk_t h1 HN.out (by have := hx.out; rwa [show k = n by omega] at this))
          have HB := Lib.hid hbel
          have hle : (ms.length : Int) ≤ (k : Int) := by have := HN.out; omega
          clear hat hc' hbel
          go_wp2
          go_ret
          exact ⟨ret_bool H.out.symm, HB.out⟩
    · have hne := l_ne' hn
      have H := Lib.hid (daysOk_l (xs := xs) hn)
      clear hat hc'
      go_enter Try.func35, Try.ntmps35
      go_wp2_with fail
      refine (implChainOk_any _ n xs _ hv).mono ?_
      rintro e w1 ⟨rfl, hb1⟩
      go_wp2
      go_ret
      exact ⟨ret_bool H.out.symm, hb1⟩

theorem specDaysOk (v : Value) (n : Nat) (xs : List Int) (u : Value) (ms : List Int) (w : World) (h : Recs 3 w v n xs) (hm : Ints w u ms) : Calls Try.prog 53 #[v, u] w fun e w' => e = .returned (.bool (daysOk n xs ms)) ∧ Below w.heap.size w w' := by
  have hv := h
  obtain ⟨hl, he, ad, cap, rfl, hc⟩ := h
  have hat := fun k hk => at3 (w := w) he hc k hk
  clear hc he
  obtain ⟨hl', ad', cap', rfl, hc'⟩ := hm
  cases h1 : chainOk n xs with
  | false =>
    have H := Lib.hid (daysOk_c (ms := ms) h1)
    clear hat hc'
    go_enter Try.func53, Try.ntmps53
    go_wp2_with fail
    refine (specChainOk_any _ n xs _ hv).mono ?_
    rintro e w1 ⟨rfl, hb1⟩
    go_wp2
    go_ret
    exact ⟨ret_bool H.out.symm, hb1⟩
  | true =>
    by_cases hn : ms.length = n
    · have hne := l_eq' hn
      have HN := Lib.hid hn
      clear hn
      go_enter Try.func53, Try.ntmps53
      go_wp2_with fail
      refine (specChainOk_any _ n xs _ hv).mono ?_
      rintro e w1 ⟨rfl, hb1⟩
      go_wp2
      go_loopw [5] (fun i wr => ∃ k : Nat, k ≤ n ∧ i = .int .i64 k ∧ Hid (allTo (dayOk xs ms) k = true) ∧ Below w.heap.size w wr) (fun i _ => n - (intOf i).toNat)
      case atStart => exact ⟨0, Nat.zero_le _, rfl, rfl, hb1⟩
      case round =>
        obtain ⟨k, hk, rfl, hx, hbel⟩ := hrel
        by_cases hlt : k < n
        · obtain ⟨b, o, rfl, e0, e1, e2, hb⟩ := hat k hlt
          obtain ⟨b', o', rfl, m0⟩ := hc' k (by have := HN.out; omega)
          have hb' : b' < w.heap.size := World.block_lt_of_cell? w _ m0
          have hp := chainOk_p h1 hlt
          obtain ⟨p1, p2⟩ := hp
          have m1 : 0 ≤ cP xs k → w.cell? ⟨b', o' + (cP xs k).toNat, none⟩ = some (.int .i64 (nth ms (cP xs k).toNat)) := fun h0 => by
            obtain ⟨b2, o2, ha, hc2⟩ := hc' (cP xs k).toNat (by have := HN.out; omega)
            simp only [Option.some.injEq, Addr.mk.injEq, and_true] at ha
            obtain ⟨rfl, rfl⟩ := ha
            exact hc2
          clear hat hc'
          rw [← hbel.cell (p := ⟨b, o + k * 3, none⟩) hb] at e0
          rw [← hbel.cell (p := ⟨b, o + k * 3 + 1, none⟩) hb] at e1
          rw [← hbel.cell (p := ⟨b, o + k * 3 + 2, none⟩) hb] at e2
          rw [← hbel.cell (p := ⟨b', o' + k, none⟩) hb'] at m0
          rw [← hbel.cell (p := ⟨b', o' + (cP xs k).toNat, none⟩) hb'] at m1
          have z1 := hbel.size
          have lb : b < wr.heap.size := by omega
          have lb' : b' < wr.heap.size := by omega
          have HB := Lib.hid hbel
          clear hbel z1
          have i0 : (0 : Int) ≤ (k : Int) := by omega
          have i1 : (k : Int) < (ms.length : Int) := by have := HN.out; omega
          have i2 : (k : Int) < (n : Int) := by omega
          cases h2 : inB (nth ms k) 0 10000 with
          | false =>
            have H := Lib.hid (daysOk_at hlt (dayOk_1 (xs := xs) h2))
            clear m1
            go_wp2_with fail
            go_quiet ((go_at_call 55; first | exact quiet_in (l01In_any _ _ _ _) | exact quiet_in_add (l01In_any _ _ _ _)))
            go_wp2
            go_ret
            exact ⟨ret_bool H.out.symm, bdrewN HB.out _⟩
          | true =>
            by_cases hp : cP xs k < 0
            · have H := Lib.hid (allTo_succ hx.out (dayOk_2 h2 hp))
              have hd : decide (0 ≤ cP xs k) = false := by simpa using hp
              clear m1
              go_wp2_with fail
              go_quiet ((go_at_call 55; first | exact quiet_in (l01In_any _ _ _ _) | exact quiet_in_add (l01In_any _ _ _ _)))
              go_wp2
              go_roundw
              case rel => exact ⟨k + 1, by omega, by go_num, H.out, bdrewN HB.out _⟩
              case measure => simp [intOf]; omega
            · have m1 := m1 (by omega)
              have j0 : (0 : Int) ≤ cP xs k := by omega
              have j1 : cP xs k < (ms.length : Int) := by have := HN.out; omega
              have j2 : cP xs k < (n : Int) := by omega
              by_cases hq : nth ms (cP xs k).toNat ≤ nth ms k
              · have H := Lib.hid (allTo_succ hx.out (dayOk_3 h2 hq))
                have hr : decide (nth ms k < nth ms (cP xs k).toNat) = false := by simpa using hq
                go_wp2_with fail
                go_quiet ((go_at_call 55; first | exact quiet_in (l01In_any _ _ _ _) | exact quiet_in_add (l01In_any _ _ _ _)))
                go_wp2
                go_roundw
                case rel => exact ⟨k + 1, by omega, by go_num, H.out, bdrewN HB.out _⟩
                case measure => simp [intOf]; omega
              · have H := Lib.hid (daysOk_at hlt (dayOk_4 hp hq))
                have hr : decide (nth ms k < nth ms (cP xs k).toNat) = true := by simpa using hq
                go_wp2_with fail
                go_quiet ((go_at_call 55; first | exact quiet_in (l01In_any _ _ _ _) | exact quiet_in_add (l01In_any _ _ _ _)))
                go_wp2
                go_ret
                exact ⟨ret_bool H.out.symm, bdrewN HB.out _⟩
        · have H := Lib.hid (daysOk_t h1 HN.out (by have := hx.out; rwa [show k = n by omega] at this))
          have HB := Lib.hid hbel
          have hle : (ms.length : Int) ≤ (k : Int) := by have := HN.out; omega
          clear hat hc' hbel
          go_wp2
          go_ret
          exact ⟨ret_bool H.out.symm, HB.out⟩
    · have hne := l_ne' hn
      have H := Lib.hid (daysOk_l (xs := xs) hn)
      clear hat hc'
      go_enter Try.func53, Try.ntmps53
      go_wp2_with fail
      refine (specChainOk_any _ n xs _ hv).mono ?_
      rintro e w1 ⟨rfl, hb1⟩
      go_wp2
      go_ret
      exact ⟨ret_bool H.out.symm, hb1⟩

end Go.Proofs.Ytlipfkalehikkaa

/- The walk of isAscending. -/
namespace Go.Proofs.Ytlipfkalehikkaa
open Go.ChangeShapes Go.WideShapes Go.ChangeAt Go.RowKit

theorem isAscending_any (v : Value) (ts : List Int) (w : World) (h : Ints w v ts) : Calls Try.prog 37 #[v] w fun e w' => e = .returned (.bool (ascOk ts)) ∧ Below w.heap.size w w' := by
  obtain ⟨hl, ad, cap, rfl, hc⟩ := h
  go_enter Try.func37, Try.ntmps37
  go_wp2_with fail
  go_loopw [3] (fun i wr => ∃ k m : Nat, 1 ≤ k ∧ (k ≤ ts.length ∨ k = 1) ∧ i = .int .i64 k ∧ Hid (allTo (ascAt ts) k = true) ∧ wr = w.drewN m) (fun i _ => ts.length - (intOf i).toNat)
  case atStart => exact ⟨1, 0, Nat.le_refl _, .inr rfl, rfl, rfl, rfl⟩
  case round =>
    obtain ⟨k, m, hk1, hk2, rfl, hx, rfl⟩ := hrel
    by_cases hlt : k < ts.length
    · obtain ⟨b, o, rfl, e0⟩ := hc k hlt
      obtain ⟨b', o', ha, e1⟩ := hc (k - 1) (by omega)
      simp only [Option.some.injEq, Addr.mk.injEq, and_true] at ha
      obtain ⟨rfl, rfl⟩ := ha
      clear hc hk2
      obtain ⟨j, rfl⟩ : ∃ j, k = j + 1 := ⟨k - 1, by omega⟩
      have e1 : w.cell? ⟨b, o + j, none⟩ = some (.int .i64 (nth ts j)) := e1
      have i0 : (0 : Int) ≤ (j : Int) := by omega
      have i1 : (j : Int) + 1 < (ts.length : Int) := by omega
      have i2 : (j : Int) < (ts.length : Int) := by omega
      have i3 : (0 : Int) ≤ (j : Int) + 1 := by omega
      have n1 : IntKind.i64.wrap ((j : Int) + 1 - 1) = (j : Int) := by rw [IntWalk.i64_in _ (by omega)]; omega
      by_cases hp : nth ts (j + 1) ≤ nth ts j
      · have H := Lib.hid (show ascOk ts = false from allTo_no (k := j + 1) hlt (by simp [ascAt]; omega))
        have hd : decide (nth ts (j + 1) ≤ nth ts j) = true := by simpa using hp
        go_wp2_with fail
        go_quiet (fail)
        go_wp2
        go_ret
        exact ⟨ret_bool H.out.symm, by first | exact bdrewN (bref _) _ | exact bdrewN (bdrewN (bref _) _) _⟩
      · have H := Lib.hid (show allTo (ascAt ts) (j + 1 + 1) = true from allTo_succ hx.out (by simp [ascAt]; omega))
        have hd : decide (nth ts (j + 1) ≤ nth ts j) = false := by simpa using hp
        go_wp2_with fail
        go_quiet (fail)
        go_wp2
        go_roundw
        case rel => exact ⟨j + 1 + 1, _, by omega, .inl (by omega), by go_num, H.out, by first | rfl | exact World.drewN_drewN _ _ _⟩
        case measure => simp [intOf]; omega
    · have H := Lib.hid (show ascOk ts = true from by
        have h1 := hx.out
        unfold ascOk
        rcases Nat.eq_zero_or_pos ts.length with h0 | h0
        · rw [h0]; rfl
        · rw [show k = ts.length by omega] at h1; exact h1)
      clear hc hk2
      go_wp2
      go_ret
      exact ⟨ret_bool H.out.symm, bdrewN (bref _) _⟩
end Go.Proofs.Ytlipfkalehikkaa

/- The walks of HouseOk, in the program and in the reference. -/
namespace Go.Proofs.Ytlipfkalehikkaa
open Go.ChangeShapes Go.WideShapes Go.ChangeAt Go.RowKit

set_option maxRecDepth 100000 in
theorem implHouseOk (vc vm vo vt : Value) (h : HD) (w : World) (hr : HouseR w vc vm vo vt h) : Calls Try.prog 8 #[.agg #[vc, vm, vo, vt, .int .i64 h.sent, .int .i64 h.day]] w fun e w' =>
    e = .returned (.bool (houseOk h)) ∧ Below w.heap.size w w' := by
  obtain ⟨adc, capc, rfl⟩ : ∃ ad cap, vc = .slice ad h.n cap := by obtain ⟨_, _, ad, cap, hh, _⟩ := hr.c; exact ⟨ad, cap, hh⟩
  obtain ⟨adm, capm, rfl⟩ : ∃ ad cap, vm = .slice ad h.ms.length cap := by obtain ⟨_, ad, cap, hh, _⟩ := hr.m; exact ⟨ad, cap, hh⟩
  obtain ⟨adt, capt, rfl⟩ : ∃ ad cap, vt = .slice ad h.ts.length cap := by obtain ⟨_, ad, cap, hh, _⟩ := hr.t; exact ⟨ad, cap, hh⟩
  cases h1 : daysOk h.n h.xs h.ms with
  | false =>
    have H := Lib.hid (house_1 h1)
    go_enter Try.func8, Try.ntmps8
    go_wp2_with fail
    refine (implDaysOk _ _ _ _ _ _ (hr.alloc _).c (hr.alloc _).m).mono ?_
    rintro e w1 ⟨rfl, hb1⟩
    rw [h1]
    have D1 := hb1
    have c1 := below_cell D1
    go_wp2_with (go_at_call 38; refine (in_any _ _ _ _).mono ?_; rintro e w' ⟨rfl, rfl⟩)
    go_ret
    exact ⟨ret_bool H.out.symm, bnext (balloc (bref w) _) D1⟩
  | true =>
    cases h2 : ownersOk h.n h.xs h.os with
    | false =>
      have H := Lib.hid (house_2 h2)
      go_enter Try.func8, Try.ntmps8
      go_wp2_with fail
      refine (implDaysOk _ _ _ _ _ _ (hr.alloc _).c (hr.alloc _).m).mono ?_
      rintro e w1 ⟨rfl, hb1⟩
      rw [h1]
      have D1 := hb1
      have c1 := below_cell D1
      go_wp2_with fail
      refine (implOwnersOk _ _ _ _ _ _ ((hr.alloc _).below D1).c ((hr.alloc _).below D1).o).mono ?_
      rintro e w2 ⟨rfl, hb2⟩
      rw [h2]
      have D2 := (bnext D1 hb2)
      have c2 := below_cell D2
      clear c1
      go_wp2_with (go_at_call 38; refine (in_any _ _ _ _).mono ?_; rintro e w' ⟨rfl, rfl⟩)
      go_ret
      exact ⟨ret_bool H.out.symm, bnext (balloc (bref w) _) D2⟩
    | true =>
      cases h3 : ascOk h.ts with
      | false =>
        have H := Lib.hid (house_3 h3)
        go_enter Try.func8, Try.ntmps8
        go_wp2_with fail
        refine (implDaysOk _ _ _ _ _ _ (hr.alloc _).c (hr.alloc _).m).mono ?_
        rintro e w1 ⟨rfl, hb1⟩
        rw [h1]
        have D1 := hb1
        have c1 := below_cell D1
        go_wp2_with fail
        refine (implOwnersOk _ _ _ _ _ _ ((hr.alloc _).below D1).c ((hr.alloc _).below D1).o).mono ?_
        rintro e w2 ⟨rfl, hb2⟩
        rw [h2]
        have D2 := (bnext D1 hb2)
        have c2 := below_cell D2
        clear c1
        go_wp2_with fail
        refine (isAscending_any _ _ _ ((hr.alloc _).below D2).t).mono ?_
        rintro e w3 ⟨rfl, hb3⟩
        rw [h3]
        have D3 := (bnext D2 hb3)
        have c3 := below_cell D3
        clear c2
        go_wp2_with (go_at_call 38; refine (in_any _ _ _ _).mono ?_; rintro e w' ⟨rfl, rfl⟩)
        go_ret
        exact ⟨ret_bool H.out.symm, bnext (balloc (bref w) _) D3⟩
      | true =>
        cases h4 : inB h.sent 0 1000 with
        | false =>
          have H := Lib.hid (house_4 h4)
          go_enter Try.func8, Try.ntmps8
          go_wp2_with fail
          refine (implDaysOk _ _ _ _ _ _ (hr.alloc _).c (hr.alloc _).m).mono ?_
          rintro e w1 ⟨rfl, hb1⟩
          rw [h1]
          have D1 := hb1
          have c1 := below_cell D1
          go_wp2_with fail
          refine (implOwnersOk _ _ _ _ _ _ ((hr.alloc _).below D1).c ((hr.alloc _).below D1).o).mono ?_
          rintro e w2 ⟨rfl, hb2⟩
          rw [h2]
          have D2 := (bnext D1 hb2)
          have c2 := below_cell D2
          clear c1
          go_wp2_with fail
          refine (isAscending_any _ _ _ ((hr.alloc _).below D2).t).mono ?_
          rintro e w3 ⟨rfl, hb3⟩
          rw [h3]
          have D3 := (bnext D2 hb3)
          have c3 := below_cell D3
          clear c2
          go_wp2_with (go_at_call 38; refine (in_any _ _ _ _).mono ?_; rintro e w' ⟨rfl, rfl⟩)
          go_ret
          exact ⟨ret_bool H.out.symm, bnext (balloc (bref w) _) D3⟩
        | true =>
          cases h5 : inB h.day 0 10000 with
          | false =>
            have H := Lib.hid (house_5 h5)
            go_enter Try.func8, Try.ntmps8
            go_wp2_with fail
            refine (implDaysOk _ _ _ _ _ _ (hr.alloc _).c (hr.alloc _).m).mono ?_
            rintro e w1 ⟨rfl, hb1⟩
            rw [h1]
            have D1 := hb1
            have c1 := below_cell D1
            go_wp2_with fail
            refine (implOwnersOk _ _ _ _ _ _ ((hr.alloc _).below D1).c ((hr.alloc _).below D1).o).mono ?_
            rintro e w2 ⟨rfl, hb2⟩
            rw [h2]
            have D2 := (bnext D1 hb2)
            have c2 := below_cell D2
            clear c1
            go_wp2_with fail
            refine (isAscending_any _ _ _ ((hr.alloc _).below D2).t).mono ?_
            rintro e w3 ⟨rfl, hb3⟩
            rw [h3]
            have D3 := (bnext D2 hb3)
            have c3 := below_cell D3
            clear c2
            go_wp2_with (go_at_call 38; refine (in_any _ _ _ _).mono ?_; rintro e w' ⟨rfl, rfl⟩)
            go_ret
            exact ⟨ret_bool H.out.symm, bnext (balloc (bref w) _) D3⟩
          | true =>
            go_enter Try.func8, Try.ntmps8
            go_wp2_with fail
            refine (implDaysOk _ _ _ _ _ _ (hr.alloc _).c (hr.alloc _).m).mono ?_
            rintro e w1 ⟨rfl, hb1⟩
            rw [h1]
            have D1 := hb1
            have c1 := below_cell D1
            go_wp2_with fail
            refine (implOwnersOk _ _ _ _ _ _ ((hr.alloc _).below D1).c ((hr.alloc _).below D1).o).mono ?_
            rintro e w2 ⟨rfl, hb2⟩
            rw [h2]
            have D2 := (bnext D1 hb2)
            have c2 := below_cell D2
            clear c1
            go_wp2_with fail
            refine (isAscending_any _ _ _ ((hr.alloc _).below D2).t).mono ?_
            rintro e w3 ⟨rfl, hb3⟩
            rw [h3]
            have D3 := (bnext D2 hb3)
            have c3 := below_cell D3
            clear c2
            have R3 := hr.below (bnext (balloc (bref w) _) D3)
            have HD3 := Lib.hid (bnext (balloc (bref w) _) D3)
            clear D1 D2 D3 hb1 hb2 hb3
            obtain ⟨_, _, _, e1, hct⟩ := R3.t
            simp only [Value.slice.injEq] at e1
            obtain ⟨rfl, _, rfl⟩ := e1
            obtain ⟨_, _, _, e1, hcm⟩ := R3.m
            simp only [Value.slice.injEq] at e1
            obtain ⟨rfl, _, rfl⟩ := e1
            have hln := hr.c.len
            have hlm := hr.m.len
            have hlt := hr.t.len
            clear R3
            go_wp2_with (go_at_call 38; refine (in_any _ _ _ _).mono ?_; rintro e w' ⟨rfl, rfl⟩)
            go_loop [42] (fun i => ∃ k : Nat, k ≤ h.ts.length ∧ i = .int .i64 k ∧ Hid (allTo (toldAt h.n h.ts) k = true)) (fun i => h.ts.length - (intOf i).toNat)
            case atStart => exact ⟨0, Nat.zero_le _, rfl, rfl⟩
            case round =>
              obtain ⟨k, hk, rfl, hx⟩ := hrel
              by_cases hlt : k < h.ts.length
              · obtain ⟨b, o, rfl, e0⟩ := hct k hlt
                clear hct hcm
                cases h6 : inB (nth h.ts k) 0 ((h.n : Int) - 1) with
                | false =>
                  have H := Lib.hid (house_6 (h := h) hlt h6)
                  go_wp2_with (go_at_call 38; refine (in_any _ _ _ _).mono ?_; rintro e w' ⟨rfl, rfl⟩)
                  go_ret
                  exact ⟨ret_bool H.out.symm, HD3.out⟩
                | true =>
                  have H := Lib.hid (allTo_succ (p := toldAt h.n h.ts) hx.out h6)
                  go_wp2_with (go_at_call 38; refine (in_any _ _ _ _).mono ?_; rintro e w' ⟨rfl, rfl⟩)
                  go_round
                  case rel => exact ⟨k + 1, by omega, by go_num, H.out⟩
                  case measure => simp [intOf]; omega
              · obtain rfl : k = h.ts.length := by omega
                have H6 := hx
                clear hct hx
                go_wp2
                go_loop [57] (fun i => ∃ k : Nat, k ≤ h.ms.length ∧ i = .int .i64 k ∧ Hid (allTo (madeAt h.ms h.day) k = true)) (fun i => h.ms.length - (intOf i).toNat)
                case atStart => exact ⟨0, Nat.zero_le _, rfl, rfl⟩
                case round =>
                  obtain ⟨k, hk, rfl, hx⟩ := hrel
                  by_cases hlt : k < h.ms.length
                  · obtain ⟨b, o, rfl, e0⟩ := hcm k hlt
                    clear hcm
                    by_cases h7 : nth h.ms k ≤ h.day
                    · have H := Lib.hid (allTo_succ (p := madeAt h.ms h.day) hx.out (by simpa [madeAt] using h7))
                      go_wp2
                      go_round
                      case rel => exact ⟨k + 1, by omega, by go_num, H.out⟩
                      case measure => simp [intOf]; omega
                    · have H := Lib.hid (house_7 (h := h) hlt (by simpa [madeAt] using h7))
                      go_wp2
                      go_ret
                      exact ⟨ret_bool H.out.symm, HD3.out⟩
                  · obtain rfl : k = h.ms.length := by omega
                    have H := Lib.hid (show houseOk h = true by rw [house_t h1 h2 h3 H6.out hx.out, h4, h5]; rfl)
                    clear hcm
                    go_wp2
                    go_ret
                    exact ⟨ret_bool H.out.symm, HD3.out⟩

set_option maxRecDepth 100000 in
theorem specHouseOk (vc vm vo vt : Value) (h : HD) (w : World) (hr : HouseR w vc vm vo vt h) : Calls Try.prog 27 #[.agg #[vc, vm, vo, vt, .int .i64 h.sent, .int .i64 h.day]] w fun e w' =>
    e = .returned (.bool (houseOk h)) ∧ Below w.heap.size w w' := by
  obtain ⟨adc, capc, rfl⟩ : ∃ ad cap, vc = .slice ad h.n cap := by obtain ⟨_, _, ad, cap, hh, _⟩ := hr.c; exact ⟨ad, cap, hh⟩
  obtain ⟨adm, capm, rfl⟩ : ∃ ad cap, vm = .slice ad h.ms.length cap := by obtain ⟨_, ad, cap, hh, _⟩ := hr.m; exact ⟨ad, cap, hh⟩
  obtain ⟨adt, capt, rfl⟩ : ∃ ad cap, vt = .slice ad h.ts.length cap := by obtain ⟨_, ad, cap, hh, _⟩ := hr.t; exact ⟨ad, cap, hh⟩
  cases h1 : daysOk h.n h.xs h.ms with
  | false =>
    have H := Lib.hid (house_1 h1)
    go_enter Try.func27, Try.ntmps27
    go_wp2_with fail
    refine (specDaysOk _ _ _ _ _ _ (hr.alloc _).c (hr.alloc _).m).mono ?_
    rintro e w1 ⟨rfl, hb1⟩
    rw [h1]
    have D1 := hb1
    have c1 := below_cell D1
    go_wp2_with (go_at_call 55; refine (l01In_any _ _ _ _).mono ?_; rintro e w' ⟨rfl, rfl⟩)
    go_ret
    exact ⟨ret_bool H.out.symm, bnext (balloc (bref w) _) D1⟩
  | true =>
    cases h2 : ownersOk h.n h.xs h.os with
    | false =>
      have H := Lib.hid (house_2 h2)
      go_enter Try.func27, Try.ntmps27
      go_wp2_with fail
      refine (specDaysOk _ _ _ _ _ _ (hr.alloc _).c (hr.alloc _).m).mono ?_
      rintro e w1 ⟨rfl, hb1⟩
      rw [h1]
      have D1 := hb1
      have c1 := below_cell D1
      go_wp2_with fail
      refine (specOwnersOk _ _ _ _ _ _ ((hr.alloc _).below D1).c ((hr.alloc _).below D1).o).mono ?_
      rintro e w2 ⟨rfl, hb2⟩
      rw [h2]
      have D2 := (bnext D1 hb2)
      have c2 := below_cell D2
      clear c1
      go_wp2_with (go_at_call 55; refine (l01In_any _ _ _ _).mono ?_; rintro e w' ⟨rfl, rfl⟩)
      go_ret
      exact ⟨ret_bool H.out.symm, bnext (balloc (bref w) _) D2⟩
    | true =>
      go_enter Try.func27, Try.ntmps27
      go_wp2_with fail
      refine (specDaysOk _ _ _ _ _ _ (hr.alloc _).c (hr.alloc _).m).mono ?_
      rintro e w1 ⟨rfl, hb1⟩
      rw [h1]
      have D1 := hb1
      have c1 := below_cell D1
      go_wp2_with fail
      refine (specOwnersOk _ _ _ _ _ _ ((hr.alloc _).below D1).c ((hr.alloc _).below D1).o).mono ?_
      rintro e w2 ⟨rfl, hb2⟩
      rw [h2]
      have D2 := (bnext D1 hb2)
      have c2 := below_cell D2
      clear c1
      have R3 := hr.below (bnext (balloc (bref w) _) D2)
      have HD3 := Lib.hid (bnext (balloc (bref w) _) D2)
      clear D1 D2 hb1 hb2
      obtain ⟨_, _, _, e1, hct⟩ := R3.t
      simp only [Value.slice.injEq] at e1
      obtain ⟨rfl, _, rfl⟩ := e1
      obtain ⟨_, _, _, e1, hcm⟩ := R3.m
      simp only [Value.slice.injEq] at e1
      obtain ⟨rfl, _, rfl⟩ := e1
      have hln := hr.c.len
      have hlm := hr.m.len
      have hlt := hr.t.len
      clear R3
      go_wp2
      go_loopw [3] (fun i wr => ∃ k m : Nat, k ≤ h.ts.length ∧ i = .int .i64 k ∧ Hid (allTo (toldAt h.n h.ts) k = true ∧ allTo (ascAt h.ts) k = true) ∧ wr = w2.drewN m) (fun i _ => h.ts.length - (intOf i).toNat)
      case atStart => exact ⟨0, 0, Nat.zero_le _, rfl, ⟨rfl, rfl⟩, rfl⟩
      case round =>
        obtain ⟨k, m, hk, rfl, hx, rfl⟩ := hrel
        by_cases hlt : k < h.ts.length
        · obtain ⟨b, o, rfl, e0⟩ := hct k hlt
          have hct' := hct
          clear hct hcm
          have i0 : (0 : Int) ≤ (k : Int) := by omega
          have i1 : (k : Int) < (h.ts.length : Int) := by omega
          cases h6 : inB (nth h.ts k) 0 ((h.n : Int) - 1) with
          | false =>
            have H := Lib.hid (house_6 (h := h) hlt h6)
            clear hct'
            go_wp2_with fail
            go_quiet ((go_at_call 55; first | exact quiet_in (l01In_any _ _ _ _) | exact quiet_in_add (l01In_any _ _ _ _)))
            go_wp2
            go_ret
            exact ⟨ret_bool H.out.symm, by first | exact bdrewN HD3.out _ | exact bdrewN (bdrewN HD3.out _) _⟩
          | true =>
            have HT := Lib.hid (allTo_succ (p := toldAt h.n h.ts) hx.out.1 h6)
            rcases Nat.eq_zero_or_pos k with h0 | h0
            · subst h0
              replace e0 : w2.cell? ⟨b, o, none⟩ = some (.int .i64 (nth h.ts 0)) := e0
              have i2 : (0 : Int) < (h.ts.length : Int) := by omega
              have HA := Lib.hid (show allTo (ascAt h.ts) (0 + 1) = true from rfl)
              clear hct'
              go_wp2_with fail
              go_quiet ((go_at_call 55; first | exact quiet_in (l01In_any _ _ _ _) | exact quiet_in_add (l01In_any _ _ _ _)))
              go_wp2
              go_roundw
              case rel => exact ⟨0 + 1, _, by omega, by go_num, ⟨HT.out, HA.out⟩, by first | rfl | exact World.drewN_drewN _ _ _⟩
              case measure => simp [intOf]; omega
            · obtain ⟨j, rfl⟩ : ∃ j, k = j + 1 := ⟨k - 1, by omega⟩
              obtain ⟨b', o', ha, e1⟩ := hct' j (by omega)
              simp only [Option.some.injEq, Addr.mk.injEq, and_true] at ha
              obtain ⟨rfl, rfl⟩ := ha
              clear hct'
              have i2 : (j : Int) < (h.ts.length : Int) := by omega
              have i3 : (0 : Int) ≤ (j : Int) := by omega
              have i4 : (0 : Int) ≤ (j : Int) + 1 := by omega
              have i5 : (j : Int) + 1 < (h.ts.length : Int) := by omega
              have i6 : decide ((0 : Int) < (j : Int) + 1) = true := decide_eq_true (by omega)
              have n1 : IntKind.i64.wrap ((j : Int) + 1 - 1) = (j : Int) := by rw [IntWalk.i64_in _ (by omega)]; omega
              by_cases hp : nth h.ts (j + 1) ≤ nth h.ts j
              · have H := Lib.hid (house_3' (h := h) hlt (by simp [ascAt]; omega))
                have hd : decide (nth h.ts (j + 1) ≤ nth h.ts j) = true := by simpa using hp
                go_wp2_with fail
                go_quiet ((go_at_call 55; first | exact quiet_in (l01In_any _ _ _ _) | exact quiet_in_add (l01In_any _ _ _ _)))
                go_wp2
                go_ret
                exact ⟨ret_bool H.out.symm, by first | exact bdrewN HD3.out _ | exact bdrewN (bdrewN HD3.out _) _⟩
              · have HA := Lib.hid (show allTo (ascAt h.ts) (j + 1 + 1) = true from allTo_succ hx.out.2 (by simp [ascAt]; omega))
                have hd : decide (nth h.ts (j + 1) ≤ nth h.ts j) = false := by simpa using hp
                go_wp2_with fail
                go_quiet ((go_at_call 55; first | exact quiet_in (l01In_any _ _ _ _) | exact quiet_in_add (l01In_any _ _ _ _)))
                go_wp2
                go_roundw
                case rel => exact ⟨j + 1 + 1, _, by omega, by go_num, ⟨HT.out, HA.out⟩, by first | rfl | exact World.drewN_drewN _ _ _⟩
                case measure => simp [intOf]; omega
        · obtain rfl : k = h.ts.length := by omega
          have H6 := hx
          clear hct hx
          go_wp2
          go_loopw [4] (fun i wr => ∃ k m : Nat, k ≤ h.ms.length ∧ i = .int .i64 k ∧ Hid (allTo (madeAt h.ms h.day) k = true) ∧ wr = w2.drewN m) (fun i _ => h.ms.length - (intOf i).toNat)
          case atStart => exact ⟨0, m, Nat.zero_le _, rfl, rfl, rfl⟩
          case round =>
            obtain ⟨k, m', hk, rfl, hx, rfl⟩ := hrel
            by_cases hlt : k < h.ms.length
            · obtain ⟨b, o, rfl, e0⟩ := hcm k hlt
              clear hcm
              have i0 : (0 : Int) ≤ (k : Int) := by omega
              have i1 : (k : Int) < (h.ms.length : Int) := by omega
              by_cases h7 : nth h.ms k ≤ h.day
              · have H := Lib.hid (allTo_succ (p := madeAt h.ms h.day) hx.out (by simpa [madeAt] using h7))
                have hd : decide (h.day < nth h.ms k) = false := by simpa using h7
                go_wp2_with fail
                go_quiet (fail)
                go_wp2
                go_roundw
                case rel => exact ⟨k + 1, _, by omega, by go_num, H.out, by first | rfl | exact World.drewN_drewN _ _ _⟩
                case measure => simp [intOf]; omega
              · have H := Lib.hid (house_7 (h := h) hlt (by simpa [madeAt] using h7))
                have hd : decide (h.day < nth h.ms k) = true := by simpa using h7
                go_wp2_with fail
                go_quiet (fail)
                go_wp2
                go_ret
                exact ⟨ret_bool H.out.symm, by first | exact bdrewN HD3.out _ | exact bdrewN (bdrewN HD3.out _) _⟩
            · obtain rfl : k = h.ms.length := by omega
              have H := Lib.hid (house_t h1 h2 H6.out.2 H6.out.1 hx.out)
              clear hcm
              cases h4 : inB h.sent 0 1000 with
              | false =>
                go_wp2_with (go_at_call 55; refine (l01In_any _ _ _ _).mono ?_; rintro e w' ⟨rfl, rfl⟩)
                go_ret
                exact ⟨ret_bool (by rw [H.out, h4]; rfl), bdrewN HD3.out _⟩
              | true =>
                go_wp2_with (go_at_call 55; refine (l01In_any _ _ _ _).mono ?_; rintro e w' ⟨rfl, rfl⟩)
                go_ret
                exact ⟨ret_bool (by rw [H.out, h4]; simp), bdrewN HD3.out _⟩

end Go.Proofs.Ytlipfkalehikkaa

/- The walks of SafeCopies, in the program and in the reference. -/
namespace Go.Proofs.Ytlipfkalehikkaa
open Go.ChangeShapes Go.WideShapes Go.ChangeAt Go.RowKit

def safeTo (ts : List Int) : Nat → List Int
  | 0 => []
  | k + 1 => if (k : Int) ∈ ts then safeTo ts k else safeTo ts k ++ [(k : Int)]
def safeL (h : HD) : List Int := if houseOk h = true then safeTo h.ts h.n else []
theorem safeTo_yes {ts : List Int} {k : Nat} (h : (k : Int) ∈ ts) : safeTo ts (k + 1) = safeTo ts k := by simp only [safeTo]; rw [if_pos h]
theorem safeTo_no {ts : List Int} {k : Nat} (h : ¬ (k : Int) ∈ ts) : safeTo ts (k + 1) = safeTo ts k ++ [(k : Int)] := by simp only [safeTo]; rw [if_neg h]
theorem safeTo_len (ts : List Int) : ∀ k, (safeTo ts k).length ≤ k
  | 0 => by simp [safeTo]
  | k + 1 => by
    have := safeTo_len ts k
    simp only [safeTo]
    split
    · omega
    · simp; omega
theorem houseOk_n {h : HD} (e : houseOk h = true) : 1 ≤ h.n ∧ h.n ≤ 12 := chainOk_n (daysOk_chain (houseOk_facts e).days).1
theorem safeL_len (h : HD) : (safeL h).length ≤ 12 := by
  unfold safeL
  split
  · rename_i e
    have := safeTo_len h.ts h.n
    have := houseOk_n e
    omega
  · simp
theorem safeL_f {h : HD} (e : houseOk h = false) : safeL h = [] := if_neg (by simp [e])
theorem safeL_t {h : HD} (e : houseOk h = true) : safeL h = safeTo h.ts h.n := if_pos e

set_option maxRecDepth 100000 in
theorem implSafeCopies (vc vm vo vt : Value) (h : HD) (w : World) (hr : HouseR w vc vm vo vt h) : Calls Try.prog 16 #[.agg #[vc, vm, vo, vt, .int .i64 h.sent, .int .i64 h.day]] w (GivesN w (safeL h)) := by
  obtain ⟨i0, hi, hz0, hz1, hz2⟩ := info_parts Try.infoInt
  obtain ⟨adc, capc, rfl⟩ : ∃ ad cap, vc = .slice ad h.n cap := by obtain ⟨_, _, ad, cap, hh, _⟩ := hr.c; exact ⟨ad, cap, hh⟩
  obtain ⟨adm, capm, rfl⟩ : ∃ ad cap, vm = .slice ad h.ms.length cap := by obtain ⟨_, ad, cap, hh, _⟩ := hr.m; exact ⟨ad, cap, hh⟩
  obtain ⟨ado, capo, rfl⟩ : ∃ ad cap, vo = .slice ad h.os.length cap := by obtain ⟨_, ad, cap, hh, _⟩ := hr.o; exact ⟨ad, cap, hh⟩
  obtain ⟨adt, capt, rfl⟩ : ∃ ad cap, vt = .slice ad h.ts.length cap := by obtain ⟨_, ad, cap, hh, _⟩ := hr.t; exact ⟨ad, cap, hh⟩
  cases h1 : houseOk h with
  | false =>
    have H := Lib.hid (safeL_f h1)
    go_enter Try.func16, Try.ntmps16
    go_wp2_with fail
    refine (implHouseOk _ _ _ _ h _ (hr.alloc _)).mono ?_
    rintro e w1 ⟨rfl, hb1⟩
    rw [h1]
    have D1 := Lib.hid (bnext (balloc (bref w) _) hb1)
    clear hb1
    go_wp2
    go_ret
    rw [H.out]
    exact ⟨_, rfl, World.ownsRow_nil _ _ _ _, by simp, D1.out⟩
  | true =>
    have H := Lib.hid (safeL_t h1)
    have hn := houseOk_n h1
    go_enter Try.func16, Try.ntmps16
    go_wp2_with fail
    refine (implHouseOk _ _ _ _ h _ (hr.alloc _)).mono ?_
    rintro e w1 ⟨rfl, hb1⟩
    rw [h1]
    have D1 := Lib.hid (bnext (balloc (bref w) _) hb1)
    have b0 : w1.cell? ⟨w.heap.size, 0, none⟩ = some (.slice adc h.n capc) := (hb1.cell (p := ⟨w.heap.size, 0, none⟩) (by simp)).trans (by simp)
    have b3 : w1.cell? ⟨w.heap.size, 3, none⟩ = some (.slice adt h.ts.length capt) := (hb1.cell (p := ⟨w.heap.size, 3, none⟩) (by simp)).trans (by simp)
    have y1 : w.heap.size < w1.heap.size := by have := hb1.size; simp at this; omega
    have T1 := Lib.hid ((hr.alloc _).below hb1).t
    have DS := Lib.hid D1.out.size
    clear hb1
    go_wp2
    go_loopw [3, 11] (fun v i wr => ∃ k : Nat, k ≤ h.n ∧ i = .int .i64 k ∧ wr.ownsRow w1.heap.size 3 1 v (safeTo h.ts k).length ((safeTo h.ts k).map (Value.int .i64)) ∧ (v = .slice none 0 0 ↔ (safeTo h.ts k) = []) ∧ Below w1.heap.size w1 wr) (fun _ i _ => h.n - (intOf i).toNat)
    case atStart => exact ⟨0, Nat.zero_le _, rfl, World.ownsRow_nil _ _ _ _, by simp [safeTo], bref _⟩
    case round =>
      obtain ⟨k, hk, rfl, hown, hnl, hbel⟩ := hrel
      have HNL := Lib.hid hnl
      clear hnl
      have hlk := safeTo_len h.ts k
      have z1 := hbel.size
      by_cases hlt : k < h.n
      · have g3 := (hbel.cell (p := ⟨w.heap.size, 3, none⟩) y1).trans b3
        have HI := Lib.hid (T1.out.below hbel)
        by_cases hin : (k : Int) ∈ h.ts
        · have H1 := Lib.hid (safeTo_yes hin)
          have hd : decide ((k : Int) ∈ h.ts) = true := by simpa using hin
          have HO := Lib.hid hown
          have HB := Lib.hid hbel
          clear hin hown hbel
          go_wp2_with (go_at_call 39; refine (hasInt_any _ _ (k : Int) _ HI.out).mono ?_; rintro e w' ⟨rfl, rfl⟩)
          go_roundw
          case rel => exact ⟨k + 1, by omega, by go_num, by rw [H1.out]; exact HO.out, by rw [H1.out]; exact HNL.out, HB.out⟩
          case measure => simp [intOf]; omega
        · have H1 := Lib.hid (safeTo_no hin)
          have hd : decide ((k : Int) ∈ h.ts) = false := by simpa using hin
          clear hin
          go_wp2_with (first | (at_builtin; refine wpList_append_own _ rfl _ _ 25 rfl w1.heap.size 3 i0 (.int .i64 0) 1 8 Try.underlying25 hi hz0 hz1 hz2 rfl (by decide) _ _ _ rfl (hown.alloc _) ⟨wr.heap.size, 0, none⟩ 1 1 [.int .i64 k] rfl rfl (cell_one_new _ _ _) (ints_oneCell .i64 [(k : Int)]) (by unfold maxLen; omega) (by omega) (by simp; omega) ?_; intro v' w2 hown' hgrow hnil; have HR := Lib.hid (app_step hown hown' hgrow hbel (Nat.le_refl _)); have HN := Lib.hid (nil_step (L := safeTo h.ts k) (k := k) hnil); clear hown' hgrow hnil) | (go_at_call 39; refine (hasInt_any _ _ (k : Int) _ HI.out).mono ?_; rintro e w' ⟨rfl, rfl⟩))
          go_roundw
          case rel => exact ⟨k + 1, by omega, by go_num, by rw [H1.out]; exact HR.out.1, by rw [H1.out]; exact HN.out, HR.out.2⟩
          case measure => simp [intOf]; omega
      · obtain rfl : k = h.n := by omega
        have HO := Lib.hid (own_base (B' := w.heap.size) hown DS.out)
        have HB := Lib.hid hbel
        clear hown hbel
        go_wp2
        go_ret
        rw [H.out]
        exact ⟨_, rfl, HO.out, HNL.out, bnext D1.out HB.out⟩

end Go.Proofs.Ytlipfkalehikkaa
