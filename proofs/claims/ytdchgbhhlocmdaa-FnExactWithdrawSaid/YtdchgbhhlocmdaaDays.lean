/- The walks of DaysOk, in the program and in the reference. -/
import Derived.Test.YtdchgbhhlocmdaaChain
import Derived.Test.YtdchgbhhlocmdaaDaysFn
import Derived.BigQuiet
namespace Go.Proofs.Ytdchgbhhlocmdaa
open Go.ChangeShapes Go.WideShapes Go.ChangeAt Go.RowKit

theorem l_ne' {a b : Nat} (h : a ≠ b) : ((a : Int) != (b : Int)) = true := by rw [bne_iff_ne]; omega
theorem l_eq' {a b : Nat} (h : a = b) : ((a : Int) != (b : Int)) = false := by rw [h]; simp
theorem quiet_in {P : Program} {f : FuncId} {args : Array Value} {w : World} {n : Nat} {v : Value}
    (h : Calls P f args (w.drewN n) fun e w' => e = .returned v ∧ w.drewN n = w') : Calls P f args (w.drewN n) fun e w'' => e = .returned v ∧ ∃ m, w'' = w.drewN m :=
  h.mono fun _ _ ⟨he, hm⟩ => ⟨he, n, hm.symm⟩
theorem quiet_in_add {P : Program} {f : FuncId} {args : Array Value} {w : World} {a n : Nat} {v : Value}
    (h : Calls P f args (w.drewN (a + n)) fun e w' => e = .returned v ∧ w.drewN (a + n) = w') :
    Calls P f args (w.drewN (a + n)) fun e w'' => e = .returned v ∧ ∃ m, w'' = w.drewN (a + m) :=
  h.mono fun _ _ ⟨he, hm⟩ => ⟨he, n, hm.symm⟩
theorem implDaysOk (v : Value) (n : Nat) (xs : List Int) (u : Value) (ms : List Int) (w : World) (h : Recs 3 w v n xs) (hm : Ints w u ms) : Calls Try.prog 90 #[v, u] w fun e w' => e = .returned (.bool (daysOk n xs ms)) ∧ Below w.heap.size w w' := by
  have hv := h
  obtain ⟨hl, he, ad, cap, rfl, hc⟩ := h
  have hat := fun k hk => at3 (w := w) he hc k hk
  clear hc he
  obtain ⟨hl', ad', cap', rfl, hc'⟩ := hm
  cases h1 : chainOk n xs with
  | false =>
    have H := Lib.hid (daysOk_c (ms := ms) h1)
    clear hat hc'
    go_enter Try.func90, Try.ntmps90
    go_wp2_with fail
    refine (implChainOk_any _ n xs _ hv).mono ?_
    rintro e w1 ⟨rfl, hb1⟩
    go_wp2
    go_ret
    exact ⟨ret_bool H.out.symm, hb1⟩
  | true =>
    by_cases hn : ms.length = n
    · have hne := l_eq' hn
      have HN := Lib.hid hn
      clear hn
      go_enter Try.func90, Try.ntmps90
      go_wp2_with fail
      refine (implChainOk_any _ n xs _ hv).mono ?_
      rintro e w1 ⟨rfl, hb1⟩
      go_wp2
      go_loopw [19] (fun i wr => ∃ k : Nat, k ≤ n ∧ i = .int .i64 k ∧ Hid (allTo (dayOk xs ms) k = true) ∧ Below w.heap.size w wr) (fun i _ => n - (intOf i).toNat)
      case atStart => exact ⟨0, Nat.zero_le _, rfl, rfl, hb1⟩
      case round =>
        obtain ⟨k, hk, rfl, hx, hbel⟩ := hrel
        by_cases hlt : k < n
        · obtain ⟨b, o, rfl, e0, e1, e2, hb⟩ := hat k hlt
          obtain ⟨b', o', rfl, m0⟩ := hc' k (by have := HN.out; omega)
          have hb' : b' < w.heap.size := World.block_lt_of_cell? w _ m0
          have hp := chainOk_p h1 hlt
          obtain ⟨p1, p2⟩ := hp
          have m1 : 0 ≤ cP xs k → w.cell? ⟨b', o' + (cP xs k).toNat, none⟩ = some (.int .i64 (nth ms (cP xs k).toNat)) := fun h0 => by
            obtain ⟨b2, o2, ha, hc2⟩ := hc' (cP xs k).toNat (by have := HN.out; omega)
            simp only [Option.some.injEq, Addr.mk.injEq, and_true] at ha
            obtain ⟨rfl, rfl⟩ := ha
            exact hc2
          clear hat hc'
          rw [← hbel.cell (p := ⟨b, o + k * 3, none⟩) hb] at e0
          rw [← hbel.cell (p := ⟨b, o + k * 3 + 1, none⟩) hb] at e1
          rw [← hbel.cell (p := ⟨b, o + k * 3 + 2, none⟩) hb] at e2
          rw [← hbel.cell (p := ⟨b', o' + k, none⟩) hb'] at m0
          rw [← hbel.cell (p := ⟨b', o' + (cP xs k).toNat, none⟩) hb'] at m1
          have z1 := hbel.size
          have lb : b < wr.heap.size := by omega
          have lb' : b' < wr.heap.size := by omega
          have HB := Lib.hid hbel
          clear hbel z1
          have i0 : (0 : Int) ≤ (k : Int) := by omega
          have i1 : (k : Int) < (ms.length : Int) := by have := HN.out; omega
          have i2 : (k : Int) < (n : Int) := by omega
          cases h2 : inB (nth ms k) 0 10000 with
          | false =>
            have H := Lib.hid (daysOk_at hlt (dayOk_1 (xs := xs) h2))
            clear m1
            go_wp2_with fail
            go_quiet ((go_at_call 72; first | exact quiet_in (in_any _ _ _ _) | exact quiet_in_add (in_any _ _ _ _)))
            go_wp2
            go_ret
            exact ⟨ret_bool H.out.symm, bdrewN (balloc HB.out _) _⟩
          | true =>
            by_cases hp : cP xs k < 0
            · have H := Lib.hid (allTo_succ hx.out (dayOk_2 h2 hp))
              have hd : decide (0 ≤ cP xs k) = false := by simpa using hp
              clear m1
              go_wp2_with fail
              go_quiet ((go_at_call 72; first | exact quiet_in (in_any _ _ _ _) | exact quiet_in_add (in_any _ _ _ _)))
              go_wp2
              go_roundw
              case rel => exact ⟨k + 1, by omega, by go_num, H.out, bdrewN (balloc HB.out _) _⟩
              case measure => simp [intOf]; omega
            · have m1 := m1 (by omega)
              have j0 : (0 : Int) ≤ cP xs k := by omega
              have j1 : cP xs k < (ms.length : Int) := by have := HN.out; omega
              have j2 : cP xs k < (n : Int) := by omega
              by_cases hq : nth ms (cP xs k).toNat ≤ nth ms k
              · have H := Lib.hid (allTo_succ hx.out (dayOk_3 h2 hq))
                have hr : decide (nth ms k < nth ms (cP xs k).toNat) = false := by simpa using hq
                go_wp2_with fail
                go_quiet ((go_at_call 72; first | exact quiet_in (in_any _ _ _ _) | exact quiet_in_add (in_any _ _ _ _)))
                go_wp2
                go_roundw
                case rel => exact ⟨k + 1, by omega, by go_num, H.out, bdrewN (balloc HB.out _) _⟩
                case measure => simp [intOf]; omega
              · have H := Lib.hid (daysOk_at hlt (dayOk_4 hp hq))
                have hr : decide (nth ms k < nth ms (cP xs k).toNat) = true := by simpa using hq
                go_wp2_with fail
                go_quiet ((go_at_call 72; first | exact quiet_in (in_any _ _ _ _) | exact quiet_in_add (in_any _ _ _ _)))
                go_wp2
                go_ret
                exact ⟨ret_bool H.out.symm, bdrewN (balloc HB.out _) _⟩
        · have H := Lib.hid (daysOk_t h1 HN.out (by have := hx.out; rwa [show k = n by omega] at this))
          have HB := Lib.hid hbel
          have hle : (ms.length : Int) ≤ (k : Int) := by have := HN.out; omega
          clear hat hc' hbel
          go_wp2
          go_ret
          exact ⟨ret_bool H.out.symm, HB.out⟩
    · have hne := l_ne' hn
      have H := Lib.hid (daysOk_l (xs := xs) hn)
      clear hat hc'
      go_enter Try.func90, Try.ntmps90
      go_wp2_with fail
      refine (implChainOk_any _ n xs _ hv).mono ?_
      rintro e w1 ⟨rfl, hb1⟩
      go_wp2
      go_ret
      exact ⟨ret_bool H.out.symm, hb1⟩

theorem specDaysOk (v : Value) (n : Nat) (xs : List Int) (u : Value) (ms : List Int) (w : World) (h : Recs 3 w v n xs) (hm : Ints w u ms) : Calls Try.prog 102 #[v, u] w fun e w' => e = .returned (.bool (daysOk n xs ms)) ∧ Below w.heap.size w w' := by
  have hv := h
  obtain ⟨hl, he, ad, cap, rfl, hc⟩ := h
  have hat := fun k hk => at3 (w := w) he hc k hk
  clear hc he
  obtain ⟨hl', ad', cap', rfl, hc'⟩ := hm
  cases h1 : chainOk n xs with
  | false =>
    have H := Lib.hid (daysOk_c (ms := ms) h1)
    clear hat hc'
    go_enter Try.func102, Try.ntmps102
    go_wp2_with fail
    refine (specChainOk_any _ n xs _ hv).mono ?_
    rintro e w1 ⟨rfl, hb1⟩
    go_wp2
    go_ret
    exact ⟨ret_bool H.out.symm, hb1⟩
  | true =>
    by_cases hn : ms.length = n
    · have hne := l_eq' hn
      have HN := Lib.hid hn
      clear hn
      go_enter Try.func102, Try.ntmps102
      go_wp2_with fail
      refine (specChainOk_any _ n xs _ hv).mono ?_
      rintro e w1 ⟨rfl, hb1⟩
      go_wp2
      go_loopw [5] (fun i wr => ∃ k : Nat, k ≤ n ∧ i = .int .i64 k ∧ Hid (allTo (dayOk xs ms) k = true) ∧ Below w.heap.size w wr) (fun i _ => n - (intOf i).toNat)
      case atStart => exact ⟨0, Nat.zero_le _, rfl, rfl, hb1⟩
      case round =>
        obtain ⟨k, hk, rfl, hx, hbel⟩ := hrel
        by_cases hlt : k < n
        · obtain ⟨b, o, rfl, e0, e1, e2, hb⟩ := hat k hlt
          obtain ⟨b', o', rfl, m0⟩ := hc' k (by have := HN.out; omega)
          have hb' : b' < w.heap.size := World.block_lt_of_cell? w _ m0
          have hp := chainOk_p h1 hlt
          obtain ⟨p1, p2⟩ := hp
          have m1 : 0 ≤ cP xs k → w.cell? ⟨b', o' + (cP xs k).toNat, none⟩ = some (.int .i64 (nth ms (cP xs k).toNat)) := fun h0 => by
            obtain ⟨b2, o2, ha, hc2⟩ := hc' (cP xs k).toNat (by have := HN.out; omega)
            simp only [Option.some.injEq, Addr.mk.injEq, and_true] at ha
            obtain ⟨rfl, rfl⟩ := ha
            exact hc2
          clear hat hc'
          rw [← hbel.cell (p := ⟨b, o + k * 3, none⟩) hb] at e0
          rw [← hbel.cell (p := ⟨b, o + k * 3 + 1, none⟩) hb] at e1
          rw [← hbel.cell (p := ⟨b, o + k * 3 + 2, none⟩) hb] at e2
          rw [← hbel.cell (p := ⟨b', o' + k, none⟩) hb'] at m0
          rw [← hbel.cell (p := ⟨b', o' + (cP xs k).toNat, none⟩) hb'] at m1
          have z1 := hbel.size
          have lb : b < wr.heap.size := by omega
          have lb' : b' < wr.heap.size := by omega
          have HB := Lib.hid hbel
          clear hbel z1
          have i0 : (0 : Int) ≤ (k : Int) := by omega
          have i1 : (k : Int) < (ms.length : Int) := by have := HN.out; omega
          have i2 : (k : Int) < (n : Int) := by omega
          cases h2 : inB (nth ms k) 0 10000 with
          | false =>
            have H := Lib.hid (daysOk_at hlt (dayOk_1 (xs := xs) h2))
            clear m1
            go_wp2_with fail
            go_quiet ((go_at_call 77; first | exact quiet_in (l01In_any _ _ _ _) | exact quiet_in_add (l01In_any _ _ _ _)))
            go_wp2
            go_ret
            exact ⟨ret_bool H.out.symm, bdrewN HB.out _⟩
          | true =>
            by_cases hp : cP xs k < 0
            · have H := Lib.hid (allTo_succ hx.out (dayOk_2 h2 hp))
              have hd : decide (0 ≤ cP xs k) = false := by simpa using hp
              clear m1
              go_wp2_with fail
              go_quiet ((go_at_call 77; first | exact quiet_in (l01In_any _ _ _ _) | exact quiet_in_add (l01In_any _ _ _ _)))
              go_wp2
              go_roundw
              case rel => exact ⟨k + 1, by omega, by go_num, H.out, bdrewN HB.out _⟩
              case measure => simp [intOf]; omega
            · have m1 := m1 (by omega)
              have j0 : (0 : Int) ≤ cP xs k := by omega
              have j1 : cP xs k < (ms.length : Int) := by have := HN.out; omega
              have j2 : cP xs k < (n : Int) := by omega
              by_cases hq : nth ms (cP xs k).toNat ≤ nth ms k
              · have H := Lib.hid (allTo_succ hx.out (dayOk_3 h2 hq))
                have hr : decide (nth ms k < nth ms (cP xs k).toNat) = false := by simpa using hq
                go_wp2_with fail
                go_quiet ((go_at_call 77; first | exact quiet_in (l01In_any _ _ _ _) | exact quiet_in_add (l01In_any _ _ _ _)))
                go_wp2
                go_roundw
                case rel => exact ⟨k + 1, by omega, by go_num, H.out, bdrewN HB.out _⟩
                case measure => simp [intOf]; omega
              · have H := Lib.hid (daysOk_at hlt (dayOk_4 hp hq))
                have hr : decide (nth ms k < nth ms (cP xs k).toNat) = true := by simpa using hq
                go_wp2_with fail
                go_quiet ((go_at_call 77; first | exact quiet_in (l01In_any _ _ _ _) | exact quiet_in_add (l01In_any _ _ _ _)))
                go_wp2
                go_ret
                exact ⟨ret_bool H.out.symm, bdrewN HB.out _⟩
        · have H := Lib.hid (daysOk_t h1 HN.out (by have := hx.out; rwa [show k = n by omega] at this))
          have HB := Lib.hid hbel
          have hle : (ms.length : Int) ≤ (k : Int) := by have := HN.out; omega
          clear hat hc' hbel
          go_wp2
          go_ret
          exact ⟨ret_bool H.out.symm, HB.out⟩
    · have hne := l_ne' hn
      have H := Lib.hid (daysOk_l (xs := xs) hn)
      clear hat hc'
      go_enter Try.func102, Try.ntmps102
      go_wp2_with fail
      refine (specChainOk_any _ n xs _ hv).mono ?_
      rintro e w1 ⟨rfl, hb1⟩
      go_wp2
      go_ret
      exact ⟨ret_bool H.out.symm, hb1⟩

end Go.Proofs.Ytdchgbhhlocmdaa
