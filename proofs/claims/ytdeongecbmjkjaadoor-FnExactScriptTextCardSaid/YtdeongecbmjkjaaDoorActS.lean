/- The walks of the laws' helpers on slices of structs of 5 integers: Act. -/
import Derived.Test.YtdeongecbmjkjaaDoorProg
import Derived.Test.YtdeongecbmjkjaaDoorOnly
import Derived.Deep.RegionHeld3
namespace Go.Proofs.YtdeongecbmjkjaaDoor
open Go.ChangeShapes Go.WideShapes Go.ChangeAt Go.RowKit

theorem szActS_any (v : Value) (n : Nat) (xs : List Int) (left : Int) (w : World) (h : Recs 5 w v n xs) (h0 : 0 ≤ left) (h1 : left ≤ 1048576) :
    Calls Tryd.prog 19 #[v, .int .i64 left] w fun e w' => e = .returned (.int .i64 (if left < n then -1 else left - n)) ∧ w = w' := by
  obtain ⟨hl, he, ad, cap, rfl, hc⟩ := h
  clear hc he
  by_cases hlt : left < n
  all_goals
    go_enter Tryd.func19, Tryd.ntmps19
    go_wp2
    go_ret
    exact ⟨ret_int (by first | rfl | (split <;> omega)), rfl⟩

theorem toActR_any (p0 p1 p2 p3 p4 : Int) (w : World) : Calls Tryd.prog 12 #[.agg #[.int .i64 p0, .int .i64 p1, .int .i64 p2, .int .i64 p3, .int .i64 p4]] w fun e w' =>
    e = .returned (.agg #[.int .i64 p0, .int .i64 p1, .int .i64 p2, .int .i64 p3, .int .i64 p4]) ∧ Below w.heap.size w w' := by
  go_enter Tryd.func12, Tryd.ntmps12
  go_wp2
  refine bodyPost_ret (v := .agg #[.int .i64 p0, .int .i64 p1, .int .i64 p2, .int .i64 p3, .int .i64 p4]) (by simp [results, Tryd.results12, go_sem]) rfl ⟨rfl, ?_⟩
  exact balloc (balloc (balloc (bref _) _) _) _

theorem eqActR_any (p0 p1 p2 p3 p4 q0 q1 q2 q3 q4 : Int) (w : World) : Calls Tryd.prog 41 #[.agg #[.int .i64 p0, .int .i64 p1, .int .i64 p2, .int .i64 p3, .int .i64 p4], .agg #[.int .i64 q0, .int .i64 q1, .int .i64 q2, .int .i64 q3, .int .i64 q4]] w fun e w' =>
    e = .returned (.bool (p0 == q0 && (p1 == q1 && (p2 == q2 && (p3 == q3 && (p4 == q4)))))) ∧ Below w.heap.size w w' := by
  cases h0 : (p0 == q0) with
  | false =>
    have g0 : (p0 != q0) = true := by simp [bne, h0]
    go_enter Tryd.func41, Tryd.ntmps41
    go_wp2
    go_ret
    exact ⟨rfl, balloc (balloc (bref _) _) _⟩
  | true =>
    have g0 : (p0 != q0) = false := by simp [bne, h0]
    cases h1 : (p1 == q1) with
    | false =>
      have g1 : (p1 != q1) = true := by simp [bne, h1]
      go_enter Tryd.func41, Tryd.ntmps41
      go_wp2
      go_ret
      exact ⟨rfl, balloc (balloc (bref _) _) _⟩
    | true =>
      have g1 : (p1 != q1) = false := by simp [bne, h1]
      cases h2 : (p2 == q2) with
      | false =>
        have g2 : (p2 != q2) = true := by simp [bne, h2]
        go_enter Tryd.func41, Tryd.ntmps41
        go_wp2
        go_ret
        exact ⟨rfl, balloc (balloc (bref _) _) _⟩
      | true =>
        have g2 : (p2 != q2) = false := by simp [bne, h2]
        cases h3 : (p3 == q3) with
        | false =>
          have g3 : (p3 != q3) = true := by simp [bne, h3]
          go_enter Tryd.func41, Tryd.ntmps41
          go_wp2
          go_ret
          exact ⟨rfl, balloc (balloc (bref _) _) _⟩
        | true =>
          have g3 : (p3 != q3) = false := by simp [bne, h3]
          cases h4 : (p4 == q4) with
          | false =>
            have g4 : (p4 != q4) = true := by simp [bne, h4]
            go_enter Tryd.func41, Tryd.ntmps41
            go_wp2
            go_ret
            exact ⟨rfl, balloc (balloc (bref _) _) _⟩
          | true =>
            have g4 : (p4 != q4) = false := by simp [bne, h4]
            go_enter Tryd.func41, Tryd.ntmps41
            go_wp2
            go_ret
            exact ⟨rfl, balloc (balloc (bref _) _) _⟩

theorem infoAct' : (Tryd.prog.info? 26).map (fun i => (i.zero, i.size, i.bytes)) = some (some (.agg #[.int .i64 0, .int .i64 0, .int .i64 0, .int .i64 0, .int .i64 0]), 5, 40) := by kernel_rfl

theorem atAct {w : World} {ad : Option Addr} {n : Nat} {xs : List Int} (he : xs.length = n * 5)
    (hc : ∀ i, i < xs.length → ∃ b o, ad = some ⟨b, o, none⟩ ∧ w.cell? ⟨b, o + i, none⟩ = some (.int .i64 (nth xs i))) (k : Nat) (hk : k < n) :
    ∃ b o, ad = some ⟨b, o, none⟩ ∧ w.cell? ⟨b, o + k * 5, none⟩ = some (.int .i64 (nth xs (k * 5))) ∧ w.cell? ⟨b, o + k * 5 + 1, none⟩ = some (.int .i64 (nth xs (k * 5 + 1))) ∧ w.cell? ⟨b, o + k * 5 + 2, none⟩ = some (.int .i64 (nth xs (k * 5 + 2))) ∧ w.cell? ⟨b, o + k * 5 + 3, none⟩ = some (.int .i64 (nth xs (k * 5 + 3))) ∧ w.cell? ⟨b, o + k * 5 + 4, none⟩ = some (.int .i64 (nth xs (k * 5 + 4))) ∧ b < w.heap.size := by
  obtain ⟨b, o, rfl, h0⟩ := hc (k * 5) (by omega)
  obtain ⟨b1, o1, g1, h1⟩ := hc (k * 5 + 1) (by omega)
  simp only [Option.some.injEq, Addr.mk.injEq, and_true] at g1
  obtain ⟨rfl, rfl⟩ := g1
  obtain ⟨b2, o2, g2, h2⟩ := hc (k * 5 + 2) (by omega)
  simp only [Option.some.injEq, Addr.mk.injEq, and_true] at g2
  obtain ⟨rfl, rfl⟩ := g2
  obtain ⟨b3, o3, g3, h3⟩ := hc (k * 5 + 3) (by omega)
  simp only [Option.some.injEq, Addr.mk.injEq, and_true] at g3
  obtain ⟨rfl, rfl⟩ := g3
  obtain ⟨b4, o4, g4, h4⟩ := hc (k * 5 + 4) (by omega)
  simp only [Option.some.injEq, Addr.mk.injEq, and_true] at g4
  obtain ⟨rfl, rfl⟩ := g4
  exact ⟨b, o, rfl, h0, h1, h2, h3, h4, World.block_lt_of_cell? w _ h0⟩
theorem madeAct (n : Nat) : (madeCells #[Value.int .i64 0, Value.int .i64 0, Value.int .i64 0, Value.int .i64 0, Value.int .i64 0] (n * 5)).toList = List.replicate (n * 5) (Value.int .i64 0) := by
  apply List.ext_getElem?
  intro j
  by_cases hj : j < n * 5
  · have : j % 5 = 0 ∨ j % 5 = 1 ∨ j % 5 = 2 ∨ j % 5 = 3 ∨ j % 5 = 4 := by omega
    rcases this with h | h | h | h | h <;> simp [madeCells, hj, h]
  · simp [madeCells, hj]
theorem putAct (xs : List Int) (k n : Nat) (he : xs.length = n * 5) (h : k < n) :
    (((((((xs.take (k * 5)).map (Value.int .i64) ++ List.replicate (xs.length - k * 5) (Value.int .i64 0)).set (k * 5) (.int .i64 (nth xs (k * 5)))).set (k * 5 + 1) (.int .i64 (nth xs (k * 5 + 1)))).set (k * 5 + 2) (.int .i64 (nth xs (k * 5 + 2)))).set (k * 5 + 3) (.int .i64 (nth xs (k * 5 + 3)))).set (k * 5 + 4) (.int .i64 (nth xs (k * 5 + 4)))) =
      (xs.take ((k + 1) * 5)).map (Value.int .i64) ++ List.replicate (xs.length - (k + 1) * 5) (.int .i64 0) := by
  have e0 := put_nth xs (k * 5) (by omega)
  have e1 := put_nth xs (k * 5 + 1) (by omega)
  have e2 := put_nth xs (k * 5 + 2) (by omega)
  have e3 := put_nth xs (k * 5 + 3) (by omega)
  have e4 := put_nth xs (k * 5 + 4) (by omega)
  rw [e0, e1, e2, e3, e4]
  rw [show (k + 1) * 5 = k * 5 + 4 + 1 by omega]

theorem toActS_any (v : Value) (n : Nat) (xs : List Int) (w : World) (h : Recs 5 w v n xs) (h20 : n ≤ 1048576) :
    Calls Tryd.prog 21 #[v] w fun e w' => e = .returned (.slice (some ⟨w.heap.size, 0, none⟩) n n) ∧
      w'.ownsRow w.heap.size 26 5 (.slice (some ⟨w.heap.size, 0, none⟩) n n) n (xs.map (Value.int .i64)) ∧ Below w.heap.size w w' := by
  obtain ⟨i0, hi, hz0, hz1, hz2⟩ := info_parts infoAct'
  obtain ⟨hl, he, ad, cap, rfl, hc⟩ := h
  have HE := Lib.hid he
  have hat := fun k hk => atAct (w := w) he hc k hk
  clear hc he
  go_enter Tryd.func21, Tryd.ntmps21
  go_wp2_with (at_make; refine wpList_make_full _ rfl _ _ 41 rfl w.heap.size 26 i0 (.agg #[.int .i64 0, .int .i64 0, .int .i64 0, .int .i64 0, .int .i64 0]) 5 Tryd.underlying41 hi hz0 hz1 _ _ _ _ n rfl rfl rfl rfl ?c1 ?c2 ?c3 ?_)
  case c1 => rw [hz2]; omega
  case c2 => unfold maxLen; omega
  case c3 => exact Nat.le_refl _
  intro w1 hown hgrow
  have hbel : Below w.heap.size w w1 := (Below.refl _ _).grown hgrow (Nat.le_refl _) (fun _ h => by cases h)
  clear hgrow hi hz0 hz1 hz2
  rw [show (madeCells #[Value.int .i64 0, Value.int .i64 0, Value.int .i64 0, Value.int .i64 0, Value.int .i64 0] (n * 5)).toList = List.replicate (xs.length - 0) (Value.int .i64 0) from by rw [HE.out]; exact madeAct n] at hown
  go_wp2
  go_loopw [4] (fun i wr => ∃ k : Nat, k ≤ n ∧ i = .int .i64 k ∧
      wr.ownsRow w.heap.size 26 5 (.slice (some ⟨w.heap.size, 0, none⟩) n n) n ((xs.take (k * 5)).map (Value.int .i64) ++ List.replicate (xs.length - k * 5) (.int .i64 0)) ∧ Below w.heap.size w wr) (fun i _ => n - (intOf i).toNat)
  case atStart => exact ⟨0, Nat.zero_le _, rfl, by simpa using hown, hbel⟩
  case round =>
    clear hown hbel
    obtain ⟨k, hk, rfl, hown, hbel⟩ := hrel
    by_cases hlt : k < n
    · obtain ⟨b, o, rfl, e0, e1, e2, e3, e4, hb⟩ := hat k hlt
      clear hat
      rw [← hbel.cell (p := ⟨b, o + k * 5, none⟩) hb] at e0
      rw [← hbel.cell (p := ⟨b, o + k * 5 + 1, none⟩) hb] at e1
      rw [← hbel.cell (p := ⟨b, o + k * 5 + 2, none⟩) hb] at e2
      rw [← hbel.cell (p := ⟨b, o + k * 5 + 3, none⟩) hb] at e3
      rw [← hbel.cell (p := ⟨b, o + k * 5 + 4, none⟩) hb] at e4
      go_wp2_with fail
      refine (toActR_any _ _ _ _ _ _).mono ?_
      rintro e w2 ⟨rfl, hb2⟩
      have hown2 := own_below hown hb2
      have hbel2 := bnext hbel hb2
      clear hown hbel e0 e1 e2 e3 e4
      obtain ⟨u0, r0⟩ := own_cell hown2 (k * 5) (by omega)
      have f0 := hown2.frozenAt (k * 5)
      obtain ⟨u1, r1⟩ := own_cell hown2 (k * 5 + 1) (by omega)
      have f1 := hown2.frozenAt (k * 5 + 1)
      obtain ⟨u2, r2⟩ := own_cell hown2 (k * 5 + 2) (by omega)
      have f2 := hown2.frozenAt (k * 5 + 2)
      obtain ⟨u3, r3⟩ := own_cell hown2 (k * 5 + 3) (by omega)
      have f3 := hown2.frozenAt (k * 5 + 3)
      obtain ⟨u4, r4⟩ := own_cell hown2 (k * 5 + 4) (by omega)
      have f4 := hown2.frozenAt (k * 5 + 4)
      have HS := Lib.hid (((((hown2.stored (k * 5) (.int .i64 (nth xs (k * 5)))).1.stored (k * 5 + 1) (.int .i64 (nth xs (k * 5 + 1)))).1.stored (k * 5 + 2) (.int .i64 (nth xs (k * 5 + 2)))).1.stored (k * 5 + 3) (.int .i64 (nth xs (k * 5 + 3)))).1.stored (k * 5 + 4) (.int .i64 (nth xs (k * 5 + 4)))).1
      have HB := Lib.hid hbel2
      clear hown2 hbel2
      go_wp2
      go_roundw
      case rel =>
        refine ⟨k + 1, by omega, by go_num, ?_, (bset (bset (bset (bset (bset HB.out (Nat.le_refl _) _) (Nat.le_refl _) _) (Nat.le_refl _) _) (Nat.le_refl _) _) (Nat.le_refl _) _)⟩
        have h1 := HS.out
        rw [putAct xs k n HE.out hlt] at h1
        exact h1
      case measure => simp [intOf]; omega
    · obtain rfl : k = n := by omega
      rw [show xs.take (k * 5) = xs from List.take_of_length_le (by rw [HE.out]; exact Nat.le_refl _), show xs.length - k * 5 = 0 by have := HE.out; omega, List.replicate_zero, List.append_nil] at hown
      have HO := Lib.hid hown
      clear hown hat
      go_wp2
      go_ret
      exact ⟨rfl, HO.out, hbel⟩

set_option maxHeartbeats 1000000 in
theorem eqActS_any (a b : Value) (n m : Nat) (xs ys : List Int) (w : World) (ha : Recs 5 w a n xs) (hb : Recs 5 w b m ys) :
    Calls Tryd.prog 23 #[a, b] w fun e w' => e = .returned (.bool (decide (xs = ys))) ∧ Below w.heap.size w w' := by
  obtain ⟨hl, he, ad, cap, rfl, hc⟩ := ha
  obtain ⟨hl', he', ad', cap', rfl, hc'⟩ := hb
  by_cases hn : n = m
  · subst hn
    have HE := Lib.hid he
    have HE' := Lib.hid he'
    have hat := fun k hk => atAct (w := w) he hc k hk
    have hat' := fun k hk => atAct (w := w) he' hc' k hk
    clear hc hc' he he'
    have hne : ((n : Int) != (n : Int)) = false := by simp
    go_enter Tryd.func23, Tryd.ntmps23
    go_wp2
    go_loopw [5] (fun i wr => ∃ k : Nat, k ≤ n ∧ i = .int .i64 k ∧ Hid (xs.take (k * 5) = ys.take (k * 5)) ∧ Below w.heap.size w wr) (fun i _ => n - (intOf i).toNat)
    case atStart => exact ⟨0, Nat.zero_le _, rfl, rfl, bref _⟩
    case round =>
      obtain ⟨k, hk, rfl, hx, hbel⟩ := hrel
      by_cases hlt : k < n
      · obtain ⟨b, o, rfl, e0, e1, e2, e3, e4, hb⟩ := hat k hlt
        obtain ⟨b', o', rfl, g0, g1, g2, g3, g4, hb'⟩ := hat' k hlt
        clear hat hat'
        have MK : Hid (∀ w', Below w.heap.size w w' → w'.cell? ⟨b, o + k * 5, none⟩ = some (.int .i64 (nth xs (k * 5))) ∧ w'.cell? ⟨b, o + k * 5 + 1, none⟩ = some (.int .i64 (nth xs (k * 5 + 1))) ∧ w'.cell? ⟨b, o + k * 5 + 2, none⟩ = some (.int .i64 (nth xs (k * 5 + 2))) ∧ w'.cell? ⟨b, o + k * 5 + 3, none⟩ = some (.int .i64 (nth xs (k * 5 + 3))) ∧ w'.cell? ⟨b, o + k * 5 + 4, none⟩ = some (.int .i64 (nth xs (k * 5 + 4))) ∧ w'.cell? ⟨b', o' + k * 5, none⟩ = some (.int .i64 (nth ys (k * 5))) ∧ w'.cell? ⟨b', o' + k * 5 + 1, none⟩ = some (.int .i64 (nth ys (k * 5 + 1))) ∧ w'.cell? ⟨b', o' + k * 5 + 2, none⟩ = some (.int .i64 (nth ys (k * 5 + 2))) ∧ w'.cell? ⟨b', o' + k * 5 + 3, none⟩ = some (.int .i64 (nth ys (k * 5 + 3))) ∧ w'.cell? ⟨b', o' + k * 5 + 4, none⟩ = some (.int .i64 (nth ys (k * 5 + 4))) ∧ Below w.heap.size w w') :=
          fun w' h => ⟨(h.cell (p := ⟨b, o + k * 5, none⟩) hb).trans e0, (h.cell (p := ⟨b, o + k * 5 + 1, none⟩) hb).trans e1, (h.cell (p := ⟨b, o + k * 5 + 2, none⟩) hb).trans e2, (h.cell (p := ⟨b, o + k * 5 + 3, none⟩) hb).trans e3, (h.cell (p := ⟨b, o + k * 5 + 4, none⟩) hb).trans e4, (h.cell (p := ⟨b', o' + k * 5, none⟩) hb').trans g0, (h.cell (p := ⟨b', o' + k * 5 + 1, none⟩) hb').trans g1, (h.cell (p := ⟨b', o' + k * 5 + 2, none⟩) hb').trans g2, (h.cell (p := ⟨b', o' + k * 5 + 3, none⟩) hb').trans g3, (h.cell (p := ⟨b', o' + k * 5 + 4, none⟩) hb').trans g4, h⟩
        clear e0 g0 e1 g1 e2 g2 e3 g3 e4 g4
        have i0 : (0 : Int) ≤ (k : Int) := by omega
        have i1 : (k : Int) < (n : Int) := by omega
        have HB := Lib.hid hbel
        cases hq : (nth xs (k * 5) == nth ys (k * 5) && (nth xs (k * 5 + 1) == nth ys (k * 5 + 1) && (nth xs (k * 5 + 2) == nth ys (k * 5 + 2) && (nth xs (k * 5 + 3) == nth ys (k * 5 + 3) && (nth xs (k * 5 + 4) == nth ys (k * 5 + 4)))))) with
        | false =>
          have HX := Lib.hid (show xs ≠ ys from fun e => by rw [e] at hq; simp at hq)
          clear hbel
          go_wp2_with fail
          go_region_held3 (fun w' => w'.cell? ⟨b, o + k * 5, none⟩ = some (.int .i64 (nth xs (k * 5))) ∧ w'.cell? ⟨b, o + k * 5 + 1, none⟩ = some (.int .i64 (nth xs (k * 5 + 1))) ∧ w'.cell? ⟨b, o + k * 5 + 2, none⟩ = some (.int .i64 (nth xs (k * 5 + 2))) ∧ w'.cell? ⟨b, o + k * 5 + 3, none⟩ = some (.int .i64 (nth xs (k * 5 + 3))) ∧ w'.cell? ⟨b, o + k * 5 + 4, none⟩ = some (.int .i64 (nth xs (k * 5 + 4))) ∧ w'.cell? ⟨b', o' + k * 5, none⟩ = some (.int .i64 (nth ys (k * 5))) ∧ w'.cell? ⟨b', o' + k * 5 + 1, none⟩ = some (.int .i64 (nth ys (k * 5 + 1))) ∧ w'.cell? ⟨b', o' + k * 5 + 2, none⟩ = some (.int .i64 (nth ys (k * 5 + 2))) ∧ w'.cell? ⟨b', o' + k * 5 + 3, none⟩ = some (.int .i64 (nth ys (k * 5 + 3))) ∧ w'.cell? ⟨b', o' + k * 5 + 4, none⟩ = some (.int .i64 (nth ys (k * 5 + 4))) ∧ Below w.heap.size w w')
            (first | exact MK.out _ (bdrew HB.out) | exact MK.out _ (bnext (bdrew HB.out) hb6) | (go_split_ands; exact MK.out _ (bnext (by assumption) hb6)))
            (first | (go_at_call 41; refine (eqActR_any _ _ _ _ _ _ _ _ _ _ _).mono ?_; rintro e w6 ⟨rfl, hb6⟩))
          go_split_ands
          go_wp2
          go_ret
          exact ⟨ret_bool (by simp [HX.out]), by assumption⟩
        | true =>
          have HX := Lib.hid (show xs.take ((k + 1) * 5) = ys.take ((k + 1) * 5) from by
            simp only [Bool.and_eq_true, beq_iff_eq] at hq
            rw [show (k + 1) * 5 = k * 5 + 1 + 1 + 1 + 1 + 1 by omega, take_nth xs _ (by have := HE.out; omega), take_nth xs _ (by have := HE.out; omega), take_nth xs _ (by have := HE.out; omega), take_nth xs _ (by have := HE.out; omega), take_nth xs _ (by have := HE.out; omega),
              take_nth ys _ (by have := HE'.out; omega), take_nth ys _ (by have := HE'.out; omega), take_nth ys _ (by have := HE'.out; omega), take_nth ys _ (by have := HE'.out; omega), take_nth ys _ (by have := HE'.out; omega), hx.out]
            show ((((_ ++ [nth xs (k * 5)]) ++ [nth xs (k * 5 + 1)]) ++ [nth xs (k * 5 + 2)]) ++ [nth xs (k * 5 + 3)]) ++ [nth xs (k * 5 + 4)] = ((((_ ++ [nth ys (k * 5)]) ++ [nth ys (k * 5 + 1)]) ++ [nth ys (k * 5 + 2)]) ++ [nth ys (k * 5 + 3)]) ++ [nth ys (k * 5 + 4)]
            rw [hq.1, hq.2.1, hq.2.2.1, hq.2.2.2.1, hq.2.2.2.2])
          clear hbel
          go_wp2_with fail
          go_region_held3 (fun w' => w'.cell? ⟨b, o + k * 5, none⟩ = some (.int .i64 (nth xs (k * 5))) ∧ w'.cell? ⟨b, o + k * 5 + 1, none⟩ = some (.int .i64 (nth xs (k * 5 + 1))) ∧ w'.cell? ⟨b, o + k * 5 + 2, none⟩ = some (.int .i64 (nth xs (k * 5 + 2))) ∧ w'.cell? ⟨b, o + k * 5 + 3, none⟩ = some (.int .i64 (nth xs (k * 5 + 3))) ∧ w'.cell? ⟨b, o + k * 5 + 4, none⟩ = some (.int .i64 (nth xs (k * 5 + 4))) ∧ w'.cell? ⟨b', o' + k * 5, none⟩ = some (.int .i64 (nth ys (k * 5))) ∧ w'.cell? ⟨b', o' + k * 5 + 1, none⟩ = some (.int .i64 (nth ys (k * 5 + 1))) ∧ w'.cell? ⟨b', o' + k * 5 + 2, none⟩ = some (.int .i64 (nth ys (k * 5 + 2))) ∧ w'.cell? ⟨b', o' + k * 5 + 3, none⟩ = some (.int .i64 (nth ys (k * 5 + 3))) ∧ w'.cell? ⟨b', o' + k * 5 + 4, none⟩ = some (.int .i64 (nth ys (k * 5 + 4))) ∧ Below w.heap.size w w')
            (first | exact MK.out _ (bdrew HB.out) | exact MK.out _ (bnext (bdrew HB.out) hb6) | (go_split_ands; exact MK.out _ (bnext (by assumption) hb6)))
            (first | (go_at_call 41; refine (eqActR_any _ _ _ _ _ _ _ _ _ _ _).mono ?_; rintro e w6 ⟨rfl, hb6⟩))
          go_split_ands
          go_wp2
          go_roundw
          case rel => exact ⟨k + 1, by omega, by go_num, HX.out, by assumption⟩
          case measure => simp [intOf]; omega
      · have hall := hx.out
        rw [show k = n by omega, List.take_of_length_le (by rw [HE.out]; exact Nat.le_refl _), List.take_of_length_le (by rw [HE'.out]; exact Nat.le_refl _)] at hall
        have H := Lib.hid hall
        clear hall hat hat'
        go_wp2
        go_ret
        exact ⟨ret_bool (by simp [H.out]), hbel⟩
  · have hne : ((n : Int) != (m : Int)) = true := by rw [bne_iff_ne]; omega
    have hx : xs ≠ ys := fun e => hn (by rw [e] at he; omega)
    clear hc hc' he he'
    go_enter Tryd.func23, Tryd.ntmps23
    go_wp2
    go_ret
    exact ⟨ret_bool (by simp [hx]), bref _⟩

end Go.Proofs.YtdeongecbmjkjaaDoor
