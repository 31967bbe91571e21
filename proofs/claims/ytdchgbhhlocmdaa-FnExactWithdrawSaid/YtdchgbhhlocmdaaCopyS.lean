/- The walks of the laws' helpers on copies: toCopyS, szCopyS, eqCopyS. -/
import Derived.Test.YtdchgbhhlocmdaaProg
import Derived.Test.YtdchgbhhlocmdaaBase
import Derived.Deep.RegionHeld3
namespace Go.Proofs.Ytdchgbhhlocmdaa
open Go.ChangeShapes Go.WideShapes Go.ChangeAt Go.RowKit

theorem szCopyS_any (v : Value) (n : Nat) (xs : List Int) (left : Int) (w : World) (h : Recs 3 w v n xs) (h0 : 0 ≤ left) (h1 : left ≤ 1048576) :
    Calls Try.prog 34 #[v, .int .i64 left] w fun e w' => e = .returned (.int .i64 (if left < n then -1 else left - n)) ∧ w = w' := by
  obtain ⟨hl, he, ad, cap, rfl, hc⟩ := h
  clear hc he
  by_cases hlt : left < n
  all_goals
    go_enter Try.func34, Try.ntmps34
    go_wp2
    go_ret
    exact ⟨ret_int (by first | rfl | (split <;> omega)), rfl⟩

theorem toCopy_any (p d q : Int) (w : World) : Calls Try.prog 79 #[.agg #[.int .i64 p, .int .i64 d, .int .i64 q]] w fun e w' =>
    e = .returned (.agg #[.int .i64 p, .int .i64 d, .int .i64 q]) ∧ Below w.heap.size w w' := by
  go_enter Try.func79, Try.ntmps79
  go_wp2
  refine bodyPost_ret (v := .agg #[.int .i64 p, .int .i64 d, .int .i64 q]) (by simp [results, Try.results79, go_sem]) rfl ⟨rfl, ?_⟩
  exact balloc (balloc (balloc (bref _) _) _) _

theorem eqCopy_any (p d q p' d' q' : Int) (w : World) : Calls Try.prog 82 #[.agg #[.int .i64 p, .int .i64 d, .int .i64 q], .agg #[.int .i64 p', .int .i64 d', .int .i64 q']] w fun e w' =>
    e = .returned (.bool (p == p' && (d == d' && q == q'))) ∧ Below w.heap.size w w' := by
  cases h1 : (p == p') with
  | false =>
    have g1 : (p != p') = true := by simp [bne, h1]
    go_enter Try.func82, Try.ntmps82
    go_wp2
    go_ret
    exact ⟨rfl, balloc (balloc (bref _) _) _⟩
  | true =>
    have g1 : (p != p') = false := by simp [bne, h1]
    cases h2 : (d == d') with
    | false =>
      have g2 : (d != d') = true := by simp [bne, h2]
      go_enter Try.func82, Try.ntmps82
      go_wp2
      go_ret
      exact ⟨rfl, balloc (balloc (bref _) _) _⟩
    | true =>
      have g2 : (d != d') = false := by simp [bne, h2]
      cases h3 : (q == q') with
      | false =>
        have g3 : (q != q') = true := by simp [bne, h3]
        go_enter Try.func82, Try.ntmps82
        go_wp2
        go_ret
        exact ⟨rfl, balloc (balloc (bref _) _) _⟩
      | true =>
        have g3 : (q != q') = false := by simp [bne, h3]
        go_enter Try.func82, Try.ntmps82
        go_wp2
        go_ret
        exact ⟨rfl, balloc (balloc (bref _) _) _⟩

theorem Try.infoCopy : (Try.prog.info? 93).map (fun i => (i.zero, i.size, i.bytes)) = some (some (.agg #[.int .i64 0, .int .i64 0, .int .i64 0]), 3, 24) := by kernel_rfl

theorem toCopyS_any (v : Value) (n : Nat) (xs : List Int) (w : World) (h : Recs 3 w v n xs) (h20 : n ≤ 1048576) :
    Calls Try.prog 36 #[v] w fun e w' => e = .returned (.slice (some ⟨w.heap.size, 0, none⟩) n n) ∧
      w'.ownsRow w.heap.size 93 3 (.slice (some ⟨w.heap.size, 0, none⟩) n n) n (xs.map (Value.int .i64)) ∧ Below w.heap.size w w' := by
  obtain ⟨i0, hi, hz0, hz1, hz2⟩ := info_parts Try.infoCopy
  obtain ⟨hl, he, ad, cap, rfl, hc⟩ := h
  have HE := Lib.hid he
  have hat := fun k hk => at3 (w := w) he hc k hk
  clear hc he
  go_enter Try.func36, Try.ntmps36
  go_wp2_with (at_make; refine wpList_make_full _ rfl _ _ 48 rfl w.heap.size 93 i0 (.agg #[.int .i64 0, .int .i64 0, .int .i64 0]) 3 Try.underlying48 hi hz0 hz1 _ _ _ _ n rfl rfl rfl rfl ?c1 ?c2 ?c3 ?_)
  case c1 => rw [hz2]; omega
  case c2 => unfold maxLen; omega
  case c3 => exact Nat.le_refl _
  intro w1 hown hgrow
  have hbel : Below w.heap.size w w1 := (Below.refl _ _).grown hgrow (Nat.le_refl _) (fun _ h => by cases h)
  clear hgrow hi hz0 hz1 hz2
  rw [show (madeCells #[Value.int .i64 0, .int .i64 0, .int .i64 0] (n * 3)).toList = List.replicate (xs.length - 0) (Value.int .i64 0) from by rw [HE.out]; exact made3 n] at hown
  go_wp2
  go_loopw [4] (fun i wr => ∃ k : Nat, k ≤ n ∧ i = .int .i64 k ∧
      wr.ownsRow w.heap.size 93 3 (.slice (some ⟨w.heap.size, 0, none⟩) n n) n ((xs.take (k * 3)).map (Value.int .i64) ++ List.replicate (xs.length - k * 3) (.int .i64 0)) ∧ Below w.heap.size w wr) (fun i _ => n - (intOf i).toNat)
  case atStart => exact ⟨0, Nat.zero_le _, rfl, by simpa using hown, hbel⟩
  case round =>
    clear hown hbel
    obtain ⟨k, hk, rfl, hown, hbel⟩ := hrel
    by_cases hlt : k < n
    · obtain ⟨b, o, rfl, e0, e1, e2, hb⟩ := hat k hlt
      clear hat
      rw [← hbel.cell (p := ⟨b, o + k * 3, none⟩) hb] at e0
      rw [← hbel.cell (p := ⟨b, o + k * 3 + 1, none⟩) hb] at e1
      rw [← hbel.cell (p := ⟨b, o + k * 3 + 2, none⟩) hb] at e2
      go_wp2_with fail
      refine (toCopy_any _ _ _ _).mono ?_
      rintro e w2 ⟨rfl, hb2⟩
      have hown2 := own_below hown hb2
      have hbel2 := bnext hbel hb2
      clear hown hbel e0 e1 e2
      obtain ⟨u0, q0⟩ := own_cell hown2 (k * 3) (by omega)
      obtain ⟨u1, q1⟩ := own_cell hown2 (k * 3 + 1) (by omega)
      obtain ⟨u2, q2⟩ := own_cell hown2 (k * 3 + 2) (by omega)
      have f0 := hown2.frozenAt (k * 3)
      have f1 := hown2.frozenAt (k * 3 + 1)
      have f2 := hown2.frozenAt (k * 3 + 2)
      have HS := Lib.hid ((((hown2.stored (k * 3) (.int .i64 (cP xs k))).1.stored (k * 3 + 1) (.int .i64 (cD xs k))).1.stored (k * 3 + 2) (.int .i64 (cE xs k))).1)
      have HB := Lib.hid hbel2
      clear hown2 hbel2
      go_wp2
      go_roundw
      case rel =>
        refine ⟨k + 1, by omega, by go_num, ?_, bset (bset (bset HB.out (Nat.le_refl _) _) (Nat.le_refl _) _) (Nat.le_refl _) _⟩
        have h1 := HS.out
        rw [put3 xs k n HE.out hlt] at h1
        exact h1
      case measure => simp [intOf]; omega
    · obtain rfl : k = n := by omega
      rw [show xs.take (k * 3) = xs from List.take_of_length_le (by rw [HE.out]; exact Nat.le_refl _), show xs.length - k * 3 = 0 by have := HE.out; omega, List.replicate_zero, List.append_nil] at hown
      have HO := Lib.hid hown
      clear hown hat
      go_wp2
      go_ret
      exact ⟨rfl, HO.out, hbel⟩

theorem eqCopyS_any (a b : Value) (n m : Nat) (xs ys : List Int) (w : World) (ha : Recs 3 w a n xs) (hb : Recs 3 w b m ys) :
    Calls Try.prog 39 #[a, b] w fun e w' => e = .returned (.bool (decide (xs = ys))) ∧ Below w.heap.size w w' := by
  obtain ⟨hl, he, ad, cap, rfl, hc⟩ := ha
  obtain ⟨hl', he', ad', cap', rfl, hc'⟩ := hb
  by_cases hn : n = m
  · subst hn
    have HE := Lib.hid he
    have HE' := Lib.hid he'
    have hat := fun k hk => at3 (w := w) he hc k hk
    have hat' := fun k hk => at3 (w := w) he' hc' k hk
    clear hc hc' he he'
    have hne : ((n : Int) != (n : Int)) = false := by simp
    go_enter Try.func39, Try.ntmps39
    go_wp2
    go_loopw [5] (fun i wr => ∃ k : Nat, k ≤ n ∧ i = .int .i64 k ∧ Hid (xs.take (k * 3) = ys.take (k * 3)) ∧ Below w.heap.size w wr) (fun i _ => n - (intOf i).toNat)
    case atStart => exact ⟨0, Nat.zero_le _, rfl, rfl, bref _⟩
    case round =>
      obtain ⟨k, hk, rfl, hx, hbel⟩ := hrel
      by_cases hlt : k < n
      · obtain ⟨b, o, rfl, e0, e1, e2, hb⟩ := hat k hlt
        obtain ⟨b', o', rfl, g0, g1, g2, hb'⟩ := hat' k hlt
        clear hat hat'
        have MK : Hid (∀ w', Below w.heap.size w w' → w'.cell? ⟨b, o + k * 3, none⟩ = some (.int .i64 (cP xs k)) ∧ w'.cell? ⟨b, o + k * 3 + 1, none⟩ = some (.int .i64 (cD xs k)) ∧ w'.cell? ⟨b, o + k * 3 + 2, none⟩ = some (.int .i64 (cE xs k)) ∧
            w'.cell? ⟨b', o' + k * 3, none⟩ = some (.int .i64 (cP ys k)) ∧ w'.cell? ⟨b', o' + k * 3 + 1, none⟩ = some (.int .i64 (cD ys k)) ∧ w'.cell? ⟨b', o' + k * 3 + 2, none⟩ = some (.int .i64 (cE ys k)) ∧ Below w.heap.size w w') :=
          fun w' h => ⟨(h.cell (p := ⟨b, o + k * 3, none⟩) hb).trans e0, (h.cell (p := ⟨b, o + k * 3 + 1, none⟩) hb).trans e1, (h.cell (p := ⟨b, o + k * 3 + 2, none⟩) hb).trans e2,
            (h.cell (p := ⟨b', o' + k * 3, none⟩) hb').trans g0, (h.cell (p := ⟨b', o' + k * 3 + 1, none⟩) hb').trans g1, (h.cell (p := ⟨b', o' + k * 3 + 2, none⟩) hb').trans g2, h⟩
        clear e0 e1 e2 g0 g1 g2
        have i0 : (0 : Int) ≤ (k : Int) := by omega
        have i1 : (k : Int) < (n : Int) := by omega
        have HB := Lib.hid hbel
        cases hq : (cP xs k == cP ys k && (cD xs k == cD ys k && cE xs k == cE ys k)) with
        | false =>
          have HX := Lib.hid (show xs ≠ ys from fun e => by rw [e] at hq; simp at hq)
          clear hbel
          go_wp2_with fail
          go_region_held3 (fun w' => w'.cell? ⟨b, o + k * 3, none⟩ = some (.int .i64 (cP xs k)) ∧ w'.cell? ⟨b, o + k * 3 + 1, none⟩ = some (.int .i64 (cD xs k)) ∧ w'.cell? ⟨b, o + k * 3 + 2, none⟩ = some (.int .i64 (cE xs k)) ∧
            w'.cell? ⟨b', o' + k * 3, none⟩ = some (.int .i64 (cP ys k)) ∧ w'.cell? ⟨b', o' + k * 3 + 1, none⟩ = some (.int .i64 (cD ys k)) ∧ w'.cell? ⟨b', o' + k * 3 + 2, none⟩ = some (.int .i64 (cE ys k)) ∧ Below w.heap.size w w')
            (first | exact MK.out _ (bdrew HB.out) | exact MK.out _ (bnext (bdrew HB.out) hb6) | (go_split_ands; exact MK.out _ (bnext (by assumption) hb6)))
            (first | (go_at_call 82; refine (eqCopy_any _ _ _ _ _ _ _).mono ?_; rintro e w6 ⟨rfl, hb6⟩))
          go_split_ands
          go_wp2
          go_ret
          exact ⟨ret_bool (by simp [HX.out]), by assumption⟩
        | true =>
          have HX := Lib.hid (show xs.take ((k + 1) * 3) = ys.take ((k + 1) * 3) from by
            simp only [Bool.and_eq_true, beq_iff_eq] at hq
            rw [show (k + 1) * 3 = k * 3 + 1 + 1 + 1 by omega, take_nth xs _ (by have := HE.out; omega), take_nth xs _ (by have := HE.out; omega), take_nth xs _ (by have := HE.out; omega),
              take_nth ys _ (by have := HE'.out; omega), take_nth ys _ (by have := HE'.out; omega), take_nth ys _ (by have := HE'.out; omega), hx.out]
            show ((_ ++ [cP xs k]) ++ [cD xs k]) ++ [cE xs k] = ((_ ++ [cP ys k]) ++ [cD ys k]) ++ [cE ys k]
            rw [hq.1, hq.2.1, hq.2.2])
          clear hbel
          go_wp2_with fail
          go_region_held3 (fun w' => w'.cell? ⟨b, o + k * 3, none⟩ = some (.int .i64 (cP xs k)) ∧ w'.cell? ⟨b, o + k * 3 + 1, none⟩ = some (.int .i64 (cD xs k)) ∧ w'.cell? ⟨b, o + k * 3 + 2, none⟩ = some (.int .i64 (cE xs k)) ∧
            w'.cell? ⟨b', o' + k * 3, none⟩ = some (.int .i64 (cP ys k)) ∧ w'.cell? ⟨b', o' + k * 3 + 1, none⟩ = some (.int .i64 (cD ys k)) ∧ w'.cell? ⟨b', o' + k * 3 + 2, none⟩ = some (.int .i64 (cE ys k)) ∧ Below w.heap.size w w')
            (first | exact MK.out _ (bdrew HB.out) | exact MK.out _ (bnext (bdrew HB.out) hb6) | (go_split_ands; exact MK.out _ (bnext (by assumption) hb6)))
            (first | (go_at_call 82; refine (eqCopy_any _ _ _ _ _ _ _).mono ?_; rintro e w6 ⟨rfl, hb6⟩))
          go_split_ands
          go_wp2
          go_roundw
          case rel => exact ⟨k + 1, by omega, by go_num, HX.out, by assumption⟩
          case measure => simp [intOf]; omega
      · have hall := hx.out
        rw [show k = n by omega, List.take_of_length_le (by rw [HE.out]; exact Nat.le_refl _), List.take_of_length_le (by rw [HE'.out]; exact Nat.le_refl _)] at hall
        have H := Lib.hid hall
        clear hall hat hat'
        go_wp2
        go_ret
        exact ⟨ret_bool (by simp [H.out]), hbel⟩
  · have hne : ((n : Int) != (m : Int)) = true := by rw [bne_iff_ne]; omega
    have hx : xs ≠ ys := fun e => hn (by rw [e] at he; omega)
    clear hc hc' he he'
    go_enter Try.func39, Try.ntmps39
    go_wp2
    go_ret
    exact ⟨ret_bool (by simp [hx]), bref _⟩

end Go.Proofs.Ytdchgbhhlocmdaa
