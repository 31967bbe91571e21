/- Texts laid together: CopyS, HouseS, ActS, MarkO. -/
import Derived.Deep.RegionHeld3
import Derived.Test.YtfnlniknclkeaaaProg
import Derived.Test.YtfnlniknclkeaaaGA
import Derived.Test.YtfnlniknclkeaaaGB
/- The walks of the laws' helpers on copies: toCopyS, szCopyS, eqCopyS. -/
namespace Go.Proofs.Ytfnlniknclkeaaa
open Go.ChangeShapes Go.WideShapes Go.ChangeAt Go.RowKit

theorem szCopyS_any (v : Value) (n : Nat) (xs : List Int) (left : Int) (w : World) (h : Recs 3 w v n xs) (h0 : 0 ≤ left) (h1 : left ≤ 1048576) :
    Calls Try.prog 42 #[v, .int .i64 left] w fun e w' => e = .returned (.int .i64 (if left < n then -1 else left - n)) ∧ w = w' := by
  obtain ⟨hl, he, ad, cap, rfl, hc⟩ := h
  clear hc he
  by_cases hlt : left < n
  all_goals
    go_enter Try.func42, Try.ntmps42
    go_wp2
    go_ret
    exact ⟨ret_int (by first | rfl | (split <;> omega)), rfl⟩

theorem toCopy_any (p d q : Int) (w : World) : Calls Try.prog 84 #[.agg #[.int .i64 p, .int .i64 d, .int .i64 q]] w fun e w' =>
    e = .returned (.agg #[.int .i64 p, .int .i64 d, .int .i64 q]) ∧ Below w.heap.size w w' := by
  go_enter Try.func84, Try.ntmps84
  go_wp2
  refine bodyPost_ret (v := .agg #[.int .i64 p, .int .i64 d, .int .i64 q]) (by simp [results, Try.results84, go_sem]) rfl ⟨rfl, ?_⟩
  exact balloc (balloc (balloc (bref _) _) _) _

theorem eqCopy_any (p d q p' d' q' : Int) (w : World) : Calls Try.prog 85 #[.agg #[.int .i64 p, .int .i64 d, .int .i64 q], .agg #[.int .i64 p', .int .i64 d', .int .i64 q']] w fun e w' =>
    e = .returned (.bool (p == p' && (d == d' && q == q'))) ∧ Below w.heap.size w w' := by
  cases h1 : (p == p') with
  | false =>
    have g1 : (p != p') = true := by simp [bne, h1]
    go_enter Try.func85, Try.ntmps85
    go_wp2
    go_ret
    exact ⟨rfl, balloc (balloc (bref _) _) _⟩
  | true =>
    have g1 : (p != p') = false := by simp [bne, h1]
    cases h2 : (d == d') with
    | false =>
      have g2 : (d != d') = true := by simp [bne, h2]
      go_enter Try.func85, Try.ntmps85
      go_wp2
      go_ret
      exact ⟨rfl, balloc (balloc (bref _) _) _⟩
    | true =>
      have g2 : (d != d') = false := by simp [bne, h2]
      cases h3 : (q == q') with
      | false =>
        have g3 : (q != q') = true := by simp [bne, h3]
        go_enter Try.func85, Try.ntmps85
        go_wp2
        go_ret
        exact ⟨rfl, balloc (balloc (bref _) _) _⟩
      | true =>
        have g3 : (q != q') = false := by simp [bne, h3]
        go_enter Try.func85, Try.ntmps85
        go_wp2
        go_ret
        exact ⟨rfl, balloc (balloc (bref _) _) _⟩

theorem Try.infoCopy : (Try.prog.info? 61).map (fun i => (i.zero, i.size, i.bytes)) = some (some (.agg #[.int .i64 0, .int .i64 0, .int .i64 0]), 3, 24) := by kernel_rfl

theorem toCopyS_any (v : Value) (n : Nat) (xs : List Int) (w : World) (h : Recs 3 w v n xs) (h20 : n ≤ 1048576) :
    Calls Try.prog 53 #[v] w fun e w' => e = .returned (.slice (some ⟨w.heap.size, 0, none⟩) n n) ∧
      w'.ownsRow w.heap.size 61 3 (.slice (some ⟨w.heap.size, 0, none⟩) n n) n (xs.map (Value.int .i64)) ∧ Below w.heap.size w w' := by
  obtain ⟨i0, hi, hz0, hz1, hz2⟩ := info_parts Try.infoCopy
  obtain ⟨hl, he, ad, cap, rfl, hc⟩ := h
  have HE := Lib.hid he
  have hat := fun k hk => at3 (w := w) he hc k hk
  clear hc he
  go_enter Try.func53, Try.ntmps53
  go_wp2_with (at_make; refine wpList_make_full _ rfl _ _ 24 rfl w.heap.size 61 i0 (.agg #[.int .i64 0, .int .i64 0, .int .i64 0]) 3 Try.underlying24 hi hz0 hz1 _ _ _ _ n rfl rfl rfl rfl ?c1 ?c2 ?c3 ?_)
  case c1 => rw [hz2]; omega
  case c2 => unfold maxLen; omega
  case c3 => exact Nat.le_refl _
  intro w1 hown hgrow
  have hbel : Below w.heap.size w w1 := (Below.refl _ _).grown hgrow (Nat.le_refl _) (fun _ h => by cases h)
  clear hgrow hi hz0 hz1 hz2
  rw [show (madeCells #[Value.int .i64 0, .int .i64 0, .int .i64 0] (n * 3)).toList = List.replicate (xs.length - 0) (Value.int .i64 0) from by rw [HE.out]; exact made3 n] at hown
  go_wp2
  go_loopw [4] (fun i wr => ∃ k : Nat, k ≤ n ∧ i = .int .i64 k ∧
      wr.ownsRow w.heap.size 61 3 (.slice (some ⟨w.heap.size, 0, none⟩) n n) n ((xs.take (k * 3)).map (Value.int .i64) ++ List.replicate (xs.length - k * 3) (.int .i64 0)) ∧ Below w.heap.size w wr) (fun i _ => n - (intOf i).toNat)
  case atStart => exact ⟨0, Nat.zero_le _, rfl, by simpa using hown, hbel⟩
  case round =>
    clear hown hbel
    obtain ⟨k, hk, rfl, hown, hbel⟩ := hrel
    by_cases hlt : k < n
    · obtain ⟨b, o, rfl, e0, e1, e2, hb⟩ := hat k hlt
      clear hat
      rw [← hbel.cell (p := ⟨b, o + k * 3, none⟩) hb] at e0
      rw [← hbel.cell (p := ⟨b, o + k * 3 + 1, none⟩) hb] at e1
      rw [← hbel.cell (p := ⟨b, o + k * 3 + 2, none⟩) hb] at e2
      go_wp2_with fail
      refine (toCopy_any _ _ _ _).mono ?_
      rintro e w2 ⟨rfl, hb2⟩
      have hown2 := own_below hown hb2
      have hbel2 := bnext hbel hb2
      clear hown hbel e0 e1 e2
      obtain ⟨u0, q0⟩ := own_cell hown2 (k * 3) (by omega)
      obtain ⟨u1, q1⟩ := own_cell hown2 (k * 3 + 1) (by omega)
      obtain ⟨u2, q2⟩ := own_cell hown2 (k * 3 + 2) (by omega)
      have f0 := hown2.frozenAt (k * 3)
      have f1 := hown2.frozenAt (k * 3 + 1)
      have f2 := hown2.frozenAt (k * 3 + 2)
      have HS := Lib.hid ((((hown2.stored (k * 3) (.int .i64 (cP xs k))).1.stored (k * 3 + 1) (.int .i64 (cD xs k))).1.stored (k * 3 + 2) (.int .i64 (cE xs k))).1)
      have HB := Lib.hid hbel2
      clear hown2 hbel2
      go_wp2
      go_roundw
      case rel =>
        refine ⟨k + 1, by omega, by go_num, ?_, bset (bset (bset HB.out (Nat.le_refl _) _) (Nat.le_refl _) _) (Nat.le_refl _) _⟩
        have h1 := HS.out
        rw [put3 xs k n HE.out hlt] at h1
        exact h1
      case measure => simp [intOf]; omega
    · obtain rfl : k = n := by omega
      rw [show xs.take (k * 3) = xs from List.take_of_length_le (by rw [HE.out]; exact Nat.le_refl _), show xs.length - k * 3 = 0 by have := HE.out; omega, List.replicate_zero, List.append_nil] at hown
      have HO := Lib.hid hown
      clear hown hat
      go_wp2
      go_ret
      exact ⟨rfl, HO.out, hbel⟩

theorem eqCopyS_any (a b : Value) (n m : Nat) (xs ys : List Int) (w : World) (ha : Recs 3 w a n xs) (hb : Recs 3 w b m ys) :
    Calls Try.prog 57 #[a, b] w fun e w' => e = .returned (.bool (decide (xs = ys))) ∧ Below w.heap.size w w' := by
  obtain ⟨hl, he, ad, cap, rfl, hc⟩ := ha
  obtain ⟨hl', he', ad', cap', rfl, hc'⟩ := hb
  by_cases hn : n = m
  · subst hn
    have HE := Lib.hid he
    have HE' := Lib.hid he'
    have hat := fun k hk => at3 (w := w) he hc k hk
    have hat' := fun k hk => at3 (w := w) he' hc' k hk
    clear hc hc' he he'
    have hne : ((n : Int) != (n : Int)) = false := by simp
    go_enter Try.func57, Try.ntmps57
    go_wp2
    go_loopw [5] (fun i wr => ∃ k : Nat, k ≤ n ∧ i = .int .i64 k ∧ Hid (xs.take (k * 3) = ys.take (k * 3)) ∧ Below w.heap.size w wr) (fun i _ => n - (intOf i).toNat)
    case atStart => exact ⟨0, Nat.zero_le _, rfl, rfl, bref _⟩
    case round =>
      obtain ⟨k, hk, rfl, hx, hbel⟩ := hrel
      by_cases hlt : k < n
      · obtain ⟨b, o, rfl, e0, e1, e2, hb⟩ := hat k hlt
        obtain ⟨b', o', rfl, g0, g1, g2, hb'⟩ := hat' k hlt
        clear hat hat'
        have MK : Hid (∀ w', Below w.heap.size w w' → w'.cell? ⟨b, o + k * 3, none⟩ = some (.int .i64 (cP xs k)) ∧ w'.cell? ⟨b, o + k * 3 + 1, none⟩ = some (.int .i64 (cD xs k)) ∧ w'.cell? ⟨b, o + k * 3 + 2, none⟩ = some (.int .i64 (cE xs k)) ∧
            w'.cell? ⟨b', o' + k * 3, none⟩ = some (.int .i64 (cP ys k)) ∧ w'.cell? ⟨b', o' + k * 3 + 1, none⟩ = some (.int .i64 (cD ys k)) ∧ w'.cell? ⟨b', o' + k * 3 + 2, none⟩ = some (.int .i64 (cE ys k)) ∧ Below w.heap.size w w') :=
          fun w' h => ⟨(h.cell (p := ⟨b, o + k * 3, none⟩) hb).trans e0, (h.cell (p := ⟨b, o + k * 3 + 1, none⟩) hb).trans e1, (h.cell (p := ⟨b, o + k * 3 + 2, none⟩) hb).trans e2,
            (h.cell (p := ⟨b', o' + k * 3, none⟩) hb').trans g0, (h.cell (p := ⟨b', o' + k * 3 + 1, none⟩) hb').trans g1, (h.cell (p := ⟨b', o' + k * 3 + 2, none⟩) hb').trans g2, h⟩
        clear e0 e1 e2 g0 g1 g2
        have i0 : (0 : Int) ≤ (k : Int) := by omega
        have i1 : (k : Int) < (n : Int) := by omega
        have HB := Lib.hid hbel
        cases hq : (cP xs k == cP ys k && (cD xs k == cD ys k && cE xs k == cE ys k)) with
        | false =>
          have HX := Lib.hid (show xs ≠ ys from fun e => by rw [e] at hq; simp at hq)
          clear hbel
          go_wp2_with fail
          go_region_held3 (fun w' => w'.cell? ⟨b, o + k * 3, none⟩ = some (.int .i64 (cP xs k)) ∧ w'.cell? ⟨b, o + k * 3 + 1, none⟩ = some (.int .i64 (cD xs k)) ∧ w'.cell? ⟨b, o + k * 3 + 2, none⟩ = some (.int .i64 (cE xs k)) ∧
            w'.cell? ⟨b', o' + k * 3, none⟩ = some (.int .i64 (cP ys k)) ∧ w'.cell? ⟨b', o' + k * 3 + 1, none⟩ = some (.int .i64 (cD ys k)) ∧ w'.cell? ⟨b', o' + k * 3 + 2, none⟩ = some (.int .i64 (cE ys k)) ∧ Below w.heap.size w w')
            (first | exact MK.out _ (bdrew HB.out) | exact MK.out _ (bnext (bdrew HB.out) hb6) | (go_split_ands; exact MK.out _ (bnext (by assumption) hb6)))
            (first | (go_at_call 85; refine (eqCopy_any _ _ _ _ _ _ _).mono ?_; rintro e w6 ⟨rfl, hb6⟩))
          go_split_ands
          go_wp2
          go_ret
          exact ⟨ret_bool (by simp [HX.out]), by assumption⟩
        | true =>
          have HX := Lib.hid (show xs.take ((k + 1) * 3) = ys.take ((k + 1) * 3) from by
            simp only [Bool.and_eq_true, beq_iff_eq] at hq
            rw [show (k + 1) * 3 = k * 3 + 1 + 1 + 1 by omega, take_nth xs _ (by have := HE.out; omega), take_nth xs _ (by have := HE.out; omega), take_nth xs _ (by have := HE.out; omega),
              take_nth ys _ (by have := HE'.out; omega), take_nth ys _ (by have := HE'.out; omega), take_nth ys _ (by have := HE'.out; omega), hx.out]
            show ((_ ++ [cP xs k]) ++ [cD xs k]) ++ [cE xs k] = ((_ ++ [cP ys k]) ++ [cD ys k]) ++ [cE ys k]
            rw [hq.1, hq.2.1, hq.2.2])
          clear hbel
          go_wp2_with fail
          go_region_held3 (fun w' => w'.cell? ⟨b, o + k * 3, none⟩ = some (.int .i64 (cP xs k)) ∧ w'.cell? ⟨b, o + k * 3 + 1, none⟩ = some (.int .i64 (cD xs k)) ∧ w'.cell? ⟨b, o + k * 3 + 2, none⟩ = some (.int .i64 (cE xs k)) ∧
            w'.cell? ⟨b', o' + k * 3, none⟩ = some (.int .i64 (cP ys k)) ∧ w'.cell? ⟨b', o' + k * 3 + 1, none⟩ = some (.int .i64 (cD ys k)) ∧ w'.cell? ⟨b', o' + k * 3 + 2, none⟩ = some (.int .i64 (cE ys k)) ∧ Below w.heap.size w w')
            (first | exact MK.out _ (bdrew HB.out) | exact MK.out _ (bnext (bdrew HB.out) hb6) | (go_split_ands; exact MK.out _ (bnext (by assumption) hb6)))
            (first | (go_at_call 85; refine (eqCopy_any _ _ _ _ _ _ _).mono ?_; rintro e w6 ⟨rfl, hb6⟩))
          go_split_ands
          go_wp2
          go_roundw
          case rel => exact ⟨k + 1, by omega, by go_num, HX.out, by assumption⟩
          case measure => simp [intOf]; omega
      · have hall := hx.out
        rw [show k = n by omega, List.take_of_length_le (by rw [HE.out]; exact Nat.le_refl _), List.take_of_length_le (by rw [HE'.out]; exact Nat.le_refl _)] at hall
        have H := Lib.hid hall
        clear hall hat hat'
        go_wp2
        go_ret
        exact ⟨ret_bool (by simp [H.out]), hbel⟩
  · have hne : ((n : Int) != (m : Int)) = true := by rw [bne_iff_ne]; omega
    have hx : xs ≠ ys := fun e => hn (by rw [e] at he; omega)
    clear hc hc' he he'
    go_enter Try.func57, Try.ntmps57
    go_wp2
    go_ret
    exact ⟨ret_bool (by simp [hx]), bref _⟩

end Go.Proofs.Ytfnlniknclkeaaa

/- The walks of the laws' helpers on houses. -/
namespace Go.Proofs.Ytfnlniknclkeaaa
open Go.ChangeShapes Go.WideShapes Go.ChangeAt Go.RowKit

theorem toCopyS_g (v : Value) (n : Nat) (xs : List Int) (w : World) (h : Recs 3 w v n xs) (h20 : n ≤ 1048576) :
    Calls Try.prog 53 #[v] w fun e w' => ∃ g : Nat, w.heap.size ≤ g ∧ g < w'.heap.size ∧ e = .returned (.slice (some ⟨g, 0, none⟩) n n) ∧ w'.ownsRow w.heap.size 61 3 (.slice (some ⟨g, 0, none⟩) n n) n (xs.map (Value.int .i64)) ∧ Below w.heap.size w w' :=
  (toCopyS_any v n xs w h h20).mono fun _ _ ⟨he, ho, hb⟩ => ⟨_, Nat.le_refl _, (ho.lt _ rfl).2, he, ho, hb⟩
theorem toIntS_g (v : Value) (xs : List Int) (w : World) (h : Ints w v xs) (h20 : xs.length ≤ 1048576) :
    Calls Try.prog 54 #[v] w fun e w' => ∃ g : Nat, w.heap.size ≤ g ∧ g < w'.heap.size ∧ e = .returned (.slice (some ⟨g, 0, none⟩) xs.length xs.length) ∧ w'.ownsRow w.heap.size 3 1 (.slice (some ⟨g, 0, none⟩) xs.length xs.length) xs.length (xs.map (Value.int .i64)) ∧ Below w.heap.size w w' :=
  (toIntS_any v xs w h (by omega)).mono fun _ _ ⟨he, ho, hb⟩ => ⟨_, Nat.le_refl _, (ho.lt _ rfl).2, he, ho, hb⟩

set_option maxRecDepth 100000 in
set_option maxHeartbeats 1000000 in
theorem toHouse_any (vc vm vo vt : Value) (h : HD) (w : World) (hr : HouseR w vc vm vo vt h) (hB : HouseB h 1048576) : Calls Try.prog 21 #[.agg #[vc, vm, vo, vt, .int .i64 h.sent, .int .i64 h.day]] w fun e w' =>
    ∃ gc gm go gt : Nat, e = .returned (.agg #[.slice (some ⟨gc, 0, none⟩) h.n h.n, .slice (some ⟨gm, 0, none⟩) h.ms.length h.ms.length, .slice (some ⟨go, 0, none⟩) h.os.length h.os.length, .slice (some ⟨gt, 0, none⟩) h.ts.length h.ts.length, .int .i64 h.sent, .int .i64 h.day]) ∧ HouseO w.heap.size w'.heap.size w' (.slice (some ⟨gc, 0, none⟩) h.n h.n) (.slice (some ⟨gm, 0, none⟩) h.ms.length h.ms.length) (.slice (some ⟨go, 0, none⟩) h.os.length h.os.length) (.slice (some ⟨gt, 0, none⟩) h.ts.length h.ts.length) h ∧ Below w.heap.size w w' := by
  obtain ⟨adc, capc, rfl⟩ : ∃ ad cap, vc = .slice ad h.n cap := by obtain ⟨_, _, ad, cap, hh, _⟩ := hr.c; exact ⟨ad, cap, hh⟩
  obtain ⟨adm, capm, rfl⟩ : ∃ ad cap, vm = .slice ad h.ms.length cap := by obtain ⟨_, ad, cap, hh, _⟩ := hr.m; exact ⟨ad, cap, hh⟩
  obtain ⟨ado, capo, rfl⟩ : ∃ ad cap, vo = .slice ad h.os.length cap := by obtain ⟨_, ad, cap, hh, _⟩ := hr.o; exact ⟨ad, cap, hh⟩
  obtain ⟨adt, capt, rfl⟩ : ∃ ad cap, vt = .slice ad h.ts.length cap := by obtain ⟨_, ad, cap, hh, _⟩ := hr.t; exact ⟨ad, cap, hh⟩
  have D0 := Lib.hid (fun o1 o2 o3 => balloc (balloc (balloc (bref w) o1) o2) o3)
  go_enter Try.func21, Try.ntmps21
  go_wp2_with fail
  refine (toCopyS_g _ h.n h.xs _ (hr.c.below (D0.out _ _ _)) hB.n).mono ?_
  rintro e w1 ⟨gc, lc, tc, rfl, hOc, hb1⟩
  have c1 := below_cell hb1
  have f1 := below_frozen hb1
  have z1 := hb1.size
  have D1 := Lib.hid (bnext (D0.out _ _ _) hb1)
  have Pc := Lib.hid hOc
  have B1 := Lib.hid hb1
  clear hOc hb1
  simp at z1 lc
  have ya1 : w.heap.size < w1.heap.size := by omega
  have yb1 : w.heap.size + 1 < w1.heap.size := by omega
  have yc1 : w.heap.size + 1 + 1 < w1.heap.size := by omega
  go_wp2_with fail
  refine (toIntS_g _ h.ms _ (hr.m.below (bset D1.out (by simp; omega) _)) hB.ms).mono ?_
  rintro e w2 ⟨gm, lm, tm, rfl, hOm, hb2⟩
  have c2 := below_cell hb2
  have f2 := below_frozen hb2
  have z2 := hb2.size
  have D2 := Lib.hid (bnext (bset D1.out (by simp; omega) _) hb2)
  have Pm := Lib.hid hOm
  have B2 := Lib.hid hb2
  clear hOm hb2
  simp at z2 lm
  have ya2 : w.heap.size < w2.heap.size := by omega
  have yb2 : w.heap.size + 1 < w2.heap.size := by omega
  have yc2 : w.heap.size + 1 + 1 < w2.heap.size := by omega
  go_wp2_with fail
  refine (toIntS_g _ h.os _ (hr.o.below (bset D2.out (by simp; omega) _)) hB.os).mono ?_
  rintro e w3 ⟨go, lo, to, rfl, hOo, hb3⟩
  have c3 := below_cell hb3
  have f3 := below_frozen hb3
  have z3 := hb3.size
  have D3 := Lib.hid (bnext (bset D2.out (by simp; omega) _) hb3)
  have Po := Lib.hid hOo
  have B3 := Lib.hid hb3
  clear hOo hb3
  simp at z3 lo
  have ya3 : w.heap.size < w3.heap.size := by omega
  have yb3 : w.heap.size + 1 < w3.heap.size := by omega
  have yc3 : w.heap.size + 1 + 1 < w3.heap.size := by omega
  go_wp2_with fail
  refine (toIntS_g _ h.ts _ (hr.t.below (bset D3.out (by simp; omega) _)) hB.ts).mono ?_
  rintro e w4 ⟨gt, lt, tt, rfl, hOt, hb4⟩
  have c4 := below_cell hb4
  have f4 := below_frozen hb4
  have z4 := hb4.size
  have D4 := Lib.hid (bnext (bset D3.out (by simp; omega) _) hb4)
  have Pt := Lib.hid hOt
  have B4 := Lib.hid hb4
  clear hOt hb4
  simp at z4 lt
  have ya4 : w.heap.size < w4.heap.size := by omega
  have yb4 : w.heap.size + 1 < w4.heap.size := by omega
  have yc4 : w.heap.size + 1 + 1 < w4.heap.size := by omega
  go_wp2
  refine bodyPost_ret (v := .agg #[.slice (some ⟨gc, 0, none⟩) h.n h.n, .slice (some ⟨gm, 0, none⟩) h.ms.length h.ms.length, .slice (some ⟨go, 0, none⟩) h.os.length h.os.length, .slice (some ⟨gt, 0, none⟩) h.ts.length h.ts.length, .int .i64 h.sent, .int .i64 h.day]) (by simp [results, Try.results21, go_sem, c1, yb1, c2, yb2, c3, yb3, c4]) rfl ?_
  have fin : ∀ WF : World, Only w.heap.size (w.heap.size + 3) w4 WF → HouseO w.heap.size WF.heap.size WF (.slice (some ⟨gc, 0, none⟩) h.n h.n) (.slice (some ⟨gm, 0, none⟩) h.ms.length h.ms.length) (.slice (some ⟨go, 0, none⟩) h.os.length h.os.length) (.slice (some ⟨gt, 0, none⟩) h.ts.length h.ts.length) h ∧ Below w.heap.size w WF := fun WF oF => by
    have o1 : Only w.heap.size (w.heap.size + 3) w1 w2 := ((Only.refl _ _ w1).set (by simp only []; omega) (by simp only []; omega) _).step B2.out
    have o2 : Only w.heap.size (w.heap.size + 3) w2 w3 := ((Only.refl _ _ w2).set (by simp only []; omega) (by simp only []; omega) _).step B3.out
    have o3 : Only w.heap.size (w.heap.size + 3) w3 w4 := ((Only.refl _ _ w3).set (by simp only []; omega) (by simp only []; omega) _).step B4.out
    have rc := RowO.of Pc.out
    have rm := RowO.of Pm.out
    have ro := RowO.of Po.out
    have rt := RowO.of Pt.out
    have s2 := o1.size
    have s3 := o2.size
    have s4 := o3.size
    have sF := oF.size
    have L1 : ∀ (o1 o2 o3 : Obj), (((w.alloc o1).alloc o2).alloc o3).heap.size = w.heap.size + 3 := fun _ _ _ => by simp
    have L2 : ∀ (u : World) (p : Addr) (x : Value), (u.setCell p x).heap.size = u.heap.size := fun u p x => by simp
    rw [L1] at rc
    rw [L2] at rm ro rt
    have rc' := (((rc.only o1 (off_r (Nat.le_refl _))).only o2 (off_r (Nat.le_refl _))).only o3 (off_r (Nat.le_refl _))).only oF (off_r (Nat.le_refl _))
    have rm' := ((rm.only o2 (off_r (by omega))).only o3 (off_r (by omega))).only oF (off_r (by omega))
    have ro' := (ro.only o3 (off_r (by omega))).only oF (off_r (by omega))
    have rt' := rt.only oF (off_r (by omega))
    exact ⟨⟨rc'.wide (by omega) (by omega), rm'.wide (by omega) (by omega), ro'.wide (by omega) (by omega), rt'.wide (by omega) (by omega),
      rc'.sep rm' (off_l (by omega)), rc'.sep ro' (off_l (by omega)), rc'.sep rt' (off_l (by omega)), rm'.sep ro' (off_l (by omega)), rm'.sep rt' (off_l (by omega)), ro'.sep rt' (off_l (by omega))⟩, Only.below D4.out oF (Nat.le_refl _)⟩
  refine ⟨gc, gm, go, gt, rfl, fin _ ?_⟩
  repeat (first | with_reducible exact Only.refl _ _ _ | refine Only.set ?_ (by simp only []; omega) (by simp only []; omega) _)

set_option maxRecDepth 100000 in
theorem szHouse_any (vc vm vo vt : Value) (h : HD) (left : Int) (w : World) (hr : HouseR w vc vm vo vt h) (h0 : 0 ≤ left) (h1 : left ≤ 1048576) :
    Calls Try.prog 19 #[.agg #[vc, vm, vo, vt, .int .i64 h.sent, .int .i64 h.day], .int .i64 left] w fun e w' => e = .returned (.int .i64 (szRes left h.size)) ∧ Below w.heap.size w w' := by
  obtain ⟨adc, capc, rfl⟩ : ∃ ad cap, vc = .slice ad h.n cap := by obtain ⟨_, _, ad, cap, hh, _⟩ := hr.c; exact ⟨ad, cap, hh⟩
  obtain ⟨adm, capm, rfl⟩ : ∃ ad cap, vm = .slice ad h.ms.length cap := by obtain ⟨_, ad, cap, hh, _⟩ := hr.m; exact ⟨ad, cap, hh⟩
  obtain ⟨ado, capo, rfl⟩ : ∃ ad cap, vo = .slice ad h.os.length cap := by obtain ⟨_, ad, cap, hh, _⟩ := hr.o; exact ⟨ad, cap, hh⟩
  obtain ⟨adt, capt, rfl⟩ : ∃ ad cap, vt = .slice ad h.ts.length cap := by obtain ⟨_, ad, cap, hh, _⟩ := hr.t; exact ⟨ad, cap, hh⟩
  by_cases q0 : left < (h.n : Int)
  · have H := Lib.hid (szRes_lt (left := left) (n := h.size) (by unfold HD.size; omega))
    go_enter Try.func19, Try.ntmps19
    go_wp2_with fail
    refine (szCopyS_any _ h.n h.xs left _ (hr.c.alloc _) (by omega) (by omega)).mono ?_
    rintro e w' ⟨rfl, rfl⟩
    rw [if_pos (by omega)]
    go_wp2
    go_ret
    exact ⟨ret_int H.out.symm, balloc (bref w) _⟩
  by_cases q1 : (left - (h.n : Int)) < (h.ms.length : Int)
  · have H := Lib.hid (szRes_lt (left := left) (n := h.size) (by unfold HD.size; omega))
    go_enter Try.func19, Try.ntmps19
    go_wp2_with fail
    refine (szCopyS_any _ h.n h.xs left _ (hr.c.alloc _) (by omega) (by omega)).mono ?_
    rintro e w' ⟨rfl, rfl⟩
    rw [if_neg (by omega)]
    go_wp2_with fail
    refine (szIntS_any _ h.ms (left - (h.n : Int)) _ (hr.m.alloc _) (by omega) (by omega)).mono ?_
    rintro e w' ⟨rfl, rfl⟩
    rw [if_pos (by omega)]
    go_wp2
    go_ret
    exact ⟨ret_int H.out.symm, balloc (bref w) _⟩
  by_cases q2 : ((left - (h.n : Int)) - (h.ms.length : Int)) < (h.os.length : Int)
  · have H := Lib.hid (szRes_lt (left := left) (n := h.size) (by unfold HD.size; omega))
    go_enter Try.func19, Try.ntmps19
    go_wp2_with fail
    refine (szCopyS_any _ h.n h.xs left _ (hr.c.alloc _) (by omega) (by omega)).mono ?_
    rintro e w' ⟨rfl, rfl⟩
    rw [if_neg (by omega)]
    go_wp2_with fail
    refine (szIntS_any _ h.ms (left - (h.n : Int)) _ (hr.m.alloc _) (by omega) (by omega)).mono ?_
    rintro e w' ⟨rfl, rfl⟩
    rw [if_neg (by omega)]
    go_wp2_with fail
    refine (szIntS_any _ h.os ((left - (h.n : Int)) - (h.ms.length : Int)) _ (hr.o.alloc _) (by omega) (by omega)).mono ?_
    rintro e w' ⟨rfl, rfl⟩
    rw [if_pos (by omega)]
    go_wp2
    go_ret
    exact ⟨ret_int H.out.symm, balloc (bref w) _⟩
  by_cases q3 : (((left - (h.n : Int)) - (h.ms.length : Int)) - (h.os.length : Int)) < (h.ts.length : Int)
  · have H := Lib.hid (szRes_lt (left := left) (n := h.size) (by unfold HD.size; omega))
    go_enter Try.func19, Try.ntmps19
    go_wp2_with fail
    refine (szCopyS_any _ h.n h.xs left _ (hr.c.alloc _) (by omega) (by omega)).mono ?_
    rintro e w' ⟨rfl, rfl⟩
    rw [if_neg (by omega)]
    go_wp2_with fail
    refine (szIntS_any _ h.ms (left - (h.n : Int)) _ (hr.m.alloc _) (by omega) (by omega)).mono ?_
    rintro e w' ⟨rfl, rfl⟩
    rw [if_neg (by omega)]
    go_wp2_with fail
    refine (szIntS_any _ h.os ((left - (h.n : Int)) - (h.ms.length : Int)) _ (hr.o.alloc _) (by omega) (by omega)).mono ?_
    rintro e w' ⟨rfl, rfl⟩
    rw [if_neg (by omega)]
    go_wp2_with fail
    refine (szIntS_any _ h.ts (((left - (h.n : Int)) - (h.ms.length : Int)) - (h.os.length : Int)) _ (hr.t.alloc _) (by omega) (by omega)).mono ?_
    rintro e w' ⟨rfl, rfl⟩
    rw [if_pos (by omega)]
    go_wp2
    go_ret
    exact ⟨ret_int H.out.symm, balloc (bref w) _⟩
  have H := Lib.hid (show szRes left h.size = ((((left - (h.n : Int)) - (h.ms.length : Int)) - (h.os.length : Int)) - (h.ts.length : Int)) from by rw [szRes_ge (by unfold HD.size; omega)]; unfold HD.size; omega)
  go_enter Try.func19, Try.ntmps19
  go_wp2_with fail
  refine (szCopyS_any _ h.n h.xs left _ (hr.c.alloc _) (by omega) (by omega)).mono ?_
  rintro e w' ⟨rfl, rfl⟩
  rw [if_neg (by omega)]
  go_wp2_with fail
  refine (szIntS_any _ h.ms (left - (h.n : Int)) _ (hr.m.alloc _) (by omega) (by omega)).mono ?_
  rintro e w' ⟨rfl, rfl⟩
  rw [if_neg (by omega)]
  go_wp2_with fail
  refine (szIntS_any _ h.os ((left - (h.n : Int)) - (h.ms.length : Int)) _ (hr.o.alloc _) (by omega) (by omega)).mono ?_
  rintro e w' ⟨rfl, rfl⟩
  rw [if_neg (by omega)]
  go_wp2_with fail
  refine (szIntS_any _ h.ts (((left - (h.n : Int)) - (h.ms.length : Int)) - (h.os.length : Int)) _ (hr.t.alloc _) (by omega) (by omega)).mono ?_
  rintro e w' ⟨rfl, rfl⟩
  rw [if_neg (by omega)]
  go_wp2
  go_ret
  exact ⟨ret_int H.out.symm, balloc (bref w) _⟩

set_option maxRecDepth 100000 in
theorem eqHouse_same (ac am ao at_ bc bm bo bt : Value) (h : HD) (w : World) (ha : HouseR w ac am ao at_ h) (hb : HouseR w bc bm bo bt h) :
    Calls Try.prog 24 #[.agg #[ac, am, ao, at_, .int .i64 h.sent, .int .i64 h.day], .agg #[bc, bm, bo, bt, .int .i64 h.sent, .int .i64 h.day]] w fun e w' => e = .returned (.bool true) ∧ Below w.heap.size w w' := by
  obtain ⟨aadc, acapc, rfl⟩ : ∃ ad cap, ac = .slice ad h.n cap := by obtain ⟨_, _, ad, cap, hh, _⟩ := ha.c; exact ⟨ad, cap, hh⟩
  obtain ⟨aadm, acapm, rfl⟩ : ∃ ad cap, am = .slice ad h.ms.length cap := by obtain ⟨_, ad, cap, hh, _⟩ := ha.m; exact ⟨ad, cap, hh⟩
  obtain ⟨aado, acapo, rfl⟩ : ∃ ad cap, ao = .slice ad h.os.length cap := by obtain ⟨_, ad, cap, hh, _⟩ := ha.o; exact ⟨ad, cap, hh⟩
  obtain ⟨aadt, acapt, rfl⟩ : ∃ ad cap, at_ = .slice ad h.ts.length cap := by obtain ⟨_, ad, cap, hh, _⟩ := ha.t; exact ⟨ad, cap, hh⟩
  obtain ⟨badc, bcapc, rfl⟩ : ∃ ad cap, bc = .slice ad h.n cap := by obtain ⟨_, _, ad, cap, hh, _⟩ := hb.c; exact ⟨ad, cap, hh⟩
  obtain ⟨badm, bcapm, rfl⟩ : ∃ ad cap, bm = .slice ad h.ms.length cap := by obtain ⟨_, ad, cap, hh, _⟩ := hb.m; exact ⟨ad, cap, hh⟩
  obtain ⟨bado, bcapo, rfl⟩ : ∃ ad cap, bo = .slice ad h.os.length cap := by obtain ⟨_, ad, cap, hh, _⟩ := hb.o; exact ⟨ad, cap, hh⟩
  obtain ⟨badt, bcapt, rfl⟩ : ∃ ad cap, bt = .slice ad h.ts.length cap := by obtain ⟨_, ad, cap, hh, _⟩ := hb.t; exact ⟨ad, cap, hh⟩
  go_enter Try.func24, Try.ntmps24
  go_wp2_with fail
  refine (eqCopyS_any _ _ h.n h.n h.xs h.xs _ (ha.c.below (balloc (balloc (bref w) _) _)) (hb.c.below (balloc (balloc (bref w) _) _))).mono ?_
  rintro e w1 ⟨rfl, q1⟩
  have c1 := below_cell q1
  have D1 := Lib.hid (bnext (balloc (balloc (bref w) _) _) q1)
  have ya1 : w.heap.size < w1.heap.size := by have h := q1.size; first | omega | (simp at h; omega)
  have yb1 : w.heap.size + 1 < w1.heap.size := by have h := q1.size; first | omega | (simp at h; omega)
  clear q1
  go_wp2_with fail
  refine (eqIntS_bel _ _ h.ms h.ms _ (ha.m.below D1.out) (hb.m.below D1.out)).mono ?_
  rintro e w2 ⟨rfl, q2⟩
  have c2 := below_cell q2
  have D2 := Lib.hid (bnext D1.out q2)
  have ya2 : w.heap.size < w2.heap.size := by have h := q2.size; first | omega | (simp at h; omega)
  have yb2 : w.heap.size + 1 < w2.heap.size := by have h := q2.size; first | omega | (simp at h; omega)
  clear q2
  go_wp2_with fail
  refine (eqIntS_bel _ _ h.os h.os _ (ha.o.below D2.out) (hb.o.below D2.out)).mono ?_
  rintro e w3 ⟨rfl, q3⟩
  have c3 := below_cell q3
  have D3 := Lib.hid (bnext D2.out q3)
  have ya3 : w.heap.size < w3.heap.size := by have h := q3.size; first | omega | (simp at h; omega)
  have yb3 : w.heap.size + 1 < w3.heap.size := by have h := q3.size; first | omega | (simp at h; omega)
  clear q3
  go_wp2_with fail
  refine (eqIntS_bel _ _ h.ts h.ts _ (ha.t.below D3.out) (hb.t.below D3.out)).mono ?_
  rintro e w4 ⟨rfl, q4⟩
  have c4 := below_cell q4
  have D4 := Lib.hid (bnext D3.out q4)
  have ya4 : w.heap.size < w4.heap.size := by have h := q4.size; first | omega | (simp at h; omega)
  have yb4 : w.heap.size + 1 < w4.heap.size := by have h := q4.size; first | omega | (simp at h; omega)
  clear q4
  go_wp2
  go_ret
  exact ⟨rfl, D4.out⟩

theorem box_kept {w w' : World} {v : Value} {b : Nat} (hg : w.grownBy w' v.ownBlock) (hb : b < w.heap.size) (hv : v.ownBlock ≠ some b) : ∀ o, w'.cell? ⟨b, o, none⟩ = w.cell? ⟨b, o, none⟩ :=
  fun _ => World.cell?_of_block (hg.block b hb fun e => hv e.symm)
set_option maxRecDepth 100000 in
theorem markHouse_any (vc vm vo vt : Value) (h : HD) (k : Int) (lo hi : Nat) (w : World) (hr : HouseO lo hi w vc vm vo vt h) (hB : HouseB h 1048576) (hk0 : 0 ≤ k) (hkb : k ≤ 100000000000) :
    Calls Try.prog 25 #[.agg #[vc, vm, vo, vt, .int .i64 h.sent, .int .i64 h.day], .int .i64 k] w fun e w' => e = .returned (.int .i64 (k + h.bulk)) ∧ HouseO lo hi w' vc vm vo vt (h.marked k) ∧ Only lo hi w w' := by
  obtain ⟨adc, capc, rfl⟩ := own_form hr.c.own
  obtain ⟨adm, capm, rfl⟩ := own_form hr.m.own
  obtain ⟨ado, capo, rfl⟩ := own_form hr.o.own
  obtain ⟨adt, capt, rfl⟩ := own_form hr.t.own
  have hb1 := hB.n
  have hb2 := hB.ms
  have hb3 := hB.os
  have hb4 := hB.ts
  have nb : ∀ {v : Value} {e : TypeId} {s n : Nat} {xs : List Int}, RowO lo hi w e s v n xs → v.ownBlock ≠ some w.heap.size := fun r e => by have := (r.own.lt _ e).2; omega
  have nc := nb hr.c
  have nm := nb hr.m
  have no := nb hr.o
  have nt := nb hr.t
  have R := Lib.hid hr
  clear hr nb
  go_enter Try.func25, Try.ntmps25
  go_wp2_with fail
  refine (markCopyS_any _ h.n h.xs k lo _ _ (own_below R.out.c.own (balloc (bref w) _)) hk0 (by omega) (by omega)).mono ?_
  rintro e w1 ⟨rfl, M1, g1⟩
  have m1 := Lib.hid (own_kept (own_below R.out.m.own (balloc (bref w) _)) g1 R.out.scm)
  have o1 := Lib.hid (own_kept (own_below R.out.o.own (balloc (bref w) _)) g1 R.out.sco)
  have t1 := Lib.hid (own_kept (own_below R.out.t.own (balloc (bref w) _)) g1 R.out.sct)
  have C1 := Lib.hid M1
  have b1 := box_kept g1 (by simp) nc
  have z1 := g1.size
  simp at z1
  have O1 := Lib.hid ((Only.of_below (lo := lo) (hi := hi) (balloc (bref w) _)).trans (Only.of_grown g1 R.out.c.at))
  clear M1 g1
  go_wp2_with fail
  refine (markIntS_any _ h.ms.length h.ms (k + (h.n : Int) * 3) lo _ _ m1.out (by omega) (by omega) (by omega)).mono ?_
  rintro e w2 ⟨rfl, M2, g2⟩
  have C2 := Lib.hid (own_kept C1.out g2 R.out.scm.symm)
  have o2 := Lib.hid (own_kept o1.out g2 R.out.smo)
  have t2 := Lib.hid (own_kept t1.out g2 R.out.smt)
  have m2 := Lib.hid M2
  have b2 := box_kept g2 (by omega) nm
  have z2 := g2.size
  have O2 := Lib.hid (O1.out.trans (Only.of_grown g2 R.out.m.at))
  clear M2 g2 C1 m1 o1 t1
  go_wp2_with fail
  refine (markIntS_any _ h.os.length h.os (k + (h.n : Int) * 3 + h.ms.length) lo _ _ o2.out (by omega) (by omega) (by omega)).mono ?_
  rintro e w3 ⟨rfl, M3, g3⟩
  have C3 := Lib.hid (own_kept C2.out g3 R.out.sco.symm)
  have m3 := Lib.hid (own_kept m2.out g3 R.out.smo.symm)
  have t3 := Lib.hid (own_kept t2.out g3 R.out.sot)
  have o3 := Lib.hid M3
  have b3 := box_kept g3 (by omega) no
  have z3 := g3.size
  have O3 := Lib.hid (O2.out.trans (Only.of_grown g3 R.out.o.at))
  clear M3 g3 C2 m2 o2 t2
  go_wp2_with fail
  refine (markIntS_any _ h.ts.length h.ts (k + (h.n : Int) * 3 + h.ms.length + h.os.length) lo _ _ t3.out (by omega) (by omega) (by omega)).mono ?_
  rintro e w4 ⟨rfl, M4, g4⟩
  have C4 := Lib.hid (own_kept C3.out g4 R.out.sct.symm)
  have m4 := Lib.hid (own_kept m3.out g4 R.out.smt.symm)
  have o4 := Lib.hid (own_kept o3.out g4 R.out.sot.symm)
  have t4 := Lib.hid M4
  have O4 := Lib.hid (O3.out.trans (Only.of_grown g4 R.out.t.at))
  clear M4 g4 C3 m3 o3 t3
  go_wp2
  go_ret
  have L : ∀ (j : Int) (n : Nat), (seqL j n).length = n := seqL_len
  refine ⟨ret_int (by unfold HD.bulk; omega), ⟨⟨C4.out, R.out.c.top⟩, ⟨?_, ?_⟩, ⟨?_, ?_⟩, ⟨?_, ?_⟩, R.out.scm, R.out.sco, R.out.sct, R.out.smo, R.out.smt, R.out.sot⟩, O4.out⟩
  · have := m4.out; simp only [HD.marked, L]; rw [show ((h.n * 3 : Nat) : Int) = (h.n : Int) * 3 by omega]; exact this
  · exact R.out.m.top
  · have := o4.out; simp only [HD.marked, L]; rw [show ((h.n * 3 : Nat) : Int) = (h.n : Int) * 3 by omega]; exact this
  · exact R.out.o.top
  · have := t4.out; simp only [HD.marked, L]; rw [show ((h.n * 3 : Nat) : Int) = (h.n : Int) * 3 by omega]; exact this
  · exact R.out.t.top

set_option maxRecDepth 100000 in
theorem heldHouse_any (vc vm vo vt : Value) (h : HD) (k : Int) (lo hi : Nat) (w : World) (hr : HouseO lo hi w vc vm vo vt (h.marked k)) (hB : HouseB h 1048576) (hk0 : 0 ≤ k) (hkb : k ≤ 100000000000) :
    Calls Try.prog 26 #[.agg #[vc, vm, vo, vt, .int .i64 h.sent, .int .i64 h.day], .int .i64 k] w fun e w' => e = .returned (.int .i64 (k + h.bulk)) ∧ Below w.heap.size w w' := by
  have L : ∀ (j : Int) (n : Nat), (seqL j n).length = n := seqL_len
  have hb1 := hB.n
  have hb2 := hB.ms
  have hb3 := hB.os
  have hb4 := hB.ts
  have rc : Recs 3 w vc h.n (seqL k (h.n * 3)) := hr.c.recs (by show h.n ≤ _; omega)
  have rm : Recs 1 w vm h.ms.length (seqL (k + (h.n : Int) * 3) h.ms.length) := by
    have := hr.m.own
    simp only [HD.marked, L] at this
    exact Recs.of_own this (by omega)
  have ro : Recs 1 w vo h.os.length (seqL (k + (h.n : Int) * 3 + h.ms.length) h.os.length) := by
    have := hr.o.own
    simp only [HD.marked, L] at this
    exact Recs.of_own this (by omega)
  have rt : Recs 1 w vt h.ts.length (seqL (k + (h.n : Int) * 3 + h.ms.length + h.os.length) h.ts.length) := by
    have := hr.t.own
    simp only [HD.marked, L] at this
    exact Recs.of_own this (by omega)
  clear hr L
  obtain ⟨adc, capc, rfl⟩ : ∃ ad cap, vc = .slice ad h.n cap := by obtain ⟨_, _, ad, cap, hh, _⟩ := rc; exact ⟨ad, cap, hh⟩
  obtain ⟨adm, capm, rfl⟩ : ∃ ad cap, vm = .slice ad h.ms.length cap := by obtain ⟨_, _, ad, cap, hh, _⟩ := rm; exact ⟨ad, cap, hh⟩
  obtain ⟨ado, capo, rfl⟩ : ∃ ad cap, vo = .slice ad h.os.length cap := by obtain ⟨_, _, ad, cap, hh, _⟩ := ro; exact ⟨ad, cap, hh⟩
  obtain ⟨adt, capt, rfl⟩ : ∃ ad cap, vt = .slice ad h.ts.length cap := by obtain ⟨_, _, ad, cap, hh, _⟩ := rt; exact ⟨ad, cap, hh⟩
  go_enter Try.func26, Try.ntmps26
  go_wp2_with fail
  refine (heldCopyS_any _ h.n k _ (rc.below (balloc (bref w) _)) (by omega) (by omega) (by omega)).mono ?_
  rintro e w1 ⟨rfl, q1⟩
  have c1 := below_cell q1
  have D1 := Lib.hid (bnext (balloc (bref w) _) q1)
  have ya1 : w.heap.size < w1.heap.size := by have h := q1.size; first | omega | (simp at h; omega)
  clear q1
  go_wp2_with fail
  refine (heldIntS_any _ h.ms.length (k + (h.n : Int) * 3) _ (rm.below D1.out) (by omega) (by omega) (by omega)).mono ?_
  rintro e w2 ⟨rfl, q2⟩
  have c2 := below_cell q2
  have D2 := Lib.hid (bnext D1.out q2)
  have ya2 : w.heap.size < w2.heap.size := by have h := q2.size; first | omega | (simp at h; omega)
  clear q2
  go_wp2_with fail
  refine (heldIntS_any _ h.os.length (k + (h.n : Int) * 3 + h.ms.length) _ (ro.below D2.out) (by omega) (by omega) (by omega)).mono ?_
  rintro e w3 ⟨rfl, q3⟩
  have c3 := below_cell q3
  have D3 := Lib.hid (bnext D2.out q3)
  have ya3 : w.heap.size < w3.heap.size := by have h := q3.size; first | omega | (simp at h; omega)
  clear q3
  go_wp2_with fail
  refine (heldIntS_any _ h.ts.length (k + (h.n : Int) * 3 + h.ms.length + h.os.length) _ (rt.below D3.out) (by omega) (by omega) (by omega)).mono ?_
  rintro e w4 ⟨rfl, q4⟩
  have c4 := below_cell q4
  have D4 := Lib.hid (bnext D3.out q4)
  have ya4 : w.heap.size < w4.heap.size := by have h := q4.size; first | omega | (simp at h; omega)
  clear q4
  go_wp2
  go_ret
  exact ⟨ret_int (by unfold HD.bulk; omega), D4.out⟩
end Go.Proofs.Ytfnlniknclkeaaa

/- The walks of the laws' helpers on slices of structs of 5 integers: Act. -/
namespace Go.Proofs.Ytfnlniknclkeaaa
open Go.ChangeShapes Go.WideShapes Go.ChangeAt Go.RowKit

theorem toActR_any (p0 p1 p2 p3 p4 : Int) (w : World) : Calls Try.prog 22 #[.agg #[.int .i64 p0, .int .i64 p1, .int .i64 p2, .int .i64 p3, .int .i64 p4]] w fun e w' =>
    e = .returned (.agg #[.int .i64 p0, .int .i64 p1, .int .i64 p2, .int .i64 p3, .int .i64 p4]) ∧ Below w.heap.size w w' := by
  go_enter Try.func22, Try.ntmps22
  go_wp2
  refine bodyPost_ret (v := .agg #[.int .i64 p0, .int .i64 p1, .int .i64 p2, .int .i64 p3, .int .i64 p4]) (by simp [results, Try.results22, go_sem]) rfl ⟨rfl, ?_⟩
  exact balloc (balloc (balloc (bref _) _) _) _

theorem infoAct' : (Try.prog.info? 52).map (fun i => (i.zero, i.size, i.bytes)) = some (some (.agg #[.int .i64 0, .int .i64 0, .int .i64 0, .int .i64 0, .int .i64 0]), 5, 40) := by kernel_rfl

theorem atAct {w : World} {ad : Option Addr} {n : Nat} {xs : List Int} (he : xs.length = n * 5)
    (hc : ∀ i, i < xs.length → ∃ b o, ad = some ⟨b, o, none⟩ ∧ w.cell? ⟨b, o + i, none⟩ = some (.int .i64 (nth xs i))) (k : Nat) (hk : k < n) :
    ∃ b o, ad = some ⟨b, o, none⟩ ∧ w.cell? ⟨b, o + k * 5, none⟩ = some (.int .i64 (nth xs (k * 5))) ∧ w.cell? ⟨b, o + k * 5 + 1, none⟩ = some (.int .i64 (nth xs (k * 5 + 1))) ∧ w.cell? ⟨b, o + k * 5 + 2, none⟩ = some (.int .i64 (nth xs (k * 5 + 2))) ∧ w.cell? ⟨b, o + k * 5 + 3, none⟩ = some (.int .i64 (nth xs (k * 5 + 3))) ∧ w.cell? ⟨b, o + k * 5 + 4, none⟩ = some (.int .i64 (nth xs (k * 5 + 4))) ∧ b < w.heap.size := by
  obtain ⟨b, o, rfl, h0⟩ := hc (k * 5) (by omega)
  obtain ⟨b1, o1, g1, h1⟩ := hc (k * 5 + 1) (by omega)
  simp only [Option.some.injEq, Addr.mk.injEq, and_true] at g1
  obtain ⟨rfl, rfl⟩ := g1
  obtain ⟨b2, o2, g2, h2⟩ := hc (k * 5 + 2) (by omega)
  simp only [Option.some.injEq, Addr.mk.injEq, and_true] at g2
  obtain ⟨rfl, rfl⟩ := g2
  obtain ⟨b3, o3, g3, h3⟩ := hc (k * 5 + 3) (by omega)
  simp only [Option.some.injEq, Addr.mk.injEq, and_true] at g3
  obtain ⟨rfl, rfl⟩ := g3
  obtain ⟨b4, o4, g4, h4⟩ := hc (k * 5 + 4) (by omega)
  simp only [Option.some.injEq, Addr.mk.injEq, and_true] at g4
  obtain ⟨rfl, rfl⟩ := g4
  exact ⟨b, o, rfl, h0, h1, h2, h3, h4, World.block_lt_of_cell? w _ h0⟩
theorem madeAct (n : Nat) : (madeCells #[Value.int .i64 0, Value.int .i64 0, Value.int .i64 0, Value.int .i64 0, Value.int .i64 0] (n * 5)).toList = List.replicate (n * 5) (Value.int .i64 0) := by
  apply List.ext_getElem?
  intro j
  by_cases hj : j < n * 5
  · have : j % 5 = 0 ∨ j % 5 = 1 ∨ j % 5 = 2 ∨ j % 5 = 3 ∨ j % 5 = 4 := by omega
    rcases this with h | h | h | h | h <;> simp [madeCells, hj, h]
  · simp [madeCells, hj]
theorem putAct (xs : List Int) (k n : Nat) (he : xs.length = n * 5) (h : k < n) :
    (((((((xs.take (k * 5)).map (Value.int .i64) ++ List.replicate (xs.length - k * 5) (Value.int .i64 0)).set (k * 5) (.int .i64 (nth xs (k * 5)))).set (k * 5 + 1) (.int .i64 (nth xs (k * 5 + 1)))).set (k * 5 + 2) (.int .i64 (nth xs (k * 5 + 2)))).set (k * 5 + 3) (.int .i64 (nth xs (k * 5 + 3)))).set (k * 5 + 4) (.int .i64 (nth xs (k * 5 + 4)))) =
      (xs.take ((k + 1) * 5)).map (Value.int .i64) ++ List.replicate (xs.length - (k + 1) * 5) (.int .i64 0) := by
  have e0 := put_nth xs (k * 5) (by omega)
  have e1 := put_nth xs (k * 5 + 1) (by omega)
  have e2 := put_nth xs (k * 5 + 2) (by omega)
  have e3 := put_nth xs (k * 5 + 3) (by omega)
  have e4 := put_nth xs (k * 5 + 4) (by omega)
  rw [e0, e1, e2, e3, e4]
  rw [show (k + 1) * 5 = k * 5 + 4 + 1 by omega]

end Go.Proofs.Ytfnlniknclkeaaa

/- The laws' marks, over what a call made. -/
namespace Go.Proofs.Ytfnlniknclkeaaa
open Go.ChangeShapes Go.WideShapes Go.ChangeAt Go.RowKit

theorem markIntS_o (v : Value) (n : Nat) (xs : List Int) (k : Int) (lo hi : Nat) (e : TypeId) (w : World) (h : RowO lo hi w e 1 v n xs) (hk0 : 0 ≤ k) (hkb : k ≤ 1000000000000) (hn : n ≤ 1000000000) :
    Calls Try.prog 60 #[v, .int .i64 k] w fun en w' => en = .returned (.int .i64 (k + (n : Int))) ∧ RowO lo hi w' e 1 v n (seqL k n) ∧ Only lo hi w w' :=
  (markIntS_any v n xs k lo e w h.own hk0 hkb hn).mono fun _ _ ⟨he, ho, hg⟩ => ⟨he, ⟨ho, h.top⟩, Only.of_grown hg h.at⟩
theorem heldIntS_o (v : Value) (n : Nat) (k : Int) (lo hi : Nat) (e : TypeId) (w : World) (h : RowO lo hi w e 1 v n (seqL k n)) (hk0 : 0 ≤ k) (hkb : k ≤ 1000000000000) (hn : n ≤ 1000000000) :
    Calls Try.prog 62 #[v, .int .i64 k] w fun en w' => en = .returned (.int .i64 (k + (n : Int))) ∧ Below w.heap.size w w' :=
  heldIntS_any v n k w (h.recs (by omega)) hk0 hkb hn

theorem markCopyS_o (v : Value) (n : Nat) (xs : List Int) (k : Int) (lo hi : Nat) (e : TypeId) (w : World) (h : RowO lo hi w e 3 v n xs) (hk0 : 0 ≤ k) (hkb : k ≤ 1000000000000) (hn : n ≤ 1000000000) :
    Calls Try.prog 59 #[v, .int .i64 k] w fun en w' => en = .returned (.int .i64 (k + (n : Int) * 3)) ∧ RowO lo hi w' e 3 v n (seqL k (n * 3)) ∧ Only lo hi w w' :=
  (markCopyS_any v n xs k lo e w h.own hk0 hkb hn).mono fun _ _ ⟨he, ho, hg⟩ => ⟨he, ⟨ho, h.top⟩, Only.of_grown hg h.at⟩
theorem heldCopyS_o (v : Value) (n : Nat) (k : Int) (lo hi : Nat) (e : TypeId) (w : World) (h : RowO lo hi w e 3 v n (seqL k (n * 3))) (hk0 : 0 ≤ k) (hkb : k ≤ 1000000000000) (hn : n ≤ 1000000000) :
    Calls Try.prog 61 #[v, .int .i64 k] w fun en w' => en = .returned (.int .i64 (k + (n : Int) * 3)) ∧ Below w.heap.size w w' :=
  heldCopyS_any v n k w (h.recs (by omega)) hk0 hkb hn
end Go.Proofs.Ytfnlniknclkeaaa
