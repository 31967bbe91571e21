/- The walks of the laws' helpers on slices of structs of 2 integers: Visit. -/
import Derived.Test.YtdchgbhhlocmdaaProg
import Derived.Test.YtdchgbhhlocmdaaOnly
import Derived.Deep.RegionHeld3
namespace Go.Proofs.Ytdchgbhhlocmdaa
open Go.ChangeShapes Go.WideShapes Go.ChangeAt Go.RowKit

theorem szVisitS_any (v : Value) (n : Nat) (xs : List Int) (left : Int) (w : World) (h : Recs 2 w v n xs) (h0 : 0 ≤ left) (h1 : left ≤ 1048576) :
    Calls Try.prog 12 #[v, .int .i64 left] w fun e w' => e = .returned (.int .i64 (if left < n then -1 else left - n)) ∧ w = w' := by
  obtain ⟨hl, he, ad, cap, rfl, hc⟩ := h
  clear hc he
  by_cases hlt : left < n
  all_goals
    go_enter Try.func12, Try.ntmps12
    go_wp2
    go_ret
    exact ⟨ret_int (by first | rfl | (split <;> omega)), rfl⟩

theorem toVisit_any (p0 p1 : Int) (w : World) : Calls Try.prog 62 #[.agg #[.int .i64 p0, .int .i64 p1]] w fun e w' =>
    e = .returned (.agg #[.int .i64 p0, .int .i64 p1]) ∧ Below w.heap.size w w' := by
  go_enter Try.func62, Try.ntmps62
  go_wp2
  refine bodyPost_ret (v := .agg #[.int .i64 p0, .int .i64 p1]) (by simp [results, Try.results62, go_sem]) rfl ⟨rfl, ?_⟩
  exact balloc (balloc (balloc (bref _) _) _) _

theorem eqVisit_any (p0 p1 q0 q1 : Int) (w : World) : Calls Try.prog 65 #[.agg #[.int .i64 p0, .int .i64 p1], .agg #[.int .i64 q0, .int .i64 q1]] w fun e w' =>
    e = .returned (.bool (p0 == q0 && (p1 == q1))) ∧ Below w.heap.size w w' := by
  cases h0 : (p0 == q0) with
  | false =>
    have g0 : (p0 != q0) = true := by simp [bne, h0]
    go_enter Try.func65, Try.ntmps65
    go_wp2
    go_ret
    exact ⟨rfl, balloc (balloc (bref _) _) _⟩
  | true =>
    have g0 : (p0 != q0) = false := by simp [bne, h0]
    cases h1 : (p1 == q1) with
    | false =>
      have g1 : (p1 != q1) = true := by simp [bne, h1]
      go_enter Try.func65, Try.ntmps65
      go_wp2
      go_ret
      exact ⟨rfl, balloc (balloc (bref _) _) _⟩
    | true =>
      have g1 : (p1 != q1) = false := by simp [bne, h1]
      go_enter Try.func65, Try.ntmps65
      go_wp2
      go_ret
      exact ⟨rfl, balloc (balloc (bref _) _) _⟩

theorem infoVisit' : (Try.prog.info? 41).map (fun i => (i.zero, i.size, i.bytes)) = some (some (.agg #[.int .i64 0, .int .i64 0]), 2, 16) := by kernel_rfl

theorem atVisit {w : World} {ad : Option Addr} {n : Nat} {xs : List Int} (he : xs.length = n * 2)
    (hc : ∀ i, i < xs.length → ∃ b o, ad = some ⟨b, o, none⟩ ∧ w.cell? ⟨b, o + i, none⟩ = some (.int .i64 (nth xs i))) (k : Nat) (hk : k < n) :
    ∃ b o, ad = some ⟨b, o, none⟩ ∧ w.cell? ⟨b, o + k * 2, none⟩ = some (.int .i64 (nth xs (k * 2))) ∧ w.cell? ⟨b, o + k * 2 + 1, none⟩ = some (.int .i64 (nth xs (k * 2 + 1))) ∧ b < w.heap.size := by
  obtain ⟨b, o, rfl, h0⟩ := hc (k * 2) (by omega)
  obtain ⟨b1, o1, g1, h1⟩ := hc (k * 2 + 1) (by omega)
  simp only [Option.some.injEq, Addr.mk.injEq, and_true] at g1
  obtain ⟨rfl, rfl⟩ := g1
  exact ⟨b, o, rfl, h0, h1, World.block_lt_of_cell? w _ h0⟩
theorem madeVisit (n : Nat) : (madeCells #[Value.int .i64 0, Value.int .i64 0] (n * 2)).toList = List.replicate (n * 2) (Value.int .i64 0) := by
  apply List.ext_getElem?
  intro j
  by_cases hj : j < n * 2
  · have : j % 2 = 0 ∨ j % 2 = 1 := by omega
    rcases this with h | h <;> simp [madeCells, hj, h]
  · simp [madeCells, hj]
theorem putVisit (xs : List Int) (k n : Nat) (he : xs.length = n * 2) (h : k < n) :
    ((((xs.take (k * 2)).map (Value.int .i64) ++ List.replicate (xs.length - k * 2) (Value.int .i64 0)).set (k * 2) (.int .i64 (nth xs (k * 2)))).set (k * 2 + 1) (.int .i64 (nth xs (k * 2 + 1)))) =
      (xs.take ((k + 1) * 2)).map (Value.int .i64) ++ List.replicate (xs.length - (k + 1) * 2) (.int .i64 0) := by
  have e0 := put_nth xs (k * 2) (by omega)
  have e1 := put_nth xs (k * 2 + 1) (by omega)
  rw [e0, e1]
  rw [show (k + 1) * 2 = k * 2 + 1 + 1 by omega]

theorem toVisitS_any (v : Value) (n : Nat) (xs : List Int) (w : World) (h : Recs 2 w v n xs) (h20 : n ≤ 1048576) :
    Calls Try.prog 14 #[v] w fun e w' => e = .returned (.slice (some ⟨w.heap.size, 0, none⟩) n n) ∧
      w'.ownsRow w.heap.size 41 2 (.slice (some ⟨w.heap.size, 0, none⟩) n n) n (xs.map (Value.int .i64)) ∧ Below w.heap.size w w' := by
  obtain ⟨i0, hi, hz0, hz1, hz2⟩ := info_parts infoVisit'
  obtain ⟨hl, he, ad, cap, rfl, hc⟩ := h
  have HE := Lib.hid he
  have hat := fun k hk => atVisit (w := w) he hc k hk
  clear hc he
  go_enter Try.func14, Try.ntmps14
  go_wp2_with (at_make; refine wpList_make_full _ rfl _ _ 26 rfl w.heap.size 41 i0 (.agg #[.int .i64 0, .int .i64 0]) 2 Try.underlying26 hi hz0 hz1 _ _ _ _ n rfl rfl rfl rfl ?c1 ?c2 ?c3 ?_)
  case c1 => rw [hz2]; omega
  case c2 => unfold maxLen; omega
  case c3 => exact Nat.le_refl _
  intro w1 hown hgrow
  have hbel : Below w.heap.size w w1 := (Below.refl _ _).grown hgrow (Nat.le_refl _) (fun _ h => by cases h)
  clear hgrow hi hz0 hz1 hz2
  rw [show (madeCells #[Value.int .i64 0, Value.int .i64 0] (n * 2)).toList = List.replicate (xs.length - 0) (Value.int .i64 0) from by rw [HE.out]; exact madeVisit n] at hown
  go_wp2
  go_loopw [4] (fun i wr => ∃ k : Nat, k ≤ n ∧ i = .int .i64 k ∧
      wr.ownsRow w.heap.size 41 2 (.slice (some ⟨w.heap.size, 0, none⟩) n n) n ((xs.take (k * 2)).map (Value.int .i64) ++ List.replicate (xs.length - k * 2) (.int .i64 0)) ∧ Below w.heap.size w wr) (fun i _ => n - (intOf i).toNat)
  case atStart => exact ⟨0, Nat.zero_le _, rfl, by simpa using hown, hbel⟩
  case round =>
    clear hown hbel
    obtain ⟨k, hk, rfl, hown, hbel⟩ := hrel
    by_cases hlt : k < n
    · obtain ⟨b, o, rfl, e0, e1, hb⟩ := hat k hlt
      clear hat
      rw [← hbel.cell (p := ⟨b, o + k * 2, none⟩) hb] at e0
      rw [← hbel.cell (p := ⟨b, o + k * 2 + 1, none⟩) hb] at e1
      go_wp2_with fail
      refine (toVisit_any _ _ _).mono ?_
      rintro e w2 ⟨rfl, hb2⟩
      have hown2 := own_below hown hb2
      have hbel2 := bnext hbel hb2
      clear hown hbel e0 e1
      obtain ⟨u0, r0⟩ := own_cell hown2 (k * 2) (by omega)
      have f0 := hown2.frozenAt (k * 2)
      obtain ⟨u1, r1⟩ := own_cell hown2 (k * 2 + 1) (by omega)
      have f1 := hown2.frozenAt (k * 2 + 1)
      have HS := Lib.hid ((hown2.stored (k * 2) (.int .i64 (nth xs (k * 2)))).1.stored (k * 2 + 1) (.int .i64 (nth xs (k * 2 + 1)))).1
      have HB := Lib.hid hbel2
      clear hown2 hbel2
      go_wp2
      go_roundw
      case rel =>
        refine ⟨k + 1, by omega, by go_num, ?_, (bset (bset HB.out (Nat.le_refl _) _) (Nat.le_refl _) _)⟩
        have h1 := HS.out
        rw [putVisit xs k n HE.out hlt] at h1
        exact h1
      case measure => simp [intOf]; omega
    · obtain rfl : k = n := by omega
      rw [show xs.take (k * 2) = xs from List.take_of_length_le (by rw [HE.out]; exact Nat.le_refl _), show xs.length - k * 2 = 0 by have := HE.out; omega, List.replicate_zero, List.append_nil] at hown
      have HO := Lib.hid hown
      clear hown hat
      go_wp2
      go_ret
      exact ⟨rfl, HO.out, hbel⟩

set_option maxHeartbeats 1000000 in
theorem eqVisitS_any (a b : Value) (n m : Nat) (xs ys : List Int) (w : World) (ha : Recs 2 w a n xs) (hb : Recs 2 w b m ys) :
    Calls Try.prog 17 #[a, b] w fun e w' => e = .returned (.bool (decide (xs = ys))) ∧ Below w.heap.size w w' := by
  obtain ⟨hl, he, ad, cap, rfl, hc⟩ := ha
  obtain ⟨hl', he', ad', cap', rfl, hc'⟩ := hb
  by_cases hn : n = m
  · subst hn
    have HE := Lib.hid he
    have HE' := Lib.hid he'
    have hat := fun k hk => atVisit (w := w) he hc k hk
    have hat' := fun k hk => atVisit (w := w) he' hc' k hk
    clear hc hc' he he'
    have hne : ((n : Int) != (n : Int)) = false := by simp
    go_enter Try.func17, Try.ntmps17
    go_wp2
    go_loopw [5] (fun i wr => ∃ k : Nat, k ≤ n ∧ i = .int .i64 k ∧ Hid (xs.take (k * 2) = ys.take (k * 2)) ∧ Below w.heap.size w wr) (fun i _ => n - (intOf i).toNat)
    case atStart => exact ⟨0, Nat.zero_le _, rfl, rfl, bref _⟩
    case round =>
      obtain ⟨k, hk, rfl, hx, hbel⟩ := hrel
      by_cases hlt : k < n
      · obtain ⟨b, o, rfl, e0, e1, hb⟩ := hat k hlt
        obtain ⟨b', o', rfl, g0, g1, hb'⟩ := hat' k hlt
        clear hat hat'
        have MK : Hid (∀ w', Below w.heap.size w w' → w'.cell? ⟨b, o + k * 2, none⟩ = some (.int .i64 (nth xs (k * 2))) ∧ w'.cell? ⟨b, o + k * 2 + 1, none⟩ = some (.int .i64 (nth xs (k * 2 + 1))) ∧ w'.cell? ⟨b', o' + k * 2, none⟩ = some (.int .i64 (nth ys (k * 2))) ∧ w'.cell? ⟨b', o' + k * 2 + 1, none⟩ = some (.int .i64 (nth ys (k * 2 + 1))) ∧ Below w.heap.size w w') :=
          fun w' h => ⟨(h.cell (p := ⟨b, o + k * 2, none⟩) hb).trans e0, (h.cell (p := ⟨b, o + k * 2 + 1, none⟩) hb).trans e1, (h.cell (p := ⟨b', o' + k * 2, none⟩) hb').trans g0, (h.cell (p := ⟨b', o' + k * 2 + 1, none⟩) hb').trans g1, h⟩
        clear e0 g0 e1 g1
        have i0 : (0 : Int) ≤ (k : Int) := by omega
        have i1 : (k : Int) < (n : Int) := by omega
        have HB := Lib.hid hbel
        cases hq : (nth xs (k * 2) == nth ys (k * 2) && (nth xs (k * 2 + 1) == nth ys (k * 2 + 1))) with
        | false =>
          have HX := Lib.hid (show xs ≠ ys from fun e => by rw [e] at hq; simp at hq)
          clear hbel
          go_wp2_with fail
          go_region_held3 (fun w' => w'.cell? ⟨b, o + k * 2, none⟩ = some (.int .i64 (nth xs (k * 2))) ∧ w'.cell? ⟨b, o + k * 2 + 1, none⟩ = some (.int .i64 (nth xs (k * 2 + 1))) ∧ w'.cell? ⟨b', o' + k * 2, none⟩ = some (.int .i64 (nth ys (k * 2))) ∧ w'.cell? ⟨b', o' + k * 2 + 1, none⟩ = some (.int .i64 (nth ys (k * 2 + 1))) ∧ Below w.heap.size w w')
            (first | exact MK.out _ (bdrew HB.out) | exact MK.out _ (bnext (bdrew HB.out) hb6) | (go_split_ands; exact MK.out _ (bnext (by assumption) hb6)))
            (first | (go_at_call 65; refine (eqVisit_any _ _ _ _ _).mono ?_; rintro e w6 ⟨rfl, hb6⟩))
          go_split_ands
          go_wp2
          go_ret
          exact ⟨ret_bool (by simp [HX.out]), by assumption⟩
        | true =>
          have HX := Lib.hid (show xs.take ((k + 1) * 2) = ys.take ((k + 1) * 2) from by
            simp only [Bool.and_eq_true, beq_iff_eq] at hq
            rw [show (k + 1) * 2 = k * 2 + 1 + 1 by omega, take_nth xs _ (by have := HE.out; omega), take_nth xs _ (by have := HE.out; omega),
              take_nth ys _ (by have := HE'.out; omega), take_nth ys _ (by have := HE'.out; omega), hx.out]
            show (_ ++ [nth xs (k * 2)]) ++ [nth xs (k * 2 + 1)] = (_ ++ [nth ys (k * 2)]) ++ [nth ys (k * 2 + 1)]
            rw [hq.1, hq.2])
          clear hbel
          go_wp2_with fail
          go_region_held3 (fun w' => w'.cell? ⟨b, o + k * 2, none⟩ = some (.int .i64 (nth xs (k * 2))) ∧ w'.cell? ⟨b, o + k * 2 + 1, none⟩ = some (.int .i64 (nth xs (k * 2 + 1))) ∧ w'.cell? ⟨b', o' + k * 2, none⟩ = some (.int .i64 (nth ys (k * 2))) ∧ w'.cell? ⟨b', o' + k * 2 + 1, none⟩ = some (.int .i64 (nth ys (k * 2 + 1))) ∧ Below w.heap.size w w')
            (first | exact MK.out _ (bdrew HB.out) | exact MK.out _ (bnext (bdrew HB.out) hb6) | (go_split_ands; exact MK.out _ (bnext (by assumption) hb6)))
            (first | (go_at_call 65; refine (eqVisit_any _ _ _ _ _).mono ?_; rintro e w6 ⟨rfl, hb6⟩))
          go_split_ands
          go_wp2
          go_roundw
          case rel => exact ⟨k + 1, by omega, by go_num, HX.out, by assumption⟩
          case measure => simp [intOf]; omega
      · have hall := hx.out
        rw [show k = n by omega, List.take_of_length_le (by rw [HE.out]; exact Nat.le_refl _), List.take_of_length_le (by rw [HE'.out]; exact Nat.le_refl _)] at hall
        have H := Lib.hid hall
        clear hall hat hat'
        go_wp2
        go_ret
        exact ⟨ret_bool (by simp [H.out]), hbel⟩
  · have hne : ((n : Int) != (m : Int)) = true := by rw [bne_iff_ne]; omega
    have hx : xs ≠ ys := fun e => hn (by rw [e] at he; omega)
    clear hc hc' he he'
    go_enter Try.func17, Try.ntmps17
    go_wp2
    go_ret
    exact ⟨ret_bool (by simp [hx]), bref _⟩

theorem markVisitS_any (v : Value) (n : Nat) (xs : List Int) (k0 : Int) (B : Nat) (T : TypeId) (w : World) (h : w.ownsRow B T 2 v n (xs.map (Value.int .i64))) (hk0 : 0 ≤ k0) (hkb : k0 ≤ 1000000000000) (hn : n ≤ 1000000000) :
    Calls Try.prog 18 #[v, .int .i64 k0] w fun e w' => e = .returned (.int .i64 (k0 + (n : Int) * 2)) ∧ w'.ownsRow B T 2 v n ((seqL k0 (n * 2)).map (Value.int .i64)) ∧ w.grownBy w' v.ownBlock := by
  have he : xs.length = (n * 2) := by have := h.1; simp at this; omega
  have HE := Lib.hid he
  clear he
  rcases id h.2 with ⟨rfl, rfl⟩ | ⟨g, cap, cur, rfl, _⟩
  · obtain rfl : xs = [] := List.eq_nil_of_length_eq_zero (by have := HE.out; omega)
    have HH := Lib.hid h
    clear h
    go_enter Try.func18, Try.ntmps18
    go_wp2_with fail
    go_loop [1, 5] (fun a i => a = .int .i64 k0 ∧ i = .int .i64 0) (fun _ _ => 0)
    case atStart => exact ⟨rfl, rfl⟩
    case round =>
      obtain ⟨rfl, rfl⟩ := hrel
      go_wp2
      go_ret
      exact ⟨ret_int (by simp), by simpa [seqL] using HH.out, only_refl _ _⟩
  · have HO := Lib.hid h
    clear h
    go_enter Try.func18, Try.ntmps18
    go_wp2_with fail
    go_loopw [1, 5] (fun a i wr => ∃ k : Nat, k ≤ n ∧ i = .int .i64 k ∧ a = .int .i64 (k0 + (((k * 2) : Nat) : Int)) ∧ wr.ownsRow B T 2 (.slice (some ⟨g, 0, none⟩) n cap) n ((seqL k0 (k * 2)).map (Value.int .i64) ++ (xs.drop (k * 2)).map (Value.int .i64)) ∧ w.grownBy wr (some g)) (fun _ i _ => n - (intOf i).toNat)
    case atStart => exact ⟨0, Nat.zero_le _, rfl, by simp, by simpa [seqL] using HO.out, only_refl _ _⟩
    case round =>
      obtain ⟨k, hk, rfl, rfl, hown, hg⟩ := hrel
      have HG := Lib.hid hg
      clear hg
      by_cases hlt : k < n
      · have i0 : (0 : Int) ≤ (k : Int) := by omega
        obtain ⟨u0, q0⟩ := own_cell hown (k * 2) (by omega)
        have f0 := hown.frozenAt (k * 2)
        obtain ⟨u1, q1⟩ := own_cell hown (k * 2 + 1) (by omega)
        have f1 := hown.frozenAt (k * 2 + 1)
        have HS := Lib.hid ((hown.stored (k * 2) (.int .i64 (k0 + ((k * 2 : Nat) : Int)))).1.stored (k * 2 + 1) (.int .i64 (k0 + ((k * 2 + 1 : Nat) : Int)))).1
        clear hown
        go_wp2
        go_roundw
        case rel =>
          refine ⟨k + 1, by omega, by go_num, by go_num, ?_, (only_set (only_set HG.out (k * 2) _) (k * 2 + 1) _)⟩
          have h1 := HS.out
          rw [mark_set xs k0 (k * 2) (by have := HE.out; omega), mark_set xs k0 (k * 2 + 1) (by have := HE.out; omega)] at h1
          rw [show (k + 1) * 2 = k * 2 + 2 by omega]
          rw [show k0 + ((k * 2 + 1 : Nat) : Int) = k0 + (k : Int) * 2 + 1 by omega, show k0 + ((k * 2 : Nat) : Int) = k0 + (k : Int) * 2 by omega] at h1
          exact h1
        case measure => simp [intOf]; omega
      · obtain rfl : k = n := by omega
        have H1 := Lib.hid hown
        clear hown
        go_wp2
        go_ret
        refine ⟨ret_int (by simp), ?_, HG.out⟩
        have h1 := H1.out
        rw [show xs.drop (k * 2) = [] from List.drop_eq_nil_of_le (by have := HE.out; omega), List.map_nil, List.append_nil] at h1
        exact h1
theorem markVisitS_o (v : Value) (n : Nat) (xs : List Int) (k : Int) (lo hi : Nat) (e : TypeId) (w : World) (h : RowO lo hi w e 2 v n xs) (hk0 : 0 ≤ k) (hkb : k ≤ 1000000000000) (hn : n ≤ 1000000000) :
    Calls Try.prog 18 #[v, .int .i64 k] w fun en w' => en = .returned (.int .i64 (k + (n : Int) * 2)) ∧ RowO lo hi w' e 2 v n (seqL k (n * 2)) ∧ Only lo hi w w' :=
  (markVisitS_any v n xs k lo e w h.own hk0 hkb hn).mono fun _ _ ⟨he, ho, hg⟩ => ⟨he, ⟨ho, h.top⟩, Only.of_grown hg h.at⟩
end Go.Proofs.Ytdchgbhhlocmdaa
