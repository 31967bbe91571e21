/- The walks of CountShort and IsLotGood, in the program and in the reference. -/
import Derived.Test.YtkdpfjaebhgnoaaLot
import Derived.Test.YtkdpfjaebhgnoaaPrice
import Derived.Test.YtkdpfjaebhgnoaaSum
import Derived.Test.YtkdpfjaebhgnoaaAfter
namespace Go.Proofs.Ytkdpfjaebhgnoaa
open Go.ChangeShapes Go.WideShapes Go.ChangeAt Go.RowKit

def shortAt (nm : Int) (xs : List Int) (t : Int) (k : Nat) : Int := if nth xs k < nm - t * shortLimit nm then 1 else 0
def countShort (nm : Int) (xs : List Int) (t : Int) : Int := if lotOk nm xs = true ∧ inB t 0 3 = true then sumTo (shortAt nm xs t) xs.length else -1
def lotGood (nm : Int) (xs : List Int) : Bool := lotOk nm xs && (decide (nm * xs.length ≤ sumI xs) && (decide (countShort nm xs 1 ≤ (xs.length : Int) / 10) && (countShort nm xs 2 == 0)))
theorem lotOk_in {nm : Int} {xs : List Int} (h : lotOk nm xs = true) : 10 ≤ nm ∧ nm ≤ 10000 ∧ 1 ≤ xs.length ∧ xs.length ≤ 30 ∧ ∀ k, k < xs.length → 0 ≤ nth xs k ∧ nth xs k ≤ 20000 := by
  simp only [lotOk, Bool.and_eq_true, List.all_eq_true] at h
  have h1 := inB_le h.1.1
  have h2 := inB_le h.1.2
  exact ⟨h1.1, h1.2, by omega, by omega, fun k hk => inB_le (h.2 _ (nth_mem xs k hk))⟩
theorem shortLimit_bd (nm : Int) : 0 ≤ shortLimit nm ∧ shortLimit nm ≤ 300 := by
  unfold shortLimit
  split
  · split
    · omega
    · split <;> omega
  · omega
theorem countShort_bd (nm : Int) (xs : List Int) (t : Int) (k : Nat) : 0 ≤ sumTo (shortAt nm xs t) k ∧ sumTo (shortAt nm xs t) k ≤ 1 * k :=
  sumTo_bd _ 1 k (fun j _ => by unfold shortAt; constructor <;> (split <;> omega)) k (Nat.le_refl _)
theorem countShort_bd' (nm : Int) (xs : List Int) (t : Int) : -1 ≤ countShort nm xs t ∧ countShort nm xs t ≤ 30 := by
  unfold countShort
  split
  · rename_i h
    have := lotOk_in h.1
    have := countShort_bd nm xs t xs.length
    omega
  · omega




theorem implCountShort (nm t : Int) (v : Value) (xs : List Int) (w : World) (h : Ints w v xs) : Calls Try.prog 38 #[.agg #[.int .i64 nm, v], .int .i64 t] w fun e w' =>
    e = .returned (.int .i64 (countShort nm xs t)) ∧ Below w.heap.size w w' := by
  have hv := h
  obtain ⟨hl, ad, cap, rfl, hc⟩ := h
  cases h1 : lotOk nm xs with
  | false =>
    have H := Lib.hid (show countShort nm xs t = -1 from if_neg (by simp [h1]))
    clear hc
    go_enter Try.func38, Try.ntmps38
    go_wp2_with fail
    refine (implLotOk_any _ _ xs _ (hv.alloc _)).mono ?_
    rintro e w1 ⟨rfl, hb1⟩
    rw [h1]
    go_wp2
    go_ret
    exact ⟨ret_int H.out.symm, bnext (balloc (bref _) _) hb1⟩
  | true =>
    cases h2 : inB t 0 3 with
    | false =>
      have H := Lib.hid (show countShort nm xs t = -1 from if_neg (by simp [h2]))
      clear hc
      go_enter Try.func38, Try.ntmps38
      go_wp2_with fail
      refine (implLotOk_any _ _ xs _ (hv.alloc _)).mono ?_
      rintro e w1 ⟨rfl, hb1⟩
      rw [h1]
      go_wp2_with (go_at_call 64; refine (in_any _ _ _ _).mono ?_; rintro e w' ⟨rfl, rfl⟩)
      go_ret
      exact ⟨ret_int H.out.symm, bnext (balloc (bref _) _) hb1⟩
    | true =>
      have H := Lib.hid (show countShort nm xs t = sumTo (shortAt nm xs t) xs.length from if_pos ⟨h1, h2⟩)
      obtain ⟨n1, n2, l1, l2, _⟩ := lotOk_in h1
      obtain ⟨t1, t2⟩ := inB_le h2
      obtain ⟨s1, s2⟩ := shortLimit_bd nm
      have hm := Int.mul_nonneg t1 s1
      have hm2 := Int.mul_le_mul t2 s2 s1 (by omega : (0 : Int) ≤ 3)
      go_enter Try.func38, Try.ntmps38
      go_wp2_with fail
      refine (implLotOk_any _ _ xs _ (hv.alloc _)).mono ?_
      rintro e w1 ⟨rfl, hb1⟩
      rw [h1]
      have D1 := bnext (balloc (bref w) _) hb1
      have e0 : w1.cell? ⟨w.heap.size, 0, none⟩ = some (.int .i64 nm) := by rw [hb1.cell (p := ⟨w.heap.size, 0, none⟩) (by simp)]; simp
      have e1 : w1.cell? ⟨w.heap.size, 1, none⟩ = some (.slice ad xs.length cap) := by rw [hb1.cell (p := ⟨w.heap.size, 1, none⟩) (by simp)]; simp
      have hC : ∀ i, i < xs.length → ∃ b o, ad = some ⟨b, o, none⟩ ∧ w1.cell? ⟨b, o + i, none⟩ = some (.int .i64 (nth xs i)) := fun i hi => by
        obtain ⟨b, o, ha, hcell⟩ := hc i hi
        exact ⟨b, o, ha, ((bnext (balloc (bref w) _) hb1).cell (p := ⟨b, o + i, none⟩) (World.block_lt_of_cell? w _ hcell)).trans hcell⟩
      have HD := Lib.hid D1
      clear hc hb1 D1
      go_wp2_with (go_at_call 64; refine (in_any _ _ _ _).mono ?_; rintro e w' ⟨rfl, rfl⟩)
      go_loopw [5, 19] (fun s i wr => ∃ k : Nat, k ≤ xs.length ∧ i = .int .i64 k ∧ s = .int .i64 (sumTo (shortAt nm xs t) k) ∧ Below w1.heap.size w1 wr) (fun _ i _ => xs.length - (intOf i).toNat)
      case atStart => exact ⟨0, Nat.zero_le _, rfl, rfl, bref _⟩
      case round =>
        obtain ⟨k, hk, rfl, rfl, hbel⟩ := hrel
        have g0 := (hbel.cell (p := ⟨w.heap.size, 0, none⟩) (World.block_lt_of_cell? w1 _ e0)).trans e0
        have g1 := (hbel.cell (p := ⟨w.heap.size, 1, none⟩) (World.block_lt_of_cell? w1 _ e1)).trans e1
        clear e0 e1
        by_cases hlt : k < xs.length
        · obtain ⟨b, o, rfl, hcell⟩ := hC k hlt
          have m0 := (hbel.cell (p := ⟨b, o + k, none⟩) (World.block_lt_of_cell? w1 _ hcell)).trans hcell
          clear hC hcell
          have hu0 := fun u : After wr => u.cell g0
          have hu1 := fun u : After wr => u.cell g1
          have hu2 := fun u : After wr => u.cell m0
          obtain ⟨c1, c2⟩ := countShort_bd nm xs t k
          have HB := Lib.hid hbel
          clear hbel
          have i0 : (0 : Int) ≤ (k : Int) := by omega
          have i1 : (k : Int) < (xs.length : Int) := by omega
          by_cases hs : nth xs k < nm - t * shortLimit nm
          · have HS := Lib.hid (show sumTo (shortAt nm xs t) (k + 1) = sumTo (shortAt nm xs t) k + 1 by show _ + shortAt nm xs t k = _; unfold shortAt; rw [if_pos hs])
            have hs' : decide (nth xs k < nm - t * shortLimit nm) = true := by simpa using hs
            go_wp2_with fail
            refine wp_region_after (by kernel_rfl) (by kernel_rfl) ?_
            repeat (go_big_quiet_step ((go_at_call 55; exact after_same (implShortLimit _ _))))
            refine wpQuiet_nil ?_
            rintro _ ⟨uq, rfl⟩
            go_wp2
            go_roundw
            case rel => exact ⟨k + 1, by omega, by go_num, by rw [HS.out], bnext HB.out uq.b⟩
            case measure => simp [intOf]; omega
          · have HS := Lib.hid (show sumTo (shortAt nm xs t) (k + 1) = sumTo (shortAt nm xs t) k by show _ + shortAt nm xs t k = _; unfold shortAt; rw [if_neg hs]; omega)
            have hs' : decide (nth xs k < nm - t * shortLimit nm) = false := by simpa using hs
            go_wp2_with fail
            refine wp_region_after (by kernel_rfl) (by kernel_rfl) ?_
            repeat (go_big_quiet_step ((go_at_call 55; exact after_same (implShortLimit _ _))))
            refine wpQuiet_nil ?_
            rintro _ ⟨uq, rfl⟩
            go_wp2
            go_roundw
            case rel => exact ⟨k + 1, by omega, by go_num, by rw [HS.out], bnext HB.out uq.b⟩
            case measure => simp [intOf]; omega
        · obtain rfl : k = xs.length := by omega
          have HB := Lib.hid hbel
          clear hC hbel
          go_wp2
          go_ret
          exact ⟨ret_int H.out.symm, bnext HD.out HB.out⟩

theorem specCountShort (nm t : Int) (v : Value) (xs : List Int) (w : World) (h : Ints w v xs) : Calls Try.prog 36 #[.agg #[.int .i64 nm, v], .int .i64 t] w fun e w' =>
    e = .returned (.int .i64 (countShort nm xs t)) ∧ Below w.heap.size w w' := by
  have hv := h
  obtain ⟨hl, ad, cap, rfl, hc⟩ := h
  cases h1 : lotOk nm xs with
  | false =>
    have H := Lib.hid (show countShort nm xs t = -1 from if_neg (by simp [h1]))
    clear hc
    go_enter Try.func36, Try.ntmps36
    go_wp2_with fail
    refine (specLotOk_any _ _ xs _ (hv.alloc _)).mono ?_
    rintro e w1 ⟨rfl, hb1⟩
    rw [h1]
    go_wp2
    go_ret
    exact ⟨ret_int H.out.symm, bnext (balloc (bref _) _) hb1⟩
  | true =>
    cases h2 : inB t 0 3 with
    | false =>
      have H := Lib.hid (show countShort nm xs t = -1 from if_neg (by simp [h2]))
      clear hc
      go_enter Try.func36, Try.ntmps36
      go_wp2_with fail
      refine (specLotOk_any _ _ xs _ (hv.alloc _)).mono ?_
      rintro e w1 ⟨rfl, hb1⟩
      rw [h1]
      go_wp2_with (go_at_call 60; refine (l01In_any _ _ _ _).mono ?_; rintro e w' ⟨rfl, rfl⟩)
      go_ret
      exact ⟨ret_int H.out.symm, bnext (balloc (bref _) _) hb1⟩
    | true =>
      have H := Lib.hid (show countShort nm xs t = sumTo (shortAt nm xs t) xs.length from if_pos ⟨h1, h2⟩)
      obtain ⟨n1, n2, l1, l2, _⟩ := lotOk_in h1
      obtain ⟨t1, t2⟩ := inB_le h2
      obtain ⟨s1, s2⟩ := shortLimit_bd nm
      have hm := Int.mul_nonneg t1 s1
      have hm2 := Int.mul_le_mul t2 s2 s1 (by omega : (0 : Int) ≤ 3)
      go_enter Try.func36, Try.ntmps36
      go_wp2_with fail
      refine (specLotOk_any _ _ xs _ (hv.alloc _)).mono ?_
      rintro e w1 ⟨rfl, hb1⟩
      rw [h1]
      have D1 := bnext (balloc (bref w) _) hb1
      have e0 : w1.cell? ⟨w.heap.size, 0, none⟩ = some (.int .i64 nm) := by rw [hb1.cell (p := ⟨w.heap.size, 0, none⟩) (by simp)]; simp
      have e1 : w1.cell? ⟨w.heap.size, 1, none⟩ = some (.slice ad xs.length cap) := by rw [hb1.cell (p := ⟨w.heap.size, 1, none⟩) (by simp)]; simp
      have hC : ∀ i, i < xs.length → ∃ b o, ad = some ⟨b, o, none⟩ ∧ w1.cell? ⟨b, o + i, none⟩ = some (.int .i64 (nth xs i)) := fun i hi => by
        obtain ⟨b, o, ha, hcell⟩ := hc i hi
        exact ⟨b, o, ha, ((bnext (balloc (bref w) _) hb1).cell (p := ⟨b, o + i, none⟩) (World.block_lt_of_cell? w _ hcell)).trans hcell⟩
      have HD := Lib.hid D1
      clear hc hb1 D1
      go_wp2_with (go_at_call 60; refine (l01In_any _ _ _ _).mono ?_; rintro e w' ⟨rfl, rfl⟩)
      go_loopw [5, 6] (fun s i wr => ∃ k : Nat, k ≤ xs.length ∧ i = .int .i64 k ∧ s = .int .i64 (sumTo (shortAt nm xs t) k) ∧ Below w1.heap.size w1 wr) (fun _ i _ => xs.length - (intOf i).toNat)
      case atStart => exact ⟨0, Nat.zero_le _, rfl, rfl, bref _⟩
      case round =>
        obtain ⟨k, hk, rfl, rfl, hbel⟩ := hrel
        have g0 := (hbel.cell (p := ⟨w.heap.size, 0, none⟩) (World.block_lt_of_cell? w1 _ e0)).trans e0
        have g1 := (hbel.cell (p := ⟨w.heap.size, 1, none⟩) (World.block_lt_of_cell? w1 _ e1)).trans e1
        clear e0 e1
        by_cases hlt : k < xs.length
        · obtain ⟨b, o, rfl, hcell⟩ := hC k hlt
          have m0 := (hbel.cell (p := ⟨b, o + k, none⟩) (World.block_lt_of_cell? w1 _ hcell)).trans hcell
          clear hC hcell
          have hu0 := fun u : After wr => u.cell g0
          have hu1 := fun u : After wr => u.cell g1
          have hu2 := fun u : After wr => u.cell m0
          obtain ⟨c1, c2⟩ := countShort_bd nm xs t k
          have HB := Lib.hid hbel
          clear hbel
          have i0 : (0 : Int) ≤ (k : Int) := by omega
          have i1 : (k : Int) < (xs.length : Int) := by omega
          by_cases hs : nth xs k < nm - t * shortLimit nm
          · have HS := Lib.hid (show sumTo (shortAt nm xs t) (k + 1) = sumTo (shortAt nm xs t) k + 1 by show _ + shortAt nm xs t k = _; unfold shortAt; rw [if_pos hs])
            have hs' : decide (nth xs k < nm - t * shortLimit nm) = true := by simpa using hs
            go_wp2_with fail
            refine wp_region_after (by kernel_rfl) (by kernel_rfl) ?_
            repeat (go_big_quiet_step ((go_at_call 74; exact after_same (specShortLimit _ _))))
            refine wpQuiet_nil ?_
            rintro _ ⟨uq, rfl⟩
            go_wp2
            go_roundw
            case rel => exact ⟨k + 1, by omega, by go_num, by rw [HS.out], bnext HB.out uq.b⟩
            case measure => simp [intOf]; omega
          · have HS := Lib.hid (show sumTo (shortAt nm xs t) (k + 1) = sumTo (shortAt nm xs t) k by show _ + shortAt nm xs t k = _; unfold shortAt; rw [if_neg hs]; omega)
            have hs' : decide (nth xs k < nm - t * shortLimit nm) = false := by simpa using hs
            go_wp2_with fail
            refine wp_region_after (by kernel_rfl) (by kernel_rfl) ?_
            repeat (go_big_quiet_step ((go_at_call 74; exact after_same (specShortLimit _ _))))
            refine wpQuiet_nil ?_
            rintro _ ⟨uq, rfl⟩
            go_wp2
            go_roundw
            case rel => exact ⟨k + 1, by omega, by go_num, by rw [HS.out], bnext HB.out uq.b⟩
            case measure => simp [intOf]; omega
        · obtain rfl : k = xs.length := by omega
          have HB := Lib.hid hbel
          clear hC hbel
          go_wp2
          go_ret
          exact ⟨ret_int H.out.symm, bnext HD.out HB.out⟩


theorem implIsLotGood (nm : Int) (v : Value) (xs : List Int) (w : World) (h : Ints w v xs) : Calls Try.prog 51 #[.agg #[.int .i64 nm, v]] w fun e w' =>
    e = .returned (.bool (lotGood nm xs)) ∧ Below w.heap.size w w' := by
  have hv := h
  obtain ⟨hl, ad, cap, rfl, hc⟩ := h
  clear hc
  have hu0 := fun u : After (w.alloc (.cells #[.int .i64 nm, .slice ad xs.length cap] 47)) => u.cell (b := w.heap.size) (o := 0) (x := .int .i64 nm) (by simp)
  have hu1 := fun u : After (w.alloc (.cells #[.int .i64 nm, .slice ad xs.length cap] 47)) => u.cell (b := w.heap.size) (o := 1) (x := .slice ad xs.length cap) (by simp)
  obtain ⟨c1, c1'⟩ := countShort_bd' nm xs 1
  obtain ⟨c2, c2'⟩ := countShort_bd' nm xs 2
  cases h1 : lotOk nm xs with
  | false =>
    have HG := Lib.hid (show lotGood nm xs = false by simp [lotGood, h1])
    have HB : Hid (∀ k, k < xs.length → 0 ≤ nth xs k ∧ nth xs k ≤ 100000) ∨ True := .inr trivial
    clear HB
    go_enter Try.func51, Try.ntmps51
    go_wp2_with fail
    refine wp_region_after (by kernel_rfl) (by kernel_rfl) ?_
    repeat (go_big_quiet_step ((go_at_call 75; have hr := implLotOk_any nm (.slice ad xs.length cap) xs; rw [h1] at hr; exact after_call (hr _ ((hv.alloc _).below (After.b _))))))
    refine wpQuiet_nil ?_
    rintro _ ⟨uq, rfl⟩
    go_wp2
    go_ret
    exact ⟨ret_bool HG.out.symm, bnext (balloc (bref _) _) uq.b⟩
  | true =>
    obtain ⟨n1, n2, l1, l2, hx⟩ := lotOk_in h1
    have hb : ∀ k, k < xs.length → 0 ≤ nth xs k ∧ nth xs k ≤ 100000 := fun k hk => by have := hx k hk; omega
    have HB := Lib.hid hb
    clear hb hx
    have hl2 : (xs.length : Int) ≤ 30 := by omega
    have hm := Int.mul_nonneg (show 0 ≤ nm by omega) (show (0 : Int) ≤ (xs.length : Int) by omega)
    have hm2 := Int.mul_le_mul n2 hl2 (by omega) (by omega : (0 : Int) ≤ 10000)
    have HLO : Hid (∀ w, Ints w (.slice ad xs.length cap) xs → Calls Try.prog 75 #[.agg #[.int .i64 nm, .slice ad xs.length cap]] w fun e w' => e = .returned (.bool true) ∧ Below w.heap.size w w') := fun w' hi => by
      have := implLotOk_any nm (.slice ad xs.length cap) xs w' hi
      rwa [h1] at this
    cases h2 : decide (nm * (xs.length : Int) ≤ sumI xs) with
    | false =>
      have HG := Lib.hid (show lotGood nm xs = false by simp only [lotGood, h1, h2]; rfl)
      go_enter Try.func51, Try.ntmps51
      go_wp2_with fail
      refine wp_region_after (by kernel_rfl) (by kernel_rfl) ?_
      repeat (go_big_quiet_step ((first | (go_at_call 75; exact after_call (HLO.out _ ((hv.alloc _).below (After.b _)))) | (go_at_call 71; exact after_same (sumOf_any _ xs _ ((hv.alloc _).below (After.b _)) HB.out (by omega))) | (go_at_call 38; exact after_call (implCountShort _ _ _ xs _ ((hv.alloc _).below (After.b _)))))))
      refine wpQuiet_nil ?_
      rintro _ ⟨uq, rfl⟩
      go_wp2
      go_ret
      exact ⟨ret_bool HG.out.symm, bnext (balloc (bref _) _) uq.b⟩
    | true =>
      cases h3 : decide (countShort nm xs 1 ≤ (xs.length : Int) / 10) with
      | false =>
        have HG := Lib.hid (show lotGood nm xs = false by simp only [lotGood, h1, h2, h3]; rfl)
        go_enter Try.func51, Try.ntmps51
        go_wp2_with fail
        refine wp_region_after (by kernel_rfl) (by kernel_rfl) ?_
        repeat (go_big_quiet_step ((first | (go_at_call 75; exact after_call (HLO.out _ ((hv.alloc _).below (After.b _)))) | (go_at_call 71; exact after_same (sumOf_any _ xs _ ((hv.alloc _).below (After.b _)) HB.out (by omega))) | (go_at_call 38; exact after_call (implCountShort _ _ _ xs _ ((hv.alloc _).below (After.b _)))))))
        refine wpQuiet_nil ?_
        rintro _ ⟨uq, rfl⟩
        go_wp2
        go_ret
        exact ⟨ret_bool HG.out.symm, bnext (balloc (bref _) _) uq.b⟩
      | true =>
        have HG := Lib.hid (show lotGood nm xs = (countShort nm xs 2 == 0) by simp only [lotGood, h1, h2, h3]; simp)
        go_enter Try.func51, Try.ntmps51
        go_wp2_with fail
        refine wp_region_after (by kernel_rfl) (by kernel_rfl) ?_
        repeat (go_big_quiet_step ((first | (go_at_call 75; exact after_call (HLO.out _ ((hv.alloc _).below (After.b _)))) | (go_at_call 71; exact after_same (sumOf_any _ xs _ ((hv.alloc _).below (After.b _)) HB.out (by omega))) | (go_at_call 38; exact after_call (implCountShort _ _ _ xs _ ((hv.alloc _).below (After.b _)))))))
        refine wpQuiet_nil ?_
        rintro _ ⟨uq, rfl⟩
        go_wp2
        go_ret
        exact ⟨ret_bool HG.out.symm, bnext (balloc (bref _) _) uq.b⟩

theorem specIsLotGood (nm : Int) (v : Value) (xs : List Int) (w : World) (h : Ints w v xs) : Calls Try.prog 50 #[.agg #[.int .i64 nm, v]] w fun e w' =>
    e = .returned (.bool (lotGood nm xs)) ∧ Below w.heap.size w w' := by
  have hv := h
  obtain ⟨hl, ad, cap, rfl, hc⟩ := h
  clear hc
  have hu0 := fun u : After (w.alloc (.cells #[.int .i64 nm, .slice ad xs.length cap] 47)) => u.cell (b := w.heap.size) (o := 0) (x := .int .i64 nm) (by simp)
  have hu1 := fun u : After (w.alloc (.cells #[.int .i64 nm, .slice ad xs.length cap] 47)) => u.cell (b := w.heap.size) (o := 1) (x := .slice ad xs.length cap) (by simp)
  obtain ⟨c1, c1'⟩ := countShort_bd' nm xs 1
  obtain ⟨c2, c2'⟩ := countShort_bd' nm xs 2
  cases h1 : lotOk nm xs with
  | false =>
    have HG := Lib.hid (show lotGood nm xs = false by simp [lotGood, h1])
    have HB : Hid (∀ k, k < xs.length → 0 ≤ nth xs k ∧ nth xs k ≤ 100000) ∨ True := .inr trivial
    clear HB
    go_enter Try.func50, Try.ntmps50
    go_wp2_with fail
    refine wp_region_after (by kernel_rfl) (by kernel_rfl) ?_
    repeat (go_big_quiet_step ((go_at_call 73; have hr := specLotOk_any nm (.slice ad xs.length cap) xs; rw [h1] at hr; exact after_call (hr _ ((hv.alloc _).below (After.b _))))))
    refine wpQuiet_nil ?_
    rintro _ ⟨uq, rfl⟩
    go_wp2
    go_ret
    exact ⟨ret_bool HG.out.symm, bnext (balloc (bref _) _) uq.b⟩
  | true =>
    obtain ⟨n1, n2, l1, l2, hx⟩ := lotOk_in h1
    have hb : ∀ k, k < xs.length → 0 ≤ nth xs k ∧ nth xs k ≤ 100000 := fun k hk => by have := hx k hk; omega
    have HB := Lib.hid hb
    clear hb hx
    have hl2 : (xs.length : Int) ≤ 30 := by omega
    have hm := Int.mul_nonneg (show 0 ≤ nm by omega) (show (0 : Int) ≤ (xs.length : Int) by omega)
    have hm2 := Int.mul_le_mul n2 hl2 (by omega) (by omega : (0 : Int) ≤ 10000)
    have HLO : Hid (∀ w, Ints w (.slice ad xs.length cap) xs → Calls Try.prog 73 #[.agg #[.int .i64 nm, .slice ad xs.length cap]] w fun e w' => e = .returned (.bool true) ∧ Below w.heap.size w w') := fun w' hi => by
      have := specLotOk_any nm (.slice ad xs.length cap) xs w' hi
      rwa [h1] at this
    cases h2 : decide (nm * (xs.length : Int) ≤ sumI xs) with
    | false =>
      have HG := Lib.hid (show lotGood nm xs = false by simp only [lotGood, h1, h2]; rfl)
      go_enter Try.func50, Try.ntmps50
      go_wp2_with fail
      refine wp_region_after (by kernel_rfl) (by kernel_rfl) ?_
      repeat (go_big_quiet_step ((first | (go_at_call 73; exact after_call (HLO.out _ ((hv.alloc _).below (After.b _)))) | (go_at_call 70; exact after_same (l34Sum_any _ xs _ ((hv.alloc _).below (After.b _)) HB.out (by omega))) | (go_at_call 36; exact after_call (specCountShort _ _ _ xs _ ((hv.alloc _).below (After.b _)))))))
      refine wpQuiet_nil ?_
      rintro _ ⟨uq, rfl⟩
      go_wp2
      go_ret
      exact ⟨ret_bool HG.out.symm, bnext (balloc (bref _) _) uq.b⟩
    | true =>
      cases h3 : decide (countShort nm xs 1 ≤ (xs.length : Int) / 10) with
      | false =>
        have HG := Lib.hid (show lotGood nm xs = false by simp only [lotGood, h1, h2, h3]; rfl)
        go_enter Try.func50, Try.ntmps50
        go_wp2_with fail
        refine wp_region_after (by kernel_rfl) (by kernel_rfl) ?_
        repeat (go_big_quiet_step ((first | (go_at_call 73; exact after_call (HLO.out _ ((hv.alloc _).below (After.b _)))) | (go_at_call 70; exact after_same (l34Sum_any _ xs _ ((hv.alloc _).below (After.b _)) HB.out (by omega))) | (go_at_call 36; exact after_call (specCountShort _ _ _ xs _ ((hv.alloc _).below (After.b _)))))))
        refine wpQuiet_nil ?_
        rintro _ ⟨uq, rfl⟩
        go_wp2
        go_ret
        exact ⟨ret_bool HG.out.symm, bnext (balloc (bref _) _) uq.b⟩
      | true =>
        have HG := Lib.hid (show lotGood nm xs = (countShort nm xs 2 == 0) by simp only [lotGood, h1, h2, h3]; simp)
        go_enter Try.func50, Try.ntmps50
        go_wp2_with fail
        refine wp_region_after (by kernel_rfl) (by kernel_rfl) ?_
        repeat (go_big_quiet_step ((first | (go_at_call 73; exact after_call (HLO.out _ ((hv.alloc _).below (After.b _)))) | (go_at_call 70; exact after_same (l34Sum_any _ xs _ ((hv.alloc _).below (After.b _)) HB.out (by omega))) | (go_at_call 36; exact after_call (specCountShort _ _ _ xs _ ((hv.alloc _).below (After.b _)))))))
        refine wpQuiet_nil ?_
        rintro _ ⟨uq, rfl⟩
        go_wp2
        go_ret
        exact ⟨ret_bool HG.out.symm, bnext (balloc (bref _) _) uq.b⟩

end Go.Proofs.Ytkdpfjaebhgnoaa
