/- The walks of AffectedBy, in the program and in the reference. -/
import Derived.Test.YtlipfkalehikkaaGA
import Derived.Test.YtlipfkalehikkaaGF
import Derived.Test.YtlipfkalehikkaaGB
namespace Go.Proofs.Ytlipfkalehikkaa
open Go.ChangeShapes Go.WideShapes Go.ChangeAt Go.RowKit

set_option maxRecDepth 100000 in
theorem implAffectedBy (v : Value) (n : Nat) (xs : List Int) (u : Value) (ms : List Int) (bad since : Int) (w : World) (h : Recs 3 w v n xs) (hm : Ints w u ms) :
    Calls Try.prog 10 #[v, u, .int .i64 bad, .int .i64 since] w (GivesN w (affected n xs ms bad since)) := by
  obtain ⟨i0, hi, hz0, hz1, hz2⟩ := info_parts Try.infoInt
  have hv := h
  have hln := h.len
  obtain ⟨hl, he, ad, cap, rfl, hc⟩ := h
  have hat := fun k hk => at3 (w := w) he hc k hk
  clear hc he
  cases h1 : daysOk n xs ms with
  | false =>
    have H := Lib.hid (affected_1 (bad := bad) (since := since) h1)
    clear hat
    go_enter Try.func10, Try.ntmps10
    go_wp2_with fail
    refine (implDaysOk _ n xs _ ms _ hv hm).mono ?_
    rintro e w1 ⟨rfl, hb1⟩
    rw [h1]
    have HB1 := Lib.hid hb1
    clear hb1
    go_wp2_with (go_at_call 38; refine (in_any _ _ _ _).mono ?_; rintro e w' ⟨rfl, rfl⟩)
    go_ret
    rw [H.out]
    exact ⟨_, rfl, World.ownsRow_nil _ _ _ _, by simp, HB1.out⟩
  | true =>
    have hch := (daysOk_chain h1).1
    have hlm := (daysOk_chain h1).2
    have hn12 := (chainOk_n hch).2
    cases h2 : inB bad 0 ((n : Int) - 1) with
    | false =>
      have H := Lib.hid (affected_2 (xs := xs) (ms := ms) (since := since) h2)
      clear hat hlm
      go_enter Try.func10, Try.ntmps10
      go_wp2_with fail
      refine (implDaysOk _ n xs _ ms _ hv hm).mono ?_
      rintro e w1 ⟨rfl, hb1⟩
      rw [h1]
      have HB1 := Lib.hid hb1
      clear hb1
      go_wp2_with (go_at_call 38; refine (in_any _ _ _ _).mono ?_; rintro e w' ⟨rfl, rfl⟩)
      go_ret
      rw [H.out]
      exact ⟨_, rfl, World.ownsRow_nil _ _ _ _, by simp, HB1.out⟩
    | true =>
      cases h3 : inB since 0 10000 with
      | false =>
        have H := Lib.hid (affected_3 (n := n) (xs := xs) (ms := ms) (bad := bad) h3)
        clear hat hlm
        go_enter Try.func10, Try.ntmps10
        go_wp2_with fail
        refine (implDaysOk _ n xs _ ms _ hv hm).mono ?_
        rintro e w1 ⟨rfl, hb1⟩
        rw [h1]
        have HB1 := Lib.hid hb1
        clear hb1
        go_wp2_with (go_at_call 38; refine (in_any _ _ _ _).mono ?_; rintro e w' ⟨rfl, rfl⟩)
        go_ret
        rw [H.out]
        exact ⟨_, rfl, World.ownsRow_nil _ _ _ _, by simp, HB1.out⟩
      | true =>
        have H0 := Lib.hid (affected_t h1 h2 h3)
        obtain ⟨_, adm, capm, rfl, hcm⟩ := id hm
        have HLM := Lib.hid hlm
        clear hlm
        go_enter Try.func10, Try.ntmps10
        go_wp2_with fail
        refine (implDaysOk _ n xs _ ms _ hv hm).mono ?_
        rintro e w1 ⟨rfl, hb1⟩
        rw [h1]
        have HB1 := Lib.hid hb1
        clear hb1
        go_wp2_with (go_at_call 38; refine (in_any _ _ _ _).mono ?_; rintro e w' ⟨rfl, rfl⟩)
        go_loopw [9, 31] (fun v i wr => ∃ k : Nat, k ≤ n ∧ i = .int .i64 k ∧ wr.ownsRow w.heap.size 3 1 v (affTo xs ms bad since k).length ((affTo xs ms bad since k).map (Value.int .i64)) ∧ (v = .slice none 0 0 ↔ affTo xs ms bad since k = []) ∧ Below w.heap.size w wr) (fun _ i _ => n - (intOf i).toNat)
        case atStart => exact ⟨0, Nat.zero_le _, rfl, World.ownsRow_nil _ _ _ _, by simp [affTo], HB1.out⟩
        case round =>
          obtain ⟨k, hk, rfl, hown, hnl, hbel⟩ := hrel
          have HNL := Lib.hid hnl
          clear hnl
          have hlk := affTo_len xs ms bad since k
          by_cases hlt : k < n
          · obtain ⟨b, o, rfl, e0, e1, e2, hb⟩ := hat k hlt
            obtain ⟨b', o', rfl, m0⟩ := hcm k (by have := HLM.out; omega)
            have g0 := (hbel.cell (p := ⟨b, o + k * 3, none⟩) hb).trans e0
            have g1 := (hbel.cell (p := ⟨b, o + k * 3 + 1, none⟩) hb).trans e1
            have g2 := (hbel.cell (p := ⟨b, o + k * 3 + 2, none⟩) hb).trans e2
            have q0 := (hbel.cell (p := ⟨b', o' + k, none⟩) (World.block_lt_of_cell? w _ m0)).trans m0
            have i1 : (k : Int) < (ms.length : Int) := by have := HLM.out; omega
            have z1 := hbel.size
            have hb' := World.block_lt_of_cell? wr _ q0
            have HI := Lib.hid (own_ints (hown.alloc (.cells #[.int .i64 (cP xs k), .int .i64 (cD xs k), .int .i64 (cE xs k)] 40)) (by omega))
            clear hat hcm e0 e1 e2 m0
            by_cases hbad : (k : Int) = bad
            · have hq : ((k : Int) == bad) = true := by simpa using hbad
              have H := Lib.hid (affTo_yes (xs := xs) (ms := ms) (bad := bad) (since := since) (k := k) (by simp only [affHit, hq]; rfl))
              clear hbad
              go_wp2_with (first | (at_builtin; refine wpList_append_own _ rfl _ _ 25 rfl w.heap.size 3 i0 (.int .i64 0) 1 8 Try.underlying25 hi hz0 hz1 hz2 rfl (by decide) _ _ _ rfl ((hown.alloc _).alloc _) ⟨wr.heap.size + 1, 0, none⟩ 1 1 [.int .i64 k] rfl rfl (cell_one_new' _ _ _ _ (by simp)) (ints_oneCell .i64 [(k : Int)]) (by unfold maxLen; omega) (by omega) (by simp; omega) ?_; intro v' w2 hown' hgrow hnil; have HR := Lib.hid (app_step (hown.alloc _) hown' hgrow (balloc hbel _) (Nat.le_refl _)); have HN := Lib.hid (nil_step (L := affTo xs ms bad since k) (k := k) hnil); clear hown' hgrow hnil))
              go_roundw
              case rel => exact ⟨k + 1, by omega, by go_num, by rw [H.out]; exact HR.out.1, by rw [H.out]; exact HN.out, HR.out.2⟩
              case measure => simp [intOf]; omega
            · have hq : ((k : Int) == bad) = false := by simpa using hbad
              clear hbad
              by_cases hs : since ≤ nth ms k
              · by_cases hin : cP xs k ∈ affTo xs ms bad since k
                · have H := Lib.hid (affTo_yes (xs := xs) (ms := ms) (bad := bad) (since := since) (k := k) (by simp [affHit, hs, hin]))
                  have hd : decide (cP xs k ∈ affTo xs ms bad since k) = true := by simpa using hin
                  clear hin
                  go_wp2_with (first | (at_builtin; refine wpList_append_own _ rfl _ _ 25 rfl w.heap.size 3 i0 (.int .i64 0) 1 8 Try.underlying25 hi hz0 hz1 hz2 rfl (by decide) _ _ _ rfl ((hown.alloc _).alloc _) ⟨wr.heap.size + 1, 0, none⟩ 1 1 [.int .i64 k] rfl rfl (cell_one_new' _ _ _ _ (by simp)) (ints_oneCell .i64 [(k : Int)]) (by unfold maxLen; omega) (by omega) (by simp; omega) ?_; intro v' w2 hown' hgrow hnil; have HR := Lib.hid (app_step (hown.alloc _) hown' hgrow (balloc hbel _) (Nat.le_refl _)); have HN := Lib.hid (nil_step (L := affTo xs ms bad since k) (k := k) hnil); clear hown' hgrow hnil) | (go_at_call 39; refine (hasInt_any _ _ (cP xs k) _ HI.out).mono ?_; rintro e w' ⟨rfl, rfl⟩))
                  go_roundw
                  case rel => exact ⟨k + 1, by omega, by go_num, by rw [H.out]; exact HR.out.1, by rw [H.out]; exact HN.out, HR.out.2⟩
                  case measure => simp [intOf]; omega
                · have H := Lib.hid (affTo_no (xs := xs) (ms := ms) (bad := bad) (since := since) (k := k) (by simp [affHit, hq, hin]))
                  have hd : decide (cP xs k ∈ affTo xs ms bad since k) = false := by simpa using hin
                  clear hin
                  have HO := Lib.hid (hown.alloc (.cells #[.int .i64 (cP xs k), .int .i64 (cD xs k), .int .i64 (cE xs k)] 40))
                  have HB := Lib.hid hbel
                  clear hown hbel
                  go_wp2_with (go_at_call 39; refine (hasInt_any _ _ (cP xs k) _ HI.out).mono ?_; rintro e w' ⟨rfl, rfl⟩)
                  go_roundw
                  case rel => exact ⟨k + 1, by omega, by go_num, by rw [H.out]; exact HO.out, by rw [H.out]; exact HNL.out, balloc HB.out _⟩
                  case measure => simp [intOf]; omega
              · have hs' : decide (since ≤ nth ms k) = false := by simpa using hs
                have H := Lib.hid (affTo_no (xs := xs) (ms := ms) (bad := bad) (since := since) (k := k) (by simp [affHit, hq, hs']))
                have HO := Lib.hid (hown.alloc (.cells #[.int .i64 (cP xs k), .int .i64 (cD xs k), .int .i64 (cE xs k)] 40))
                have HB := Lib.hid hbel
                clear hown hbel
                go_wp2_with (go_at_call 39; refine (hasInt_any _ _ (cP xs k) _ HI.out).mono ?_; rintro e w' ⟨rfl, rfl⟩)
                go_roundw
                case rel => exact ⟨k + 1, by omega, by go_num, by rw [H.out]; exact HO.out, by rw [H.out]; exact HNL.out, balloc HB.out _⟩
                case measure => simp [intOf]; omega
          · obtain rfl : k = n := by omega
            have HO := Lib.hid hown
            have HB := Lib.hid hbel
            clear hat hcm hown hbel
            go_wp2
            go_ret
            rw [H0.out]
            exact ⟨_, rfl, HO.out, HNL.out, HB.out⟩

set_option maxRecDepth 100000 in
theorem specAffectedBy (v : Value) (n : Nat) (xs : List Int) (u : Value) (ms : List Int) (bad since : Int) (w : World) (h : Recs 3 w v n xs) (hm : Ints w u ms) :
    Calls Try.prog 56 #[v, u, .int .i64 bad, .int .i64 since] w (Gives w (affected n xs ms bad since)) := by
  obtain ⟨i0, hi, hz0, hz1, hz2⟩ := info_parts Try.infoInt
  have hv := h
  have hln := h.len
  obtain ⟨hl, he, ad, cap, rfl, hc⟩ := h
  have hat := fun k hk => at3 (w := w) he hc k hk
  clear hc he
  cases h1 : daysOk n xs ms with
  | false =>
    have H := Lib.hid (affected_1 (bad := bad) (since := since) h1)
    clear hat
    go_enter Try.func56, Try.ntmps56
    go_wp2_with fail
    refine (specDaysOk _ n xs _ ms _ (hv.alloc _) (hm.alloc _)).mono ?_
    rintro e w1 ⟨rfl, hb1⟩
    rw [h1]
    have HO1 := Lib.hid (own_below (World.ownsRow_lit (e := 3) (size := 1) w #[] 0 (Nat.le_refl _) (by decide) rfl) hb1)
    have HB1 := Lib.hid (bnext (balloc (bref w) _) hb1)
    clear hb1
    go_wp2_with (go_at_call 55; refine (l01In_any _ _ _ _).mono ?_; rintro e w' ⟨rfl, rfl⟩)
    go_ret
    rw [H.out]
    exact ⟨_, rfl, by simpa using HO1.out, HB1.out⟩
  | true =>
    have hch := (daysOk_chain h1).1
    have hlm := (daysOk_chain h1).2
    have hn12 := (chainOk_n hch).2
    cases h2 : inB bad 0 ((n : Int) - 1) with
    | false =>
      have H := Lib.hid (affected_2 (xs := xs) (ms := ms) (since := since) h2)
      clear hat hlm
      go_enter Try.func56, Try.ntmps56
      go_wp2_with fail
      refine (specDaysOk _ n xs _ ms _ (hv.alloc _) (hm.alloc _)).mono ?_
      rintro e w1 ⟨rfl, hb1⟩
      rw [h1]
      have HO1 := Lib.hid (own_below (World.ownsRow_lit (e := 3) (size := 1) w #[] 0 (Nat.le_refl _) (by decide) rfl) hb1)
      have HB1 := Lib.hid (bnext (balloc (bref w) _) hb1)
      clear hb1
      go_wp2_with (go_at_call 55; refine (l01In_any _ _ _ _).mono ?_; rintro e w' ⟨rfl, rfl⟩)
      go_ret
      rw [H.out]
      exact ⟨_, rfl, by simpa using HO1.out, HB1.out⟩
    | true =>
      cases h3 : inB since 0 10000 with
      | false =>
        have H := Lib.hid (affected_3 (n := n) (xs := xs) (ms := ms) (bad := bad) h3)
        clear hat hlm
        go_enter Try.func56, Try.ntmps56
        go_wp2_with fail
        refine (specDaysOk _ n xs _ ms _ (hv.alloc _) (hm.alloc _)).mono ?_
        rintro e w1 ⟨rfl, hb1⟩
        rw [h1]
        have HO1 := Lib.hid (own_below (World.ownsRow_lit (e := 3) (size := 1) w #[] 0 (Nat.le_refl _) (by decide) rfl) hb1)
        have HB1 := Lib.hid (bnext (balloc (bref w) _) hb1)
        clear hb1
        go_wp2_with (go_at_call 55; refine (l01In_any _ _ _ _).mono ?_; rintro e w' ⟨rfl, rfl⟩)
        go_ret
        rw [H.out]
        exact ⟨_, rfl, by simpa using HO1.out, HB1.out⟩
      | true =>
        have H0 := Lib.hid (affected_t h1 h2 h3)
        obtain ⟨_, adm, capm, rfl, hcm⟩ := id hm
        have HLM := Lib.hid hlm
        clear hlm
        go_enter Try.func56, Try.ntmps56
        go_wp2_with fail
        refine (specDaysOk _ n xs _ ms _ (hv.alloc _) (hm.alloc _)).mono ?_
        rintro e w1 ⟨rfl, hb1⟩
        rw [h1]
        have HO1 := Lib.hid (own_below (World.ownsRow_lit (e := 3) (size := 1) w #[] 0 (Nat.le_refl _) (by decide) rfl) hb1)
        have HB1 := Lib.hid (bnext (balloc (bref w) _) hb1)
        clear hb1
        go_wp2_with (go_at_call 55; refine (l01In_any _ _ _ _).mono ?_; rintro e w' ⟨rfl, rfl⟩)
        go_loopw [9, 10] (fun v i wr => ∃ k : Nat, k ≤ n ∧ i = .int .i64 k ∧ wr.ownsRow w.heap.size 3 1 v (affTo xs ms bad since k).length ((affTo xs ms bad since k).map (Value.int .i64)) ∧ Below w.heap.size w wr) (fun _ i _ => n - (intOf i).toNat)
        case atStart => exact ⟨0, Nat.zero_le _, rfl, by simpa [affTo] using HO1.out, HB1.out⟩
        case round =>
          obtain ⟨k, hk, rfl, hown, hbel⟩ := hrel
          have hlk := affTo_len xs ms bad since k
          by_cases hlt : k < n
          · obtain ⟨b, o, rfl, e0, e1, e2, hb⟩ := hat k hlt
            obtain ⟨b', o', rfl, m0⟩ := hcm k (by have := HLM.out; omega)
            have g0 := (hbel.cell (p := ⟨b, o + k * 3, none⟩) hb).trans e0
            have g1 := (hbel.cell (p := ⟨b, o + k * 3 + 1, none⟩) hb).trans e1
            have g2 := (hbel.cell (p := ⟨b, o + k * 3 + 2, none⟩) hb).trans e2
            have q0 := (hbel.cell (p := ⟨b', o' + k, none⟩) (World.block_lt_of_cell? w _ m0)).trans m0
            have i1 : (k : Int) < (ms.length : Int) := by have := HLM.out; omega
            have z1 := hbel.size
            have hb' := World.block_lt_of_cell? wr _ q0
            have HI := Lib.hid (own_ints hown (by omega))
            clear hat hcm e0 e1 e2 m0
            by_cases hbad : (k : Int) = bad
            · have hq : ((k : Int) == bad) = true := by simpa using hbad
              have H := Lib.hid (affTo_yes (xs := xs) (ms := ms) (bad := bad) (since := since) (k := k) (by simp only [affHit, hq]; rfl))
              clear hbad
              go_wp2_with (first | (at_builtin; refine wpList_append_own _ rfl _ _ 25 rfl w.heap.size 3 i0 (.int .i64 0) 1 8 Try.underlying25 hi hz0 hz1 hz2 rfl (by decide) _ _ _ rfl (hown.alloc _) ⟨wr.heap.size, 0, none⟩ 1 1 [.int .i64 k] rfl rfl (cell_one_new' _ _ _ _ (by simp)) (ints_oneCell .i64 [(k : Int)]) (by unfold maxLen; omega) (by omega) (by simp; omega) ?_; intro v' w2 hown' hgrow hnil; have HR := Lib.hid (app_step hown hown' hgrow hbel (Nat.le_refl _)); clear hown' hgrow hnil))
              go_roundw
              case rel => exact ⟨k + 1, by omega, by go_num, by rw [H.out]; exact HR.out.1, HR.out.2⟩
              case measure => simp [intOf]; omega
            · have hq : ((k : Int) == bad) = false := by simpa using hbad
              clear hbad
              by_cases hs : since ≤ nth ms k
              · by_cases hin : cP xs k ∈ affTo xs ms bad since k
                · have H := Lib.hid (affTo_yes (xs := xs) (ms := ms) (bad := bad) (since := since) (k := k) (by simp [affHit, hs, hin]))
                  have hd : decide (cP xs k ∈ affTo xs ms bad since k) = true := by simpa using hin
                  have hp0 : 0 ≤ cP xs k := (affTo_mem hin).1
                  clear hin
                  go_wp2_with (first | (at_builtin; refine wpList_append_own _ rfl _ _ 25 rfl w.heap.size 3 i0 (.int .i64 0) 1 8 Try.underlying25 hi hz0 hz1 hz2 rfl (by decide) _ _ _ rfl (hown.alloc _) ⟨wr.heap.size, 0, none⟩ 1 1 [.int .i64 k] rfl rfl (cell_one_new' _ _ _ _ (by simp)) (ints_oneCell .i64 [(k : Int)]) (by unfold maxLen; omega) (by omega) (by simp; omega) ?_; intro v' w2 hown' hgrow hnil; have HR := Lib.hid (app_step hown hown' hgrow hbel (Nat.le_refl _)); clear hown' hgrow hnil) | (go_at_call 61; refine (l31Has_any _ _ (cP xs k) _ HI.out).mono ?_; rintro e w' ⟨rfl, rfl⟩))
                  go_roundw
                  case rel => exact ⟨k + 1, by omega, by go_num, by rw [H.out]; exact HR.out.1, HR.out.2⟩
                  case measure => simp [intOf]; omega
                · have H := Lib.hid (affTo_no (xs := xs) (ms := ms) (bad := bad) (since := since) (k := k) (by simp [affHit, hq, hin]))
                  have hd : decide (cP xs k ∈ affTo xs ms bad since k) = false := by simpa using hin
                  clear hin
                  by_cases hp0 : 0 ≤ cP xs k
                  all_goals
                    have HO := Lib.hid hown
                    have HB := Lib.hid hbel
                    clear hown hbel
                    go_wp2_with (go_at_call 61; refine (l31Has_any _ _ (cP xs k) _ HI.out).mono ?_; rintro e w' ⟨rfl, rfl⟩)
                    go_roundw
                    case rel => exact ⟨k + 1, by omega, by go_num, by rw [H.out]; exact HO.out, HB.out⟩
                    case measure => simp [intOf]; omega
              · have hs' : decide (since ≤ nth ms k) = false := by simpa using hs
                have H := Lib.hid (affTo_no (xs := xs) (ms := ms) (bad := bad) (since := since) (k := k) (by simp [affHit, hq, hs']))
                have HO := Lib.hid hown
                have HB := Lib.hid hbel
                clear hown hbel
                go_wp2_with (go_at_call 61; refine (l31Has_any _ _ (cP xs k) _ HI.out).mono ?_; rintro e w' ⟨rfl, rfl⟩)
                go_roundw
                case rel => exact ⟨k + 1, by omega, by go_num, by rw [H.out]; exact HO.out, HB.out⟩
                case measure => simp [intOf]; omega
          · obtain rfl : k = n := by omega
            have HO := Lib.hid hown
            have HB := Lib.hid hbel
            clear hat hcm hown hbel
            go_wp2
            go_ret
            rw [H0.out]
            exact ⟨_, rfl, HO.out, HB.out⟩

end Go.Proofs.Ytlipfkalehikkaa
