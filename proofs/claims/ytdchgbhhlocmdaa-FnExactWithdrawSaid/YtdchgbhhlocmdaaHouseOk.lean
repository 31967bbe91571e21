/- The walks of HouseOk, in the program and in the reference. -/
import Derived.Test.YtdchgbhhlocmdaaHouseFn
import Derived.Test.YtdchgbhhlocmdaaOwners
import Derived.Test.YtdchgbhhlocmdaaDays
import Derived.Test.YtdchgbhhlocmdaaAscending
import Derived.Test.YtdchgbhhlocmdaaAfter
namespace Go.Proofs.Ytdchgbhhlocmdaa
open Go.ChangeShapes Go.WideShapes Go.ChangeAt Go.RowKit

set_option maxRecDepth 100000 in
theorem implHouseOk (vc vm vo vt : Value) (h : HD) (w : World) (hr : HouseR w vc vm vo vt h) : Calls Try.prog 53 #[.agg #[vc, vm, vo, vt, .int .i64 h.sent, .int .i64 h.day]] w fun e w' =>
    e = .returned (.bool (houseOk h)) ∧ Below w.heap.size w w' := by
  obtain ⟨adc, capc, rfl⟩ : ∃ ad cap, vc = .slice ad h.n cap := by obtain ⟨_, _, ad, cap, hh, _⟩ := hr.c; exact ⟨ad, cap, hh⟩
  obtain ⟨adm, capm, rfl⟩ : ∃ ad cap, vm = .slice ad h.ms.length cap := by obtain ⟨_, ad, cap, hh, _⟩ := hr.m; exact ⟨ad, cap, hh⟩
  obtain ⟨adt, capt, rfl⟩ : ∃ ad cap, vt = .slice ad h.ts.length cap := by obtain ⟨_, ad, cap, hh, _⟩ := hr.t; exact ⟨ad, cap, hh⟩
  cases h1 : daysOk h.n h.xs h.ms with
  | false =>
    have H := Lib.hid (house_1 h1)
    go_enter Try.func53, Try.ntmps53
    go_wp2_with fail
    refine (implDaysOk _ _ _ _ _ _ (hr.alloc _).c (hr.alloc _).m).mono ?_
    rintro e w1 ⟨rfl, hb1⟩
    rw [h1]
    have D1 := hb1
    have c1 := below_cell D1
    go_wp2_with (go_at_call 72; refine (in_any _ _ _ _).mono ?_; rintro e w' ⟨rfl, rfl⟩)
    go_ret
    exact ⟨ret_bool H.out.symm, bnext (balloc (bref w) _) D1⟩
  | true =>
    cases h2 : ownersOk h.n h.xs h.os with
    | false =>
      have H := Lib.hid (house_2 h2)
      go_enter Try.func53, Try.ntmps53
      go_wp2_with fail
      refine (implDaysOk _ _ _ _ _ _ (hr.alloc _).c (hr.alloc _).m).mono ?_
      rintro e w1 ⟨rfl, hb1⟩
      rw [h1]
      have D1 := hb1
      have c1 := below_cell D1
      go_wp2_with fail
      refine (implOwnersOk _ _ _ _ _ _ ((hr.alloc _).below D1).c ((hr.alloc _).below D1).o).mono ?_
      rintro e w2 ⟨rfl, hb2⟩
      rw [h2]
      have D2 := (bnext D1 hb2)
      have c2 := below_cell D2
      clear c1
      go_wp2_with (go_at_call 72; refine (in_any _ _ _ _).mono ?_; rintro e w' ⟨rfl, rfl⟩)
      go_ret
      exact ⟨ret_bool H.out.symm, bnext (balloc (bref w) _) D2⟩
    | true =>
      cases h3 : ascOk h.ts with
      | false =>
        have H := Lib.hid (house_3 h3)
        go_enter Try.func53, Try.ntmps53
        go_wp2_with fail
        refine (implDaysOk _ _ _ _ _ _ (hr.alloc _).c (hr.alloc _).m).mono ?_
        rintro e w1 ⟨rfl, hb1⟩
        rw [h1]
        have D1 := hb1
        have c1 := below_cell D1
        go_wp2_with fail
        refine (implOwnersOk _ _ _ _ _ _ ((hr.alloc _).below D1).c ((hr.alloc _).below D1).o).mono ?_
        rintro e w2 ⟨rfl, hb2⟩
        rw [h2]
        have D2 := (bnext D1 hb2)
        have c2 := below_cell D2
        clear c1
        go_wp2_with fail
        refine (isAscending_any _ _ _ ((hr.alloc _).below D2).t).mono ?_
        rintro e w3 ⟨rfl, hb3⟩
        rw [h3]
        have D3 := (bnext D2 hb3)
        have c3 := below_cell D3
        clear c2
        go_wp2_with (go_at_call 72; refine (in_any _ _ _ _).mono ?_; rintro e w' ⟨rfl, rfl⟩)
        go_ret
        exact ⟨ret_bool H.out.symm, bnext (balloc (bref w) _) D3⟩
      | true =>
        cases h4 : inB h.sent 0 1000 with
        | false =>
          have H := Lib.hid (house_4 h4)
          go_enter Try.func53, Try.ntmps53
          go_wp2_with fail
          refine (implDaysOk _ _ _ _ _ _ (hr.alloc _).c (hr.alloc _).m).mono ?_
          rintro e w1 ⟨rfl, hb1⟩
          rw [h1]
          have D1 := hb1
          have c1 := below_cell D1
          go_wp2_with fail
          refine (implOwnersOk _ _ _ _ _ _ ((hr.alloc _).below D1).c ((hr.alloc _).below D1).o).mono ?_
          rintro e w2 ⟨rfl, hb2⟩
          rw [h2]
          have D2 := (bnext D1 hb2)
          have c2 := below_cell D2
          clear c1
          go_wp2_with fail
          refine (isAscending_any _ _ _ ((hr.alloc _).below D2).t).mono ?_
          rintro e w3 ⟨rfl, hb3⟩
          rw [h3]
          have D3 := (bnext D2 hb3)
          have c3 := below_cell D3
          clear c2
          go_wp2_with (go_at_call 72; refine (in_any _ _ _ _).mono ?_; rintro e w' ⟨rfl, rfl⟩)
          go_ret
          exact ⟨ret_bool H.out.symm, bnext (balloc (bref w) _) D3⟩
        | true =>
          cases h5 : inB h.day 0 10000 with
          | false =>
            have H := Lib.hid (house_5 h5)
            go_enter Try.func53, Try.ntmps53
            go_wp2_with fail
            refine (implDaysOk _ _ _ _ _ _ (hr.alloc _).c (hr.alloc _).m).mono ?_
            rintro e w1 ⟨rfl, hb1⟩
            rw [h1]
            have D1 := hb1
            have c1 := below_cell D1
            go_wp2_with fail
            refine (implOwnersOk _ _ _ _ _ _ ((hr.alloc _).below D1).c ((hr.alloc _).below D1).o).mono ?_
            rintro e w2 ⟨rfl, hb2⟩
            rw [h2]
            have D2 := (bnext D1 hb2)
            have c2 := below_cell D2
            clear c1
            go_wp2_with fail
            refine (isAscending_any _ _ _ ((hr.alloc _).below D2).t).mono ?_
            rintro e w3 ⟨rfl, hb3⟩
            rw [h3]
            have D3 := (bnext D2 hb3)
            have c3 := below_cell D3
            clear c2
            go_wp2_with (go_at_call 72; refine (in_any _ _ _ _).mono ?_; rintro e w' ⟨rfl, rfl⟩)
            go_ret
            exact ⟨ret_bool H.out.symm, bnext (balloc (bref w) _) D3⟩
          | true =>
            go_enter Try.func53, Try.ntmps53
            go_wp2_with fail
            refine (implDaysOk _ _ _ _ _ _ (hr.alloc _).c (hr.alloc _).m).mono ?_
            rintro e w1 ⟨rfl, hb1⟩
            rw [h1]
            have D1 := hb1
            have c1 := below_cell D1
            go_wp2_with fail
            refine (implOwnersOk _ _ _ _ _ _ ((hr.alloc _).below D1).c ((hr.alloc _).below D1).o).mono ?_
            rintro e w2 ⟨rfl, hb2⟩
            rw [h2]
            have D2 := (bnext D1 hb2)
            have c2 := below_cell D2
            clear c1
            go_wp2_with fail
            refine (isAscending_any _ _ _ ((hr.alloc _).below D2).t).mono ?_
            rintro e w3 ⟨rfl, hb3⟩
            rw [h3]
            have D3 := (bnext D2 hb3)
            have c3 := below_cell D3
            clear c2
            have R3 := hr.below (bnext (balloc (bref w) _) D3)
            have HD3 := Lib.hid (bnext (balloc (bref w) _) D3)
            clear D1 D2 D3 hb1 hb2 hb3
            obtain ⟨_, _, _, e1, hct⟩ := R3.t
            simp only [Value.slice.injEq] at e1
            obtain ⟨rfl, _, rfl⟩ := e1
            obtain ⟨_, _, _, e1, hcm⟩ := R3.m
            simp only [Value.slice.injEq] at e1
            obtain ⟨rfl, _, rfl⟩ := e1
            have hln := hr.c.len
            have hlm := hr.m.len
            have hlt := hr.t.len
            clear R3
            go_wp2_with (go_at_call 72; refine (in_any _ _ _ _).mono ?_; rintro e w' ⟨rfl, rfl⟩)
            go_loop [42] (fun i => ∃ k : Nat, k ≤ h.ts.length ∧ i = .int .i64 k ∧ Hid (allTo (toldAt h.n h.ts) k = true)) (fun i => h.ts.length - (intOf i).toNat)
            case atStart => exact ⟨0, Nat.zero_le _, rfl, rfl⟩
            case round =>
              obtain ⟨k, hk, rfl, hx⟩ := hrel
              by_cases hlt : k < h.ts.length
              · obtain ⟨b, o, rfl, e0⟩ := hct k hlt
                clear hct hcm
                cases h6 : inB (nth h.ts k) 0 ((h.n : Int) - 1) with
                | false =>
                  have H := Lib.hid (house_6 (h := h) hlt h6)
                  go_wp2_with (go_at_call 72; refine (in_any _ _ _ _).mono ?_; rintro e w' ⟨rfl, rfl⟩)
                  go_ret
                  exact ⟨ret_bool H.out.symm, HD3.out⟩
                | true =>
                  have H := Lib.hid (allTo_succ (p := toldAt h.n h.ts) hx.out h6)
                  go_wp2_with (go_at_call 72; refine (in_any _ _ _ _).mono ?_; rintro e w' ⟨rfl, rfl⟩)
                  go_round
                  case rel => exact ⟨k + 1, by omega, by go_num, H.out⟩
                  case measure => simp [intOf]; omega
              · obtain rfl : k = h.ts.length := by omega
                have H6 := hx
                clear hct hx
                go_wp2
                go_loop [57] (fun i => ∃ k : Nat, k ≤ h.ms.length ∧ i = .int .i64 k ∧ Hid (allTo (madeAt h.ms h.day) k = true)) (fun i => h.ms.length - (intOf i).toNat)
                case atStart => exact ⟨0, Nat.zero_le _, rfl, rfl⟩
                case round =>
                  obtain ⟨k, hk, rfl, hx⟩ := hrel
                  by_cases hlt : k < h.ms.length
                  · obtain ⟨b, o, rfl, e0⟩ := hcm k hlt
                    clear hcm
                    by_cases h7 : nth h.ms k ≤ h.day
                    · have H := Lib.hid (allTo_succ (p := madeAt h.ms h.day) hx.out (by simpa [madeAt] using h7))
                      go_wp2
                      go_round
                      case rel => exact ⟨k + 1, by omega, by go_num, H.out⟩
                      case measure => simp [intOf]; omega
                    · have H := Lib.hid (house_7 (h := h) hlt (by simpa [madeAt] using h7))
                      go_wp2
                      go_ret
                      exact ⟨ret_bool H.out.symm, HD3.out⟩
                  · obtain rfl : k = h.ms.length := by omega
                    have H := Lib.hid (show houseOk h = true by rw [house_t h1 h2 h3 H6.out hx.out, h4, h5]; rfl)
                    clear hcm
                    go_wp2
                    go_ret
                    exact ⟨ret_bool H.out.symm, HD3.out⟩

set_option maxRecDepth 100000 in
theorem specHouseOk (vc vm vo vt : Value) (h : HD) (w : World) (hr : HouseR w vc vm vo vt h) : Calls Try.prog 85 #[.agg #[vc, vm, vo, vt, .int .i64 h.sent, .int .i64 h.day]] w fun e w' =>
    e = .returned (.bool (houseOk h)) ∧ Below w.heap.size w w' := by
  obtain ⟨adc, capc, rfl⟩ : ∃ ad cap, vc = .slice ad h.n cap := by obtain ⟨_, _, ad, cap, hh, _⟩ := hr.c; exact ⟨ad, cap, hh⟩
  obtain ⟨adm, capm, rfl⟩ : ∃ ad cap, vm = .slice ad h.ms.length cap := by obtain ⟨_, ad, cap, hh, _⟩ := hr.m; exact ⟨ad, cap, hh⟩
  obtain ⟨adt, capt, rfl⟩ : ∃ ad cap, vt = .slice ad h.ts.length cap := by obtain ⟨_, ad, cap, hh, _⟩ := hr.t; exact ⟨ad, cap, hh⟩
  cases h1 : daysOk h.n h.xs h.ms with
  | false =>
    have H := Lib.hid (house_1 h1)
    go_enter Try.func85, Try.ntmps85
    go_wp2_with fail
    refine (specDaysOk _ _ _ _ _ _ (hr.alloc _).c (hr.alloc _).m).mono ?_
    rintro e w1 ⟨rfl, hb1⟩
    rw [h1]
    have D1 := hb1
    have c1 := below_cell D1
    go_wp2_with (go_at_call 77; refine (l01In_any _ _ _ _).mono ?_; rintro e w' ⟨rfl, rfl⟩)
    go_ret
    exact ⟨ret_bool H.out.symm, bnext (balloc (bref w) _) D1⟩
  | true =>
    cases h2 : ownersOk h.n h.xs h.os with
    | false =>
      have H := Lib.hid (house_2 h2)
      go_enter Try.func85, Try.ntmps85
      go_wp2_with fail
      refine (specDaysOk _ _ _ _ _ _ (hr.alloc _).c (hr.alloc _).m).mono ?_
      rintro e w1 ⟨rfl, hb1⟩
      rw [h1]
      have D1 := hb1
      have c1 := below_cell D1
      go_wp2_with fail
      refine (specOwnersOk _ _ _ _ _ _ ((hr.alloc _).below D1).c ((hr.alloc _).below D1).o).mono ?_
      rintro e w2 ⟨rfl, hb2⟩
      rw [h2]
      have D2 := (bnext D1 hb2)
      have c2 := below_cell D2
      clear c1
      go_wp2_with (go_at_call 77; refine (l01In_any _ _ _ _).mono ?_; rintro e w' ⟨rfl, rfl⟩)
      go_ret
      exact ⟨ret_bool H.out.symm, bnext (balloc (bref w) _) D2⟩
    | true =>
      go_enter Try.func85, Try.ntmps85
      go_wp2_with fail
      refine (specDaysOk _ _ _ _ _ _ (hr.alloc _).c (hr.alloc _).m).mono ?_
      rintro e w1 ⟨rfl, hb1⟩
      rw [h1]
      have D1 := hb1
      have c1 := below_cell D1
      go_wp2_with fail
      refine (specOwnersOk _ _ _ _ _ _ ((hr.alloc _).below D1).c ((hr.alloc _).below D1).o).mono ?_
      rintro e w2 ⟨rfl, hb2⟩
      rw [h2]
      have D2 := (bnext D1 hb2)
      have c2 := below_cell D2
      clear c1
      have R3 := hr.below (bnext (balloc (bref w) _) D2)
      have HD3 := Lib.hid (bnext (balloc (bref w) _) D2)
      clear D1 D2 hb1 hb2
      obtain ⟨_, _, _, e1, hct⟩ := R3.t
      simp only [Value.slice.injEq] at e1
      obtain ⟨rfl, _, rfl⟩ := e1
      obtain ⟨_, _, _, e1, hcm⟩ := R3.m
      simp only [Value.slice.injEq] at e1
      obtain ⟨rfl, _, rfl⟩ := e1
      have hln := hr.c.len
      have hlm := hr.m.len
      have hlt := hr.t.len
      clear R3
      go_wp2
      go_loopw [3] (fun i wr => ∃ k m : Nat, k ≤ h.ts.length ∧ i = .int .i64 k ∧ Hid (allTo (toldAt h.n h.ts) k = true ∧ allTo (ascAt h.ts) k = true) ∧ wr = w2.drewN m) (fun i _ => h.ts.length - (intOf i).toNat)
      case atStart => exact ⟨0, 0, Nat.zero_le _, rfl, ⟨rfl, rfl⟩, rfl⟩
      case round =>
        obtain ⟨k, m, hk, rfl, hx, rfl⟩ := hrel
        by_cases hlt : k < h.ts.length
        · obtain ⟨b, o, rfl, e0⟩ := hct k hlt
          have hct' := hct
          clear hct hcm
          have i0 : (0 : Int) ≤ (k : Int) := by omega
          have i1 : (k : Int) < (h.ts.length : Int) := by omega
          cases h6 : inB (nth h.ts k) 0 ((h.n : Int) - 1) with
          | false =>
            have H := Lib.hid (house_6 (h := h) hlt h6)
            clear hct'
            go_wp2_with fail
            go_quiet ((go_at_call 77; first | exact quiet_in (l01In_any _ _ _ _) | exact quiet_in_add (l01In_any _ _ _ _)))
            go_wp2
            go_ret
            exact ⟨ret_bool H.out.symm, by first | exact bdrewN HD3.out _ | exact bdrewN (bdrewN HD3.out _) _⟩
          | true =>
            have HT := Lib.hid (allTo_succ (p := toldAt h.n h.ts) hx.out.1 h6)
            rcases Nat.eq_zero_or_pos k with h0 | h0
            · subst h0
              replace e0 : w2.cell? ⟨b, o, none⟩ = some (.int .i64 (nth h.ts 0)) := e0
              have i2 : (0 : Int) < (h.ts.length : Int) := by omega
              have HA := Lib.hid (show allTo (ascAt h.ts) (0 + 1) = true from rfl)
              clear hct'
              go_wp2_with fail
              go_quiet ((go_at_call 77; first | exact quiet_in (l01In_any _ _ _ _) | exact quiet_in_add (l01In_any _ _ _ _)))
              go_wp2
              go_roundw
              case rel => exact ⟨0 + 1, _, by omega, by go_num, ⟨HT.out, HA.out⟩, by first | rfl | exact World.drewN_drewN _ _ _⟩
              case measure => simp [intOf]; omega
            · obtain ⟨j, rfl⟩ : ∃ j, k = j + 1 := ⟨k - 1, by omega⟩
              obtain ⟨b', o', ha, e1⟩ := hct' j (by omega)
              simp only [Option.some.injEq, Addr.mk.injEq, and_true] at ha
              obtain ⟨rfl, rfl⟩ := ha
              clear hct'
              have i2 : (j : Int) < (h.ts.length : Int) := by omega
              have i3 : (0 : Int) ≤ (j : Int) := by omega
              have i4 : (0 : Int) ≤ (j : Int) + 1 := by omega
              have i5 : (j : Int) + 1 < (h.ts.length : Int) := by omega
              have i6 : decide ((0 : Int) < (j : Int) + 1) = true := decide_eq_true (by omega)
              have n1 : IntKind.i64.wrap ((j : Int) + 1 - 1) = (j : Int) := by rw [IntWalk.i64_in _ (by omega)]; omega
              by_cases hp : nth h.ts (j + 1) ≤ nth h.ts j
              · have H := Lib.hid (house_3' (h := h) hlt (by simp [ascAt]; omega))
                have hd : decide (nth h.ts (j + 1) ≤ nth h.ts j) = true := by simpa using hp
                go_wp2_with fail
                go_quiet ((go_at_call 77; first | exact quiet_in (l01In_any _ _ _ _) | exact quiet_in_add (l01In_any _ _ _ _)))
                go_wp2
                go_ret
                exact ⟨ret_bool H.out.symm, by first | exact bdrewN HD3.out _ | exact bdrewN (bdrewN HD3.out _) _⟩
              · have HA := Lib.hid (show allTo (ascAt h.ts) (j + 1 + 1) = true from allTo_succ hx.out.2 (by simp [ascAt]; omega))
                have hd : decide (nth h.ts (j + 1) ≤ nth h.ts j) = false := by simpa using hp
                go_wp2_with fail
                go_quiet ((go_at_call 77; first | exact quiet_in (l01In_any _ _ _ _) | exact quiet_in_add (l01In_any _ _ _ _)))
                go_wp2
                go_roundw
                case rel => exact ⟨j + 1 + 1, _, by omega, by go_num, ⟨HT.out, HA.out⟩, by first | rfl | exact World.drewN_drewN _ _ _⟩
                case measure => simp [intOf]; omega
        · obtain rfl : k = h.ts.length := by omega
          have H6 := hx
          clear hct hx
          go_wp2
          go_loopw [4] (fun i wr => ∃ k m : Nat, k ≤ h.ms.length ∧ i = .int .i64 k ∧ Hid (allTo (madeAt h.ms h.day) k = true) ∧ wr = w2.drewN m) (fun i _ => h.ms.length - (intOf i).toNat)
          case atStart => exact ⟨0, m, Nat.zero_le _, rfl, rfl, rfl⟩
          case round =>
            obtain ⟨k, m', hk, rfl, hx, rfl⟩ := hrel
            by_cases hlt : k < h.ms.length
            · obtain ⟨b, o, rfl, e0⟩ := hcm k hlt
              clear hcm
              have i0 : (0 : Int) ≤ (k : Int) := by omega
              have i1 : (k : Int) < (h.ms.length : Int) := by omega
              by_cases h7 : nth h.ms k ≤ h.day
              · have H := Lib.hid (allTo_succ (p := madeAt h.ms h.day) hx.out (by simpa [madeAt] using h7))
                have hd : decide (h.day < nth h.ms k) = false := by simpa using h7
                go_wp2_with fail
                go_quiet (fail)
                go_wp2
                go_roundw
                case rel => exact ⟨k + 1, _, by omega, by go_num, H.out, by first | rfl | exact World.drewN_drewN _ _ _⟩
                case measure => simp [intOf]; omega
              · have H := Lib.hid (house_7 (h := h) hlt (by simpa [madeAt] using h7))
                have hd : decide (h.day < nth h.ms k) = true := by simpa using h7
                go_wp2_with fail
                go_quiet (fail)
                go_wp2
                go_ret
                exact ⟨ret_bool H.out.symm, by first | exact bdrewN HD3.out _ | exact bdrewN (bdrewN HD3.out _) _⟩
            · obtain rfl : k = h.ms.length := by omega
              have H := Lib.hid (house_t h1 h2 H6.out.2 H6.out.1 hx.out)
              clear hcm
              cases h4 : inB h.sent 0 1000 with
              | false =>
                go_wp2_with (go_at_call 77; refine (l01In_any _ _ _ _).mono ?_; rintro e w' ⟨rfl, rfl⟩)
                go_ret
                exact ⟨ret_bool (by rw [H.out, h4]; rfl), bdrewN HD3.out _⟩
              | true =>
                go_wp2_with (go_at_call 77; refine (l01In_any _ _ _ _).mono ?_; rintro e w' ⟨rfl, rfl⟩)
                go_ret
                exact ⟨ret_bool (by rw [H.out, h4]; simp), bdrewN HD3.out _⟩

end Go.Proofs.Ytdchgbhhlocmdaa
