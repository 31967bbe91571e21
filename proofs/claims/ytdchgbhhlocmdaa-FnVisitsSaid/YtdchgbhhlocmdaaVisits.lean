/- The law of visits, walked. -/
import Derived.Test.YtdchgbhhlocmdaaDrawVis
import Derived.Test.YtdchgbhhlocmdaaDelay
import Derived.Test.YtdchgbhhlocmdaaMost
import Derived.Test.YtdchgbhhlocmdaaCode
import Derived.Test.YtdchgbhhlocmdaaOwnL
import Derived.IntWalk
import Derived.BigQuiet
import Derived.Deep.DeepCutAuto
namespace Go.Proofs.Ytdchgbhhlocmdaa
open Go.ChangeShapes Go.WideShapes Go.ChangeAt Go.RowKit

set_option maxRecDepth 100000 in
set_option maxHeartbeats 8000000 in
theorem fnVisits_any (v : Value) (bs : List Int) (w : World) (h : Bytes w v bs) : Calls Try.prog 7 #[v] w fun e w' => e = .returned (.bool true) ∧ Below w.heap.size w w' := by
  by_cases hbig : (1048576 : Int) < bs.length
  · have hd : decide ((1048576 : Int) < bs.length) = true := by simp; omega
    go_enter Try.func7, Try.ntmps7
    go_wp2_with (first | (go_at_call 27; refine (big_any v bs w h).mono ?_; rw [hd]; rintro e w' ⟨rfl, rfl⟩))
    go_ret
    exact ⟨rfl, bref _⟩
  · have hd : decide ((1048576 : Int) < bs.length) = false := by simp; omega
    go_enter Try.func7, Try.ntmps7
    go_upto_region 7 with (first | (go_at_call 27; refine (big_any v bs w h).mono ?_; rw [hd]; rintro e w' ⟨rfl, rfl⟩) | (go_at_call 28; refine (drawVisits_any v bs w h).mono ?_; rintro e w1 ⟨adl, n, capl, xs, ado, capo, R, rfl, VD, n6, hP, hr1, hi1, hb1⟩; have hok := VD.ok (by omega); have HP := Lib.hid hP; have RV := Lib.hid hr1; have RI := Lib.hid hi1; have D := Lib.hid hb1; clear hr1 hi1 hb1 hP) | (go_at_call 15; refine (implDueOrder _ n xs _ RV.out).mono ?_; rw [dueOrder_t hok]; rintro e w2 ⟨u2, rfl, own2, hb2⟩; obtain ⟨add, capd, rfl⟩ := own_form own2; have RQ := Lib.hid (own_ints own2 (by rw [dueP_len]; omega)); have RV := Lib.hid (RV.out.below hb2); have RI := Lib.hid (RI.out.below hb2); have D := Lib.hid (bnext D.out hb2); clear own2 hb2) | (go_at_call 29; refine (implGreatestDelay _ n xs _ (dueP n xs) _ RV.out RQ.out hok (dueP_perm n xs)).mono ?_; rintro e w3 ⟨rfl, hb3⟩; have RQ := Lib.hid (RQ.out.below hb3); have RV := Lib.hid (RV.out.below hb3); have RI := Lib.hid (RI.out.below hb3); have D := Lib.hid (bnext D.out hb3); clear hb3) | (go_at_call 24; refine (implMostInTime _ n xs _ RV.out).mono ?_; rintro e w4 ⟨rfl, hb4⟩; have RQ := Lib.hid (RQ.out.below hb4); have RV := Lib.hid (RV.out.below hb4); have RI := Lib.hid (RI.out.below hb4); have D := Lib.hid (bnext D.out hb4); clear hb4))
    have hbest := due_best hok HP.out
    have hd0 := (delayL_bd hok (dueP_in n xs)).1
    have hma := most_all hok n6
    have hm0 : 0 ≤ mostIn n xs := by rw [mostIn_t hok (by omega)]; exact (mostTo_bd n xs _).1
    have hmn := (mostIn_bd n xs).2
    have HM1 := Lib.hid (fun (q : 0 < n) => most_one hok n6 q (VD.each 0 q).2.2.1)
    have hfn : fineIn n xs = (n : Int) - mostIn n xs := by unfold fineIn; rw [if_neg (by omega)]
    have hcb0 := canBe_t hok
    have HIN := Lib.hid (dueP_in n xs)
    have HDUE := Lib.hid (fun (k : Nat) (a : k < n) (c : 0 < k) => due_asc (n := n) (xs := xs) (k := k) a c)
    have hql := dueP_len n xs
    obtain ⟨dr, eR⟩ : ∃ dr, delayL xs R = dr := ⟨_, rfl⟩
    rw [eR] at hbest
    generalize delayL xs (dueP n xs) = dq at *
    generalize hmm : mostIn n xs = mm at *
    clear hmm
    generalize dueP n xs = Q at *
    obtain ⟨q, hq⟩ : ∃ q, Q.length = q := ⟨_, rfl⟩
    rw [hq] at hql
    have r1 : ¬ dq < 0 := by omega
    have r2 : ¬ dr < dq := by omega
    have r3 : ((q : Int) == (n : Int)) = true := by rw [beq_iff_eq]; omega
    have hcb := hcb0
    go_wp2_with (first | (go_at_call 29; refine (implGreatestDelay _ n xs _ R _ RV.out RI.out hok HP.out).mono ?_; rw [eR]; rintro e w5 ⟨rfl, hb⟩; have RQ := Lib.hid (RQ.out.below hb); have RV := Lib.hid (RV.out.below hb); have RI := Lib.hid (RI.out.below hb); have D := Lib.hid (bnext D.out hb); clear hb) | (go_at_call 22; refine (implCanBeInTime _ n xs _ RV.out).mono ?_; rw [hcb]; rintro e w6 ⟨rfl, hb⟩; have RQ := Lib.hid (RQ.out.below hb); have RV := Lib.hid (RV.out.below hb); have RI := Lib.hid (RI.out.below hb); have D := Lib.hid (bnext D.out hb); clear hb) | (go_at_call 26; refine (implLeastFine _ n xs _ RV.out).mono ?_; rw [hfn]; rintro e w7 ⟨rfl, hb⟩; have RQ := Lib.hid (RQ.out.below hb); have RV := Lib.hid (RV.out.below hb); have RI := Lib.hid (RI.out.below hb); have D := Lib.hid (bnext D.out hb); clear hb))
    clear hcb0 hma hcb hbest eR r1 r2 r3 hfn
    go_loopw [8] (fun i wr => ∃ k : Nat, 1 ≤ k ∧ k ≤ n + 1 ∧ i = .int .i64 k ∧ Hid (Below w7.heap.size w7 wr)) (fun i _ => n + 1 - (intOf i).toNat)
    case atStart => exact ⟨1, Nat.le_refl _, by omega, rfl, bref _⟩
    case round =>
      obtain ⟨k, hk1, hk, rfl, HB⟩ := hrel
      by_cases hlt : k < n
      · obtain ⟨j, rfl⟩ : ∃ j, k = j + 1 := ⟨k - 1, by omega⟩
        obtain ⟨_, _, _, hq, hc⟩ := RQ.out.below HB.out
        cases hq
        obtain ⟨b, o, rfl, e1⟩ := hc (j + 1) (by omega)
        obtain ⟨_, _, hq, e0⟩ := hc j (by omega)
        cases hq
        clear hc
        obtain ⟨g0, g1⟩ := HIN.out (j + 1) (by omega)
        obtain ⟨d0, d1⟩ := HIN.out j (by omega)
        have hdue := HDUE.out (j + 1) (by omega) (by omega)
        rw [Nat.add_sub_cancel] at hdue
        obtain ⟨γ, hγ⟩ := Int.eq_ofNat_of_zero_le g0
        obtain ⟨δ, hδ⟩ := Int.eq_ofNat_of_zero_le d0
        rw [hγ] at e1 g0 g1
        rw [hδ] at e0 d0 d1
        rw [hγ, hδ, Int.toNat_natCast, Int.toNat_natCast] at hdue
        clear hγ hδ
        obtain ⟨b2, o2, rfl, f1, _⟩ := due_at (RV.out.below HB.out) (k := γ) (by omega)
        obtain ⟨_, _, hq, f0, _⟩ := due_at (RV.out.below HB.out) (k := δ) (by omega)
        cases hq
        generalize dueV xs γ = x at *
        generalize dueV xs δ = y at *
        have i1 : (0 : Int) ≤ (j : Int) + 1 := by omega
        have i2 : (j : Int) + 1 < (q : Int) := by omega
        have i3 : (0 : Int) ≤ (j : Int) := by omega
        have i4 : (j : Int) < (q : Int) := by omega
        have i5 : ¬ (γ : Int) < 0 := by omega
        have i6 : ¬ (δ : Int) < 0 := by omega
        have i7 : ¬ (n : Int) ≤ (γ : Int) := by omega
        have i8 : ¬ (n : Int) ≤ (δ : Int) := by omega
        have i9 : ¬ x < y := by omega
        have iA : (γ : Int) < (n : Int) := by omega
        have iB : (δ : Int) < (n : Int) := by omega
        have iC : ¬ n ≤ γ := by omega
        have iD : ¬ n ≤ δ := by omega
        have iE : ((j : Int) + 1).toNat = j + 1 := by omega
        have c1 : decide ((γ : Int) < 0) = false := decide_eq_false i5
        have c2 : decide ((δ : Int) < 0) = false := decide_eq_false i6
        have c3 : decide ((n : Int) ≤ (γ : Int)) = false := decide_eq_false i7
        have c4 : decide ((n : Int) ≤ (δ : Int)) = false := decide_eq_false i8
        have c5 : decide (x < y) = false := decide_eq_false i9
        have n1 : IntKind.i64.wrap ((j : Int) + 1 - 1) = (j : Int) := by rw [IntWalk.i64_in _ (by omega)]; omega
        go_upto_region 12 with fail
        go_quiet (fail)
        go_wp2
        go_roundw
        case rel => exact ⟨j + 1 + 1, by omega, by omega, by go_num, bdrewN HB.out _⟩
        case measure => simp [intOf]; omega
      · have RV2 := Lib.hid (RV.out.below HB.out)
        by_cases h0 : n = 0
        · have hq0 : ((n : Int) == 0) = true := by rw [beq_iff_eq]; omega
          clear h0
          go_wp2_with (first | (go_at_call 30; refine (implVisitsOk _ n xs _ RV2.out).mono ?_; rw [hok]; rintro e w8 ⟨rfl, hb8⟩))
          all_goals
            go_ret
            exact ⟨rfl, bnext (bnext D.out HB.out) hb8⟩
        · have hq0 : ((n : Int) == 0) = false := by rw [beq_eq_false_iff_ne]; omega
          have hm1 := HM1.out (by omega)
          go_wp2_with (first | (go_at_call 30; refine (implVisitsOk _ n xs _ RV2.out).mono ?_; rw [hok]; rintro e w8 ⟨rfl, hb8⟩))
          all_goals
            go_ret
            exact ⟨rfl, bnext (bnext D.out HB.out) hb8⟩
end Go.Proofs.Ytdchgbhhlocmdaa
