/- Drawn houses, walked. -/
import Derived.Test.YtlipfkalehikkaaBoxH
import Derived.Test.YtlipfkalehikkaaGK
import Derived.Deep.RegionWith
import Derived.Deep.DeepCutAuto
namespace Go.Proofs.Ytlipfkalehikkaa
open Go.ChangeShapes Go.WideShapes Go.ChangeAt Go.RowKit

theorem firstHouse_ok : ∀ o : Fin 5, houseOk (firstHouse 1000 ((o.val : Nat) : Int)) = true := by decide
theorem newHouse_ok {o : Int} (h0 : 0 ≤ o) (h1 : o < 5) : newHouse 1000 o = (firstHouse 1000 o, true) := by
  obtain ⟨n, rfl⟩ := Int.eq_ofNat_of_zero_le h0
  exact newHouse_t (firstHouse_ok ⟨n, by omega⟩)
/-- a new box with a house -/
theorem BoxH.first {lo hi : Nat} {w : World} {vc vm vo vt : Value} {h : HD} (hO : HouseO lo hi w vc vm vo vt h) (hl : hi ≤ w.heap.size) : BoxH w.heap.size lo (w.alloc (.cells #[vc, vm, vo, vt, .int .i64 h.sent, .int .i64 h.day] 27)) vc vm vo vt h := by
  refine ⟨⟨by go_simp, by go_simp, by go_simp, by go_simp, by go_simp, by go_simp, by go_simp, by go_simp, by go_simp, by go_simp, by go_simp, by go_simp⟩, (hO.below (balloc (bref w) _)).wide (Nat.le_refl _) (Nat.le_trans hl (by simp)), ?_, ?_, ?_, ?_⟩
  · exact fun e => by have := (hO.c.at _ e).2; omega
  · exact fun e => by have := (hO.m.at _ e).2; omega
  · exact fun e => by have := (hO.o.at _ e).2; omega
  · exact fun e => by have := (hO.t.at _ e).2; omega
theorem first_facts {o : Int} (h0 : 0 ≤ o) (h1 : o < 5) : houseOk (firstHouse 1000 o) = true ∧ (firstHouse 1000 o).sent = 0 ∧ (firstHouse 1000 o).day = 0 := by
  obtain ⟨n, rfl⟩ := Int.eq_ofNat_of_zero_le h0
  exact ⟨firstHouse_ok ⟨n, by omega⟩, rfl, rfl⟩
set_option maxRecDepth 100000 in
set_option maxHeartbeats 8000000 in
theorem l38House_any (L X : Nat) (v : Value) (bs : List Int) (w : World) (h : CurO L X v bs w) : Calls Try.prog 45 #[.pointer (some ⟨X, 0, none⟩)] w fun e w' => ∃ (hd : HD) (ac am ao at_ : Option Addr) (cc cm co ct : Nat), e = .returned (.agg #[.slice ac (hd).n cc, .slice am (hd).ms.length cm, .slice ao (hd).os.length co, .slice at_ (hd).ts.length ct, .int .i64 (hd).sent, .int .i64 (hd).day]) ∧ houseOk hd = true ∧ hd.sent ≤ 357 ∧ hd.day ≤ 85 ∧ HouseO w.heap.size w'.heap.size w' (.slice ac (hd).n cc) (.slice am (hd).ms.length cm) (.slice ao (hd).os.length co) (.slice at_ (hd).ts.length ct) hd ∧ CurO L X v bs w' ∧ Only X (X + 1) w w' := by
  have hX := h.xl
  have RZ := Lib.hid (show Six w.heap.size (w.alloc (.cells #[.slice none 0 0, .slice none 0 0, .slice none 0 0, .slice none 0 0, .int .i64 0, .int .i64 0] 27)) (.slice none 0 0) (.slice none 0 0) (.slice none 0 0) (.slice none 0 0) (.int .i64 0) (.int .i64 0) from ⟨by go_simp, by go_simp, by go_simp, by go_simp, by go_simp, by go_simp, by go_simp, by go_simp, by go_simp, by go_simp, by go_simp, by go_simp⟩)
  have OZ := Lib.hid ((Only.refl X (X + 1) w).alloc (.cells #[.slice none 0 0, .slice none 0 0, .slice none 0 0, .slice none 0 0, .int .i64 0, .int .i64 0] 27))
  go_enter Try.func45, Try.ntmps45
  have HC0 := Lib.hid (h.below (balloc (bref w) (.cells #[.slice none 0 0, .slice none 0 0, .slice none 0 0, .slice none 0 0, .int .i64 0, .int .i64 0] 27)))
  clear h
  go_upto_region 2 with (first | (go_at_call_of 46 (Value.int .i64 5); refine (l01Below_any L X v bs _ _ HC0.out).mono ?_; rintro e w1 ⟨x1, rfl, p1, q1, _, c1, o1⟩; have q1 := q1 (by omega); have HC1 := Lib.hid c1; have HO1 := Lib.hid o1; have y1 : w.heap.size + 1 ≤ w1.heap.size := (by have q := o1.size; simp at q; omega); clear c1 o1) | (go_at_call 63; refine (specNewHouse 1000 x1 _).mono ?_; rw [newHouse_ok p1 q1]; have FF := Lib.hid (first_facts p1 q1); generalize firstHouse 1000 x1 = hf at *; rintro e w2 ⟨ac2, cc2, am2, cm2, ao2, co2, at2, ct2, rfl, hO2, hb2⟩; have HO2 := Lib.hid (HO1.out.step hb2); have HC2 := Lib.hid (HC1.out.below hb2); have HH2 := Lib.hid (hO2.wide (lo' := w.heap.size + 1) y1 (Nat.le_refl _)); have y2 := hb2.size; clear hb2 hO2))
  have HR3 := Lib.hid (BoxH.first HH2.out (Nat.le_refl _))
  have HC3 := Lib.hid (HC2.out.below (balloc (bref w2) (.cells #[.slice ac2 hf.n cc2, .slice am2 hf.ms.length cm2, .slice ao2 hf.os.length co2, .slice at2 hf.ts.length ct2, .int .i64 hf.sent, .int .i64 hf.day] 27)))
  have HO3 := Lib.hid (HO2.out.alloc (.cells #[.slice ac2 hf.n cc2, .slice am2 hf.ms.length cm2, .slice ao2 hf.os.length co2, .slice at2 hf.ts.length ct2, .int .i64 hf.sent, .int .i64 hf.day] 27))
  clear HC0 HC1 HC2 HO1 HO2 HH2
  go_wp2_with (first | (go_at_call_of 46 (Value.int .i64 18); refine (l01Below_any L X v bs _ _ HC3.out).mono ?_; rintro e w4 ⟨x4, rfl, p4, q4, _, c4, o4⟩; have q4 := q4 (by omega); have HC4 := Lib.hid c4; have HO4 := Lib.hid (HO3.out.trans o4); have HR4 := Lib.hid (HR3.out.cur o4 (by omega) (by omega)); clear c4 o4))
  obtain ⟨n, rfl⟩ := Int.eq_ofNat_of_zero_le p4
  clear HR3 HC3 HO3
  go_loopw [6] (fun i wr => ∃ (k : Nat) (hd : HD) (ac0 am0 ao0 at0 : Option Addr) (cc0 cm0 co0 ct0 : Nat), k ≤ n ∧ i = .int .i64 k ∧ Hid (houseOk hd = true ∧ hd.sent ≤ 21 * k ∧ hd.day ≤ 5 * k) ∧ Hid (BoxH w2.heap.size (w.heap.size + 1) wr (.slice ac0 (hd).n cc0) (.slice am0 (hd).ms.length cm0) (.slice ao0 (hd).os.length co0) (.slice at0 (hd).ts.length ct0) (hd)) ∧ Hid (CurO L X v bs wr) ∧ Hid (Only X (X + 1) (w.alloc (.cells #[.slice none 0 0, .slice none 0 0, .slice none 0 0, .slice none 0 0, .int .i64 0, .int .i64 0] 27)) wr)) (fun i _ => n - (intOf i).toNat)
  case atStart => exact ⟨0, hf, ac2, am2, ao2, at2, cc2, cm2, co2, ct2, Nat.zero_le _, rfl, Lib.hid ⟨FF.out.1, by have a := FF.out.2.1; omega, by have a := FF.out.2.2; omega⟩, HR4, HC4, HO4⟩
  case round =>
    clear HR4 HC4 HO4 FF
    obtain ⟨k, hd, ac0, am0, ao0, at0, cc0, cm0, co0, ct0, hk, rfl, HK, HR4, HC4, HO4⟩ := hrel
    have hB : HouseB hd 1048576 := by have c := houseOk_b HK.out.1; exact ⟨by have := c.n; omega, by have := c.ms; omega, by have := c.os; omega, by have := c.ts; omega⟩
    have hn1 : 1 ≤ hd.n := (chainOk_n (daysOk_chain (houseOk_facts HK.out.1).days).1).1
    have yB := HR4.out.six.lt
    by_cases hlt : k < n
    · go_upto_region 11 with (first | (go_at_call_of 46 (Value.int .i64 5); refine (l01Below_any L X v bs _ _ HC4.out).mono ?_; rintro e w5 ⟨x5, rfl, p5, q5, _, c5, o5⟩; have q5 := q5 (by omega); have HC5 := Lib.hid c5; have HO5 := Lib.hid (HO4.out.trans o5); have HR5 := Lib.hid (HR4.out.cur o5 (by omega) (by omega)); clear c5 o5))
      clear HR4 HC4 HO4
      rcases (show x5 = 0 ∨ x5 = 1 ∨ (x5 ≠ 0 ∧ x5 ≠ 1) by omega) with e5 | e5 | e5
      · skip
        subst e5
        have g0 := HR5.out.six.c0
        have g1 := HR5.out.six.c1
        have g2 := HR5.out.six.c2
        have g3 := HR5.out.six.c3
        have g4 := HR5.out.six.c4
        have g5 := HR5.out.six.c5
        have z0 := HR5.out.six.f0
        have z1 := HR5.out.six.f1
        have z2 := HR5.out.six.f2
        have z3 := HR5.out.six.f3
        have z4 := HR5.out.six.f4
        have z5 := HR5.out.six.f5
        go_upto_region 12 with fail
        have HCd := Lib.hid (HC5.out.below (bdrew (bref w5)))
        have HOd := Lib.hid (HO5.out.step (bdrew (bref w5)))
        have HRd := Lib.hid (HR5.out.below (bdrew (bref w5)))
        go_region_with (first | (go_at_call_of 46 (Value.int .i64 5); refine (l01Below_any L X v bs _ _ HCd.out).mono ?_; rintro e w6 ⟨x6, rfl, p6, q6, _, c6, o6⟩; have q6 := q6 (by omega); have HC6 := Lib.hid c6; have HO6 := Lib.hid (HOd.out.trans o6); have HR6 := Lib.hid (HRd.out.cur o6 (by omega) (by omega)); clear c6 o6; clear g0 g1 g2 g3 g4 g5 z0 z1 z2 z3 z4 z5; have g0 := HR6.out.six.c0; have g1 := HR6.out.six.c1; have g2 := HR6.out.six.c2; have g3 := HR6.out.six.c3; have g4 := HR6.out.six.c4; have g5 := HR6.out.six.c5; have z0 := HR6.out.six.f0; have z1 := HR6.out.six.f1; have z2 := HR6.out.six.f2; have z3 := HR6.out.six.f3; have z4 := HR6.out.six.f4; have z5 := HR6.out.six.f5; have hw6 : IntKind.i64.wrap (1 + x6) = 1 + x6 := (by rw [IntKind.wrap_i64]; omega); have HF := Lib.hid (show houseOk (passDays hd (1 + x6)).1 = true ∧ (passDays hd (1 + x6)).1.sent ≤ 21 * ((k + 1 : Nat) : Int) ∧ (passDays hd (1 + x6)).1.day ≤ 5 * ((k + 1 : Nat) : Int) from ⟨passDays_ok HK.out.1 (by omega), by have a := (passDays_bd (h := hd) (d := 1 + x6) (by omega)).1; have b := HK.out.2.1; omega, by have a := (passDays_bd (h := hd) (d := 1 + x6) (by omega)).2; have b := HK.out.2.2; omega⟩)) | (go_at_call 30; refine (specPassDays _ _ _ _ hd (1 + x6) _ (HR6.out.house.read hB) HR6.out.house.nils hB).mono ?_; rintro e w7 ⟨ac2, cc2, am2, cm2, ao2, co2, at2, ct2, rfl, hO7, hb7⟩; clear g0 g1 g2 g3 g4 g5 z0 z1 z2 z3 z4 z5; have HNB0 := Lib.hid (HR6.out.new hb7 hO7 HR6.out.six.lt (by have := HO6.out.size; simp at this; omega) (Nat.le_refl _)); have oB := only_put6 w7 w2.heap.size (.slice ac2 ((passDays hd (1 + x6)).1).n cc2) (.slice am2 ((passDays hd (1 + x6)).1).ms.length cm2) (.slice ao2 ((passDays hd (1 + x6)).1).os.length co2) (.slice at2 ((passDays hd (1 + x6)).1).ts.length ct2) (.int .i64 ((passDays hd (1 + x6)).1).sent) (.int .i64 ((passDays hd (1 + x6)).1).day); have HNC0 := Lib.hid ((HC6.out.below hb7).only oB (by omega)); have HNO0 := Lib.hid (only_pastB ((HO6.out).step hb7) oB (by simp; omega)); have S6 := HR6.out.six.below hb7; have g0 := S6.c0; have g1 := S6.c1; have g2 := S6.c2; have g3 := S6.c3; have g4 := S6.c4; have g5 := S6.c5; have z0 := S6.f0; have z1 := S6.f1; have z2 := S6.f2; have z3 := S6.f3; have z4 := S6.f4; have z5 := S6.f5; clear S6 oB; clear hO7 hb7))
        all_goals
          go_wp2_with fail
          go_roundw
          case rel => exact ⟨k + 1, (passDays hd (1 + x6)).1, ac2, am2, ao2, at2, cc2, cm2, co2, ct2, by omega, by go_num, HF, HNB0, HNC0, HNO0⟩
          case measure => simp [intOf]; omega
      · skip
        subst e5
        go_upto_region 14 with fail
        go_wp2_with fail
        refine (l01Once_any L X v bs _ _ HC5.out).mono ?_
        rintro e w6 ⟨b, rfl, c6, o6⟩
        have HC6 := Lib.hid c6
        have HO6 := Lib.hid (HO5.out.trans o6)
        have HR6 := Lib.hid (HR5.out.cur o6 (by omega) (by omega))
        clear c6 o6
        cases b with
        | false =>
          go_wp2_with fail
          go_roundw
          case rel => exact ⟨k + 1, hd, ac0, am0, ao0, at0, cc0, cm0, co0, ct0, by omega, by go_num, Lib.hid ⟨HK.out.1, by have b := HK.out.2.1; omega, by have b := HK.out.2.2; omega⟩, HR6, HC6, HO6⟩
          case measure => simp [intOf]; omega
        | true =>
          have g0 := HR6.out.six.c0
          have g1 := HR6.out.six.c1
          have g2 := HR6.out.six.c2
          have g3 := HR6.out.six.c3
          have g4 := HR6.out.six.c4
          have g5 := HR6.out.six.c5
          have z0 := HR6.out.six.f0
          have z1 := HR6.out.six.f1
          have z2 := HR6.out.six.f2
          have z3 := HR6.out.six.f3
          have z4 := HR6.out.six.f4
          have z5 := HR6.out.six.f5
          go_upto_region 16 with (first | (go_at_call_of 46 (Value.int .i64 (hd.n : Int)); refine (l01Below_any L X v bs _ _ HC6.out).mono ?_; rintro e w7 ⟨x7, rfl, p7, q7, _, c7, o7⟩; have q7 := q7 (by omega); have HC7 := Lib.hid c7; have HO7 := Lib.hid (HO6.out.trans o7); have HR7 := Lib.hid (HR6.out.cur o7 (by omega) (by omega)); clear c7 o7; clear g0 g1 g2 g3 g4 g5 z0 z1 z2 z3 z4 z5; have g0 := HR7.out.six.c0; have g1 := HR7.out.six.c1; have g2 := HR7.out.six.c2; have g3 := HR7.out.six.c3; have g4 := HR7.out.six.c4; have g5 := HR7.out.six.c5; have z0 := HR7.out.six.f0; have z1 := HR7.out.six.f1; have z2 := HR7.out.six.f2; have z3 := HR7.out.six.f3; have z4 := HR7.out.six.f4; have z5 := HR7.out.six.f5))
          have HCd := Lib.hid (HC7.out.below (bdrew (bref w7)))
          have HOd := Lib.hid (HO7.out.step (bdrew (bref w7)))
          have HRd := Lib.hid (HR7.out.below (bdrew (bref w7)))
          have HF := fun (x8 : Int) => Lib.hid (show houseOk (withdraw hd x7 x8).1 = true ∧ (withdraw hd x7 x8).1.sent ≤ 21 * ((k + 1 : Nat) : Int) ∧ (withdraw hd x7 x8).1.day ≤ 5 * ((k + 1 : Nat) : Int) from ⟨withdraw_ok HK.out.1, by have a := (withdraw_bd (h := hd) (b := x7) (s := x8)).1; have b := HK.out.2.1; omega, by have a := (withdraw_bd (h := hd) (b := x7) (s := x8)).2; have b := HK.out.2.2; omega⟩)
          have HF := Lib.hid HF
          go_region_with (first | (go_at_call_of 46 (Value.int .i64 12); refine (l01Below_any L X v bs _ _ HCd.out).mono ?_; rintro e w8 ⟨x8, rfl, p8, q8, _, c8, o8⟩; have q8 := q8 (by omega); have HC8 := Lib.hid c8; have HO8 := Lib.hid (HOd.out.trans o8); have HR8 := Lib.hid (HRd.out.cur o8 (by omega) (by omega)); clear c8 o8; clear g0 g1 g2 g3 g4 g5 z0 z1 z2 z3 z4 z5; have g0 := HR8.out.six.c0; have g1 := HR8.out.six.c1; have g2 := HR8.out.six.c2; have g3 := HR8.out.six.c3; have g4 := HR8.out.six.c4; have g5 := HR8.out.six.c5; have z0 := HR8.out.six.f0; have z1 := HR8.out.six.f1; have z2 := HR8.out.six.f2; have z3 := HR8.out.six.f3; have z4 := HR8.out.six.f4; have z5 := HR8.out.six.f5; have HF := HF.out x8) | (go_at_call 31; refine (specWithdraw _ _ _ _ hd x7 x8 _ (HR8.out.house.read hB) HR8.out.house.nils hB).mono ?_; rintro e w9 ⟨ac2, cc2, am2, cm2, ao2, co2, at2, ct2, al2, cl2, rfl, hO9, -, hb9⟩; clear g0 g1 g2 g3 g4 g5 z0 z1 z2 z3 z4 z5; have HNB0 := Lib.hid (HR8.out.new hb9 hO9 HR8.out.six.lt (by have := HO8.out.size; simp at this; omega) (Nat.le_refl _)); have oB := only_put6 w9 w2.heap.size (.slice ac2 ((withdraw hd x7 x8).1).n cc2) (.slice am2 ((withdraw hd x7 x8).1).ms.length cm2) (.slice ao2 ((withdraw hd x7 x8).1).os.length co2) (.slice at2 ((withdraw hd x7 x8).1).ts.length ct2) (.int .i64 ((withdraw hd x7 x8).1).sent) (.int .i64 ((withdraw hd x7 x8).1).day); have HNC0 := Lib.hid ((HC8.out.below hb9).only oB (by omega)); have HNO0 := Lib.hid (only_pastB ((HO8.out).step hb9) oB (by simp; omega)); have S6 := HR8.out.six.below hb9; have g0 := S6.c0; have g1 := S6.c1; have g2 := S6.c2; have g3 := S6.c3; have g4 := S6.c4; have g5 := S6.c5; have z0 := S6.f0; have z1 := S6.f1; have z2 := S6.f2; have z3 := S6.f3; have z4 := S6.f4; have z5 := S6.f5; clear S6 oB; clear hO9 hb9))
          all_goals
            go_wp2_with fail
            go_roundw
            case rel => exact ⟨k + 1, (withdraw hd x7 x8).1, ac2, am2, ao2, at2, cc2, cm2, co2, ct2, by omega, by go_num, HF, HNB0, HNC0, HNO0⟩
            case measure => simp [intOf]; omega
      · skip
        have e0 : ¬ x5 = 0 := by omega
        have e1 : ¬ x5 = 1 := by omega
        have e0' : (x5 == 0) = false := beq_eq_false_iff_ne.2 e0
        have e1' : (x5 == 1) = false := beq_eq_false_iff_ne.2 e1
        have g0 := HR5.out.six.c0
        have g1 := HR5.out.six.c1
        have g2 := HR5.out.six.c2
        have g3 := HR5.out.six.c3
        have g4 := HR5.out.six.c4
        have g5 := HR5.out.six.c5
        have z0 := HR5.out.six.f0
        have z1 := HR5.out.six.f1
        have z2 := HR5.out.six.f2
        have z3 := HR5.out.six.f3
        have z4 := HR5.out.six.f4
        have z5 := HR5.out.six.f5
        go_upto_region 10 with (first | (go_at_call_of 46 (Value.int .i64 (hd.n : Int)); refine (l01Below_any L X v bs _ _ HC5.out).mono ?_; rintro e w6 ⟨x6, rfl, p6, q6, _, c6, o6⟩; have q6 := q6 (by omega); have HC6 := Lib.hid c6; have HO6 := Lib.hid (HO5.out.trans o6); have HR6 := Lib.hid (HR5.out.cur o6 (by omega) (by omega)); clear c6 o6; clear g0 g1 g2 g3 g4 g5 z0 z1 z2 z3 z4 z5; have g0 := HR6.out.six.c0; have g1 := HR6.out.six.c1; have g2 := HR6.out.six.c2; have g3 := HR6.out.six.c3; have g4 := HR6.out.six.c4; have g5 := HR6.out.six.c5; have z0 := HR6.out.six.f0; have z1 := HR6.out.six.f1; have z2 := HR6.out.six.f2; have z3 := HR6.out.six.f3; have z4 := HR6.out.six.f4; have z5 := HR6.out.six.f5) | (go_at_call_of 46 (Value.int .i64 11); refine (l01Below_any L X v bs _ _ HC6.out).mono ?_; rintro e w7 ⟨x7, rfl, p7, q7, _, c7, o7⟩; have q7 := q7 (by omega); have HC7 := Lib.hid c7; have HO7 := Lib.hid (HO6.out.trans o7); have HR7 := Lib.hid (HR6.out.cur o7 (by omega) (by omega)); clear c7 o7; clear g0 g1 g2 g3 g4 g5 z0 z1 z2 z3 z4 z5; have g0 := HR7.out.six.c0; have g1 := HR7.out.six.c1; have g2 := HR7.out.six.c2; have g3 := HR7.out.six.c3; have g4 := HR7.out.six.c4; have g5 := HR7.out.six.c5; have z0 := HR7.out.six.f0; have z1 := HR7.out.six.f1; have z2 := HR7.out.six.f2; have z3 := HR7.out.six.f3; have z4 := HR7.out.six.f4; have z5 := HR7.out.six.f5) | (go_at_call_of 46 (Value.int .i64 4); refine (l01Below_any L X v bs _ _ HC7.out).mono ?_; rintro e w8 ⟨x8, rfl, p8, q8, _, c8, o8⟩; have q8 := q8 (by omega); have HC8 := Lib.hid c8; have HO8 := Lib.hid (HO7.out.trans o8); have HR8 := Lib.hid (HR7.out.cur o8 (by omega) (by omega)); clear c8 o8; clear g0 g1 g2 g3 g4 g5 z0 z1 z2 z3 z4 z5; have g0 := HR8.out.six.c0; have g1 := HR8.out.six.c1; have g2 := HR8.out.six.c2; have g3 := HR8.out.six.c3; have g4 := HR8.out.six.c4; have g5 := HR8.out.six.c5; have z0 := HR8.out.six.f0; have z1 := HR8.out.six.f1; have z2 := HR8.out.six.f2; have z3 := HR8.out.six.f3; have z4 := HR8.out.six.f4; have z5 := HR8.out.six.f5))
        have HCd := Lib.hid (HC8.out.below (bdrew (bref w8)))
        have HOd := Lib.hid (HO8.out.step (bdrew (bref w8)))
        have HRd := Lib.hid (HR8.out.below (bdrew (bref w8)))
        have HF := fun (x9 : Int) => Lib.hid (show houseOk (makeCopy hd x6 (x7 - 5) x8 x9).1 = true ∧ (makeCopy hd x6 (x7 - 5) x8 x9).1.sent ≤ 21 * ((k + 1 : Nat) : Int) ∧ (makeCopy hd x6 (x7 - 5) x8 x9).1.day ≤ 5 * ((k + 1 : Nat) : Int) from ⟨makeCopy_ok HK.out.1, by have a := (makeCopy_bd (h := hd) (p := x6) (d := x7 - 5) (e := x8) (o := x9)).1; have b := HK.out.2.1; omega, by have a := (makeCopy_bd (h := hd) (p := x6) (d := x7 - 5) (e := x8) (o := x9)).2; have b := HK.out.2.2; omega⟩)
        have HF := Lib.hid HF
        go_region_with (first | (go_at_call_of 46 (Value.int .i64 5); refine (l01Below_any L X v bs _ _ HCd.out).mono ?_; rintro e w9 ⟨x9, rfl, p9, q9, _, c9, o9⟩; have q9 := q9 (by omega); have HC9 := Lib.hid c9; have HO9 := Lib.hid (HOd.out.trans o9); have HR9 := Lib.hid (HRd.out.cur o9 (by omega) (by omega)); clear c9 o9; clear g0 g1 g2 g3 g4 g5 z0 z1 z2 z3 z4 z5; have g0 := HR9.out.six.c0; have g1 := HR9.out.six.c1; have g2 := HR9.out.six.c2; have g3 := HR9.out.six.c3; have g4 := HR9.out.six.c4; have g5 := HR9.out.six.c5; have z0 := HR9.out.six.f0; have z1 := HR9.out.six.f1; have z2 := HR9.out.six.f2; have z3 := HR9.out.six.f3; have z4 := HR9.out.six.f4; have z5 := HR9.out.six.f5; have HF := HF.out x9) | (go_at_call 29; refine (specMakeCopy _ _ _ _ hd x6 (x7 - 5) x8 x9 _ (HR9.out.house.read hB) HR9.out.house.nils hB).mono ?_; rintro e w10 ⟨ac2, cc2, am2, cm2, ao2, co2, at2, ct2, rfl, hO10, hb10⟩; clear g0 g1 g2 g3 g4 g5 z0 z1 z2 z3 z4 z5; have HNB0 := Lib.hid (HR9.out.new hb10 hO10 HR9.out.six.lt (by have := HO9.out.size; simp at this; omega) (Nat.le_refl _)); have oB := only_put6 w10 w2.heap.size (.slice ac2 ((makeCopy hd x6 (x7 - 5) x8 x9).1).n cc2) (.slice am2 ((makeCopy hd x6 (x7 - 5) x8 x9).1).ms.length cm2) (.slice ao2 ((makeCopy hd x6 (x7 - 5) x8 x9).1).os.length co2) (.slice at2 ((makeCopy hd x6 (x7 - 5) x8 x9).1).ts.length ct2) (.int .i64 ((makeCopy hd x6 (x7 - 5) x8 x9).1).sent) (.int .i64 ((makeCopy hd x6 (x7 - 5) x8 x9).1).day); have HNC0 := Lib.hid ((HC9.out.below hb10).only oB (by omega)); have HNO0 := Lib.hid (only_pastB ((HO9.out).step hb10) oB (by simp; omega)); have S6 := HR9.out.six.below hb10; have g0 := S6.c0; have g1 := S6.c1; have g2 := S6.c2; have g3 := S6.c3; have g4 := S6.c4; have g5 := S6.c5; have z0 := S6.f0; have z1 := S6.f1; have z2 := S6.f2; have z3 := S6.f3; have z4 := S6.f4; have z5 := S6.f5; clear S6 oB; clear hO10 hb10))
        all_goals
          go_wp2_with fail
          go_roundw
          case rel => exact ⟨k + 1, (makeCopy hd x6 (x7 - 5) x8 x9).1, ac2, am2, ao2, at2, cc2, cm2, co2, ct2, by omega, by go_num, HF, HNB0, HNC0, HNO0⟩
          case measure => simp [intOf]; omega
    · obtain rfl : k = n := by omega
      have g0 := HR4.out.six.c0
      have g1 := HR4.out.six.c1
      have g2 := HR4.out.six.c2
      have g3 := HR4.out.six.c3
      have g4 := HR4.out.six.c4
      have g5 := HR4.out.six.c5
      have z0 := HR4.out.six.f0
      have z1 := HR4.out.six.f1
      have z2 := HR4.out.six.f2
      have z3 := HR4.out.six.f3
      have z4 := HR4.out.six.f4
      have z5 := HR4.out.six.f5
      have R := RZ.out.only HO4.out (by omega)
      obtain ⟨r0, r1, r2, r3, r4, r5, fr0, fr1, fr2, fr3, fr4, fr5⟩ := R
      go_wp2_with fail
      refine bodyPost_ret (v := .agg #[.slice ac0 (hd).n cc0, .slice am0 (hd).ms.length cm0, .slice ao0 (hd).os.length co0, .slice at0 (hd).ts.length ct0, .int .i64 (hd).sent, .int .i64 (hd).day]) (by simp [results, Try.results45, go_sem, r0, r1, r2, r3, r4, r5]) rfl ?_
      have oR := only_put6 wr w.heap.size (.slice ac0 (hd).n cc0) (.slice am0 (hd).ms.length cm0) (.slice ao0 (hd).os.length co0) (.slice at0 (hd).ts.length ct0) (.int .i64 hd.sent) (.int .i64 hd.day)
      exact ⟨hd, ac0, am0, ao0, at0, cc0, cm0, co0, ct0, rfl, HK.out.1, by have b := HK.out.2.1; omega, by have b := HK.out.2.2; omega, (HR4.out.house.only oR (off_r (by omega))).wide (by omega) oR.size, HC4.out.only oR hX, only_pastB (OZ.out.trans HO4.out) oR (Nat.le_refl _)⟩
end Go.Proofs.Ytlipfkalehikkaa
