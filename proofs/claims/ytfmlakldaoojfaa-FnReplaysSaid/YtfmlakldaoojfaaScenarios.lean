/- The law of scenarios, walked. -/
import Derived.Test.YtfmlakldaoojfaaDrawActs
import Derived.Test.YtfmlakldaoojfaaGL
import Derived.Test.YtfmlakldaoojfaaGH
namespace Go.Proofs.Ytfmlakldaoojfaa
open Go.ChangeShapes Go.WideShapes Go.ChangeAt Go.RowKit
theorem sampleI_ok : newHouse 1000 0 = (firstHouse 1000 0, true) ∧ houseOk (firstHouse 1000 0) = true := sample_ok
set_option maxRecDepth 100000 in
set_option maxHeartbeats 8000000 in
theorem fnScenarios_any (v : Value) (bs : List Int) (w : World) (h : Bytes w v bs) : Calls Try.prog 8 #[v] w fun e w' => e = .returned (.bool true) ∧ Below w.heap.size w w' := by
  by_cases hbig : (1048576 : Int) < bs.length
  · have hd : decide ((1048576 : Int) < bs.length) = true := by simp; omega
    go_enter Try.func8, Try.ntmps8
    go_wp2_with (first | (go_at_call 10; refine (big_any v bs w h).mono ?_; rw [hd]; rintro e w' ⟨rfl, rfl⟩))
    go_ret
    exact ⟨rfl, bref _⟩
  · have hd : decide ((1048576 : Int) < bs.length) = false := by simp; omega
    go_enter Try.func8, Try.ntmps8
    go_upto_region 4 with (first | (go_at_call 10; refine (big_any v bs w h).mono ?_; rw [hd]; rintro e w' ⟨rfl, rfl⟩) | (go_at_call 43; refine (drawActs_any v bs w h).mono ?_; rintro e w1 ⟨hx, ac0, am0, ao0, at0, cc0, cm0, co0, ct0, ada, n, capa, xs, rfl, ok, hO, hda, hn21, hra, hb1⟩; have HH := Lib.hid hO; have D := Lib.hid hb1; have BY := Lib.hid (h.below hb1); have HA := Lib.hid hra; have HAD := Lib.hid hda; clear hO hb1 hra hda))
    have X1 := Lib.hid (BoxH.first HH.out (Nat.le_refl _))
    have HA1 := Lib.hid (own_below HA.out (balloc (bref w1) (.cells #[.slice ac0 (hx).n cc0, .slice am0 (hx).ms.length cm0, .slice ao0 (hx).os.length co0, .slice at0 (hx).ts.length ct0, .int .i64 (hx).sent, .int .i64 (hx).day] 27)))
    have DX := Lib.hid (balloc D.out (.cells #[.slice ac0 (hx).n cc0, .slice am0 (hx).ms.length cm0, .slice ao0 (hx).os.length co0, .slice at0 (hx).ts.length ct0, .int .i64 (hx).sent, .int .i64 (hx).day] 27))
    have BY := Lib.hid (BY.out.below (balloc (bref w1) (.cells #[.slice ac0 (hx).n cc0, .slice am0 (hx).ms.length cm0, .slice ao0 (hx).os.length co0, .slice at0 (hx).ts.length ct0, .int .i64 (hx).sent, .int .i64 (hx).day] 27)))
    clear hbig hd h D HH HA
    generalize w1.alloc (.cells #[.slice ac0 (hx).n cc0, .slice am0 (hx).ms.length cm0, .slice ao0 (hx).os.length co0, .slice at0 (hx).ts.length ct0, .int .i64 (hx).sent, .int .i64 (hx).day] 27) = u1 at *
    have hB := houseOk_B ok
    have HR := Lib.hid (runActs_t (xs := xs) ok (show n ≤ 40 by omega))
    have okg := runTo_ok ok xs n
    have hN := numsTo_len xs hx n
    have g0 := X1.out.six.c0
    have g1 := X1.out.six.c1
    have g2 := X1.out.six.c2
    have g3 := X1.out.six.c3
    have g4 := X1.out.six.c4
    have g5 := X1.out.six.c5
    go_upto_region 5 with (first | (go_at_call 39; refine (implRunActs _ _ _ _ _ hx n xs _ (X1.out.house.read hB) (Recs.of_own HA1.out (by omega)) X1.out.house.nils hB).mono ?_; rw [HR.out]; generalize hg1 : runTo xs hx n = g at *; generalize hg2 : numsTo xs hx n = N at *; rintro e w2 ⟨ac2, cc2, am2, cm2, ao2, co2, at2, ct2, al, cl, rfl, hW⟩; dsimp only at hW; have HW := Lib.hid hW; clear hW))
    have HG1 := Lib.hid hg1
    have HG2 := Lib.hid hg2
    have HNL := Lib.hid hN
    clear hg1 hg2 hN HR g0 g1 g2 g3 g4 g5
    have X2 := Lib.hid (BoxH.first HW.out.house (Nat.le_refl _))
    have hb2 := bnext HW.out.below (balloc (bref w2) (.cells #[.slice ac2 (g).n cc2, .slice am2 (g).ms.length cm2, .slice ao2 (g).os.length co2, .slice at2 (g).ts.length ct2, .int .i64 (g).sent, .int .i64 (g).day] 27))
    have X1 := Lib.hid (X1.out.below hb2)
    have HA1 := Lib.hid (own_below HA1.out hb2)
    have BY := Lib.hid (BY.out.below hb2)
    have DX := Lib.hid (bnext DX.out hb2)
    obtain ⟨p2, q2, pa2, qa2, hi2, -⟩ := HW.out.nums
    have HI := Lib.hid (own_below (own_base hi2.own pa2) (balloc (bref w2) (.cells #[.slice ac2 (g).n cc2, .slice am2 (g).ms.length cm2, .slice ao2 (g).os.length co2, .slice at2 (g).ts.length ct2, .int .i64 (g).sent, .int .i64 (g).day] 27)))
    clear hi2 pa2 qa2
    clear hb2 HW
    generalize w2.alloc (.cells #[.slice ac2 (g).n cc2, .slice am2 (g).ms.length cm2, .slice ao2 (g).os.length co2, .slice at2 (g).ts.length ct2, .int .i64 (g).sent, .int .i64 (g).day] 27) = u2 at *
    have hq : ((N.length : Int) == (n : Int)) = true := by rw [beq_iff_eq]; have := HNL.out; omega
    have HS := Lib.hid sampleI_ok
    have g0 := X1.out.six.c0
    have g1 := X1.out.six.c1
    have g2 := X1.out.six.c2
    have g3 := X1.out.six.c3
    have g4 := X1.out.six.c4
    have g5 := X1.out.six.c5
    have k0 := X2.out.six.c0
    have k1 := X2.out.six.c1
    have k2 := X2.out.six.c2
    have k3 := X2.out.six.c3
    have k4 := X2.out.six.c4
    have k5 := X2.out.six.c5
    go_wp2_with (first
      | (go_at_call_of 15 (Value.int .i64 (hx).day); refine (implHouseOk _ _ _ _ hx _ (X1.out.house.read (houseOk_B ok))).mono ?_; rw [ok]; rintro e w_ ⟨rfl, hb⟩; have X1 := Lib.hid (X1.out.below hb); have X2 := Lib.hid (X2.out.below hb); have DX := Lib.hid (bnext DX.out hb); have g0 := X1.out.six.c0; have g1 := X1.out.six.c1; have g2 := X1.out.six.c2; have g3 := X1.out.six.c3; have g4 := X1.out.six.c4; have g5 := X1.out.six.c5; have k0 := X2.out.six.c0; have k1 := X2.out.six.c1; have k2 := X2.out.six.c2; have k3 := X2.out.six.c3; have k4 := X2.out.six.c4; have k5 := X2.out.six.c5; clear hb)
      | (go_at_call_of 15 (Value.int .i64 (g).day); refine (implHouseOk _ _ _ _ g _ (X2.out.house.read (houseOk_B okg))).mono ?_; rw [okg]; rintro e w_ ⟨rfl, hb⟩; have X1 := Lib.hid (X1.out.below hb); have X2 := Lib.hid (X2.out.below hb); have DX := Lib.hid (bnext DX.out hb); have g0 := X1.out.six.c0; have g1 := X1.out.six.c1; have g2 := X1.out.six.c2; have g3 := X1.out.six.c3; have g4 := X1.out.six.c4; have g5 := X1.out.six.c5; have k0 := X2.out.six.c0; have k1 := X2.out.six.c1; have k2 := X2.out.six.c2; have k3 := X2.out.six.c3; have k4 := X2.out.six.c4; have k5 := X2.out.six.c5; clear hb)
      | (go_at_call 47; refine (implSampleHouse _).mono ?_; rw [HS.out.1]; have okf := HS.out.2; generalize firstHouse 1000 0 = hf at *; rintro e w3 ⟨ac3, cc3, am3, cm3, ao3, co3, at3, ct3, rfl, hO3, hb3⟩; dsimp only at hO3; have H3 := Lib.hid hO3; have DX := Lib.hid (bnext DX.out hb3); clear hO3 hb3)
      | (go_at_call_of 15 (Value.int .i64 hf.day); refine (implHouseOk _ _ _ _ hf _ (H3.out.read (houseOk_B okf))).mono ?_; rw [okf]; rintro e w_ ⟨rfl, hb⟩; have DX := Lib.hid (bnext DX.out hb); clear hb))
    go_ret
    exact ⟨rfl, DX.out⟩
end Go.Proofs.Ytfmlakldaoojfaa
