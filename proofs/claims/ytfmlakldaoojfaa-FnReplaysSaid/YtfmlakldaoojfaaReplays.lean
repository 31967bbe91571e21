/- The law of replays, walked. -/
import Derived.Test.YtfmlakldaoojfaaScenarios
import Derived.Test.YtfmlakldaoojfaaGL
import Derived.Test.YtfmlakldaoojfaaPlaces
import Derived.Deep.RegionWith
namespace Go.Proofs.Ytfmlakldaoojfaa
open Go.ChangeShapes Go.WideShapes Go.ChangeAt Go.RowKit

theorem set_map (xs : List Int) (k : Nat) (z : Int) : (xs.map (Value.int .i64)).set k (.int .i64 z) = (xs.set k z).map (Value.int .i64) := by
  rw [List.map_set]
theorem set_ne {xs : List Int} {k : Nat} (h : k < xs.length) : ¬ xs = xs.set k (nth xs k + 1) := fun e => by
  have e2 : nth xs k = nth (xs.set k (nth xs k + 1)) k := by rw [← e]
  have e3 : nth (xs.set k (nth xs k + 1)) k = nth xs k + 1 := by
    simp [nth, h]
  omega
set_option maxRecDepth 100000 in
set_option maxHeartbeats 8000000 in
theorem fnReplays_any (v : Value) (bs : List Int) (w : World) (h : Bytes w v bs) : Calls Try.prog 9 #[v] w fun e w' => e = .returned (.bool true) ∧ Below w.heap.size w w' := by
  by_cases hbig : (1048576 : Int) < bs.length
  · have hd : decide ((1048576 : Int) < bs.length) = true := by simp; omega
    go_enter Try.func9, Try.ntmps9
    go_wp2_with (first | (go_at_call 10; refine (big_any v bs w h).mono ?_; rw [hd]; rintro e w' ⟨rfl, rfl⟩))
    go_ret
    exact ⟨rfl, bref _⟩
  · have hd : decide ((1048576 : Int) < bs.length) = false := by simp; omega
    go_enter Try.func9, Try.ntmps9
    go_upto_region 4 with (first | (go_at_call 10; refine (big_any v bs w h).mono ?_; rw [hd]; rintro e w' ⟨rfl, rfl⟩) | (go_at_call 43; refine (drawActs_any v bs w h).mono ?_; rintro e w1 ⟨hx, ac0, am0, ao0, at0, cc0, cm0, co0, ct0, ada, n, capa, xs, rfl, ok, hO, hda, hn21, hra, hb1⟩; have HH := Lib.hid hO; have D := Lib.hid hb1; have BY := Lib.hid (h.below hb1); have HA := Lib.hid hra; have HAD := Lib.hid hda; clear hO hb1 hra hda))
    have X1 := Lib.hid (BoxH.first HH.out (Nat.le_refl _))
    have HA1 := Lib.hid (own_below HA.out (balloc (bref w1) (.cells #[.slice ac0 (hx).n cc0, .slice am0 (hx).ms.length cm0, .slice ao0 (hx).os.length co0, .slice at0 (hx).ts.length ct0, .int .i64 (hx).sent, .int .i64 (hx).day] 27)))
    have DX := Lib.hid (balloc D.out (.cells #[.slice ac0 (hx).n cc0, .slice am0 (hx).ms.length cm0, .slice ao0 (hx).os.length co0, .slice at0 (hx).ts.length ct0, .int .i64 (hx).sent, .int .i64 (hx).day] 27))
    have BY := Lib.hid (BY.out.below (balloc (bref w1) (.cells #[.slice ac0 (hx).n cc0, .slice am0 (hx).ms.length cm0, .slice ao0 (hx).os.length co0, .slice at0 (hx).ts.length ct0, .int .i64 (hx).sent, .int .i64 (hx).day] 27)))
    clear hbig hd h D HH HA
    generalize w1.alloc (.cells #[.slice ac0 (hx).n cc0, .slice am0 (hx).ms.length cm0, .slice ao0 (hx).os.length co0, .slice at0 (hx).ts.length ct0, .int .i64 (hx).sent, .int .i64 (hx).day] 27) = u1 at *
    have hB := houseOk_B ok
    have RX1 := Lib.hid (X1.out.house.read hB)
    have HAr := Lib.hid (Recs.of_own HA1.out (show n ≤ 9223372036854775807 by omega))
    have hnx := X1.out.house.nils
    have DX0 := DX
    have hlu : w1.heap.size < u1.heap.size := X1.out.six.lt
    have HR := Lib.hid (runActs_t (xs := xs) ok (show n ≤ 40 by omega))
    have okg := runTo_ok ok xs n
    have hN := Lib.hid (numsTo_len xs hx n)
    have g0 := X1.out.six.c0
    have g1 := X1.out.six.c1
    have g2 := X1.out.six.c2
    have g3 := X1.out.six.c3
    have g4 := X1.out.six.c4
    have g5 := X1.out.six.c5
    go_upto_region 5 with (first | (go_at_call 39; refine (implRunActs _ _ _ _ _ hx n xs _ (X1.out.house.read hB) (Recs.of_own HA1.out (by omega)) X1.out.house.nils hB).mono ?_; rw [HR.out]; generalize hg1 : runTo xs hx n = g at *; generalize hg2 : numsTo xs hx n = N at *; rintro e w2 ⟨ac2, cc2, am2, cm2, ao2, co2, at2, ct2, al, cl, rfl, hW⟩; dsimp only at hW; have HW := Lib.hid hW; clear hW))
    have HG1 := Lib.hid hg1
    have HG2 := Lib.hid hg2
    have HNL := hN
    clear hg1 hg2 hN HR g0 g1 g2 g3 g4 g5
    have X2 := Lib.hid (BoxH.first HW.out.house (Nat.le_refl _))
    have hb2 := bnext HW.out.below (balloc (bref w2) (.cells #[.slice ac2 (g).n cc2, .slice am2 (g).ms.length cm2, .slice ao2 (g).os.length co2, .slice at2 (g).ts.length ct2, .int .i64 (g).sent, .int .i64 (g).day] 27))
    have X1 := Lib.hid (X1.out.below hb2)
    have HA1 := Lib.hid (own_below HA1.out hb2)
    have BY := Lib.hid (BY.out.below hb2)
    have DX := Lib.hid (bnext DX.out hb2)
    obtain ⟨p2, q2, pa2, qa2, hi2, -⟩ := HW.out.nums
    have HI := Lib.hid (own_below (own_base hi2.own pa2) (balloc (bref w2) (.cells #[.slice ac2 (g).n cc2, .slice am2 (g).ms.length cm2, .slice ao2 (g).os.length co2, .slice at2 (g).ts.length ct2, .int .i64 (g).sent, .int .i64 (g).day] 27)))
    clear hi2 pa2 qa2
    have DU := Lib.hid hb2
    clear hb2 HW
    generalize w2.alloc (.cells #[.slice ac2 (g).n cc2, .slice am2 (g).ms.length cm2, .slice ao2 (g).os.length co2, .slice at2 (g).ts.length ct2, .int .i64 (g).sent, .int .i64 (g).day] 27) = u2 at *
    have HT : Hid (∀ zs : List Int, isReplay hx n xs zs = decide (N = zs)) := Lib.hid (fun zs => by rw [isReplay_t ok (show n ≤ 40 by omega), HG2.out])
    have HT1 := Lib.hid (show isReplay hx n xs N = true by rw [HT.out]; simp)
    have hNl : N.length ≤ 21 := by have := HNL.out; omega
    have HBD := Lib.hid (fun x (hx' : x ∈ N) => numsTo_bd hx xs n x (by rw [HG2.out]; exact hx'))
    clear X2
    have g0 := X1.out.six.c0
    have g1 := X1.out.six.c1
    have g2 := X1.out.six.c2
    have g3 := X1.out.six.c3
    have g4 := X1.out.six.c4
    have g5 := X1.out.six.c5
    go_upto_region 7 with (first | (go_at_call 35; refine (implIsReplay _ _ _ _ _ _ hx n xs N _ (X1.out.house.read hB) (Recs.of_own HA1.out (by omega)) (own_ints HI.out (by omega)) X1.out.house.nils hB).mono ?_; rw [HT1.out]; rintro e w3 ⟨rfl, hb3⟩; have X1 := Lib.hid (X1.out.below hb3); have HA1 := Lib.hid (own_below HA1.out hb3); have HI := Lib.hid (own_below HI.out hb3); have BY := Lib.hid (BY.out.below hb3); have DX := Lib.hid (bnext DX.out hb3); have DU := Lib.hid (bnext DU.out hb3); clear hb3 g0 g1 g2 g3 g4 g5; have g0 := X1.out.six.c0; have g1 := X1.out.six.c1; have g2 := X1.out.six.c2; have g3 := X1.out.six.c3; have g4 := X1.out.six.c4; have g5 := X1.out.six.c5))
    by_cases h0 : N.length = 0
    · have hq0 : ((N.length : Int) == 0) = true := by rw [beq_iff_eq]; omega
      have HT2 := Lib.hid (show isReplay hx n xs [1] = false by rw [HT.out, decide_eq_false_iff_not]; rintro rfl; simp at h0)
      clear h0
      go_wp2_with (first | (go_at_call 35; refine (implIsReplay _ _ _ _ _ _ hx n xs [1] _ ((X1.out.house.read hB).alloc _) ((Recs.of_own HA1.out (by omega)).alloc _) (lit_ints w3 w3.heap.size 1 [1] _ rfl rfl (by simp) rfl) X1.out.house.nils hB).mono ?_; rw [HT2.out]; rintro e w4 ⟨rfl, hb4⟩; have DX := Lib.hid (bnext DX.out (bnext (balloc (bref w3) _) hb4))))
      go_ret
      exact ⟨rfl, DX.out⟩
    · have hq0 : ((N.length : Int) == 0) = false := by rw [beq_eq_false_iff_ne]; omega
      have hq1 : ¬ (N.length : Int) = 0 := by omega
      go_upto_region 10 with (first | (go_at_call 48; refine (drawPlaces_any v bs _ BY.out).mono ?_; rintro e w4 ⟨adp, capp, ps, rfl, hpl, hpb, hrp, hb4⟩; have X1 := Lib.hid (X1.out.below hb4); have HA1 := Lib.hid (own_below HA1.out hb4); have HI := Lib.hid (own_below HI.out hb4); have DX := Lib.hid (bnext DX.out hb4); have HP := Lib.hid (own_ints (L := ps) (by rw [hpl]; exact hrp) (by omega)); clear g0 g1 g2 g3 g4 g5; have g0 := X1.out.six.c0; have g1 := X1.out.six.c1; have g2 := X1.out.six.c2; have g3 := X1.out.six.c3; have g4 := X1.out.six.c4; have g5 := X1.out.six.c5))
      obtain ⟨_, _, _, hvp, hcp⟩ := HP.out
      rw [hpl] at hvp
      cases hvp
      obtain ⟨bp, op, rfl, ep⟩ := hcp 0 (by omega)
      rw [Nat.add_zero] at ep
      have hp0 := hpb _ (nth_mem ps 0 (by omega))
      obtain ⟨hp00, hp01⟩ := hp0
      generalize nth ps 0 = p0 at *
      obtain ⟨k, hk, hkl⟩ : ∃ k : Nat, p0.tmod (N.length : Int) = (k : Int) ∧ k < N.length := by
        have a := Int.tmod_nonneg (N.length : Int) hp00
        have b := Int.tmod_lt_of_pos p0 (show (0 : Int) < N.length by omega)
        exact ⟨(p0.tmod (N.length : Int)).toNat, by omega, by omega⟩
      have hk2 : p0 % (N.length : Int) = (k : Int) := by rw [← hk]; exact (Int.tmod_eq_emod_of_nonneg hp00).symm
      have hkN : (k : Int) < (N.length : Int) := by omega
      have HT3 := Lib.hid (show isReplay hx n xs (N.set k (nth N k + 1)) = false by rw [HT.out, decide_eq_false_iff_not]; exact set_ne hkl)
      have hbk := HBD.out _ (nth_mem N k hkl)
      obtain ⟨hbk0, hbk1⟩ := hbk
      have row := HI.out
      obtain ⟨gl, rfl⟩ : ∃ gl, al = some ⟨gl, 0, none⟩ := by
        rcases row.2 with ⟨e, z⟩ | ⟨gl, _, _, e, _⟩
        · exact absurd z h0
        · cases e; exact ⟨gl, rfl⟩
      have ek : w4.cell? ⟨gl, k, none⟩ = some (.int .i64 (nth N k)) := by
        rw [row.cellAt k (by omega)]
        simp [nth, hkl]
      have fk := row.frozenAt k
      have HS := Lib.hid (row.stored k (.int .i64 (nth N k + 1))).1
      have hsl : (N.set k (nth N k + 1)).length = N.length := by simp
      have HI2 : Hid (Ints (w4.setCell ⟨gl, k, none⟩ (.int .i64 (nth N k + 1))) (.slice (some ⟨gl, 0, none⟩) N.length cl) (N.set k (nth N k + 1))) := by
        have q := HS.out
        rw [set_map] at q
        have q2 := own_ints (L := N.set k (nth N k + 1)) (by rw [hsl]; exact q) (by omega)
        exact q2
      have hg1 := (row.lt gl rfl).1
      have ne1 : ¬ gl = w1.heap.size := by omega
      have ne2 : ¬ w1.heap.size = gl := by omega
      have D5 := Lib.hid (bset (bnext DU.out hb4) (p := ⟨gl, k, none⟩) hg1 (.int .i64 (nth N k + 1)))
      have DX5 := Lib.hid (bnext DX0.out D5.out)
      clear row HS HI HP hcp hb4
      go_wp2_with (first | (go_at_call 35; refine (implIsReplay _ _ _ _ _ _ hx n xs (N.set k (nth N k + 1)) _ (RX1.out.below D5.out) (HAr.out.below D5.out) HI2.out hnx hB).mono ?_; rw [HT3.out]; rintro e w6 ⟨rfl, hb6⟩))
      go_ret
      exact ⟨rfl, bnext DX5.out hb6⟩
end Go.Proofs.Ytfmlakldaoojfaa
