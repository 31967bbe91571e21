/- The law of packages, walked. -/
import Derived.Test.YtkdpfjaebhgnoaaPackS
import Derived.Test.YtkdpfjaebhgnoaaPack
import Derived.Test.YtkdpfjaebhgnoaaCode
import Derived.Deep.DeepCutAuto
namespace Go.Proofs.Ytkdpfjaebhgnoaa
open Go.ChangeShapes Go.WideShapes Go.ChangeAt Go.RowKit

set_option maxRecDepth 100000 in
set_option maxHeartbeats 8000000 in
theorem fnPackages_any (v : Value) (bs : List Int) (w : World) (h : Bytes w v bs) : Calls Try.prog 14 #[v] w fun e w' => e = .returned (.bool true) ∧ Below w.heap.size w w' := by
  obtain ⟨i0, hi0, hz0, hz1, hz2⟩ := info_parts infoIntK
  by_cases hbig : (1048576 : Int) < bs.length
  · have hd : decide ((1048576 : Int) < bs.length) = true := by simp; omega
    go_enter Try.func14, Try.ntmps14
    go_wp2_with (first | (go_at_call 40; refine (big_any v bs w h).mono ?_; rw [hd]; rintro e w' ⟨rfl, rfl⟩))
    go_ret
    exact ⟨rfl, bref _⟩
  · have hd : decide ((1048576 : Int) < bs.length) = false := by simp; omega
    go_enter Try.func14, Try.ntmps14
    go_wp2_with (first | (go_at_call 40; refine (big_any v bs w h).mono ?_; rw [hd]; rintro e w' ⟨rfl, rfl⟩) | (go_at_call 52; refine (drawLot_any v bs w h).mono ?_; rintro e w1 ⟨adl, capl, nm, xs, rfl, D, hown, hb1⟩; have hI := Ints.of_own hown (by have := D.l1; omega); have hN := nilOk_own hown; have hl1 := D.l1; obtain ⟨m, hm, hlm, hg, hng⟩ := D.least; have HE := Lib.hid (D.ends hg hng); have HD := Lib.hid D; have B1 := Lib.hid (balloc (bref w1) (.cells #[.int .i64 nm, .slice adl xs.length capl] 47)); have d0 : (w1.alloc (.cells #[.int .i64 nm, .slice adl xs.length capl] 47)).cell? ⟨w1.heap.size, 0, none⟩ = some (.int .i64 nm) := (by go_simp); have d1 : (w1.alloc (.cells #[.int .i64 nm, .slice adl xs.length capl] 47)).cell? ⟨w1.heap.size, 1, none⟩ = some (.slice adl xs.length capl) := (by go_simp); have D1 := Lib.hid (balloc hb1 (.cells #[.int .i64 nm, .slice adl xs.length capl] 47)); clear hown hg hng D hb1) | (go_at_call 53; refine (implLeastMore nm _ xs _ (hI.below B1.out) hN (by omega)).mono ?_; rw [hlm]; rintro e w2 ⟨rfl, hb2⟩; have HI := Lib.hid ((hI.below B1.out).below hb2); have D2 := Lib.hid (bnext D1.out hb2); have c0 := (hb2.cell (p := ⟨w1.heap.size, 0, none⟩) (by simp)).trans d0; have c1 := (hb2.cell (p := ⟨w1.heap.size, 1, none⟩) (by simp)).trans d1; have z2 : w1.heap.size < w2.heap.size := (by have q := hb2.size; simp at q; omega); have hn0 : ¬ (m : Int) < 0 := (by omega); clear hI hN B1 D1 hb2 d0 d1 hlm))
    have P0 := Lib.hid (packs_new w2 nm)
    have E0 := Lib.hid (balloc (balloc (bref w2) (.cells #[.int .i64 nm, .slice none 0 0] 47)) (.cells #[.int .i64 nm, .slice none 0 0] 47))
    have C0 := Lib.hid c0
    have C1 := Lib.hid c1
    clear h hbig hd c0 c1
    go_loopw [7] (fun i wr => ∃ (k : Nat) (u1 u2 : Value) (ys1 ys2 : List Int), k ≤ xs.length ∧ i = .int .i64 k ∧ Hid (ys1 = shiftL (xs.take k) m) ∧ Hid (ys2 = shiftL (xs.take k) ((m : Int) - 1)) ∧ Hid (PackS (w2.heap.size + 2) w2.heap.size (w2.heap.size + 1) nm u1 u2 ys1 ys2 wr) ∧ Hid (Below w2.heap.size w2 wr)) (fun i _ => xs.length - (intOf i).toNat)
    case atStart => exact ⟨0, _, _, [], [], Nat.zero_le _, rfl, rfl, rfl, P0.out, E0.out⟩
    case round =>
      clear P0 E0
      obtain ⟨k, u1, u2, ys1, ys2, hk, rfl, Y1, Y2, T, O⟩ := hrel
      have c0 := (O.out.cell (p := ⟨w1.heap.size, 0, none⟩) z2).trans C0.out
      have c1 := (O.out.cell (p := ⟨w1.heap.size, 1, none⟩) z2).trans C1.out
      by_cases hlt : k < xs.length
      · obtain ⟨_, ad2, cap2, hv, hc⟩ := HI.out.below O.out
        cases hv
        obtain ⟨b, o, rfl, e0⟩ := hc k hlt
        obtain ⟨x0, x1⟩ := HD.out.each k hlt
        have q0 := HD.out.n1; have q1 := HD.out.s1; have q2 := HD.out.s2; have q3 := HD.out.n0
        have v1 : IntKind.i64.wrap (nth xs k + (m : Int)) = nth xs k + (m : Int) := by rw [IntKind.wrap_i64]; omega
        have v2 : IntKind.i64.wrap (nth xs k + (m : Int) - 1) = nth xs k + (m : Int) - 1 := by rw [IntKind.wrap_i64]; omega
        have HL : Hid (ys1.length = k ∧ ys2.length = k) := ⟨by rw [Y1.out, shiftL_len, List.length_take]; omega, by rw [Y2.out, shiftL_len, List.length_take]; omega⟩
        have S1 := Lib.hid (show shiftL (xs.take k) m ++ [nth xs k + m] = shiftL (xs.take (k + 1)) m from shift_push xs _ hlt)
        have S2 := Lib.hid (show shiftL (xs.take k) ((m : Int) - 1) ++ [nth xs k + m - 1] = shiftL (xs.take (k + 1)) ((m : Int) - 1) from by have := shift_push xs ((m : Int) - 1) hlt; rw [show nth xs k + ((m : Int) - 1) = nth xs k + m - 1 by omega] at this; exact this)
        clear hc x0 x1 q0 q1 q2 q3
        go_upto_region 12 with fail
        go_cut [] from 25 to 56 (fun wx => ∃ (u1' : Value), PackS (w2.heap.size + 2) w2.heap.size (w2.heap.size + 1) nm u1' u2 (ys1 ++ [nth xs k + (m : Int)]) ys2 wx ∧ Below w2.heap.size w2 wx)
        case first =>
          have a1 := T.out.a1
          have bl := T.out.bl
          have bl1 : w2.heap.size < wr.heap.size := by omega
          have bl2 : w1.heap.size < wr.heap.size := by omega
          obtain ⟨W, hW⟩ : ∃ W, W = wr.drew := ⟨_, rfl⟩
          have T := Lib.hid (T.out.below (bdrew (bref wr)))
          have O := Lib.hid (bdrew O.out)
          rw [← hW] at T O
          subst hW
          go_region_law
            (first | (refine step_append_src rfl _ _ 22 rfl (w2.heap.size + 2) 3 i0 (.int .i64 0) 1 8 Try.underlying22 hi0 hz0 hz1 hz2 rfl (by decide) u1 ys1.length (ys1.map (Value.int .i64)) rfl (own_below T.out.o1 (balloc (bref _) _)) _ 1 [nth xs k + (m : Int)] rfl (ints_recs (lit_ints wr.drew wr.drew.heap.size 1 [nth xs k + (m : Int)] _ rfl rfl (by simp) rfl)) (nilOk_some _ _ _) (by have := HL.out; omega) (by decide) (by have := T.out.bl; simp at this ⊢; omega) ?_; intro v' w5 hown hgrow hat; obtain ⟨ad', cap', rfl⟩ := own_form hown; obtain ⟨_, _, xf5, _, _⟩ := T.out.grown hgrow; have T5 := Lib.hid (T.out.push (x := nth xs k + (m : Int)) (by simpa using hown) hgrow hat); have O5 := Lib.hid (T.out.pushB (.slice ad' (ys1.length + 1) cap') O.out (by omega) hgrow); clear hown hgrow hat))
          all_goals
            go_wp2_with fail
            go_meet
            case rel => exact ⟨_, T5.out, O5.out⟩
        case rest =>
          obtain ⟨u1', T, O⟩ := hcut
          have T := Lib.hid T
          have O := Lib.hid O
          have c0 := (O.out.cell (p := ⟨w1.heap.size, 0, none⟩) z2).trans C0.out
          have c1 := (O.out.cell (p := ⟨w1.heap.size, 1, none⟩) z2).trans C1.out
          obtain ⟨_, ad3, cap3, hv3, hc3⟩ := HI.out.below O.out
          cases hv3
          obtain ⟨b', o', hbo, e0⟩ := hc3 k hlt
          cases hbo
          clear hc3
          have a1 := T.out.c1
          have bl := T.out.bl
          have bl1 : w2.heap.size + 1 < wc.heap.size := by omega
          have bl2 : w1.heap.size < wc.heap.size := by omega
          go_upto_region 13 with fail
          have T := Lib.hid (T.out.below (bdrew (bref wc)))
          have O := Lib.hid (bdrew O.out)
          go_region_law
            (first | (refine step_append_src rfl _ _ 22 rfl (w2.heap.size + 2) 3 i0 (.int .i64 0) 1 8 Try.underlying22 hi0 hz0 hz1 hz2 rfl (by decide) u2 ys2.length (ys2.map (Value.int .i64)) rfl (own_below T.out.swap.o1 (balloc (bref _) _)) _ 1 [nth xs k + (m : Int) - 1] rfl (ints_recs (lit_ints wc.drew wc.drew.heap.size 1 [nth xs k + (m : Int) - 1] _ rfl rfl (by simp) rfl)) (nilOk_some _ _ _) (by have := HL.out; omega) (by decide) (by have := T.out.bl; simp at this ⊢; omega) ?_; intro v' w5 hown hgrow hat; obtain ⟨ad', cap', rfl⟩ := own_form hown; obtain ⟨_, _, xf5, _, _⟩ := T.out.swap.grown hgrow; have T5 := Lib.hid (T.out.swap.push (x := nth xs k + (m : Int) - 1) (by simpa using hown) hgrow hat); have O5 := Lib.hid (T.out.swap.pushB (.slice ad' (ys2.length + 1) cap') O.out (by omega) hgrow); clear hown hgrow hat))
          all_goals
            go_wp2_with fail
            go_roundw
            case rel => exact ⟨k + 1, _, _, _, _, by omega, by go_num, by rw [Y1.out]; exact S1.out, by rw [Y2.out]; exact S2.out, T5.out.swap, O5.out⟩
            case measure => simp [intOf]; omega
      · obtain rfl : k = xs.length := by omega
        have e1 : ys1 = shiftL xs m := by rw [Y1.out, List.take_length]
        have e2 : ys2 = shiftL xs ((m : Int) - 1) := by rw [Y2.out, List.take_length]
        have HL : Hid (ys1.length ≤ 12 ∧ ys2.length ≤ 12) := ⟨by rw [e1, shiftL_len]; omega, by rw [e2, shiftL_len]; omega⟩
        have g1 := HE.out.g1
        have g2 := HE.out.g2
        rw [← e1] at g1
        rw [← e2] at g2
        have g0 := HE.out.g0
        have k1 := HE.out.k1
        have k2 := HE.out.k2
        have k0 := HE.out.k0
        have sl := HD.out.s0
        obtain ⟨f1, f2, f3, f4, f5, f6⟩ := good_avg g1
        have n0 := HD.out.n0
        have n1 := HD.out.n1
        clear e1 e2 Y1 Y2
        have a0 := T.out.a0
        have a1 := T.out.a1
        have FS := Lib.hid (show FinS w1.heap.size w2.heap.size (w2.heap.size + 1) nm (.slice adl xs.length capl) u1 u2 xs ys1 ys2 wr from ⟨c0, c1, T.out.a0, T.out.a1, T.out.c0, T.out.c1, HI.out.below O.out, Ints.of_own T.out.o1 (by have := HL.out; omega), Ints.of_own T.out.o2 (by have := HL.out; omega)⟩)
        obtain ⟨ad1, cap1, rfl⟩ := own_form T.out.o1
        obtain ⟨ad2, cap2, rfl⟩ := own_form T.out.o2
        have OF := Lib.hid (bnext D2.out O.out)
        clear T O HI HE C0 C1 D2
        generalize hc1 : countShort nm xs 1 = s1 at *
        generalize hc2 : countShort nm xs 2 = s2 at *
        generalize hc0 : countShort nm xs 0 = s0 at *
        have Hc1 := Lib.hid hc1
        have Hc2 := Lib.hid hc2
        have Hc0 := Lib.hid hc0
        generalize hav : avgN nm ys1 = av at *
        obtain ⟨at', ab, aok⟩ := av
        simp only at f1 f2 f3 f4 f5 f6
        subst f1
        have Hav := Lib.hid hav
        have hm1 : IntKind.i64.wrap (nm * ab) = nm * ab := by
          have z1 := Int.mul_le_mul n1 f6 (by omega) (by omega)
          have z0 := Int.mul_nonneg (show 0 ≤ nm by omega) (show 0 ≤ ab by omega)
          rw [IntKind.wrap_i64]
          generalize nm * ab = z at *
          omega
        clear hc1 hc2 hc0 hav
        by_cases hm0 : m = 0
        · subst hm0
          simp only [decide_true] at g0
          go_wp2_with (first | (go_at_call 54; refine (implAverageOf nm _ _ _ FS.out.i1).mono ?_; rw [Hav.out]; rintro e w3 ⟨rfl, hb3⟩; have hbn := bnext hb3 (balloc (bref w3) (.cells #[.int .i64 at', .int .i64 ab] 66)); have x0 : (w3.alloc (.cells #[.int .i64 at', .int .i64 ab] 66)).cell? ⟨w3.heap.size, 0, none⟩ = some (.int .i64 at') := (by go_simp); have x1 : (w3.alloc (.cells #[.int .i64 at', .int .i64 ab] 66)).cell? ⟨w3.heap.size, 1, none⟩ = some (.int .i64 ab) := (by go_simp); have FS := Lib.hid (FS.out.below hbn); have OF := Lib.hid (bnext OF.out hbn); have c0 := FS.out.c0; have c1 := FS.out.c1; have a0 := FS.out.a0; have a1 := FS.out.a1; have b0 := FS.out.b0; have b1 := FS.out.b1; clear hb3 hbn) | (go_at_call_of 51 (Value.agg #[Value.int .i64 nm, Value.slice ad1 ys1.length cap1]); refine (implIsLotGood nm _ _ _ FS.out.i1).mono ?_; rw [g1]; rintro e w' ⟨rfl, hbn⟩; have x0 := (hbn.cell (World.block_lt_of_cell? _ _ x0)).trans x0; have x1 := (hbn.cell (World.block_lt_of_cell? _ _ x1)).trans x1; have FS := Lib.hid (FS.out.below hbn); have OF := Lib.hid (bnext OF.out hbn); have c0 := FS.out.c0; have c1 := FS.out.c1; have a0 := FS.out.a0; have a1 := FS.out.a1; have b0 := FS.out.b0; have b1 := FS.out.b1; clear hbn) | (go_at_call_of 51 (Value.agg #[Value.int .i64 nm, Value.slice adl xs.length capl]); refine (implIsLotGood nm _ _ _ FS.out.i0).mono ?_; rw [g0]; rintro e w' ⟨rfl, hbn⟩; have x0 := (hbn.cell (World.block_lt_of_cell? _ _ x0)).trans x0; have x1 := (hbn.cell (World.block_lt_of_cell? _ _ x1)).trans x1; have FS := Lib.hid (FS.out.below hbn); have OF := Lib.hid (bnext OF.out hbn); have c0 := FS.out.c0; have c1 := FS.out.c1; have a0 := FS.out.a0; have a1 := FS.out.a1; have b0 := FS.out.b0; have b1 := FS.out.b1; clear hbn) | (go_at_call_of 51 (Value.agg #[Value.int .i64 nm, Value.slice ad2 ys2.length cap2]); refine (implIsLotGood nm _ _ _ FS.out.i2).mono ?_; rw [g2]; rintro e w' ⟨rfl, hbn⟩; have x0 := (hbn.cell (World.block_lt_of_cell? _ _ x0)).trans x0; have x1 := (hbn.cell (World.block_lt_of_cell? _ _ x1)).trans x1; have FS := Lib.hid (FS.out.below hbn); have OF := Lib.hid (bnext OF.out hbn); have c0 := FS.out.c0; have c1 := FS.out.c1; have a0 := FS.out.a0; have a1 := FS.out.a1; have b0 := FS.out.b0; have b1 := FS.out.b1; clear hbn) | (go_at_call_of 38 (Value.int .i64 1); refine (implCountShort nm 1 _ _ _ FS.out.i0).mono ?_; rw [Hc1.out]; rintro e w' ⟨rfl, hbn⟩; have x0 := (hbn.cell (World.block_lt_of_cell? _ _ x0)).trans x0; have x1 := (hbn.cell (World.block_lt_of_cell? _ _ x1)).trans x1; have FS := Lib.hid (FS.out.below hbn); have OF := Lib.hid (bnext OF.out hbn); have c0 := FS.out.c0; have c1 := FS.out.c1; have a0 := FS.out.a0; have a1 := FS.out.a1; have b0 := FS.out.b0; have b1 := FS.out.b1; clear hbn) | (go_at_call_of 38 (Value.int .i64 2); refine (implCountShort nm 2 _ _ _ FS.out.i0).mono ?_; rw [Hc2.out]; rintro e w' ⟨rfl, hbn⟩; have x0 := (hbn.cell (World.block_lt_of_cell? _ _ x0)).trans x0; have x1 := (hbn.cell (World.block_lt_of_cell? _ _ x1)).trans x1; have FS := Lib.hid (FS.out.below hbn); have OF := Lib.hid (bnext OF.out hbn); have c0 := FS.out.c0; have c1 := FS.out.c1; have a0 := FS.out.a0; have a1 := FS.out.a1; have b0 := FS.out.b0; have b1 := FS.out.b1; clear hbn) | (go_at_call_of 38 (Value.int .i64 0); refine (implCountShort nm 0 _ _ _ FS.out.i0).mono ?_; rw [Hc0.out]; rintro e w' ⟨rfl, hbn⟩; have x0 := (hbn.cell (World.block_lt_of_cell? _ _ x0)).trans x0; have x1 := (hbn.cell (World.block_lt_of_cell? _ _ x1)).trans x1; have FS := Lib.hid (FS.out.below hbn); have OF := Lib.hid (bnext OF.out hbn); have c0 := FS.out.c0; have c1 := FS.out.c1; have a0 := FS.out.a0; have a1 := FS.out.a1; have b0 := FS.out.b0; have b1 := FS.out.b1; clear hbn) | (go_at_call 55; refine (implShortLimit nm _).mono ?_; rintro e w' ⟨rfl, rfl⟩))
          all_goals
            go_ret
            exact ⟨rfl, OF.out⟩
        · rw [decide_eq_false hm0] at g0
          have g2 := g2 (by omega)
          have hmz : ((m : Int) == 0) = false := by simp; omega
          go_wp2_with (first | (go_at_call 54; refine (implAverageOf nm _ _ _ FS.out.i1).mono ?_; rw [Hav.out]; rintro e w3 ⟨rfl, hb3⟩; have hbn := bnext hb3 (balloc (bref w3) (.cells #[.int .i64 at', .int .i64 ab] 66)); have x0 : (w3.alloc (.cells #[.int .i64 at', .int .i64 ab] 66)).cell? ⟨w3.heap.size, 0, none⟩ = some (.int .i64 at') := (by go_simp); have x1 : (w3.alloc (.cells #[.int .i64 at', .int .i64 ab] 66)).cell? ⟨w3.heap.size, 1, none⟩ = some (.int .i64 ab) := (by go_simp); have FS := Lib.hid (FS.out.below hbn); have OF := Lib.hid (bnext OF.out hbn); have c0 := FS.out.c0; have c1 := FS.out.c1; have a0 := FS.out.a0; have a1 := FS.out.a1; have b0 := FS.out.b0; have b1 := FS.out.b1; clear hb3 hbn) | (go_at_call_of 51 (Value.agg #[Value.int .i64 nm, Value.slice ad1 ys1.length cap1]); refine (implIsLotGood nm _ _ _ FS.out.i1).mono ?_; rw [g1]; rintro e w' ⟨rfl, hbn⟩; have x0 := (hbn.cell (World.block_lt_of_cell? _ _ x0)).trans x0; have x1 := (hbn.cell (World.block_lt_of_cell? _ _ x1)).trans x1; have FS := Lib.hid (FS.out.below hbn); have OF := Lib.hid (bnext OF.out hbn); have c0 := FS.out.c0; have c1 := FS.out.c1; have a0 := FS.out.a0; have a1 := FS.out.a1; have b0 := FS.out.b0; have b1 := FS.out.b1; clear hbn) | (go_at_call_of 51 (Value.agg #[Value.int .i64 nm, Value.slice adl xs.length capl]); refine (implIsLotGood nm _ _ _ FS.out.i0).mono ?_; rw [g0]; rintro e w' ⟨rfl, hbn⟩; have x0 := (hbn.cell (World.block_lt_of_cell? _ _ x0)).trans x0; have x1 := (hbn.cell (World.block_lt_of_cell? _ _ x1)).trans x1; have FS := Lib.hid (FS.out.below hbn); have OF := Lib.hid (bnext OF.out hbn); have c0 := FS.out.c0; have c1 := FS.out.c1; have a0 := FS.out.a0; have a1 := FS.out.a1; have b0 := FS.out.b0; have b1 := FS.out.b1; clear hbn) | (go_at_call_of 51 (Value.agg #[Value.int .i64 nm, Value.slice ad2 ys2.length cap2]); refine (implIsLotGood nm _ _ _ FS.out.i2).mono ?_; rw [g2]; rintro e w' ⟨rfl, hbn⟩; have x0 := (hbn.cell (World.block_lt_of_cell? _ _ x0)).trans x0; have x1 := (hbn.cell (World.block_lt_of_cell? _ _ x1)).trans x1; have FS := Lib.hid (FS.out.below hbn); have OF := Lib.hid (bnext OF.out hbn); have c0 := FS.out.c0; have c1 := FS.out.c1; have a0 := FS.out.a0; have a1 := FS.out.a1; have b0 := FS.out.b0; have b1 := FS.out.b1; clear hbn) | (go_at_call_of 38 (Value.int .i64 1); refine (implCountShort nm 1 _ _ _ FS.out.i0).mono ?_; rw [Hc1.out]; rintro e w' ⟨rfl, hbn⟩; have x0 := (hbn.cell (World.block_lt_of_cell? _ _ x0)).trans x0; have x1 := (hbn.cell (World.block_lt_of_cell? _ _ x1)).trans x1; have FS := Lib.hid (FS.out.below hbn); have OF := Lib.hid (bnext OF.out hbn); have c0 := FS.out.c0; have c1 := FS.out.c1; have a0 := FS.out.a0; have a1 := FS.out.a1; have b0 := FS.out.b0; have b1 := FS.out.b1; clear hbn) | (go_at_call_of 38 (Value.int .i64 2); refine (implCountShort nm 2 _ _ _ FS.out.i0).mono ?_; rw [Hc2.out]; rintro e w' ⟨rfl, hbn⟩; have x0 := (hbn.cell (World.block_lt_of_cell? _ _ x0)).trans x0; have x1 := (hbn.cell (World.block_lt_of_cell? _ _ x1)).trans x1; have FS := Lib.hid (FS.out.below hbn); have OF := Lib.hid (bnext OF.out hbn); have c0 := FS.out.c0; have c1 := FS.out.c1; have a0 := FS.out.a0; have a1 := FS.out.a1; have b0 := FS.out.b0; have b1 := FS.out.b1; clear hbn) | (go_at_call_of 38 (Value.int .i64 0); refine (implCountShort nm 0 _ _ _ FS.out.i0).mono ?_; rw [Hc0.out]; rintro e w' ⟨rfl, hbn⟩; have x0 := (hbn.cell (World.block_lt_of_cell? _ _ x0)).trans x0; have x1 := (hbn.cell (World.block_lt_of_cell? _ _ x1)).trans x1; have FS := Lib.hid (FS.out.below hbn); have OF := Lib.hid (bnext OF.out hbn); have c0 := FS.out.c0; have c1 := FS.out.c1; have a0 := FS.out.a0; have a1 := FS.out.a1; have b0 := FS.out.b0; have b1 := FS.out.b1; clear hbn) | (go_at_call 55; refine (implShortLimit nm _).mono ?_; rintro e w' ⟨rfl, rfl⟩))
          all_goals
            go_ret
            exact ⟨rfl, OF.out⟩
end Go.Proofs.Ytkdpfjaebhgnoaa
