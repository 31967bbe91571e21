/- The law of histories, walked. -/
import Derived.Test.YtlipfkalehikkaaTopS
import Derived.Test.YtlipfkalehikkaaDoActI
import Derived.Test.YtlipfkalehikkaaDoActS
import Derived.Test.YtlipfkalehikkaaDrawActs
import Derived.Test.YtlipfkalehikkaaGA
import Derived.Test.YtlipfkalehikkaaGH
import Derived.Test.YtlipfkalehikkaaGB
import Derived.BigQuiet
import Derived.StillTailTactics
import Derived.Deep.RegionHeld3
import Derived.Deep.RegionWith
import Derived.Deep.DeepCutAuto
namespace Go.Proofs.Ytlipfkalehikkaa
open Go.ChangeShapes Go.WideShapes Go.ChangeAt Go.RowKit

theorem top_first {w u w4 : World} {lo : Nat} {vc vm vo vt v4 : Value} {h : HD} {ys : List Value} {m : Nat} (s : TopS lo w u.heap.size (u.alloc (.cells #[] 3)) vc vm vo vt (.slice (some ⟨u.heap.size, 0, none⟩) 0 0) h []) (hown : w4.ownsRow (w.heap.size + 1) 3 1 v4 m ys) (hgrow : (u.alloc (.cells #[] 3)).grownBy w4 (Value.slice (some ⟨u.heap.size, 0, none⟩) 0 0).ownBlock) (hat : v4.ownBlock = (Value.slice (some ⟨u.heap.size, 0, none⟩) 0 0).ownBlock ∨ v4.ownBlock = some (u.alloc (.cells #[] 3)).heap.size) (hm : m = 0 + h.ts.length) (hy : ys = [] ++ h.ts.map (Value.int .i64)) :
    ∃ g, TopS lo w g w4 vc vm vo vt v4 h h.ts := by
  subst hm hy
  have ho : Only u.heap.size (u.heap.size + 1) (u.alloc (.cells #[] 3)) w4 := Only.of_grown hgrow fun k hk => by cases hk; exact ⟨Nat.le_refl _, Nat.lt_succ_self _⟩
  have hr : w4.ownsRow (w.heap.size + 1) 3 1 v4 h.ts.length (h.ts.map (Value.int .i64)) := by simpa using hown
  rcases hat with e | e
  · exact ⟨_, s.grow ho hr (e.trans rfl) (.inl rfl)⟩
  · exact ⟨_, s.grow ho hr e (.inr (Nat.le_refl _))⟩
set_option linter.unusedSimpArgs false in
set_option maxRecDepth 100000 in
set_option maxHeartbeats 8000000 in
theorem fnTop_any (v : Value) (bs : List Int) (w : World) (h : Bytes w v bs) : Calls Try.prog 3 #[v] w fun e w' => e = .returned (.bool true) ∧ Below w.heap.size w w' := by
  obtain ⟨i0, hi, hz0, hz1, hz2⟩ := info_parts infoInt'
  by_cases hbig : (1048576 : Int) < bs.length
  · have hd : decide ((1048576 : Int) < bs.length) = true := by simp; omega
    go_enter Try.func3, Try.ntmps3
    go_wp2_with (first | (go_at_call 4; refine (big_any v bs w h).mono ?_; rw [hd]; rintro e w' ⟨rfl, rfl⟩))
    go_ret
    exact ⟨rfl, bref _⟩
  · have hd : decide ((1048576 : Int) < bs.length) = false := by simp; omega
    go_enter Try.func3, Try.ntmps3
    go_upto_region 4 with (first | (go_at_call 4; refine (big_any v bs w h).mono ?_; rw [hd]; rintro e w' ⟨rfl, rfl⟩) | (go_at_call 5; refine (drawActs_any v bs w h).mono ?_; rintro e w1 ⟨hx, ac0, am0, ao0, at0, cc0, cm0, co0, ct0, ada, n, capa, xs, rfl, ok, hO, hda, hn21, hra, hb1⟩; have HH := Lib.hid hO; have D := Lib.hid hb1; have BY := Lib.hid (h.below hb1); have HA := Lib.hid hra; have HAD := Lib.hid hda; clear hO hb1 hra hda))
    have X1 := Lib.hid (BoxH.first HH.out (Nat.le_refl _))
    have hu1 : (w1.alloc (.cells #[.slice ac0 (hx).n cc0, .slice am0 (hx).ms.length cm0, .slice ao0 (hx).os.length co0, .slice at0 (hx).ts.length ct0, .int .i64 (hx).sent, .int .i64 (hx).day] 27)).heap.size = w1.heap.size + 1 := by simp
    have B1 := Lib.hid (balloc (bref w1) (.cells #[.slice ac0 (hx).n cc0, .slice am0 (hx).ms.length cm0, .slice ao0 (hx).os.length co0, .slice at0 (hx).ts.length ct0, .int .i64 (hx).sent, .int .i64 (hx).day] 27))
    have hz1w := D.out.size
    have AR := Lib.hid (Recs.of_own HA.out (show n ≤ 9223372036854775807 by omega))
    clear hbig hd h HH HA
    generalize w1.alloc (.cells #[.slice ac0 (hx).n cc0, .slice am0 (hx).ms.length cm0, .slice ao0 (hx).os.length co0, .slice at0 (hx).ts.length ct0, .int .i64 (hx).sent, .int .i64 (hx).day] 27) = u1 at *
    have hB := houseOk_B ok
    have L0 := Lib.hid (TopS.lit X1.out hu1 hz1w B1.out)
    have HU1 := Lib.hid hu1
    have lX1 : w1.heap.size < u1.heap.size := by omega
    clear hu1
    have RT := Lib.hid (((X1.out.house.read hB).below (balloc (bref u1) (.cells #[] 3))).t)
    have RN := Lib.hid X1.out.house.nils.t
    have HTL := Lib.hid (houseOk_b ok).ts
    have g3 := X1.out.six.c3
    go_wp2_with (first | (at_builtin; refine wpList_append_src _ rfl _ _ 25 rfl (w1.heap.size + 1) 3 i0 (.int .i64 0) 1 8 Try.underlying25 hi hz0 hz1 hz2 rfl (by decide) (.slice (some ⟨u1.heap.size, 0, none⟩) 0 0) 0 [] rfl L0.out.row _ hx.ts.length hx.ts rfl (ints_recs RT.out) RN.out (by have := HTL.out; simp; omega) (by decide) (by have := HU1.out; simp; omega) ?_; intro v4 w4 hown4 hgrow4 hat4; have S4 := Lib.hid (top_first L0.out hown4 hgrow4 hat4 rfl rfl); clear hown4 hgrow4 hat4))
    obtain ⟨g4, S4⟩ := S4.out
    have S4 := Lib.hid S4
    clear L0 RT RN HTL g3 X1 B1 lX1
    go_wp2
    go_loopw [5, 6] (fun tv i wr => ∃ (k g : Nat) (T : List Int) (ac0 am0 ao0 at0 : Option Addr) (cc0 cm0 co0 ct0 : Nat), k ≤ n ∧ i = .int .i64 k ∧ Hid (TopS w.heap.size w1 g wr (.slice ac0 (runTo xs hx k).n cc0) (.slice am0 (runTo xs hx k).ms.length cm0) (.slice ao0 (runTo xs hx k).os.length co0) (.slice at0 (runTo xs hx k).ts.length ct0) tv (runTo xs hx k) T) ∧ Hid (ToldSame T (runTo xs hx k).ts)) (fun _ i _ => n - (intOf i).toNat)
    case atStart => exact ⟨0, g4, hx.ts, ac0, am0, ao0, at0, cc0, cm0, co0, ct0, Nat.zero_le _, rfl, S4, told_asc ok⟩
    case round =>
      clear S4 hB HU1
      obtain ⟨k, g, T, ac0, am0, ao0, at0, cc0, cm0, co0, ct0, hk, rfl, S, HT⟩ := hrel
      have okk := runTo_ok ok xs k
      by_cases hlt : k < n
      · have hNB := houseOk_B okk
        have hgw := S.out.lt.2
        have okg := runTo_ok ok xs (k + 1)
        have HN1 := Lib.hid (show runTo xs hx (k + 1) = (doAct (runTo xs hx k) (nth xs (k * 5)) (nth xs (k * 5 + 1)) (nth xs (k * 5 + 2)) (nth xs (k * 5 + 3)) (nth xs (k * 5 + 4))).1 from rfl)
        rw [HN1.out] at okg
        have hxl := HAD.out.len
        obtain ⟨_, _, _, _, hv2, hc2⟩ := AR.out
        cases hv2
        obtain ⟨b2, o2, rfl, e0, e1, e2, e3, e4, l2⟩ := atAct hxl hc2 k hlt
        clear hc2 hxl
        have hkn : (k : Int) < (n : Int) := by omega
        have hk0 : (0 : Int) ≤ (k : Int) := by omega
        generalize nth xs (k * 5) = p0 at *
        generalize nth xs (k * 5 + 1) = p1 at *
        generalize nth xs (k * 5 + 2) = p2 at *
        generalize nth xs (k * 5 + 3) = p3 at *
        generalize nth xs (k * 5 + 4) = p4 at *
        have HF := Lib.hid (fun (W : World) (q : Below w1.heap.size w1 W) => And.intro ((q.cell (p := ⟨b2, o2 + k * 5, none⟩) l2).trans e0) (And.intro ((q.cell (p := ⟨b2, o2 + k * 5 + 1, none⟩) l2).trans e1) (And.intro ((q.cell (p := ⟨b2, o2 + k * 5 + 2, none⟩) l2).trans e2) (And.intro ((q.cell (p := ⟨b2, o2 + k * 5 + 3, none⟩) l2).trans e3) ((q.cell (p := ⟨b2, o2 + k * 5 + 4, none⟩) l2).trans e4)))))
        clear e0 e1 e2 e3 e4
        have HTL := Lib.hid (told_12 okk HT.out)
        have HOK := Lib.hid ok
        generalize runTo xs hx k = h0 at *
        generalize hg1 : (doAct h0 p0 p1 p2 p3 p4).1 = hy at *
        generalize hg2 : (doAct h0 p0 p1 p2 p3 p4).2 = z at *
        have HG1 := Lib.hid hg1
        have HG2 := Lib.hid hg2
        clear hg1 hg2
        have yX := S.out.box.six.lt
        have g0 := S.out.box.six.c0
        have g1 := S.out.box.six.c1
        have g2 := S.out.box.six.c2
        have g3 := S.out.box.six.c3
        have g4 := S.out.box.six.c4
        have g5 := S.out.box.six.c5
        obtain ⟨f0, f1, f2, f3, f4⟩ := HF.out _ S.out.below
        have l2u : b2 < wr.heap.size := Nat.lt_of_lt_of_le l2 S.out.below.size
        have HRD := Lib.hid (fun (W : World) (q : Below wr.heap.size wr W) => (S.out.box.house.read hNB).below q)
        have hnil := S.out.box.house.nils
        have hDr : Below wr.heap.size wr wr.drew := bdrew (bref _)
        have hDa : Below wr.heap.size wr (wr.alloc (.cells #[.slice none 0 0, .slice none 0 0, .slice none 0 0, .slice none 0 0, .int .i64 0, .int .i64 0] 27)).drew := bdrew (balloc (bref _) _)
        have SZ := Lib.hid (show Six wr.heap.size ((wr.alloc (.cells #[.slice none 0 0, .slice none 0 0, .slice none 0 0, .slice none 0 0, .int .i64 0, .int .i64 0] 27)).drew) (.slice none 0 0) (.slice none 0 0) (.slice none 0 0) (.slice none 0 0) (.int .i64 0) (.int .i64 0) from ⟨by go_simp, by go_simp, by go_simp, by go_simp, by go_simp, by go_simp, by go_simp, by go_simp, by go_simp, by go_simp, by go_simp, by go_simp⟩)
        have SS : Hid (∀ w' : World, Below wr.heap.size wr w' → w'.cell? ⟨w1.heap.size, 0, none⟩ = some (.slice ac0 (h0).n cc0) ∧ w'.cell? ⟨w1.heap.size, 1, none⟩ = some (.slice am0 (h0).ms.length cm0) ∧ w'.cell? ⟨w1.heap.size, 2, none⟩ = some (.slice ao0 (h0).os.length co0) ∧ w'.cell? ⟨w1.heap.size, 3, none⟩ = some (.slice at0 (h0).ts.length ct0) ∧ w'.cell? ⟨w1.heap.size, 4, none⟩ = some (.int .i64 (h0).sent) ∧ w'.cell? ⟨w1.heap.size, 5, none⟩ = some (.int .i64 (h0).day) ∧ w'.cell? ⟨b2, o2 + k * 5, none⟩ = some (.int .i64 p0) ∧ w'.cell? ⟨b2, o2 + k * 5 + 1, none⟩ = some (.int .i64 p1) ∧ w'.cell? ⟨b2, o2 + k * 5 + 2, none⟩ = some (.int .i64 p2) ∧ w'.cell? ⟨b2, o2 + k * 5 + 3, none⟩ = some (.int .i64 p3) ∧ w'.cell? ⟨b2, o2 + k * 5 + 4, none⟩ = some (.int .i64 p4) ∧ Below wr.heap.size wr w') := fun W q => ⟨(q.cell (p := ⟨w1.heap.size, 0, none⟩) yX).trans g0, (q.cell (p := ⟨w1.heap.size, 1, none⟩) yX).trans g1, (q.cell (p := ⟨w1.heap.size, 2, none⟩) yX).trans g2, (q.cell (p := ⟨w1.heap.size, 3, none⟩) yX).trans g3, (q.cell (p := ⟨w1.heap.size, 4, none⟩) yX).trans g4, (q.cell (p := ⟨w1.heap.size, 5, none⟩) yX).trans g5, (q.cell (p := ⟨b2, o2 + k * 5, none⟩) l2u).trans f0, (q.cell (p := ⟨b2, o2 + k * 5 + 1, none⟩) l2u).trans f1, (q.cell (p := ⟨b2, o2 + k * 5 + 2, none⟩) l2u).trans f2, (q.cell (p := ⟨b2, o2 + k * 5 + 3, none⟩) l2u).trans f3, (q.cell (p := ⟨b2, o2 + k * 5 + 4, none⟩) l2u).trans f4, q⟩
        go_upto_region 8 with fail
        go_cut [7, 8] (fun p q wx => ∃ (P : Nat) (ac7 am7 ao7 at7 : Option Addr) (cc7 cm7 co7 ct7 : Nat), p = .pointer (some ⟨P, 0, none⟩) ∧ q = .int .i64 z ∧ wr.heap.size ≤ P ∧ Hid (Six P wx (.slice ac7 (hy).n cc7) (.slice am7 (hy).ms.length cm7) (.slice ao7 (hy).os.length co7) (.slice at7 (hy).ts.length ct7) (.int .i64 (hy).sent) (.int .i64 (hy).day)) ∧ Hid (HouseO wr.heap.size wx.heap.size wx (.slice ac7 (hy).n cc7) (.slice am7 (hy).ms.length cm7) (.slice ao7 (hy).os.length co7) (.slice at7 (hy).ts.length ct7) hy) ∧ Hid (Below wr.heap.size wr wx))
        case first =>
          go_region_held3 (fun w' => w'.cell? ⟨w1.heap.size, 0, none⟩ = some (.slice ac0 (h0).n cc0) ∧ w'.cell? ⟨w1.heap.size, 1, none⟩ = some (.slice am0 (h0).ms.length cm0) ∧ w'.cell? ⟨w1.heap.size, 2, none⟩ = some (.slice ao0 (h0).os.length co0) ∧ w'.cell? ⟨w1.heap.size, 3, none⟩ = some (.slice at0 (h0).ts.length ct0) ∧ w'.cell? ⟨w1.heap.size, 4, none⟩ = some (.int .i64 (h0).sent) ∧ w'.cell? ⟨w1.heap.size, 5, none⟩ = some (.int .i64 (h0).day) ∧ w'.cell? ⟨b2, o2 + k * 5, none⟩ = some (.int .i64 p0) ∧ w'.cell? ⟨b2, o2 + k * 5 + 1, none⟩ = some (.int .i64 p1) ∧ w'.cell? ⟨b2, o2 + k * 5 + 2, none⟩ = some (.int .i64 p2) ∧ w'.cell? ⟨b2, o2 + k * 5 + 3, none⟩ = some (.int .i64 p3) ∧ w'.cell? ⟨b2, o2 + k * 5 + 4, none⟩ = some (.int .i64 p4) ∧ Below wr.heap.size wr w')
            (first | with_reducible exact SS.out _ hDr | with_reducible exact SS.out _ hDa | with_reducible exact SS.out _ q2 | with_reducible exact SS.out _ qA | with_reducible exact SS.out _ qV | with_reducible exact SS.out _ qP | fail "keep")
            (first | (go_at_call 6; go_split_ands; refine (implDoAct _ _ _ _ h0 p0 p1 p2 p3 p4 _ (HRD.out _ (by assumption)) hnil hNB).mono ?_; rw [HG1.out, HG2.out]; rintro e w2_ ⟨ac7, cc7, am7, cm7, ao7, co7, at7, ct7, rfl, hO, hb2⟩; have q2 : Below wr.heap.size wr w2_ := (by first | exact bnext hDr hb2 | exact bnext hDa hb2); have qA : Below wr.heap.size wr (w2_.alloc (.cells #[.slice none 0 0, .slice none 0 0, .slice none 0 0, .slice none 0 0, .int .i64 0, .int .i64 0] 27)) := balloc q2 _; have qV : Below wr.heap.size wr (w2_.alloc (.cells #[.slice ac7 (hy).n cc7, .slice am7 (hy).ms.length cm7, .slice ao7 (hy).os.length co7, .slice at7 (hy).ts.length ct7, .int .i64 (hy).sent, .int .i64 (hy).day] 27)) := balloc q2 _; have qP : Below wr.heap.size wr (put6 w2_ wr.heap.size (.slice ac7 (hy).n cc7) (.slice am7 (hy).ms.length cm7) (.slice ao7 (hy).os.length co7) (.slice at7 (hy).ts.length ct7) (.int .i64 (hy).sent) (.int .i64 (hy).day)) := Only.below q2 (only_put6 w2_ wr.heap.size _ _ _ _ _ _) (Nat.le_refl _); (try (have SZ2 := SZ.out.below hb2; have SH := Lib.hid SZ2; obtain ⟨s0, s1, s2, s3, s4, s5, fs0, fs1, fs2, fs3, fs4, fs5⟩ := SZ2))))
          all_goals
            go_wp2_with fail
            go_meet
            first
            | (have oB := only_put6 w2_ wr.heap.size (.slice ac7 (hy).n cc7) (.slice am7 (hy).ms.length cm7) (.slice ao7 (hy).os.length co7) (.slice at7 (hy).ts.length ct7) (.int .i64 (hy).sent) (.int .i64 (hy).day)
               exact ⟨wr.heap.size, ac7, am7, ao7, at7, cc7, cm7, co7, ct7, rfl, rfl, Nat.le_refl _, Lib.hid SH.out.put, Lib.hid ((hO.only oB (off_r (by simp))).wide (by simp) oB.size), Lib.hid qP⟩)
            | (have B5 := BoxH.first hO (Nat.le_refl _)
               exact ⟨w2_.heap.size, ac7, am7, ao7, at7, cc7, cm7, co7, ct7, rfl, rfl, q2.size, Lib.hid B5.six, Lib.hid (B5.house.wide (by simp) (Nat.le_refl _)), Lib.hid qV⟩)
        case rest =>
          obtain ⟨P7, ac7, am7, ao7, at7, cc7, cm7, co7, ct7, rfl, rfl, lP7, H6, HH, HBx⟩ := hcut
          clear SS SZ HRD hnil hDr hDa g0 g1 g2 g3 g4 g5 f0 f1 f2 f3 f4 l2u yX
          have X7 := Lib.hid (BX.mk H6.out HH.out)
          have S := Lib.hid (S.out.go HBx.out)
          have hgu := S.out.lt
          have hg7 : g < wr.heap.size := hgw
          have z7 := HBx.out.size
          clear H6 HH HBx
          generalize wc = u7 at *
          have yX := S.out.box.six.lt
          have g0 := S.out.box.six.c0
          have g1 := S.out.box.six.c1
          have g2 := S.out.box.six.c2
          have g3 := S.out.box.six.c3
          have g4 := S.out.box.six.c4
          have g5 := S.out.box.six.c5
          obtain ⟨f0, f1, f2, f3, f4⟩ := HF.out _ S.out.below
          have l2u : b2 < u7.heap.size := Nat.lt_of_lt_of_le l2 S.out.below.size
          have HRD := Lib.hid (fun (W : World) (q : Below u7.heap.size u7 W) => (S.out.box.house.read hNB).below q)
          have hnil := S.out.box.house.nils
          have hDr : Below u7.heap.size u7 u7.drew := bdrew (bref _)
          have hDa : Below u7.heap.size u7 (u7.alloc (.cells #[.slice none 0 0, .slice none 0 0, .slice none 0 0, .slice none 0 0, .int .i64 0, .int .i64 0] 27)).drew := bdrew (balloc (bref _) _)
          have SZ := Lib.hid (show Six u7.heap.size ((u7.alloc (.cells #[.slice none 0 0, .slice none 0 0, .slice none 0 0, .slice none 0 0, .int .i64 0, .int .i64 0] 27)).drew) (.slice none 0 0) (.slice none 0 0) (.slice none 0 0) (.slice none 0 0) (.int .i64 0) (.int .i64 0) from ⟨by go_simp, by go_simp, by go_simp, by go_simp, by go_simp, by go_simp, by go_simp, by go_simp, by go_simp, by go_simp, by go_simp, by go_simp⟩)
          have SS : Hid (∀ w' : World, Below u7.heap.size u7 w' → w'.cell? ⟨w1.heap.size, 0, none⟩ = some (.slice ac0 (h0).n cc0) ∧ w'.cell? ⟨w1.heap.size, 1, none⟩ = some (.slice am0 (h0).ms.length cm0) ∧ w'.cell? ⟨w1.heap.size, 2, none⟩ = some (.slice ao0 (h0).os.length co0) ∧ w'.cell? ⟨w1.heap.size, 3, none⟩ = some (.slice at0 (h0).ts.length ct0) ∧ w'.cell? ⟨w1.heap.size, 4, none⟩ = some (.int .i64 (h0).sent) ∧ w'.cell? ⟨w1.heap.size, 5, none⟩ = some (.int .i64 (h0).day) ∧ w'.cell? ⟨b2, o2 + k * 5, none⟩ = some (.int .i64 p0) ∧ w'.cell? ⟨b2, o2 + k * 5 + 1, none⟩ = some (.int .i64 p1) ∧ w'.cell? ⟨b2, o2 + k * 5 + 2, none⟩ = some (.int .i64 p2) ∧ w'.cell? ⟨b2, o2 + k * 5 + 3, none⟩ = some (.int .i64 p3) ∧ w'.cell? ⟨b2, o2 + k * 5 + 4, none⟩ = some (.int .i64 p4) ∧ Below u7.heap.size u7 w') := fun W q => ⟨(q.cell (p := ⟨w1.heap.size, 0, none⟩) yX).trans g0, (q.cell (p := ⟨w1.heap.size, 1, none⟩) yX).trans g1, (q.cell (p := ⟨w1.heap.size, 2, none⟩) yX).trans g2, (q.cell (p := ⟨w1.heap.size, 3, none⟩) yX).trans g3, (q.cell (p := ⟨w1.heap.size, 4, none⟩) yX).trans g4, (q.cell (p := ⟨w1.heap.size, 5, none⟩) yX).trans g5, (q.cell (p := ⟨b2, o2 + k * 5, none⟩) l2u).trans f0, (q.cell (p := ⟨b2, o2 + k * 5 + 1, none⟩) l2u).trans f1, (q.cell (p := ⟨b2, o2 + k * 5 + 2, none⟩) l2u).trans f2, (q.cell (p := ⟨b2, o2 + k * 5 + 3, none⟩) l2u).trans f3, (q.cell (p := ⟨b2, o2 + k * 5 + 4, none⟩) l2u).trans f4, q⟩
          go_upto_region 9 with fail
          go_cut [9, 10] (fun p q wx => ∃ (P : Nat) (ac9 am9 ao9 at9 : Option Addr) (cc9 cm9 co9 ct9 : Nat), p = .pointer (some ⟨P, 0, none⟩) ∧ q = .int .i64 z ∧ u7.heap.size ≤ P ∧ Hid (Six P wx (.slice ac9 (hy).n cc9) (.slice am9 (hy).ms.length cm9) (.slice ao9 (hy).os.length co9) (.slice at9 (hy).ts.length ct9) (.int .i64 (hy).sent) (.int .i64 (hy).day)) ∧ Hid (HouseO u7.heap.size wx.heap.size wx (.slice ac9 (hy).n cc9) (.slice am9 (hy).ms.length cm9) (.slice ao9 (hy).os.length co9) (.slice at9 (hy).ts.length ct9) hy) ∧ Hid (Below u7.heap.size u7 wx))
          case first =>
            go_region_held3 (fun w' => w'.cell? ⟨w1.heap.size, 0, none⟩ = some (.slice ac0 (h0).n cc0) ∧ w'.cell? ⟨w1.heap.size, 1, none⟩ = some (.slice am0 (h0).ms.length cm0) ∧ w'.cell? ⟨w1.heap.size, 2, none⟩ = some (.slice ao0 (h0).os.length co0) ∧ w'.cell? ⟨w1.heap.size, 3, none⟩ = some (.slice at0 (h0).ts.length ct0) ∧ w'.cell? ⟨w1.heap.size, 4, none⟩ = some (.int .i64 (h0).sent) ∧ w'.cell? ⟨w1.heap.size, 5, none⟩ = some (.int .i64 (h0).day) ∧ w'.cell? ⟨b2, o2 + k * 5, none⟩ = some (.int .i64 p0) ∧ w'.cell? ⟨b2, o2 + k * 5 + 1, none⟩ = some (.int .i64 p1) ∧ w'.cell? ⟨b2, o2 + k * 5 + 2, none⟩ = some (.int .i64 p2) ∧ w'.cell? ⟨b2, o2 + k * 5 + 3, none⟩ = some (.int .i64 p3) ∧ w'.cell? ⟨b2, o2 + k * 5 + 4, none⟩ = some (.int .i64 p4) ∧ Below u7.heap.size u7 w')
              (first | with_reducible exact SS.out _ hDr | with_reducible exact SS.out _ hDa | with_reducible exact SS.out _ q2 | with_reducible exact SS.out _ qA | with_reducible exact SS.out _ qV | with_reducible exact SS.out _ qP | fail "keep")
              (first | (go_at_call 7; go_split_ands; refine (specDoAct _ _ _ _ h0 p0 p1 p2 p3 p4 _ (HRD.out _ (by assumption)) hnil hNB).mono ?_; rw [HG1.out, HG2.out]; rintro e w2_ ⟨ac9, cc9, am9, cm9, ao9, co9, at9, ct9, rfl, hO, hb2⟩; have q2 : Below u7.heap.size u7 w2_ := (by first | exact bnext hDr hb2 | exact bnext hDa hb2); have qA : Below u7.heap.size u7 (w2_.alloc (.cells #[.slice none 0 0, .slice none 0 0, .slice none 0 0, .slice none 0 0, .int .i64 0, .int .i64 0] 27)) := balloc q2 _; have qV : Below u7.heap.size u7 (w2_.alloc (.cells #[.slice ac9 (hy).n cc9, .slice am9 (hy).ms.length cm9, .slice ao9 (hy).os.length co9, .slice at9 (hy).ts.length ct9, .int .i64 (hy).sent, .int .i64 (hy).day] 27)) := balloc q2 _; have qP : Below u7.heap.size u7 (put6 w2_ u7.heap.size (.slice ac9 (hy).n cc9) (.slice am9 (hy).ms.length cm9) (.slice ao9 (hy).os.length co9) (.slice at9 (hy).ts.length ct9) (.int .i64 (hy).sent) (.int .i64 (hy).day)) := Only.below q2 (only_put6 w2_ u7.heap.size _ _ _ _ _ _) (Nat.le_refl _); (try (have SZ2 := SZ.out.below hb2; have SH := Lib.hid SZ2; obtain ⟨s0, s1, s2, s3, s4, s5, fs0, fs1, fs2, fs3, fs4, fs5⟩ := SZ2))))
            all_goals
              go_wp2_with fail
              go_meet
              first
              | (have oB := only_put6 w2_ u7.heap.size (.slice ac9 (hy).n cc9) (.slice am9 (hy).ms.length cm9) (.slice ao9 (hy).os.length co9) (.slice at9 (hy).ts.length ct9) (.int .i64 (hy).sent) (.int .i64 (hy).day)
                 exact ⟨u7.heap.size, ac9, am9, ao9, at9, cc9, cm9, co9, ct9, rfl, rfl, Nat.le_refl _, Lib.hid SH.out.put, Lib.hid ((hO.only oB (off_r (by simp))).wide (by simp) oB.size), Lib.hid qP⟩)
              | (have B5 := BoxH.first hO (Nat.le_refl _)
                 exact ⟨w2_.heap.size, ac9, am9, ao9, at9, cc9, cm9, co9, ct9, rfl, rfl, q2.size, Lib.hid B5.six, Lib.hid (B5.house.wide (by simp) (Nat.le_refl _)), Lib.hid qV⟩)
          case rest =>
            obtain ⟨P9, ac9, am9, ao9, at9, cc9, cm9, co9, ct9, rfl, rfl, lP9, H6, HH, HBx⟩ := hcut
            clear SS SZ HRD hnil hDr hDa g0 g1 g2 g3 g4 g5 f0 f1 f2 f3 f4 l2u yX
            have X9 := Lib.hid (BX.mk H6.out HH.out)
            have S := Lib.hid (S.out.go HBx.out)
            have X7 := Lib.hid (X7.out.below HBx.out)
            have l9x : w1.heap.size < u7.heap.size := by omega
            have z9 := HBx.out.size
            clear H6 HH HBx
            generalize wc = u9 at *
            have d0 := X7.out.six.c0
            have d1 := X7.out.six.c1
            have d2 := X7.out.six.c2
            have d3 := X7.out.six.c3
            have d4 := X7.out.six.c4
            have d5 := X7.out.six.c5
            have e0 := X9.out.six.c0
            have e1 := X9.out.six.c1
            have e2 := X9.out.six.c2
            have e3 := X9.out.six.c3
            have e4 := X9.out.six.c4
            have e5 := X9.out.six.c5
            have z10 : u9.heap.size ≤ u9.heap.size := Nat.le_refl _
            have zz1 : (z != z) = false := by simp
            obtain ⟨f0, f1, f2, f3, f4⟩ := HF.out _ S.out.below
            go_upto_region 12 with (first
              | (go_at_call 8; refine (implHouseOk _ _ _ _ hy _ (X7.out.house.read (houseOk_B okg))).mono ?_; rw [okg]; rintro e w10 ⟨rfl, hb⟩; have S := Lib.hid (S.out.go hb); have X7 := Lib.hid (X7.out.below hb); have X9 := Lib.hid (X9.out.below hb); have z10 := Nat.le_trans z10 hb.size; clear hb d0 d1 d2 d3 d4 d5 e0 e1 e2 e3 e4 e5; have d0 := X7.out.six.c0; have d1 := X7.out.six.c1; have d2 := X7.out.six.c2; have d3 := X7.out.six.c3; have d4 := X7.out.six.c4; have d5 := X7.out.six.c5; have e0 := X9.out.six.c0; have e1 := X9.out.six.c1; have e2 := X9.out.six.c2; have e3 := X9.out.six.c3; have e4 := X9.out.six.c4; have e5 := X9.out.six.c5)
              | (go_at_call 9; refine (sameI_any _ _ hy.ts _ (X7.out.house.read (houseOk_B okg)).t (X9.out.house.read (houseOk_B okg)).t).mono ?_; rintro e w11 ⟨rfl, hb⟩; have S := Lib.hid (S.out.go hb); have X7 := Lib.hid (X7.out.below hb); have X9 := Lib.hid (X9.out.below hb); have z10 := Nat.le_trans z10 hb.size; clear hb d0 d1 d2 d3 d4 d5 e0 e1 e2 e3 e4 e5; have d0 := X7.out.six.c0; have d1 := X7.out.six.c1; have d2 := X7.out.six.c2; have d3 := X7.out.six.c3; have d4 := X7.out.six.c4; have d5 := X7.out.six.c5; have e0 := X9.out.six.c0; have e1 := X9.out.six.c1; have e2 := X9.out.six.c2; have e3 := X9.out.six.c3; have e4 := X9.out.six.c4; have e5 := X9.out.six.c5))
            clear f0 f1 f2 f3 f4 d0 d1 d2 d3 d4 d5 e0 e1 e2 e3 e4 e5 X7
            have HF12 := HF.out _ S.out.below
            generalize w11 = uu at *
            obtain ⟨f0, f1, f2, f3, f4⟩ := HF12
            by_cases hp : p0 = 3
            · subst hp
              by_cases hz : 0 ≤ z
              · have hzd : decide (0 ≤ z) = true := decide_eq_true hz
                go_upto_region 13 with fail
                clear f0 f1 f2 f3 f4
                have HAL12 := Lib.hid (affected_len h0.n h0.xs h0.ms p1 p2)
                have HTA := Lib.hid (told_act HT.out rfl (show 0 ≤ (doAct h0 3 p1 p2 p3 p4).2 by rw [HG2.out]; exact hz))
                rw [HG1.out] at HTA
                have HAF := Lib.hid (show ∀ W, HouseR W (.slice ac0 (h0).n cc0) (.slice am0 (h0).ms.length cm0) (.slice ao0 (h0).os.length co0) (.slice at0 (h0).ts.length ct0) h0 → Calls Try.prog 10 #[.slice ac0 (h0).n cc0, .slice am0 (h0).ms.length cm0, .int .i64 p1, .int .i64 p2] W (GivesN W (affected h0.n h0.xs h0.ms p1 p2)) from fun W r => implAffectedBy _ h0.n h0.xs _ h0.ms p1 p2 W r.c r.m)
                generalize affected h0.n h0.xs h0.ms p1 p2 = A at *
                have yX := S.out.box.six.lt
                have g0 := S.out.box.six.c0
                have g1 := S.out.box.six.c1
                have g2 := S.out.box.six.c2
                have g3 := S.out.box.six.c3
                have g4 := S.out.box.six.c4
                have g5 := S.out.box.six.c5
                obtain ⟨f0, f1, f2, f3, f4⟩ := HF.out _ S.out.below
                have l2u : b2 < uu.heap.size := Nat.lt_of_lt_of_le l2 S.out.below.size
                have HRD := Lib.hid (fun (W : World) (q : Below uu.heap.size uu W) => (S.out.box.house.read hNB).below q)
                have hDr : Below uu.heap.size uu uu.drew := bdrew (bref _)
                have SS : Hid (∀ w' : World, Below uu.heap.size uu w' → w'.cell? ⟨w1.heap.size, 0, none⟩ = some (.slice ac0 h0.n cc0) ∧ w'.cell? ⟨w1.heap.size, 1, none⟩ = some (.slice am0 h0.ms.length cm0) ∧ w'.cell? ⟨b2, o2 + k * 5 + 1, none⟩ = some (.int .i64 p1) ∧ w'.cell? ⟨b2, o2 + k * 5 + 2, none⟩ = some (.int .i64 p2) ∧ Below uu.heap.size uu w') := fun W q => ⟨(q.cell (p := ⟨w1.heap.size, 0, none⟩) yX).trans g0, (q.cell (p := ⟨w1.heap.size, 1, none⟩) yX).trans g1, (q.cell (p := ⟨b2, o2 + k * 5 + 1, none⟩) l2u).trans f1, (q.cell (p := ⟨b2, o2 + k * 5 + 2, none⟩) l2u).trans f2, q⟩
                go_upto_region 13 with fail
                go_cut [11] (fun a wx => ∃ (aa : Option Addr) (ca : Nat), a = .slice aa A.length ca ∧ Hid (RowO uu.heap.size wx.heap.size wx 3 1 (.slice aa A.length ca) A.length A) ∧ Hid (Below uu.heap.size uu wx))
                case first =>
                  go_region_held3 (fun w' => w'.cell? ⟨w1.heap.size, 0, none⟩ = some (.slice ac0 h0.n cc0) ∧ w'.cell? ⟨w1.heap.size, 1, none⟩ = some (.slice am0 h0.ms.length cm0) ∧ w'.cell? ⟨b2, o2 + k * 5 + 1, none⟩ = some (.int .i64 p1) ∧ w'.cell? ⟨b2, o2 + k * 5 + 2, none⟩ = some (.int .i64 p2) ∧ Below uu.heap.size uu w')
                    (first | with_reducible exact SS.out _ hDr | with_reducible exact SS.out _ q3 | fail "keep")
                    (first | (go_at_call 10; go_split_ands; refine (HAF.out _ (HRD.out _ (by assumption))).mono ?_; rintro e w3_ ⟨va, rfl, hra, -, hb3⟩; have q3 : Below uu.heap.size uu w3_ := bnext hDr hb3; obtain ⟨aa, ca, rfl⟩ := own_form hra))
                  go_wp2_with fail
                  go_meet
                  exact ⟨aa, ca, rfl, Lib.hid (RowO.of (own_base hra (by simp))), Lib.hid q3⟩
                case rest =>
                  obtain ⟨aa, ca, rfl, HRA, HBx⟩ := hcut
                  have S := Lib.hid (S.out.go HBx.out)
                  have X9 := Lib.hid (X9.out.below HBx.out)
                  have hz13 := HBx.out.size
                  clear SS HRD HAF hDr HBx g0 g1 g2 g3 g4 g5 f0 f1 f2 f3 f4 yX l2u
                  generalize wc = u13 at *
                  go_wp2_with fail
                  go_loopw [5, 12] (fun tv j wq => ∃ (i g' : Nat), i ≤ A.length ∧ j = .int .i64 i ∧ Hid (Only g (g + 1) u13 wq) ∧ Hid (wq.ownsRow (w1.heap.size + 1) 3 1 tv (addTo T A i).length ((addTo T A i).map (Value.int .i64))) ∧ Hid (tv.ownBlock = some g') ∧ Hid (g' = g ∨ u13.heap.size ≤ g')) (fun _ j _ => A.length - (intOf j).toNat)
                  case atStart => exact ⟨0, g, Nat.zero_le _, rfl, Lib.hid (Only.refl _ _ _), S.out.row, S.out.vb, .inl rfl⟩
                  case round =>
                    obtain ⟨i, g', hi12, rfl, HO, HR, HV, HG⟩ := hrel
                    have hAL := Lib.hid (addTo_len T A i)
                    have hzq := HO.out.size
                    by_cases hia : i < A.length
                    · have hia2 : (i : Int) < (A.length : Int) := by omega
                      have hia3 : (0 : Int) ≤ (i : Int) := by omega
                      obtain ⟨_, _, _, hva, hca⟩ := (HRA.out.only HO.out (off_r (by have := S.out.lt; omega))).ints (by have := HAL12.out; omega)
                      cases hva
                      obtain ⟨ba, oa, rfl, ea⟩ := hca i hia
                      clear hca
                      have HYES := Lib.hid (fun (q : nth A i ∈ addTo T A i) => addTo_yes q)
                      have HNO := Lib.hid (fun (q : ¬ nth A i ∈ addTo T A i) => addTo_no q)
                      have HI := Lib.hid (own_ints0 HR.out (by have := hAL.out; have := HTL.out; have := HAL12.out; omega))
                      generalize nth A i = x at *
                      by_cases hin : x ∈ addTo T A i
                      · have hdec : decide (x ∈ addTo T A i) = true := decide_eq_true hin
                        have HE := Lib.hid (HYES.out hin)
                        clear HYES HNO hin
                        go_wp2_with (first | (go_at_call 11; refine (has_any _ (addTo T A i) x _ HI.out).mono ?_; rw [hdec]; rintro e w' ⟨rfl, rfl⟩))
                        go_roundw
                        case rel => exact ⟨i + 1, g', by omega, by go_num, HO, by rw [HE.out]; exact HR, HV, HG⟩
                        case measure => simp [intOf]; omega
                      · have hdec : decide (x ∈ addTo T A i) = false := decide_eq_false hin
                        have HE := Lib.hid (HNO.out hin)
                        clear HYES HNO hin
                        go_wp2_with (first | (go_at_call 11; refine (has_any _ (addTo T A i) x _ HI.out).mono ?_; rw [hdec]; rintro e w' ⟨rfl, rfl⟩) | (at_builtin; refine wpList_append_own_at _ rfl _ _ 25 rfl (w1.heap.size + 1) 3 i0 (.int .i64 0) 1 8 Try.underlying25 hi hz0 hz1 hz2 rfl (by decide) _ _ _ rfl (HR.out.alloc _) ⟨wr.heap.size, 0, none⟩ 1 1 [.int .i64 x] rfl rfl (cell_one_new' _ _ _ _ (by simp)) (ints_oneCell .i64 [x]) (by unfold maxLen; have := hAL.out; have := HTL.out; have := HAL12.out; omega) (by have := hAL.out; have := HTL.out; have := HAL12.out; omega) (by have := S.out.lt; simp; omega) ?_; intro v' w6 hown hgrow hnil hat; have TA := Lib.hid (told_app HO.out HV.out HG.out hown hgrow hat); clear hown hgrow hnil hat))
                        obtain ⟨g2, o6, r6, v6, d6⟩ := TA.out
                        go_roundw
                        case rel => exact ⟨i + 1, g2, by omega, by go_num, Lib.hid o6, by rw [HE.out]; exact Lib.hid r6, Lib.hid v6, Lib.hid d6⟩
                        case measure => simp [intOf]; omega
                    · obtain rfl : i = A.length := by omega
                      have S5 := Lib.hid (S.out.grow HO.out HR.out HV.out HG.out)
                      have X9 := Lib.hid (X9.out.only HO.out (by have := S.out.lt; omega) (by have := S.out.lt; omega))
                      have h9n : ¬ (u7.heap.size ≤ g' ∧ g' < u9.heap.size) := by have := S.out.lt; rcases HG.out with z | z <;> omega
                      have h9z : u9.heap.size ≤ wr.heap.size := by omega
                      have HT6 := Lib.hid (HTA.out)
                      clear HRA HTA HTL HAL12 hAL HO HR HV HG
                      have e0 := X9.out.six.c0
                      have e1 := X9.out.six.c1
                      have e2 := X9.out.six.c2
                      have e3 := X9.out.six.c3
                      have e4 := X9.out.six.c4
                      have e5 := X9.out.six.c5
                      have g0 := S5.out.box.six.c0
                      have g1 := S5.out.box.six.c1
                      have g2 := S5.out.box.six.c2
                      have g3 := S5.out.box.six.c3
                      have g4 := S5.out.box.six.c4
                      have g5 := S5.out.box.six.c5
                      have fg0 := S5.out.box.six.f0
                      have fg1 := S5.out.box.six.f1
                      have fg2 := S5.out.box.six.f2
                      have fg3 := S5.out.box.six.f3
                      have fg4 := S5.out.box.six.f4
                      have fg5 := S5.out.box.six.f5
                      have S6 := Lib.hid (S5.out.put X9.out.house (by have := l9x; omega) (by have := h9z; omega) h9n)
                      go_wp2_with fail
                      go_roundw
                      case rel => exact ⟨k + 1, _, _, ac9, am9, ao9, at9, cc9, cm9, co9, ct9, by omega, by go_num, by rw [HN1.out]; exact S6, by rw [HN1.out]; exact HT6⟩
                      case measure => simp [intOf]; omega

              · have hzd : decide (0 ≤ z) = false := decide_eq_false hz
                have HT6 := Lib.hid (told_rest HT.out (show ¬ ((3 : Int) = 3 ∧ 0 ≤ (doAct h0 3 p1 p2 p3 p4).2) by rw [HG2.out]; exact fun q => hz q.2))
                rw [HG1.out] at HT6
                have h9z : u9.heap.size ≤ uu.heap.size := z10
                have h9n : ¬ (u7.heap.size ≤ g ∧ g < u9.heap.size) := by omega
                have e0 := X9.out.six.c0
                have e1 := X9.out.six.c1
                have e2 := X9.out.six.c2
                have e3 := X9.out.six.c3
                have e4 := X9.out.six.c4
                have e5 := X9.out.six.c5
                have g0 := S.out.box.six.c0
                have g1 := S.out.box.six.c1
                have g2 := S.out.box.six.c2
                have g3 := S.out.box.six.c3
                have g4 := S.out.box.six.c4
                have g5 := S.out.box.six.c5
                have fg0 := S.out.box.six.f0
                have fg1 := S.out.box.six.f1
                have fg2 := S.out.box.six.f2
                have fg3 := S.out.box.six.f3
                have fg4 := S.out.box.six.f4
                have fg5 := S.out.box.six.f5
                have S6 := Lib.hid (S.out.put X9.out.house (by have := l9x; omega) (by have := h9z; omega) h9n)
                go_wp2_with fail
                go_roundw
                case rel => exact ⟨k + 1, _, _, ac9, am9, ao9, at9, cc9, cm9, co9, ct9, by omega, by go_num, by rw [HN1.out]; exact S6, by rw [HN1.out]; exact HT6⟩
                case measure => simp [intOf]; omega

            · have hp1 : (p0 == 3) = false := beq_eq_false_iff_ne.2 hp
              have HT6 := Lib.hid (told_rest HT.out (show ¬ (p0 = 3 ∧ 0 ≤ (doAct h0 p0 p1 p2 p3 p4).2) from fun q => hp q.1))
              rw [HG1.out] at HT6
              have h9z : u9.heap.size ≤ uu.heap.size := z10
              have h9n : ¬ (u7.heap.size ≤ g ∧ g < u9.heap.size) := by omega
              have e0 := X9.out.six.c0
              have e1 := X9.out.six.c1
              have e2 := X9.out.six.c2
              have e3 := X9.out.six.c3
              have e4 := X9.out.six.c4
              have e5 := X9.out.six.c5
              have g0 := S.out.box.six.c0
              have g1 := S.out.box.six.c1
              have g2 := S.out.box.six.c2
              have g3 := S.out.box.six.c3
              have g4 := S.out.box.six.c4
              have g5 := S.out.box.six.c5
              have fg0 := S.out.box.six.f0
              have fg1 := S.out.box.six.f1
              have fg2 := S.out.box.six.f2
              have fg3 := S.out.box.six.f3
              have fg4 := S.out.box.six.f4
              have fg5 := S.out.box.six.f5
              have S6 := Lib.hid (S.out.put X9.out.house (by have := l9x; omega) (by have := h9z; omega) h9n)
              go_wp2_with fail
              go_roundw
              case rel => exact ⟨k + 1, _, _, ac9, am9, ao9, at9, cc9, cm9, co9, ct9, by omega, by go_num, by rw [HN1.out]; exact S6, by rw [HN1.out]; exact HT6⟩
              case measure => simp [intOf]; omega

      · obtain rfl : k = n := by omega
        have HNB := houseOk_B okk
        have hch := (daysOk_chain (houseOk_facts okk).days).1
        have hn12 := (chainOk_n hch).2
        have HTL := Lib.hid (told_12 okk HT.out)
        have DX := Lib.hid (bnext D.out S.out.below)
        have BYE := Lib.hid (BY.out.below S.out.below)
        clear AR HAD D BY hk hlt
        obtain ⟨adt, capt, rfl⟩ := own_form S.out.row
        generalize runTo xs hx k = hf at *
        generalize wr = uE at *
        go_wp2
        go_loopw [13, 14] (fun rv j wq => ∃ G R : List Int, R.length ≤ hf.n ∧ j = .int .i64 (R.length : Int) ∧ Hid (G.length = R.length) ∧ Hid (Within hf.xs G) ∧ Hid (R = realTo (nth G) hf.xs R.length) ∧ Hid (wq.ownsRow uE.heap.size 3 1 rv R.length (R.map (Value.int .i64))) ∧ Hid (Below uE.heap.size uE wq)) (fun _ j _ => hf.n - (intOf j).toNat)
        case atStart => exact ⟨[], [], Nat.zero_le _, rfl, rfl, Lib.hid (fun i hi => by simp at hi), rfl, Lib.hid (World.ownsRow_lit (e := 3) (size := 1) uE #[] 0 (Nat.le_refl _) (by decide) rfl), Lib.hid (balloc (bref _) _)⟩
        case round =>
          obtain ⟨G, R, hrl, rfl, HGl, HWi, HRe, HR, HB⟩ := hrel
          have SB := Lib.hid (S.out.go HB.out)
          have g0 := SB.out.box.six.c0
          have g1 := SB.out.box.six.c1
          have g2 := SB.out.box.six.c2
          have g3 := SB.out.box.six.c3
          have g4 := SB.out.box.six.c4
          have g5 := SB.out.box.six.c5
          have yX := SB.out.box.six.lt
          by_cases hlt : R.length < hf.n
          · have hlt2 : (R.length : Int) < (hf.n : Int) := by omega
            have hlt0 : (0 : Int) ≤ (R.length : Int) := by omega
            obtain ⟨_, hce, _, _, hvc, hcc⟩ := (SB.out.box.house.read HNB).c
            cases hvc
            obtain ⟨bc, oc, rfl, e0, e1, e2, lbc⟩ := at3 hce hcc R.length hlt
            clear hcc hce
            have hcd := chainOk_d hch hlt
            have hcp := chainOk_p hch hlt
            obtain ⟨xd, ⟨xd0, xd1⟩, HAT⟩ := at_det v bs R.length _ BYE.out (by omega)
            have HAT := Lib.hid HAT
            have HPW := Lib.hid (fun d => Within.push' (d := d) HGl.out HWi.out)
            have HPR := Lib.hid (fun d => real_push' (d := d) HGl.out HRe.out)
            have HBD := Lib.hid (fun m (hm : m < R.length) => (by have q := real_bd hch HWi.out hm hrl; rw [← HRe.out] at q; exact q : -13000000 ≤ nth R m ∧ nth R m ≤ 13000000))
            have HMB := Lib.hid (HT.out.mem (R.length : Int))
            generalize cP hf.xs R.length = cp at *
            generalize cD hf.xs R.length = cd at *
            generalize cE hf.xs R.length = ce at *
            obtain ⟨bb, hbb⟩ : ∃ bb, decide ((R.length : Int) ∈ T) = bb := ⟨_, rfl⟩
            have hbb2 : decide ((R.length : Int) ∈ hf.ts) = bb := by rw [← hbb]; exact decide_eq_decide.2 HMB.out.symm
            have HH1 := Lib.hid (fun (W : World) (q : Ints W (.slice adt T.length capt) T) => (by have z := has_any (.slice adt T.length capt) T (R.length : Int) W q; rw [hbb] at z; exact z : Calls Try.prog 11 #[.slice adt T.length capt, .int .i64 (R.length : Int)] W fun e w' => e = .returned (.bool bb) ∧ W = w'))
            have HH2 := Lib.hid (fun (W : World) (q : Ints W (.slice at0 hf.ts.length ct0) hf.ts) => (by have z := has_any (.slice at0 hf.ts.length ct0) hf.ts (R.length : Int) W q; rw [hbb2] at z; exact z : Calls Try.prog 11 #[.slice at0 hf.ts.length ct0, .int .i64 (R.length : Int)] W fun e w' => e = .returned (.bool bb) ∧ W = w'))
            clear hbb hbb2 HMB
            obtain ⟨t, ht, ht0, ht1⟩ : ∃ t, xd.tmod (2 * ce + 1) = t ∧ 0 ≤ t ∧ t ≤ 2 * ce := ⟨_, rfl, Int.tmod_nonneg _ xd0, by have := Int.tmod_lt_of_pos xd (show (0 : Int) < 2 * ce + 1 by omega); omega⟩
            have ht2 : xd % (2 * ce + 1) = t := by rw [← ht]; exact (Int.tmod_eq_emod_of_nonneg xd0).symm
            obtain ⟨d, hdd⟩ : ∃ d, t - ce = d := ⟨_, rfl⟩
            have hw1 : IntKind.i64.wrap (2 * ce) = 2 * ce := by rw [IntKind.wrap_i64]; omega
            have hw2 : IntKind.i64.wrap (2 * ce + 1) = 2 * ce + 1 := by rw [IntKind.wrap_i64]; omega
            have hw3 : IntKind.i64.wrap (t - ce) = d := by rw [IntKind.wrap_i64]; omega
            have hnz : ¬ (2 * ce + 1 = 0) := by omega
            have hnzb : ((2 * ce + 1) == 0) = false := beq_eq_false_iff_ne.2 hnz
            have HWN := Lib.hid (HPW.out d (by omega) (by omega))
            obtain ⟨y, hy⟩ : ∃ y, (if 0 ≤ cp then nth R cp.toNat else 0) + cd + d = y := ⟨_, rfl⟩
            have HRN := Lib.hid (show R ++ [y] = realTo (nth (G ++ [d])) hf.xs (R ++ [y]).length by rw [← hy, List.length_append]; exact HPR.out d)
            have hdb : -1000 ≤ d ∧ d ≤ 1000 := by omega
            obtain ⟨adr, capr, rfl⟩ := own_form HR.out
            have HY := Lib.hid hy
            have HDD := Lib.hid hdd
            have HCE := Lib.hid hcd
            clear hy HPW HPR
            go_upto_region 25 with fail
            have c0 : (wr.alloc (.cells #[.int .i64 cp, .int .i64 cd, .int .i64 ce] 40)).cell? ⟨wr.heap.size, 0, none⟩ = some (.int .i64 cp) := by go_simp
            have c1 : (wr.alloc (.cells #[.int .i64 cp, .int .i64 cd, .int .i64 ce] 40)).cell? ⟨wr.heap.size, 1, none⟩ = some (.int .i64 cd) := by go_simp
            have c2 : (wr.alloc (.cells #[.int .i64 cp, .int .i64 cd, .int .i64 ce] 40)).cell? ⟨wr.heap.size, 2, none⟩ = some (.int .i64 ce) := by go_simp
            have HBc := Lib.hid (balloc HB.out (.cells #[.int .i64 cp, .int .i64 cd, .int .i64 ce] 40))
            have HRc := Lib.hid (own_below HR.out (balloc (bref wr) (.cells #[.int .i64 cp, .int .i64 cd, .int .i64 ce] 40)))
            have luc : wr.heap.size < (wr.alloc (.cells #[.int .i64 cp, .int .i64 cd, .int .i64 ce] 40)).heap.size := by simp
            clear g0 g1 g2 g3 g4 g5 e0 e1 e2
            generalize wr.alloc (.cells #[.int .i64 cp, .int .i64 cd, .int .i64 ce] 40) = uc at *
            go_quiet ((go_at_call 12; first | exact quiet_in' (HAT.out _ (bdrewN HBc.out _)) | exact quiet_in_add' (HAT.out _ (bdrewN HBc.out _))))
            have c0 := ((bdrewN (bref uc) nq).cell (p := ⟨wr.heap.size, 0, none⟩) luc).trans c0
            have c1 := ((bdrewN (bref uc) nq).cell (p := ⟨wr.heap.size, 1, none⟩) luc).trans c1
            have HRd := Lib.hid (own_below HRc.out (bdrewN (bref uc) nq))
            have HBd := Lib.hid (bdrewN HBc.out nq)
            clear HRc HBc HAT c2 hw1 hw2 hw3 hnz hnzb ht ht2 hdd luc
            generalize uc.drewN nq = ud at *
            by_cases hcp0 : 0 ≤ cp
            · skip
              have hcp1 : decide (0 ≤ cp) = true := decide_eq_true hcp0
              obtain ⟨p, hpe⟩ := Int.eq_ofNat_of_zero_le hcp0
              have hpl : p < R.length := by omega
              have hy2 : nth R p + cd + d = y := by rw [← HY.out, nth_at hpe]
              have hrb := HBD.out p hpl
              have HRG := Lib.hid (List.getElem?_map (f := Value.int .i64) (l := R) (i := p))
              obtain ⟨br, cr, hvr, hbr0, hbr1⟩ := HR.out.form (by omega)
              cases hvr
              have HGP := Lib.hid (show (R.map (Value.int .i64))[p]? = some (.int .i64 (nth R p)) by simp [nth, hpl])
              have er : ud.cell? ⟨br, p, none⟩ = some (.int .i64 (nth R p)) := by
                have q := HRd.out.cells (g := br) rfl p _ HGP.out
                rw [Addr.add_lit, Nat.zero_add] at q
                exact q
              have lbr := World.block_lt_of_cell? ud _ er
              have lud := World.block_lt_of_cell? ud _ c0
              simp only at lbr lud
              clear HBD HRG
              generalize nth R p = rp at *
              have hs1 : IntKind.i64.wrap (rp + cd) = rp + cd := by rw [IntKind.wrap_i64]; omega
              have hs2 : IntKind.i64.wrap (rp + cd + d) = y := by rw [IntKind.wrap_i64]; omega
              clear hy2
              have HPE := Lib.hid hpe
              subst hpe
              have hp1 : (p : Int) < (R.length : Int) := by omega
              have hp2 : ¬ (p : Int) < 0 := by omega
              have hp3 : ¬ (R.length : Int) ≤ (p : Int) := by omega
              have hp4 : (0 : Int) ≤ (p : Int) := by omega
              go_upto_region 27 with fail
              have MK : Hid (∀ w' : World, Below ud.heap.size ud w' → w'.cell? ⟨wr.heap.size, 0, none⟩ = some (.int .i64 (p : Int)) ∧ w'.cell? ⟨wr.heap.size, 1, none⟩ = some (.int .i64 cd) ∧ w'.cell? ⟨br, p, none⟩ = some (.int .i64 rp)) := fun W q => ⟨(q.cell (p := ⟨wr.heap.size, 0, none⟩) lud).trans c0, (q.cell (p := ⟨wr.heap.size, 1, none⟩) lud).trans c1, (q.cell (p := ⟨br, p, none⟩) lbr).trans er⟩
              have hDr : Below ud.heap.size ud ud.drew := bdrew (bref _)
              have hDa : Below ud.heap.size ud (ud.alloc (.cells #[.int .i64 y] 3)).drew := bdrew (balloc (bref _) _)
              have HRa := Lib.hid (own_below HRd.out hDa)
              have HBa := Lib.hid (bnext HBd.out hDa)
              have hne : ¬ wr.heap.size = br := by omega
              refine wp_region_held_drew (S := fun w' => w'.cell? ⟨wr.heap.size, 0, none⟩ = some (.int .i64 (p : Int)) ∧ w'.cell? ⟨wr.heap.size, 1, none⟩ = some (.int .i64 cd) ∧ w'.cell? ⟨br, p, none⟩ = some (.int .i64 rp)) (by kernel_rfl) ?_ (fun hHeld_ => ?_)
              · exact MK.out _ hDr
              refine wpAnyH_take (i := 0) (v := ?v_r0) (hi := (by simp only [List.getElem?_toArray, List.getElem?_cons_zero]; rfl)) (by kernel_rfl) (by kernel_rfl) (by kernel_rfl) (by exact fun _ _ _ h => h) (Or.inl ⟨by rfl, ?hy_r0⟩) (by assumption) ?rest_r0
              case hy_r0 =>
                intro W hSW
                try dsimp only at hSW
                go_simp
                try with_reducible rfl
              try simp only [Act.put, List.setIfInBounds_toArray, List.set_cons_zero, List.set_cons_succ]
              refine wpAnyH_take (i := 1) (v := ?v_r1) (hi := (by simp only [List.getElem?_toArray, List.getElem?_cons_succ, List.getElem?_cons_zero]; rfl)) (by kernel_rfl) (by kernel_rfl) (by kernel_rfl) (by exact fun _ _ _ h => h) (Or.inl ⟨by rfl, ?hy_r1⟩) (by assumption) ?rest_r1
              case hy_r1 =>
                intro W hSW
                try dsimp only at hSW
                go_simp
                try with_reducible rfl
              try simp only [Act.put, List.setIfInBounds_toArray, List.set_cons_zero, List.set_cons_succ]
              refine wpAnyH_take (i := 2) (v := ?v_r2) (hi := (by simp only [List.getElem?_toArray, List.getElem?_cons_succ, List.getElem?_cons_zero]; rfl)) (by kernel_rfl) (by kernel_rfl) (by kernel_rfl) (by exact fun _ _ _ h => h) (Or.inl ⟨by rfl, ?hy_r2⟩) (by assumption) ?rest_r2
              case hy_r2 =>
                intro W hSW
                try dsimp only at hSW
                go_simp
                try with_reducible rfl
              try simp only [Act.put, List.setIfInBounds_toArray, List.set_cons_zero, List.set_cons_succ]
              refine wpAnyH_take (i := 3) (v := ?v_r3) (hi := (by simp only [List.getElem?_toArray, List.getElem?_cons_succ, List.getElem?_cons_zero]; rfl)) (by kernel_rfl) (by kernel_rfl) (by kernel_rfl) (by exact fun _ _ _ h => h) (Or.inl ⟨by rfl, ?hy_r3⟩) (by assumption) ?rest_r3
              case hy_r3 =>
                intro W hSW
                try dsimp only at hSW
                go_simp
                try with_reducible rfl
              try simp only [Act.put, List.setIfInBounds_toArray, List.set_cons_zero, List.set_cons_succ]
              refine wpAnyH_take (i := 4) (v := ?v_r4) (hi := (by simp only [List.getElem?_toArray, List.getElem?_cons_succ, List.getElem?_cons_zero]; rfl)) (by kernel_rfl) (by kernel_rfl) (by kernel_rfl) (by exact fun _ _ _ h => h) (Or.inl ⟨by rfl, ?hy_r4⟩) (by assumption) ?rest_r4
              case hy_r4 =>
                intro W hSW
                try dsimp only at hSW
                go_simp
                try with_reducible rfl
              try simp only [Act.put, List.setIfInBounds_toArray, List.set_cons_zero, List.set_cons_succ]
              refine wpAnyH_take (i := 5) (v := ?v_r5) (hi := (by simp only [List.getElem?_toArray, List.getElem?_cons_succ, List.getElem?_cons_zero]; rfl)) (by kernel_rfl) (by kernel_rfl) (by kernel_rfl) (by exact fun _ _ _ h => h) (Or.inl ⟨by rfl, ?hy_r5⟩) (by assumption) ?rest_r5
              case hy_r5 =>
                intro W hSW
                try dsimp only at hSW
                go_simp
                try with_reducible rfl
              try simp only [Act.put, List.setIfInBounds_toArray, List.set_cons_zero, List.set_cons_succ]
              refine wpAnyH_take (i := 6) (v := ?v_r6) (hi := (by simp only [List.getElem?_toArray, List.getElem?_cons_succ, List.getElem?_cons_zero]; rfl)) (by kernel_rfl) (by kernel_rfl) (by kernel_rfl) (by exact fun _ _ _ h => h) (Or.inl ⟨by rfl, ?hy_r6⟩) (by assumption) ?rest_r6
              case hy_r6 =>
                intro W hSW
                try dsimp only at hSW
                go_simp
                try with_reducible rfl
              try simp only [Act.put, List.setIfInBounds_toArray, List.set_cons_zero, List.set_cons_succ]
              refine wpAnyH_take (i := 7) (v := ?v_r7) (hi := (by simp only [List.getElem?_toArray, List.getElem?_cons_succ, List.getElem?_cons_zero]; rfl)) (by kernel_rfl) (by kernel_rfl) (by kernel_rfl) (by exact fun _ _ _ h => h) (Or.inl ⟨by rfl, ?hy_r7⟩) (by assumption) ?rest_r7
              case hy_r7 =>
                intro W hSW
                try dsimp only at hSW
                go_simp
                try with_reducible rfl
              try simp only [Act.put, List.setIfInBounds_toArray, List.set_cons_zero, List.set_cons_succ]
              refine wpAnyH_take (i := 8) (v := ?v_r8) (hi := (by simp only [List.getElem?_toArray, List.getElem?_cons_succ, List.getElem?_cons_zero]; rfl)) (by kernel_rfl) (by kernel_rfl) (by kernel_rfl) (by exact fun _ _ _ h => h) (Or.inl ⟨by rfl, ?hy_r8⟩) (by assumption) ?rest_r8
              case hy_r8 =>
                intro W hSW
                try dsimp only at hSW
                go_simp
                try with_reducible rfl
              try simp only [Act.put, List.setIfInBounds_toArray, List.set_cons_zero, List.set_cons_succ]
              refine wpAnyH_take (i := 9) (v := ?v_r9) (hi := (by simp only [List.getElem?_toArray, List.getElem?_cons_succ, List.getElem?_cons_zero]; rfl)) (by kernel_rfl) (by kernel_rfl) (by kernel_rfl) (by exact fun _ _ _ h => h) (Or.inl ⟨by rfl, ?hy_r9⟩) (by assumption) ?rest_r9
              case hy_r9 =>
                intro W hSW
                try dsimp only at hSW
                go_simp
                try with_reducible rfl
              try simp only [Act.put, List.setIfInBounds_toArray, List.set_cons_zero, List.set_cons_succ]
              refine wpAnyH_take (i := 10) (v := ?v_r10) (hi := (by simp only [List.getElem?_toArray, List.getElem?_cons_succ, List.getElem?_cons_zero]; rfl)) (by kernel_rfl) (by kernel_rfl) (by kernel_rfl) (by exact fun _ _ _ h => h) (Or.inl ⟨by rfl, ?hy_r10⟩) (by assumption) ?rest_r10
              case hy_r10 =>
                intro W hSW
                try dsimp only at hSW
                go_simp
                try with_reducible rfl
              try simp only [Act.put, List.setIfInBounds_toArray, List.set_cons_zero, List.set_cons_succ]
              refine wpAnyH_ready (rs := [11]) (by kernel_rfl) (by simp) ?_
              refine AllReadyH.cons (ho := (by simp only [List.getElem?_toArray, List.getElem?_cons_succ, List.getElem?_cons_zero]; rfl)) (fun K_ hK_ => ?_) AllReadyH.nil
              go_simp
              refine hK_.out _ _ ?_ (fun hHeld_ => ?_)
              · try dsimp only
                exact MK.out _ hDa
              clear hK_
              try simp only [Act.put, List.setIfInBounds_toArray, List.set_cons_zero, List.set_cons_succ]
              refine wpAnyH_ready (rs := [12]) (by kernel_rfl) (by simp) ?_
              refine AllReadyH.cons (ho := (by simp only [List.getElem?_toArray, List.getElem?_cons_succ, List.getElem?_cons_zero]; rfl)) (fun K_ hK_ => ?_) AllReadyH.nil
              (refine step_append_keep (by rfl) _ _ 25 rfl 3 uE.heap.size i0 (.int .i64 0) 8 Try.underlying25 hi hz0 hz1 hz2 rfl br R.length capr _ rfl HRa.out ⟨ud.heap.size, 0, none⟩ 1 y rfl (cell_one_new _ _ _) (by omega) (by decide) (by have := HBa.out.size; omega) ?_); intro v7 w7_ hown7 hgrow7 hkeep7; have K7 := top_keep hgrow7 hne hkeep7 HGP.out (MK.out _ hDa); have HR2 := Lib.hid (row_push hown7); have HB2 := Lib.hid (below_grow1 HBa.out hgrow7 hbr0); clear hgrow7 hown7 hkeep7
              refine hK_.out _ _ ?_ (fun hHeld_ => ?_)
              · try dsimp only
                exact K7
              clear hK_
              try simp only [Act.put, List.setIfInBounds_toArray, List.set_cons_zero, List.set_cons_succ]
              refine wpAnyH_take (i := 13) (v := ?v_r13) (hi := (by simp only [List.getElem?_toArray, List.getElem?_cons_succ, List.getElem?_cons_zero]; rfl)) (by kernel_rfl) (by kernel_rfl) (by kernel_rfl) (by exact fun _ _ _ h => h) (Or.inl ⟨by rfl, ?hy_r13⟩) (by assumption) ?rest_r13
              case hy_r13 =>
                intro W hSW
                try dsimp only at hSW
                go_simp
                try with_reducible rfl
              try simp only [Act.put, List.setIfInBounds_toArray, List.set_cons_zero, List.set_cons_succ]
              refine wpAnyH_done (by kernel_rfl) ?_ _
              go_upto_region 29 with (first | (at_builtin; refine wpList_append_own _ rfl _ _ 25 rfl uE.heap.size 3 i0 (.int .i64 0) 1 8 Try.underlying25 hi hz0 hz1 hz2 rfl (by decide) _ _ _ rfl (HRf.out.alloc _) ⟨uf.heap.size, 0, none⟩ 1 1 [.int .i64 y] rfl rfl (cell_one_new _ _ _) (ints_oneCell .i64 [y]) (by unfold maxLen; omega) (by omega) (by have := HBf.out.size; simp; omega) ?_; intro v' w7 hown hgrow hnil; have HR2 := Lib.hid (row_push hown); have HB2 := Lib.hid (below_appT HRf.out hgrow HBf.out (Nat.le_refl _)); clear hown hgrow hnil))
              have SE := Lib.hid (S.out.go HB2.out)
              have HTI := Lib.hid (own_ints0 SE.out.row (by have := HTL.out; omega))
              have HHI := Lib.hid (SE.out.box.house.read HNB).t
              have g3 := SE.out.box.six.c3
              go_quiet ((first | (go_at_call_of 11 (Value.slice adt T.length capt); first | exact quiet_in' (HH1.out _ (HTI.out.below (bdrewN (bref _) _))) | exact quiet_in_add' (HH1.out _ (HTI.out.below (bdrewN (bref _) _)))) | (go_at_call_of 11 (Value.slice at0 hf.ts.length ct0); first | exact quiet_in' (HH2.out _ (HHI.out.below (bdrewN (bref _) _))) | exact quiet_in_add' (HH2.out _ (HHI.out.below (bdrewN (bref _) _))))))
              go_wp2
              go_roundw
              case rel => exact ⟨G ++ [d], R ++ [y], by simp; omega, by rw [List.length_append]; go_num, Lib.hid (by rw [List.length_append, List.length_append, HGl.out]; rfl), HWN, HRN, Lib.hid (own_below HR2.out (bdrewN (bref _) _)), Lib.hid (bdrewN HB2.out _)⟩
              case measure => simp [intOf]; omega

            · skip
              have hcp1 : decide (0 ≤ cp) = false := decide_eq_false hcp0
              have hy2 : cd + d = y := by rw [← HY.out, nth_no hcp0]; omega
              have hs2 : IntKind.i64.wrap (cd + d) = y := by rw [IntKind.wrap_i64]; omega
              have HRf := HRd
              have HBf := HBd
              generalize ud = uf at *
              go_upto_region 29 with (first | (at_builtin; refine wpList_append_own _ rfl _ _ 25 rfl uE.heap.size 3 i0 (.int .i64 0) 1 8 Try.underlying25 hi hz0 hz1 hz2 rfl (by decide) _ _ _ rfl (HRf.out.alloc _) ⟨uf.heap.size, 0, none⟩ 1 1 [.int .i64 y] rfl rfl (cell_one_new _ _ _) (ints_oneCell .i64 [y]) (by unfold maxLen; omega) (by omega) (by have := HBf.out.size; simp; omega) ?_; intro v' w7 hown hgrow hnil; have HR2 := Lib.hid (row_push hown); have HB2 := Lib.hid (below_appT HRf.out hgrow HBf.out (Nat.le_refl _)); clear hown hgrow hnil))
              have SE := Lib.hid (S.out.go HB2.out)
              have HTI := Lib.hid (own_ints0 SE.out.row (by have := HTL.out; omega))
              have HHI := Lib.hid (SE.out.box.house.read HNB).t
              have g3 := SE.out.box.six.c3
              go_quiet ((first | (go_at_call_of 11 (Value.slice adt T.length capt); first | exact quiet_in' (HH1.out _ (HTI.out.below (bdrewN (bref _) _))) | exact quiet_in_add' (HH1.out _ (HTI.out.below (bdrewN (bref _) _)))) | (go_at_call_of 11 (Value.slice at0 hf.ts.length ct0); first | exact quiet_in' (HH2.out _ (HHI.out.below (bdrewN (bref _) _))) | exact quiet_in_add' (HH2.out _ (HHI.out.below (bdrewN (bref _) _))))))
              go_wp2
              go_roundw
              case rel => exact ⟨G ++ [d], R ++ [y], by simp; omega, by rw [List.length_append]; go_num, Lib.hid (by rw [List.length_append, List.length_append, HGl.out]; rfl), HWN, HRN, Lib.hid (own_below HR2.out (bdrewN (bref _) _)), Lib.hid (bdrewN HB2.out _)⟩
              case measure => simp [intOf]; omega

          · obtain hrn : R.length = hf.n := by omega
            obtain ⟨adr, capr, rfl⟩ := own_form HR.out
            have HRI := Lib.hid (own_ints0 HR.out (by omega))
            have HT1 := Lib.hid (fun (a : Nat) (q : a < R.length) => (by have z := top_one hch (HWi.out.all hch) (show a < hf.n by omega); rw [← hrn, ← HRe.out, hrn] at z; exact z : -errorIn hf.n hf.xs a ≤ nth R a - weightIn hf.n hf.xs a ∧ nth R a - weightIn hf.n hf.xs a ≤ errorIn hf.n hf.xs a))
            have HT2 := Lib.hid (fun (a b : Nat) (q : a < R.length) (q' : b < R.length) => (by have z := top_two hch (HWi.out.all hch) (show a < hf.n by omega) (show b < hf.n by omega); rw [← hrn, ← HRe.out, hrn] at z; exact z : -diffError hf.n hf.xs a b ≤ nth R a - nth R b - weightIn hf.n hf.xs a + weightIn hf.n hf.xs b ∧ nth R a - nth R b - weightIn hf.n hf.xs a + weightIn hf.n hf.xs b ≤ diffError hf.n hf.xs a b))
            have HRB := Lib.hid (fun m (hm : m < R.length) => (by have q := real_bd hch HWi.out hm hrl; rw [← HRe.out] at q; exact q : -13000000 ≤ nth R m ∧ nth R m ≤ 13000000))
            have DX := Lib.hid (bnext DX.out HB.out)
            have HRN := Lib.hid hrn
            have hrz : ¬ (R.length : Int) < (hf.n : Int) := by omega
            clear hlt hrn
            go_wp2
            clear HWi HRe HGl HR HB BYE hrl hrz g0 g1 g2 g3 g4 g5 yX S
            generalize wr = uF at *
            go_loopw [17] (fun iv wq => ∃ a : Nat, a ≤ R.length ∧ iv = .int .i64 (a : Int) ∧ Hid (Below uF.heap.size uF wq)) (fun iv _ => R.length - (intOf iv).toNat)
            case atStart => exact ⟨0, Nat.zero_le _, rfl, bref _⟩
            case round =>
              obtain ⟨a, hal, rfl, HP⟩ := hrel
              by_cases hla : a < R.length
              · have a0 : (0 : Int) ≤ (a : Int) := by omega
                have a1 : (a : Int) < (R.length : Int) := by omega
                have a2 : ¬ (a : Int) < 0 := by omega
                have a3 : ¬ (R.length : Int) ≤ (a : Int) := by omega
                go_wp2
                go_loopw [18] (fun iv wq => ∃ b : Nat, b ≤ R.length ∧ iv = .int .i64 (b : Int) ∧ Hid (Below uF.heap.size uF wq)) (fun iv _ => R.length - (intOf iv).toNat)
                case atStart => exact ⟨0, Nat.zero_le _, rfl, HP⟩
                case round =>
                  obtain ⟨b, hbl, rfl, HQ⟩ := hrel
                  by_cases hlb : b < R.length
                  · skip
                    have SQ := Lib.hid (SB.out.go HQ.out)
                    have g0 := SQ.out.box.six.c0
                    have yX := SQ.out.box.six.lt
                    have b0 : (0 : Int) ≤ (b : Int) := by omega
                    have b1 : (b : Int) < (R.length : Int) := by omega
                    have b2 : ¬ (b : Int) < 0 := by omega
                    have b3 : ¬ (R.length : Int) ≤ (b : Int) := by omega
                    obtain ⟨_, _, _, hvr, hcr⟩ := HRI.out.below HQ.out
                    cases hvr
                    obtain ⟨br, orr, rfl, ea⟩ := hcr a hla
                    obtain ⟨br2, orr2, hbe, eb⟩ := hcr b hlb
                    cases hbe
                    clear hcr
                    have l1 := World.block_lt_of_cell? wr _ ea
                    simp only at l1
                    have hra := HRB.out a hla
                    have hrb := HRB.out b hlb
                    have htw := HT2.out a b hla hlb
                    have hwa1 := weightIn_bd hf.n hf.xs (a : Int)
                    have hwb1 := weightIn_bd hf.n hf.xs (b : Int)
                    have hdb1 := diffError_bd hf.n hf.xs (a : Int) (b : Int)
                    obtain ⟨wa, hwa⟩ : ∃ z, weightIn hf.n hf.xs (a : Int) = z := ⟨_, rfl⟩
                    obtain ⟨wb, hwb⟩ : ∃ z, weightIn hf.n hf.xs (b : Int) = z := ⟨_, rfl⟩
                    obtain ⟨de, hde⟩ : ∃ z, diffError hf.n hf.xs (a : Int) (b : Int) = z := ⟨_, rfl⟩
                    have HWa := Lib.hid (fun (W : World) (q : Recs 3 W (.slice ac0 hf.n cc0) hf.n hf.xs) => (by have z := implWeightIn _ hf.n hf.xs (a : Int) W q; rw [hwa] at z; exact z : Calls Try.prog 13 #[.slice ac0 hf.n cc0, .int .i64 (a : Int)] W fun e w' => e = .returned (.int .i64 wa) ∧ Below W.heap.size W w'))
                    have HWb := Lib.hid (fun (W : World) (q : Recs 3 W (.slice ac0 hf.n cc0) hf.n hf.xs) => (by have z := implWeightIn _ hf.n hf.xs (b : Int) W q; rw [hwb] at z; exact z : Calls Try.prog 13 #[.slice ac0 hf.n cc0, .int .i64 (b : Int)] W fun e w' => e = .returned (.int .i64 wb) ∧ Below W.heap.size W w'))
                    have HDe := Lib.hid (fun (W : World) (q : Recs 3 W (.slice ac0 hf.n cc0) hf.n hf.xs) => (by have z := implDifferenceError _ hf.n hf.xs (a : Int) (b : Int) W q; rw [hde] at z; exact z : Calls Try.prog 14 #[.slice ac0 hf.n cc0, .int .i64 (a : Int), .int .i64 (b : Int)] W fun e w' => e = .returned (.int .i64 de) ∧ Below W.heap.size W w'))
                    rw [hwa] at htw hwa1
                    rw [hwb] at htw hwb1
                    rw [hde] at htw hdb1
                    clear hwa hwb hde
                    generalize nth R a = ra at *
                    generalize nth R b = rb at *
                    obtain ⟨d, hdd⟩ : ∃ d, ra - rb - wa + wb = d := ⟨_, rfl⟩
                    have hs1 : IntKind.i64.wrap (ra - rb) = ra - rb := by rw [IntKind.wrap_i64]; omega
                    have hs2 : IntKind.i64.wrap (ra - rb - wa) = ra - rb - wa := by rw [IntKind.wrap_i64]; omega
                    have hs3 : IntKind.i64.wrap (ra - rb - wa + wb) = d := by rw [IntKind.wrap_i64]; omega
                    have hd1 : -de ≤ d ∧ d ≤ de := by omega
                    have hd2 : de ≤ 12000 := hdb1.2
                    clear hdd htw hwa1 hwb1 hra hrb hdb1
                    have RW := Lib.hid (fun (W : World) (q : Below wr.heap.size wr W) => ((SQ.out.box.house.read HNB).below q).c)
                    have MK : Hid (∀ w' : World, Below wr.heap.size wr w' → w'.cell? ⟨br, orr + a, none⟩ = some (.int .i64 ra) ∧ w'.cell? ⟨br, orr + b, none⟩ = some (.int .i64 rb) ∧ w'.cell? ⟨w1.heap.size, 0, none⟩ = some (.slice ac0 hf.n cc0) ∧ Below wr.heap.size wr w') := fun W q => ⟨(q.cell (p := ⟨br, orr + a, none⟩) l1).trans ea, (q.cell (p := ⟨br, orr + b, none⟩) l1).trans eb, (q.cell (p := ⟨w1.heap.size, 0, none⟩) yX).trans g0, q⟩
                    have hDr : Below wr.heap.size wr wr.drew := bdrew (bref _)
                    go_upto_region 37 with fail
                    go_cut [19] (fun q wx => q = .int .i64 d ∧ Hid (Below wr.heap.size wr wx))
                    case first =>
                      go_region_held3 (fun w' => w'.cell? ⟨br, orr + a, none⟩ = some (.int .i64 ra) ∧ w'.cell? ⟨br, orr + b, none⟩ = some (.int .i64 rb) ∧ w'.cell? ⟨w1.heap.size, 0, none⟩ = some (.slice ac0 hf.n cc0) ∧ Below wr.heap.size wr w')
                        (first | with_reducible exact MK.out _ hDr | with_reducible exact MK.out _ q3 | with_reducible exact MK.out _ q4 | fail "keep")
                        (first | (go_at_call_of 13 (Value.int .i64 (a : Int)); go_split_ands; refine (HWa.out _ (RW.out _ (by assumption))).mono ?_; rintro e w3_ ⟨rfl, hb3⟩; have q3 : Below wr.heap.size wr w3_ := bnext (by assumption) hb3) | (go_at_call_of 13 (Value.int .i64 (b : Int)); go_split_ands; refine (HWb.out _ (RW.out _ (by assumption))).mono ?_; rintro e w4_ ⟨rfl, hb4⟩; have q4 : Below wr.heap.size wr w4_ := bnext (by assumption) hb4))
                      go_wp2_with fail
                      go_meet
                      first | exact ⟨rfl, Lib.hid q4⟩ | exact ⟨rfl, Lib.hid q3⟩
                    case rest =>
                      obtain ⟨rfl, HBx⟩ := hcut
                      have SQ := Lib.hid (SQ.out.go HBx.out)
                      have RW0 := Lib.hid (SQ.out.box.house.read HNB).c
                      have HQ := Lib.hid (bnext HQ.out HBx.out)
                      have g0 := SQ.out.box.six.c0
                      clear RW MK hDr HBx ea eb l1 yX hs1 hs2 hs3 HWa HWb
                      generalize wc = ud at *
                      have hwd : IntKind.i64.wrap (-d) = -d := by rw [IntKind.wrap_i64]; omega
                      have hmx : ¬ de < (if -d > d then -d else d) := by split <;> omega
                      have hmx1 : ¬ de < d := by omega
                      have hmx2 : ¬ de < -d := by omega
                      go_wp2_with (first | (go_at_call 14; refine (HDe.out _ RW0.out).mono ?_; rintro e w5_ ⟨rfl, hb5⟩; have HQ5 := Lib.hid (bnext HQ.out hb5); clear hb5))
                      all_goals
                        go_roundw
                        case rel => exact ⟨b + 1, by omega, by go_num, HQ5⟩
                        case measure => simp [intOf]; omega

                  · obtain rfl : b = R.length := by omega
                    have SQ := Lib.hid (SB.out.go HQ.out)
                    have g0 := SQ.out.box.six.c0
                    have yX := SQ.out.box.six.lt
                    have blz : ¬ (R.length : Int) < (R.length : Int) := by omega
                    obtain ⟨_, _, _, hvr, hcr⟩ := HRI.out.below HQ.out
                    cases hvr
                    obtain ⟨br, orr, rfl, ea⟩ := hcr a hla
                    clear hcr
                    have l1 := World.block_lt_of_cell? wr _ ea
                    simp only at l1
                    have hra := HRB.out a hla
                    have htw := HT1.out a hla
                    have hwa1 := weightIn_bd hf.n hf.xs (a : Int)
                    have hdb1 := errorIn_bd hf.n hf.xs (a : Int)
                    obtain ⟨wa, hwa⟩ : ∃ z, weightIn hf.n hf.xs (a : Int) = z := ⟨_, rfl⟩
                    obtain ⟨de, hde⟩ : ∃ z, errorIn hf.n hf.xs (a : Int) = z := ⟨_, rfl⟩
                    have HWa := Lib.hid (fun (W : World) (q : Recs 3 W (.slice ac0 hf.n cc0) hf.n hf.xs) => (by have z := implWeightIn _ hf.n hf.xs (a : Int) W q; rw [hwa] at z; exact z : Calls Try.prog 13 #[.slice ac0 hf.n cc0, .int .i64 (a : Int)] W fun e w' => e = .returned (.int .i64 wa) ∧ Below W.heap.size W w'))
                    have HDe := Lib.hid (fun (W : World) (q : Recs 3 W (.slice ac0 hf.n cc0) hf.n hf.xs) => (by have z := implErrorIn _ hf.n hf.xs (a : Int) W q; rw [hde] at z; exact z : Calls Try.prog 15 #[.slice ac0 hf.n cc0, .int .i64 (a : Int)] W fun e w' => e = .returned (.int .i64 de) ∧ Below W.heap.size W w'))
                    rw [hwa] at htw hwa1
                    rw [hde] at htw hdb1
                    clear hwa hde
                    generalize nth R a = ra at *
                    obtain ⟨d, hdd⟩ : ∃ d, ra - wa = d := ⟨_, rfl⟩
                    have hs1 : IntKind.i64.wrap (ra - wa) = d := by rw [IntKind.wrap_i64]; omega
                    have hd1 : -de ≤ d ∧ d ≤ de := by omega
                    have hd2 : de ≤ 12000 := hdb1.2
                    clear hdd htw hwa1 hra hdb1
                    have RW := Lib.hid (fun (W : World) (q : Below wr.heap.size wr W) => ((SQ.out.box.house.read HNB).below q).c)
                    have MK : Hid (∀ w' : World, Below wr.heap.size wr w' → w'.cell? ⟨br, orr + a, none⟩ = some (.int .i64 ra) ∧ w'.cell? ⟨w1.heap.size, 0, none⟩ = some (.slice ac0 hf.n cc0) ∧ Below wr.heap.size wr w') := fun W q => ⟨(q.cell (p := ⟨br, orr + a, none⟩) l1).trans ea, (q.cell (p := ⟨w1.heap.size, 0, none⟩) yX).trans g0, q⟩
                    have hDr : Below wr.heap.size wr wr.drew := bdrew (bref _)
                    go_upto_region 40 with fail
                    go_cut [20] (fun q wx => q = .int .i64 d ∧ Hid (Below wr.heap.size wr wx))
                    case first =>
                      go_region_held3 (fun w' => w'.cell? ⟨br, orr + a, none⟩ = some (.int .i64 ra) ∧ w'.cell? ⟨w1.heap.size, 0, none⟩ = some (.slice ac0 hf.n cc0) ∧ Below wr.heap.size wr w')
                        (first | with_reducible exact MK.out _ hDr | with_reducible exact MK.out _ q3 | fail "keep")
                        (first | (go_at_call 13; go_split_ands; refine (HWa.out _ (RW.out _ (by assumption))).mono ?_; rintro e w3_ ⟨rfl, hb3⟩; have q3 : Below wr.heap.size wr w3_ := bnext (by assumption) hb3))
                      go_wp2_with fail
                      go_meet
                      exact ⟨rfl, Lib.hid q3⟩
                    case rest =>
                      obtain ⟨rfl, HBx⟩ := hcut
                      have SQ := Lib.hid (SQ.out.go HBx.out)
                      have RW0 := Lib.hid (SQ.out.box.house.read HNB).c
                      have HQ := Lib.hid (bnext HQ.out HBx.out)
                      have g0 := SQ.out.box.six.c0
                      clear RW MK hDr HBx ea l1 yX hs1 HWa
                      generalize wc = ud at *
                      have hwd : IntKind.i64.wrap (-d) = -d := by rw [IntKind.wrap_i64]; omega
                      have hmx : ¬ de < (if -d > d then -d else d) := by split <;> omega
                      have hmx1 : ¬ de < d := by omega
                      have hmx2 : ¬ de < -d := by omega
                      go_wp2_with (first | (go_at_call 15; refine (HDe.out _ RW0.out).mono ?_; rintro e w5_ ⟨rfl, hb5⟩; have HQ5 := Lib.hid (bnext HQ.out hb5); clear hb5))
                      all_goals
                        go_roundw
                        case rel => exact ⟨a + 1, by omega, by go_num, HQ5⟩
                        case measure => simp [intOf]; omega
              · obtain rfl : a = R.length := by omega
                have SQ := Lib.hid (SB.out.go HP.out)
                have g0 := SQ.out.box.six.c0
                have g1 := SQ.out.box.six.c1
                have g2 := SQ.out.box.six.c2
                have g3 := SQ.out.box.six.c3
                have g4 := SQ.out.box.six.c4
                have g5 := SQ.out.box.six.c5
                have yX := SQ.out.box.six.lt
                have alz : ¬ (R.length : Int) < (R.length : Int) := by omega
                have hsc := safe_count okk HT.out
                obtain ⟨SL, hSL⟩ : ∃ l, safeL hf = l := ⟨_, rfl⟩
                rw [hSL] at hsc
                have HSF := Lib.hid (fun (W : World) (q : HouseR W (.slice ac0 (hf).n cc0) (.slice am0 (hf).ms.length cm0) (.slice ao0 (hf).os.length co0) (.slice at0 (hf).ts.length ct0) hf) => (by have z := implSafeCopies _ _ _ _ hf W q; rw [hSL] at z; exact z : Calls Try.prog 16 #[.agg #[.slice ac0 (hf).n cc0, .slice am0 (hf).ms.length cm0, .slice ao0 (hf).os.length co0, .slice at0 (hf).ts.length ct0, .int .i64 (hf).sent, .int .i64 (hf).day]] W (GivesN W SL)))
                have HOKF := Lib.hid (fun (W : World) (q : HouseR W (.slice ac0 (hf).n cc0) (.slice am0 (hf).ms.length cm0) (.slice ao0 (hf).os.length co0) (.slice at0 (hf).ts.length ct0) hf) => (by have z := implHouseOk _ _ _ _ hf W q; rw [okk] at z; exact z : Calls Try.prog 8 #[.agg #[.slice ac0 (hf).n cc0, .slice am0 (hf).ms.length cm0, .slice ao0 (hf).os.length co0, .slice at0 (hf).ts.length ct0, .int .i64 (hf).sent, .int .i64 (hf).day]] W fun e w' => e = .returned (.bool true) ∧ Below W.heap.size W w'))
                have hwl : IntKind.i64.wrap ((hf.n : Int) - (T.length : Int)) = (SL.length : Int) := by rw [IntKind.wrap_i64]; have := HTL.out; omega
                have hel : ((SL.length : Int) == (SL.length : Int)) = true := beq_self_eq_true _
                clear hsc hSL
                have RW := Lib.hid (fun (W : World) (q : Below wr.heap.size wr W) => (SQ.out.box.house.read HNB).below q)
                have MK : Hid (∀ w' : World, Below wr.heap.size wr w' → w'.cell? ⟨w1.heap.size, 0, none⟩ = some (.slice ac0 (hf).n cc0) ∧ w'.cell? ⟨w1.heap.size, 1, none⟩ = some (.slice am0 (hf).ms.length cm0) ∧ w'.cell? ⟨w1.heap.size, 2, none⟩ = some (.slice ao0 (hf).os.length co0) ∧ w'.cell? ⟨w1.heap.size, 3, none⟩ = some (.slice at0 (hf).ts.length ct0) ∧ w'.cell? ⟨w1.heap.size, 4, none⟩ = some (.int .i64 (hf).sent) ∧ w'.cell? ⟨w1.heap.size, 5, none⟩ = some (.int .i64 (hf).day) ∧ Below wr.heap.size wr w') := fun W q => ⟨(q.cell (p := ⟨w1.heap.size, 0, none⟩) yX).trans g0, (q.cell (p := ⟨w1.heap.size, 1, none⟩) yX).trans g1, (q.cell (p := ⟨w1.heap.size, 2, none⟩) yX).trans g2, (q.cell (p := ⟨w1.heap.size, 3, none⟩) yX).trans g3, (q.cell (p := ⟨w1.heap.size, 4, none⟩) yX).trans g4, (q.cell (p := ⟨w1.heap.size, 5, none⟩) yX).trans g5, q⟩
                have hDr : Below wr.heap.size wr wr.drew := bdrew (bref _)
                go_upto_region 43 with fail
                go_region_held3 (fun w' => w'.cell? ⟨w1.heap.size, 0, none⟩ = some (.slice ac0 (hf).n cc0) ∧ w'.cell? ⟨w1.heap.size, 1, none⟩ = some (.slice am0 (hf).ms.length cm0) ∧ w'.cell? ⟨w1.heap.size, 2, none⟩ = some (.slice ao0 (hf).os.length co0) ∧ w'.cell? ⟨w1.heap.size, 3, none⟩ = some (.slice at0 (hf).ts.length ct0) ∧ w'.cell? ⟨w1.heap.size, 4, none⟩ = some (.int .i64 (hf).sent) ∧ w'.cell? ⟨w1.heap.size, 5, none⟩ = some (.int .i64 (hf).day) ∧ Below wr.heap.size wr w')
                  (first | with_reducible exact MK.out _ hDr | with_reducible exact MK.out _ q3 | with_reducible exact MK.out _ q4 | fail "keep")
                  (first | (go_at_call 8; go_split_ands; refine (HOKF.out _ (RW.out _ (by assumption))).mono ?_; rintro e w3_ ⟨rfl, hb3⟩; have q3 : Below wr.heap.size wr w3_ := bnext (by assumption) hb3) | (go_at_call 16; go_split_ands; refine (HSF.out _ (RW.out _ (by assumption))).mono ?_; rintro e w4_ ⟨vs, rfl, hrs, -, hb4⟩; have q4 : Below wr.heap.size wr w4_ := bnext (by assumption) hb4; obtain ⟨ads, caps, rfl⟩ := own_form hrs))
                go_wp2_with fail
                go_ret
                exact ⟨rfl, bnext (bnext DX.out HP.out) q4⟩
end Go.Proofs.Ytlipfkalehikkaa
