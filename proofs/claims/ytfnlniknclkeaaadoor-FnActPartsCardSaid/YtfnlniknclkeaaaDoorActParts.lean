/- The law of a run's parts, walked. -/
import Derived.Test.YtfnlniknclkeaaaDoorFormatHouse
import Derived.Test.YtfnlniknclkeaaaDoorDrawActs
import Derived.Test.YtfnlniknclkeaaaDoorGH
import Derived.Test.YtfnlniknclkeaaaDoorGL
import Derived.Test.YtfnlniknclkeaaaDoorPlaces
import Derived.Test.YtfnlniknclkeaaaDoorPartsFn
import Derived.Test.YtfnlniknclkeaaaDoorSameTexts
import Derived.Test.YtfnlniknclkeaaaDoorGB
import Derived.Deep.RegionHeld3
import Derived.Deep.RegionWith
import Derived.Deep.DeepCutAuto
namespace Go.Proofs.YtfnlniknclkeaaaDoor
open Go.ChangeShapes Go.WideShapes Go.ChangeAt Go.RowKit

theorem step_append_srcg {P : Program} {ops : Array Oper} {o : Oper} {a : Act} {w : World} {K : Act → World → Prop} {Q : Exit → Act → World → Prop} {E : Prop} (hw : Region.wanted o (yielded ops a.tmps) = true) (s x : Operand) (t : TypeId)
    (ho : o.op = .call { callee := .builtin .append, args := #[s, x], argTypes := #[t, t] })
    (base : Nat) (e : TypeId) (i : TypeInfo) (z : Value) (size bytes : Nat) (ht : P.underlying t = some (.slice e)) (hi : P.info? e = some i) (hz : i.zero = some z)
    (hsize : i.size = size) (hby : i.bytes = bytes) (hzs : z.cells.size = size) (hsz : 0 < size)
    (v : Value) (n : Nat) (xs : List Value) (hs : a.eval s = v) (hown : w.ownsRow base e size v n xs) (u : Value) (m : Nat) (ys : List Int) (hx : a.eval x = u) (hu : Recs size w u m ys) (hn : NilOk u)
    (hm : n + m ≤ 1000000000) (hb : bytes ≤ 1000) (hbase : base ≤ w.heap.size)
    (h : ∀ v' w', w'.ownsRow base e size v' (n + m) (xs ++ ys.map (Value.int .i64)) → w.grownBy w' v.ownBlock → (v'.ownBlock = v.ownBlock ∨ v'.ownBlock = some w.heap.size) → K (a.put o.dst v') w') :
    if Region.wanted o (yielded ops a.tmps) = true then Oper.wp P o a w K Q else E := by
  rw [if_pos hw]
  obtain ⟨v', w', hr, h2, h3, h5⟩ := run_append_src (P := P) w t o.type e base i z size bytes ht hi hz hsize hby hzs hsz v n xs hown u m ys hu hn hm hb hbase
  unfold Oper.wp execOp
  simp only [ho, resolve, invoke, builtin, Sem.run_bind, Sem.run_pure, Result.andThen_ok, List.map_toArray, List.map_cons, List.map_nil, hs, hx, hr]
  exact h v' w' h2 h3 h5
theorem app_below2 {B : Nat} {u wr w1 : World} {e : TypeId} {v : Value} {n : Nat} {L : List Value} (hown : wr.ownsRow B e 1 v n L) (hgrow : wr.grownBy w1 v.ownBlock) (hbel : Below u.heap.size u wr) (hB : u.heap.size ≤ B) : Below u.heap.size u w1 :=
  hbel.grown hgrow hbel.size (fun k hk => Nat.le_trans hB (hown.lt k hk).1)
theorem sameI_any (u v : Value) (xs : List Int) (w : World) (hu : Ints w u xs) (hv : Ints w v xs) : Calls Tryd.prog 13 #[u, v] w fun e w' => e = .returned (.bool true) ∧ Below w.heap.size w w' := by
  obtain ⟨hl, ada, capa, rfl, hc⟩ := hu
  obtain ⟨_, adb, capb, rfl, hd⟩ := hv
  have HC := Lib.hid hc
  have HD := Lib.hid hd
  clear hc hd
  go_enter Tryd.func13, Tryd.ntmps13
  go_wp2_with fail
  go_loopw [5] (fun i wr => ∃ k : Nat, k ≤ xs.length ∧ i = .int .i64 k ∧ Hid (Below w.heap.size w wr)) (fun i _ => xs.length - (intOf i).toNat)
  case atStart => exact ⟨0, Nat.zero_le _, rfl, bref _⟩
  case round =>
    obtain ⟨k, hk, rfl, HB⟩ := hrel
    by_cases hlt : k < xs.length
    · obtain ⟨b, o, rfl, e0⟩ := HC.out k hlt
      obtain ⟨b', o', rfl, e1⟩ := HD.out k hlt
      have e0 := (HB.out.cell (World.block_lt_of_cell? w _ e0)).trans e0
      have e1 := (HB.out.cell (World.block_lt_of_cell? w _ e1)).trans e1
      have i1 : (0 : Int) ≤ (k : Int) := by omega
      have i2 : (k : Int) < (xs.length : Int) := by omega
      have i3 : ¬ (k : Int) < 0 := by omega
      have i4 : ¬ (xs.length : Int) ≤ (k : Int) := by omega
      generalize nth xs k = s at *
      go_wp2_with fail
      go_quiet (fail)
      go_wp2
      go_roundw
      case rel => exact ⟨k + 1, by omega, by go_num, bdrewN HB.out _⟩
      case measure => simp [intOf]; omega
    · obtain rfl : k = xs.length := by omega
      go_wp2
      go_ret
      exact ⟨rfl, HB.out⟩
structure BX (B lo hi : Nat) (w : World) (vc vm vo vt : Value) (h : HD) : Prop where
  six : Six B w vc vm vo vt (.int .i64 h.sent) (.int .i64 h.day)
  house : HouseO lo hi w vc vm vo vt h
theorem BX.below {B lo hi : Nat} {w w' : World} {vc vm vo vt : Value} {h : HD} (r : BX B lo hi w vc vm vo vt h) (hb : Below w.heap.size w w') : BX B lo hi w' vc vm vo vt h := ⟨r.six.below hb, r.house.below hb⟩
theorem recs_take {w : World} {ad : Option Addr} {n cap k : Nat} {xs : List Int} (h : Recs 5 w (.slice ad n cap) n xs) (hk : k ≤ n) : Recs 5 w (.slice ad k cap) k (xs.take (k * 5)) := by
  obtain ⟨hl, he, ad', cap', hv, hc⟩ := h
  cases hv
  refine ⟨by omega, by simp; omega, ad, cap, rfl, fun i hi => ?_⟩
  have hi' : i < k * 5 ∧ i < xs.length := by rw [List.length_take] at hi; omega
  obtain ⟨b, o, ha, hcell⟩ := hc i hi'.2
  exact ⟨b, o, ha, by rw [hcell]; simp [nth, hi'.1]⟩
theorem recs_from {w : World} {g o : Nat} {n cap cap' k : Nat} {xs : List Int} (h : Recs 5 w (.slice (some ⟨g, o, none⟩) n cap) n xs) (hk : k ≤ n) : Recs 5 w (.slice (some ⟨g, o + k * 5, none⟩) (n - k) cap') (n - k) (xs.drop (k * 5)) := by
  obtain ⟨hl, he, ad', cap', hv, hc⟩ := h
  cases hv
  refine ⟨by omega, by simp; omega, _, _, rfl, fun i hi => ?_⟩
  have hi' : k * 5 + i < xs.length := by simp at hi; omega
  obtain ⟨b, o', ha, hcell⟩ := hc _ hi'
  cases ha
  exact ⟨g, o + k * 5, rfl, by rw [show o + k * 5 + i = o + (k * 5 + i) by omega, hcell]; simp [nth]⟩
theorem recs_none {w : World} {ad : Option Addr} {cap : Nat} {xs : List Int} : Recs 5 w (.slice ad 0 cap) 0 (xs.drop xs.length) := ⟨by omega, by simp, ad, cap, rfl, fun i hi => by simp at hi⟩
set_option linter.unusedSimpArgs false in
set_option maxRecDepth 100000 in
set_option maxHeartbeats 8000000 in
theorem fnActParts_any (v : Value) (bs : List Int) (w : World) (h : Bytes w v bs) (ht : Tab w) : Calls Tryd.prog 3 #[v] w fun e w' => e = .returned (.bool true) ∧ Below w.heap.size w w' := by
  by_cases hbig : (1048576 : Int) < bs.length
  · have hd : decide ((1048576 : Int) < bs.length) = true := by simp; omega
    go_enter Tryd.func3, Tryd.ntmps3
    go_wp2_with (first | (go_at_call 7; refine (big_any v bs w h).mono ?_; rw [hd]; rintro e w' ⟨rfl, rfl⟩))
    go_ret
    exact ⟨rfl, bref _⟩
  · have hd : decide ((1048576 : Int) < bs.length) = false := by simp; omega
    go_enter Tryd.func3, Tryd.ntmps3
    go_upto_region 4 with (first | (go_at_call 7; refine (big_any v bs w h).mono ?_; rw [hd]; rintro e w' ⟨rfl, rfl⟩) | (go_at_call 8; refine (drawActs_any v bs w h).mono ?_; rintro e w1 ⟨hx, ac0, am0, ao0, at0, cc0, cm0, co0, ct0, ada, n, capa, xs, rfl, ok, hO, hda, hn21, hra, hb1⟩; have HH := Lib.hid hO; have D := Lib.hid hb1; have BY := Lib.hid (h.below hb1); have HA := Lib.hid hra; have HAD := Lib.hid hda; clear hO hb1 hra hda))
    have X1 := Lib.hid (BoxH.first HH.out (Nat.le_refl _))
    have HA1 := Lib.hid (own_below HA.out (balloc (bref w1) (.cells #[.slice ac0 (hx).n cc0, .slice am0 (hx).ms.length cm0, .slice ao0 (hx).os.length co0, .slice at0 (hx).ts.length ct0, .int .i64 (hx).sent, .int .i64 (hx).day] 27)))
    have DX := Lib.hid (balloc D.out (.cells #[.slice ac0 (hx).n cc0, .slice am0 (hx).ms.length cm0, .slice ao0 (hx).os.length co0, .slice at0 (hx).ts.length ct0, .int .i64 (hx).sent, .int .i64 (hx).day] 27))
    have BY := Lib.hid (BY.out.below (balloc (bref w1) (.cells #[.slice ac0 (hx).n cc0, .slice am0 (hx).ms.length cm0, .slice ao0 (hx).os.length co0, .slice at0 (hx).ts.length ct0, .int .i64 (hx).sent, .int .i64 (hx).day] 27)))
    have TB := Lib.hid (ht.below DX.out)
    clear hbig hd h D HH HA ht
    generalize w1.alloc (.cells #[.slice ac0 (hx).n cc0, .slice am0 (hx).ms.length cm0, .slice ao0 (hx).os.length co0, .slice at0 (hx).ts.length ct0, .int .i64 (hx).sent, .int .i64 (hx).day] 27) = u1 at *
    have hB := houseOk_B ok
    have hxl := Lib.hid HAD.out.len
    have HA2 := Lib.hid (Recs.of_own HA1.out (show n ≤ 9223372036854775807 by omega))
    have HCP : Hid (n ≤ capa ∧ ((∃ g, ada = some ⟨g, 0, none⟩) ∨ capa = 0)) := by
      rcases HA1.out.2 with ⟨e, _⟩ | ⟨g, cap, cur, e, hbg, hg, hnc, _⟩
      · cases e; exact Lib.hid ⟨by omega, .inr rfl⟩
      · cases e; exact Lib.hid ⟨hnc, .inl ⟨g, rfl⟩⟩
    clear HA1 HAD
    go_upto_region 5 with (first | (go_at_call 9; refine (drawPlaces_any v bs _ BY.out).mono ?_; rintro e w4 ⟨adp, capp, ps, rfl, hpl, hpb, hrp, hb4⟩; have X1 := Lib.hid (X1.out.below hb4); have HA2 := Lib.hid (HA2.out.below hb4); have DX := Lib.hid (bnext DX.out hb4); have TB := Lib.hid (TB.out.below hb4); have HP := Lib.hid (own_ints (L := ps) (by rw [hpl]; exact hrp) (by omega)); clear hb4 hrp))
    obtain ⟨_, _, _, hvp, hcp⟩ := HP.out
    rw [hpl] at hvp
    cases hvp
    obtain ⟨bp, op, rfl, ep⟩ := hcp 0 (by omega)
    rw [Nat.add_zero] at ep
    have hp0 := hpb _ (nth_mem ps 0 (by omega))
    obtain ⟨hp00, hp01⟩ := hp0
    clear HP hcp hpb hpl BY
    generalize nth ps 0 = p0 at *
    obtain ⟨k, hk, hkl⟩ : ∃ k : Nat, p0.tmod ((n : Int) + 1) = (k : Int) ∧ k ≤ n := by
      have a := Int.tmod_nonneg ((n : Int) + 1) hp00
      have b := Int.tmod_lt_of_pos p0 (show (0 : Int) < (n : Int) + 1 by omega)
      exact ⟨(p0.tmod ((n : Int) + 1)).toNat, by omega, by omega⟩
    have hk2 : p0 % ((n : Int) + 1) = (k : Int) := by rw [← hk]; exact (Int.tmod_eq_emod_of_nonneg hp00).symm
    have hw1 : IntKind.i64.wrap ((n : Int) + 1) = (n : Int) + 1 := by rw [IntKind.wrap_i64]; omega
    have hnz : ¬ (n : Int) + 1 = 0 := by omega
    have hnzb : (((n : Int) + 1) == 0) = false := beq_eq_false_iff_ne.2 hnz
    have hkn : (k : Int) ≤ (n : Int) := by omega
    have hk0 : (0 : Int) ≤ (k : Int) := by omega
    have hkk : ¬ (k : Int) < 0 := by omega
    have hkc : (k : Int) ≤ (capa : Int) := by have := HCP.out.1; omega
    have HR6 := Lib.hid (runActs_t (xs := xs) ok (show n ≤ 40 by omega))
    have HR7 := Lib.hid (show runActs hx k (xs.take (k * 5)) = (runTo xs hx k, numsTo xs hx k) by rw [runActs_t ok (by omega), runTo_take xs hx k (Nat.le_refl _), numsTo_take xs hx k (Nat.le_refl _)])
    have okk := runTo_ok ok xs k
    have okg := runTo_ok ok xs n
    have HR8 := Lib.hid (show runActs (runTo xs hx k) (n - k) (xs.drop (k * 5)) = (runTo xs hx n, numsTo (xs.drop (k * 5)) (runTo xs hx k) (n - k)) by rw [runActs_t okk (by omega), runTo_drop]; congr 2; omega)
    have HNN := Lib.hid (show numsTo xs hx k ++ numsTo (xs.drop (k * 5)) (runTo xs hx k) (n - k) = numsTo xs hx n by rw [numsTo_drop]; congr 1; omega)
    have HNL6 := Lib.hid (numsTo_len xs hx n)
    have HNL7 := Lib.hid (numsTo_len xs hx k)
    have HNL8 := Lib.hid (numsTo_len (xs.drop (k * 5)) (runTo xs hx k) (n - k))
    generalize numsTo (xs.drop (k * 5)) (runTo xs hx k) (n - k) = M at *
    generalize runTo xs hx n = g at *
    generalize numsTo xs hx n = N at *
    generalize runTo xs hx k = gk at *
    generalize numsTo xs hx k = Nk at *
    have hBk := houseOk_B okk
    have hBg := houseOk_B okg
    have g0 := X1.out.six.c0
    have g1 := X1.out.six.c1
    have g2 := X1.out.six.c2
    have g3 := X1.out.six.c3
    have g4 := X1.out.six.c4
    have g5 := X1.out.six.c5
    go_upto_region 7 with (first | (go_at_call 10; refine (implRunActs _ _ _ _ _ hx n xs _ (X1.out.house.read hB) HA2.out X1.out.house.nils hB).mono ?_; rw [HR6.out]; rintro e w2 ⟨ac2, cc2, am2, cm2, ao2, co2, at2, ct2, al, cl, rfl, hW⟩; dsimp only at hW; have HW := Lib.hid hW; clear hW))
    have X2 := Lib.hid (BoxH.first HW.out.house (Nat.le_refl _))
    have hb2 := bnext HW.out.below (balloc (bref w2) (.cells #[.slice ac2 (g).n cc2, .slice am2 (g).ms.length cm2, .slice ao2 (g).os.length co2, .slice at2 (g).ts.length ct2, .int .i64 (g).sent, .int .i64 (g).day] 27))
    have X1 := Lib.hid (X1.out.below hb2)
    have HA2 := Lib.hid (HA2.out.below hb2)
    have DX := Lib.hid (bnext DX.out hb2)
    have TB := Lib.hid (TB.out.below hb2)
    obtain ⟨p2_, q2_, pa2, qa2, hi2, -⟩ := HW.out.nums
    have HI := Lib.hid ((own_ints hi2.own (by rw [HNL6.out]; omega)).below (balloc (bref w2) (.cells #[.slice ac2 (g).n cc2, .slice am2 (g).ms.length cm2, .slice ao2 (g).os.length co2, .slice at2 (g).ts.length ct2, .int .i64 (g).sent, .int .i64 (g).day] 27)))
    clear hb2 HW hi2 pa2 qa2 g0 g1 g2 g3 g4 g5 ep
    generalize w2.alloc (.cells #[.slice ac2 (g).n cc2, .slice am2 (g).ms.length cm2, .slice ao2 (g).os.length co2, .slice at2 (g).ts.length ct2, .int .i64 (g).sent, .int .i64 (g).day] 27) = u2 at *
    have y7 := X1.out.six.lt
    have hDr : Below u2.heap.size u2 u2.drew := bdrew (bref _)
    have hDa : Below u2.heap.size u2 (u2.alloc (.cells #[.slice none 0 0, .slice none 0 0, .slice none 0 0, .slice none 0 0, .int .i64 0, .int .i64 0] 27)).drew := bdrew (balloc (bref _) _)
    have SZ := Lib.hid (show Six u2.heap.size ((u2.alloc (.cells #[.slice none 0 0, .slice none 0 0, .slice none 0 0, .slice none 0 0, .int .i64 0, .int .i64 0] 27)).drew) (.slice none 0 0) (.slice none 0 0) (.slice none 0 0) (.slice none 0 0) (.int .i64 0) (.int .i64 0) from ⟨by go_simp, by go_simp, by go_simp, by go_simp, by go_simp, by go_simp, by go_simp, by go_simp, by go_simp, by go_simp, by go_simp, by go_simp⟩)
    have HRD := Lib.hid (fun (W : World) (q : Below u2.heap.size u2 W) => (X1.out.house.read hB).below q)
    have RAD := Lib.hid (fun (W : World) (q : Below u2.heap.size u2 W) => (recs_take HA2.out hkl).below q)
    have hnil := X1.out.house.nils
    have SS : Hid (∀ w' : World, Below u2.heap.size u2 w' → w'.cell? ⟨w1.heap.size, 0, none⟩ = some (.slice ac0 (hx).n cc0) ∧ w'.cell? ⟨w1.heap.size, 1, none⟩ = some (.slice am0 (hx).ms.length cm0) ∧ w'.cell? ⟨w1.heap.size, 2, none⟩ = some (.slice ao0 (hx).os.length co0) ∧ w'.cell? ⟨w1.heap.size, 3, none⟩ = some (.slice at0 (hx).ts.length ct0) ∧ w'.cell? ⟨w1.heap.size, 4, none⟩ = some (.int .i64 (hx).sent) ∧ w'.cell? ⟨w1.heap.size, 5, none⟩ = some (.int .i64 (hx).day) ∧ Below u2.heap.size u2 w') := fun W q => ⟨(q.cell (p := ⟨w1.heap.size, 0, none⟩) y7).trans X1.out.six.c0, (q.cell (p := ⟨w1.heap.size, 1, none⟩) y7).trans X1.out.six.c1, (q.cell (p := ⟨w1.heap.size, 2, none⟩) y7).trans X1.out.six.c2, (q.cell (p := ⟨w1.heap.size, 3, none⟩) y7).trans X1.out.six.c3, (q.cell (p := ⟨w1.heap.size, 4, none⟩) y7).trans X1.out.six.c4, (q.cell (p := ⟨w1.heap.size, 5, none⟩) y7).trans X1.out.six.c5, q⟩
    go_upto_region 7 with fail
    go_cut [9, 10] (fun p q wx => ∃ (P : Nat) (ac5 am5 ao5 at5 : Option Addr) (cc5 cm5 co5 ct5 : Nat) (al5 : Option Addr) (cl5 : Nat), p = .pointer (some ⟨P, 0, none⟩) ∧ q = .slice al5 (Nk).length cl5 ∧ Hid (Six P wx (.slice ac5 (gk).n cc5) (.slice am5 (gk).ms.length cm5) (.slice ao5 (gk).os.length co5) (.slice at5 (gk).ts.length ct5) (.int .i64 (gk).sent) (.int .i64 (gk).day)) ∧ Hid (HouseO u2.heap.size wx.heap.size wx (.slice ac5 (gk).n cc5) (.slice am5 (gk).ms.length cm5) (.slice ao5 (gk).os.length co5) (.slice at5 (gk).ts.length ct5) gk) ∧ Hid (Ints wx (.slice al5 (Nk).length cl5) (Nk) ∧ NilOk (.slice al5 (Nk).length cl5)) ∧ Hid (Below u2.heap.size u2 wx))
    case first =>
      go_region_held3 (fun w' => w'.cell? ⟨w1.heap.size, 0, none⟩ = some (.slice ac0 (hx).n cc0) ∧ w'.cell? ⟨w1.heap.size, 1, none⟩ = some (.slice am0 (hx).ms.length cm0) ∧ w'.cell? ⟨w1.heap.size, 2, none⟩ = some (.slice ao0 (hx).os.length co0) ∧ w'.cell? ⟨w1.heap.size, 3, none⟩ = some (.slice at0 (hx).ts.length ct0) ∧ w'.cell? ⟨w1.heap.size, 4, none⟩ = some (.int .i64 (hx).sent) ∧ w'.cell? ⟨w1.heap.size, 5, none⟩ = some (.int .i64 (hx).day) ∧ Below u2.heap.size u2 w')
        (first | with_reducible exact SS.out _ hDr | with_reducible exact SS.out _ hDa | with_reducible exact SS.out _ q2 | with_reducible exact SS.out _ qA | with_reducible exact SS.out _ qV | with_reducible exact SS.out _ qP | fail "keep")
        (first | (go_at_call 10; go_split_ands; refine (implRunActs _ _ _ _ _ hx k (xs.take (k * 5)) _ (HRD.out _ (by assumption)) (RAD.out _ (by assumption)) hnil hB).mono ?_; rw [HR7.out]; rintro e w2_ ⟨ac5, cc5, am5, cm5, ao5, co5, at5, ct5, al5, cl5, rfl, hW⟩; dsimp only at hW; have hO := hW.house; have hb2 := hW.below; obtain ⟨pn, qn, pa, qa, hI, -⟩ := hW.nums; have q2 : Below u2.heap.size u2 w2_ := (by first | exact bnext hDr hb2 | exact bnext hDa hb2); have qA : Below u2.heap.size u2 (w2_.alloc (.cells #[.slice none 0 0, .slice none 0 0, .slice none 0 0, .slice none 0 0, .int .i64 0, .int .i64 0] 27)) := balloc q2 _; have qV : Below u2.heap.size u2 (w2_.alloc (.cells #[.slice ac5 (gk).n cc5, .slice am5 (gk).ms.length cm5, .slice ao5 (gk).os.length co5, .slice at5 (gk).ts.length ct5, .int .i64 (gk).sent, .int .i64 (gk).day] 27)) := balloc q2 _; have qP : Below u2.heap.size u2 (put6 w2_ u2.heap.size (.slice ac5 (gk).n cc5) (.slice am5 (gk).ms.length cm5) (.slice ao5 (gk).os.length co5) (.slice at5 (gk).ts.length ct5) (.int .i64 (gk).sent) (.int .i64 (gk).day)) := Only.below q2 (only_put6 w2_ u2.heap.size _ _ _ _ _ _) (Nat.le_refl _); clear hW; (try (have SZ2 := SZ.out.below hb2; have SH := Lib.hid SZ2; obtain ⟨s0, s1, s2, s3, s4, s5, fs0, fs1, fs2, fs3, fs4, fs5⟩ := SZ2))))
      all_goals
        go_wp2_with fail
        go_meet
        first
        | (have oB := only_put6 w2_ u2.heap.size (.slice ac5 (gk).n cc5) (.slice am5 (gk).ms.length cm5) (.slice ao5 (gk).os.length co5) (.slice at5 (gk).ts.length ct5) (.int .i64 (gk).sent) (.int .i64 (gk).day)
           have hpn : u2.heap.size + 1 ≤ pn := by have z_ := pa; simp at z_; omega
           exact ⟨u2.heap.size, ac5, am5, ao5, at5, cc5, cm5, co5, ct5, al5, cl5, rfl, rfl, Lib.hid SH.out.put, Lib.hid ((hO.only oB (off_r (by simp))).wide (by simp) oB.size), Lib.hid ⟨own_ints (hI.only oB (off_r hpn)).own (by rw [HNL7.out]; omega), nilOk_own hI.own⟩, Lib.hid qP⟩)
        | (have B5 := BoxH.first hO (Nat.le_refl _)
           exact ⟨w2_.heap.size, ac5, am5, ao5, at5, cc5, cm5, co5, ct5, al5, cl5, rfl, rfl, Lib.hid B5.six, Lib.hid (B5.house.wide (by simp) (Nat.le_refl _)), Lib.hid ⟨(own_ints hI.own (by rw [HNL7.out]; omega)).below (balloc (bref w2_) _), nilOk_own hI.own⟩, Lib.hid qV⟩)
    case rest =>
      obtain ⟨P5, ac5, am5, ao5, at5, cc5, cm5, co5, ct5, al5, cl5, rfl, rfl, H6, HH, HI5, HBx⟩ := hcut
      clear SS SZ HRD RAD hnil hDr hDa
      have X5 := Lib.hid (BX.mk H6.out HH.out)
      have X2 := Lib.hid (X2.out.below HBx.out)
      have HA2 := Lib.hid (HA2.out.below HBx.out)
      have DX := Lib.hid (bnext DX.out HBx.out)
      have TB := Lib.hid (TB.out.below HBx.out)
      have HI := Lib.hid (HI.out.below HBx.out)
      clear H6 HH HBx X1
      generalize wc = u5 at *
      by_cases hck : capa = k
      · have e1 : n = k := by have := HCP.out.1; omega
        subst e1
        have e2 : n = capa := hck.symm
        subst e2
        have HR8 := Lib.hid (show runActs gk 0 (xs.drop (n * 5)) = (g, M) by have q := HR8.out; rw [Nat.sub_self] at q; exact q)
        have HNL8 := Lib.hid (show M.length = 0 by have q := HNL8.out; omega)
        have RN : Hid (Recs 5 u5 (.slice ada 0 0) 0 (xs.drop (n * 5))) := Lib.hid (by rw [← hxl.out]; exact recs_none)
        clear hck HCP
        have y8 := X5.out.six.lt
        have hDr : Below u5.heap.size u5 u5.drew := bdrew (bref _)
        have hDa : Below u5.heap.size u5 (u5.alloc (.cells #[.slice none 0 0, .slice none 0 0, .slice none 0 0, .slice none 0 0, .int .i64 0, .int .i64 0] 27)).drew := bdrew (balloc (bref _) _)
        have SZ := Lib.hid (show Six u5.heap.size ((u5.alloc (.cells #[.slice none 0 0, .slice none 0 0, .slice none 0 0, .slice none 0 0, .int .i64 0, .int .i64 0] 27)).drew) (.slice none 0 0) (.slice none 0 0) (.slice none 0 0) (.slice none 0 0) (.int .i64 0) (.int .i64 0) from ⟨by go_simp, by go_simp, by go_simp, by go_simp, by go_simp, by go_simp, by go_simp, by go_simp, by go_simp, by go_simp, by go_simp, by go_simp⟩)
        have HRD := Lib.hid (fun (W : World) (q : Below u5.heap.size u5 W) => (X5.out.house.read hBk).below q)
        have RAD := Lib.hid (fun (W : World) (q : Below u5.heap.size u5 W) => RN.out.below q)
        have hnil := X5.out.house.nils
        have SS : Hid (∀ w' : World, Below u5.heap.size u5 w' → w'.cell? ⟨P5, 0, none⟩ = some (.slice ac5 (gk).n cc5) ∧ w'.cell? ⟨P5, 1, none⟩ = some (.slice am5 (gk).ms.length cm5) ∧ w'.cell? ⟨P5, 2, none⟩ = some (.slice ao5 (gk).os.length co5) ∧ w'.cell? ⟨P5, 3, none⟩ = some (.slice at5 (gk).ts.length ct5) ∧ w'.cell? ⟨P5, 4, none⟩ = some (.int .i64 (gk).sent) ∧ w'.cell? ⟨P5, 5, none⟩ = some (.int .i64 (gk).day) ∧ Below u5.heap.size u5 w') := fun W q => ⟨(q.cell (p := ⟨P5, 0, none⟩) y8).trans X5.out.six.c0, (q.cell (p := ⟨P5, 1, none⟩) y8).trans X5.out.six.c1, (q.cell (p := ⟨P5, 2, none⟩) y8).trans X5.out.six.c2, (q.cell (p := ⟨P5, 3, none⟩) y8).trans X5.out.six.c3, (q.cell (p := ⟨P5, 4, none⟩) y8).trans X5.out.six.c4, (q.cell (p := ⟨P5, 5, none⟩) y8).trans X5.out.six.c5, q⟩
        go_upto_region 8 with fail
        go_cut [11, 12] (fun p q wx => ∃ (P : Nat) (ac8 am8 ao8 at8 : Option Addr) (cc8 cm8 co8 ct8 : Nat) (al8 : Option Addr) (cl8 : Nat), p = .pointer (some ⟨P, 0, none⟩) ∧ q = .slice al8 (M).length cl8 ∧ Hid (Six P wx (.slice ac8 (g).n cc8) (.slice am8 (g).ms.length cm8) (.slice ao8 (g).os.length co8) (.slice at8 (g).ts.length ct8) (.int .i64 (g).sent) (.int .i64 (g).day)) ∧ Hid (HouseO u5.heap.size wx.heap.size wx (.slice ac8 (g).n cc8) (.slice am8 (g).ms.length cm8) (.slice ao8 (g).os.length co8) (.slice at8 (g).ts.length ct8) g) ∧ Hid (Ints wx (.slice al8 (M).length cl8) (M) ∧ NilOk (.slice al8 (M).length cl8)) ∧ Hid (Below u5.heap.size u5 wx))
        case first =>
          go_region_held3 (fun w' => w'.cell? ⟨P5, 0, none⟩ = some (.slice ac5 (gk).n cc5) ∧ w'.cell? ⟨P5, 1, none⟩ = some (.slice am5 (gk).ms.length cm5) ∧ w'.cell? ⟨P5, 2, none⟩ = some (.slice ao5 (gk).os.length co5) ∧ w'.cell? ⟨P5, 3, none⟩ = some (.slice at5 (gk).ts.length ct5) ∧ w'.cell? ⟨P5, 4, none⟩ = some (.int .i64 (gk).sent) ∧ w'.cell? ⟨P5, 5, none⟩ = some (.int .i64 (gk).day) ∧ Below u5.heap.size u5 w')
            (first | with_reducible exact SS.out _ hDr | with_reducible exact SS.out _ hDa | with_reducible exact SS.out _ q2 | with_reducible exact SS.out _ qA | with_reducible exact SS.out _ qV | with_reducible exact SS.out _ qP | fail "keep")
            (first | (go_at_call 10; go_split_ands; refine (implRunActs _ _ _ _ _ gk 0 (xs.drop (n * 5)) _ (HRD.out _ (by assumption)) (RAD.out _ (by assumption)) hnil hBk).mono ?_; rw [HR8.out]; rintro e w2_ ⟨ac8, cc8, am8, cm8, ao8, co8, at8, ct8, al8, cl8, rfl, hW⟩; dsimp only at hW; have hO := hW.house; have hb2 := hW.below; obtain ⟨pn, qn, pa, qa, hI, -⟩ := hW.nums; have q2 : Below u5.heap.size u5 w2_ := (by first | exact bnext hDr hb2 | exact bnext hDa hb2); have qA : Below u5.heap.size u5 (w2_.alloc (.cells #[.slice none 0 0, .slice none 0 0, .slice none 0 0, .slice none 0 0, .int .i64 0, .int .i64 0] 27)) := balloc q2 _; have qV : Below u5.heap.size u5 (w2_.alloc (.cells #[.slice ac8 (g).n cc8, .slice am8 (g).ms.length cm8, .slice ao8 (g).os.length co8, .slice at8 (g).ts.length ct8, .int .i64 (g).sent, .int .i64 (g).day] 27)) := balloc q2 _; have qP : Below u5.heap.size u5 (put6 w2_ u5.heap.size (.slice ac8 (g).n cc8) (.slice am8 (g).ms.length cm8) (.slice ao8 (g).os.length co8) (.slice at8 (g).ts.length ct8) (.int .i64 (g).sent) (.int .i64 (g).day)) := Only.below q2 (only_put6 w2_ u5.heap.size _ _ _ _ _ _) (Nat.le_refl _); clear hW; (try (have SZ2 := SZ.out.below hb2; have SH := Lib.hid SZ2; obtain ⟨s0, s1, s2, s3, s4, s5, fs0, fs1, fs2, fs3, fs4, fs5⟩ := SZ2))))
          all_goals
            go_wp2_with fail
            go_meet
            first
            | (have oB := only_put6 w2_ u5.heap.size (.slice ac8 (g).n cc8) (.slice am8 (g).ms.length cm8) (.slice ao8 (g).os.length co8) (.slice at8 (g).ts.length ct8) (.int .i64 (g).sent) (.int .i64 (g).day)
               have hpn : u5.heap.size + 1 ≤ pn := by have z_ := pa; simp at z_; omega
               exact ⟨u5.heap.size, ac8, am8, ao8, at8, cc8, cm8, co8, ct8, al8, cl8, rfl, rfl, Lib.hid SH.out.put, Lib.hid ((hO.only oB (off_r (by simp))).wide (by simp) oB.size), Lib.hid ⟨own_ints (hI.only oB (off_r hpn)).own (by rw [HNL8.out]; omega), nilOk_own hI.own⟩, Lib.hid qP⟩)
            | (have B5 := BoxH.first hO (Nat.le_refl _)
               exact ⟨w2_.heap.size, ac8, am8, ao8, at8, cc8, cm8, co8, ct8, al8, cl8, rfl, rfl, Lib.hid B5.six, Lib.hid (B5.house.wide (by simp) (Nat.le_refl _)), Lib.hid ⟨(own_ints hI.own (by rw [HNL8.out]; omega)).below (balloc (bref w2_) _), nilOk_own hI.own⟩, Lib.hid qV⟩)
        case rest =>
          obtain ⟨P8, ac8, am8, ao8, at8, cc8, cm8, co8, ct8, al8, cl8, rfl, rfl, H6, HH, HI8, HBx⟩ := hcut
          clear SS SZ HRD RAD hnil hDr hDa
          have X8 := Lib.hid (BX.mk H6.out HH.out)
          have X2 := Lib.hid (X2.out.below HBx.out)
          have DX := Lib.hid (bnext DX.out HBx.out)
          have TB := Lib.hid (TB.out.below HBx.out)
          have HI := Lib.hid (HI.out.below HBx.out)
          have HI5 := Lib.hid (And.intro (HI5.out.1.below HBx.out) HI5.out.2)
          clear H6 HH HBx X5
          generalize wc = u8 at *
          have y2_ := X2.out.six.lt
          have y8_ := X8.out.six.lt
          obtain ⟨FL, hFL⟩ : ∃ FL, formatHouse g = FL := ⟨_, rfl⟩
          have HLN := Lib.hid (show FL.length = g.n + 2 by rw [← hFL, formatHouse_t okg, List.length_append, linesTo_len]; rfl)
          have hgn : g.n ≤ 12 := (chainOk_n (daysOk_chain (houseOk_facts okg).days).1).2
          have HFL := Lib.hid hFL
          clear hFL
          obtain ⟨i0, hi, hz0, hz1, hz2⟩ := info_parts infoInt'
          have R2 := Lib.hid (fun (W : World) (q : Below u8.heap.size u8 W) => (X2.out.house.read hBg).below q)
          have R8 := Lib.hid (fun (W : World) (q : Below u8.heap.size u8 W) => (X8.out.house.read hBg).below q)
          have TW := Lib.hid (fun (W : World) (q : Below u8.heap.size u8 W) => TB.out.below q)
          have RI := Lib.hid (fun (W : World) (q : Below u8.heap.size u8 W) => HI.out.below q)
          have RI5 := Lib.hid (fun (W : World) (q : Below u8.heap.size u8 W) => And.intro (HI5.out.1.below q) True.intro)
          have RI8 := Lib.hid (fun (W : World) (q : Below u8.heap.size u8 W) => And.intro (HI8.out.1.below q) True.intro)
          have MK : Hid (∀ w' : World, Below u8.heap.size u8 w' → w'.cell? ⟨w2.heap.size, 0, none⟩ = some (.slice ac2 (g).n cc2) ∧ w'.cell? ⟨w2.heap.size, 1, none⟩ = some (.slice am2 (g).ms.length cm2) ∧ w'.cell? ⟨w2.heap.size, 2, none⟩ = some (.slice ao2 (g).os.length co2) ∧ w'.cell? ⟨w2.heap.size, 3, none⟩ = some (.slice at2 (g).ts.length ct2) ∧ w'.cell? ⟨w2.heap.size, 4, none⟩ = some (.int .i64 (g).sent) ∧ w'.cell? ⟨w2.heap.size, 5, none⟩ = some (.int .i64 (g).day) ∧ w'.cell? ⟨P8, 0, none⟩ = some (.slice ac8 (g).n cc8) ∧ w'.cell? ⟨P8, 1, none⟩ = some (.slice am8 (g).ms.length cm8) ∧ w'.cell? ⟨P8, 2, none⟩ = some (.slice ao8 (g).os.length co8) ∧ w'.cell? ⟨P8, 3, none⟩ = some (.slice at8 (g).ts.length ct8) ∧ w'.cell? ⟨P8, 4, none⟩ = some (.int .i64 (g).sent) ∧ w'.cell? ⟨P8, 5, none⟩ = some (.int .i64 (g).day) ∧ Below u8.heap.size u8 w') := fun W q => ⟨(q.cell (p := ⟨w2.heap.size, 0, none⟩) y2_).trans X2.out.six.c0, (q.cell (p := ⟨w2.heap.size, 1, none⟩) y2_).trans X2.out.six.c1, (q.cell (p := ⟨w2.heap.size, 2, none⟩) y2_).trans X2.out.six.c2, (q.cell (p := ⟨w2.heap.size, 3, none⟩) y2_).trans X2.out.six.c3, (q.cell (p := ⟨w2.heap.size, 4, none⟩) y2_).trans X2.out.six.c4, (q.cell (p := ⟨w2.heap.size, 5, none⟩) y2_).trans X2.out.six.c5, (q.cell (p := ⟨P8, 0, none⟩) y8_).trans X8.out.six.c0, (q.cell (p := ⟨P8, 1, none⟩) y8_).trans X8.out.six.c1, (q.cell (p := ⟨P8, 2, none⟩) y8_).trans X8.out.six.c2, (q.cell (p := ⟨P8, 3, none⟩) y8_).trans X8.out.six.c3, (q.cell (p := ⟨P8, 4, none⟩) y8_).trans X8.out.six.c4, (q.cell (p := ⟨P8, 5, none⟩) y8_).trans X8.out.six.c5, q⟩
          have hDr : Below u8.heap.size u8 u8.drew := bdrew (bref _)
          have hp2 : (0 : Int) < (g.n : Int) + 2 := by omega
          go_upto_region 9 with fail
          refine wp_region_held_drew (S := fun w' => w'.cell? ⟨w2.heap.size, 0, none⟩ = some (.slice ac2 (g).n cc2) ∧ w'.cell? ⟨w2.heap.size, 1, none⟩ = some (.slice am2 (g).ms.length cm2) ∧ w'.cell? ⟨w2.heap.size, 2, none⟩ = some (.slice ao2 (g).os.length co2) ∧ w'.cell? ⟨w2.heap.size, 3, none⟩ = some (.slice at2 (g).ts.length ct2) ∧ w'.cell? ⟨w2.heap.size, 4, none⟩ = some (.int .i64 (g).sent) ∧ w'.cell? ⟨w2.heap.size, 5, none⟩ = some (.int .i64 (g).day) ∧ w'.cell? ⟨P8, 0, none⟩ = some (.slice ac8 (g).n cc8) ∧ w'.cell? ⟨P8, 1, none⟩ = some (.slice am8 (g).ms.length cm8) ∧ w'.cell? ⟨P8, 2, none⟩ = some (.slice ao8 (g).os.length co8) ∧ w'.cell? ⟨P8, 3, none⟩ = some (.slice at8 (g).ts.length ct8) ∧ w'.cell? ⟨P8, 4, none⟩ = some (.int .i64 (g).sent) ∧ w'.cell? ⟨P8, 5, none⟩ = some (.int .i64 (g).day) ∧ Below u8.heap.size u8 w') (by kernel_rfl) ?_ (fun hHeld_ => ?_)
          · exact MK.out _ hDr
          refine wpAnyH_take (i := 0) (v := ?v_P10) (hi := (by simp only [List.getElem?_toArray, List.getElem?_cons_zero]; rfl)) (by kernel_rfl) (by kernel_rfl) (by kernel_rfl) (by exact fun _ _ _ h => h) (Or.inl ⟨by rfl, ?hy_P10⟩) (by assumption) ?rest_P10
          case hy_P10 =>
            intro W hSW
            try dsimp only at hSW
            go_simp
            try with_reducible rfl
          try simp only [Act.put, List.setIfInBounds_toArray, List.set_cons_zero, List.set_cons_succ]
          refine wpAnyH_ready (rs := [1]) (by kernel_rfl) (by simp) ?_
          refine AllReadyH.cons (ho := (by simp only [List.getElem?_toArray, List.getElem?_cons_succ, List.getElem?_cons_zero]; rfl)) (fun K_ hK_ => ?_) AllReadyH.nil
          go_simp
          refine (implFormatHouse _ _ _ _ g _ (R2.out _ hDr) (TW.out _ hDr)).mono ?_
          rw [HFL.out]
          rintro e wfq1 ⟨vfq1, rfl, hof, hbf⟩
          have hTf := Texts.of_own hof (by rw [HLN.out]; omega)
          obtain ⟨adfq1, capfq1, hvf_⟩ := own_form hof
          rw [HLN.out] at hvf_
          subst hvf_
          have q1 : Below u8.heap.size u8 wfq1 := bnext hDr hbf
          skip
          have TX := Lib.hid hTf
          clear hof hbf hTf
          refine hK_.out _ _ ?_ (fun hHeld_ => ?_)
          · try dsimp only
            exact MK.out _ q1
          clear hK_
          try simp only [Act.put, List.setIfInBounds_toArray, List.set_cons_zero, List.set_cons_succ]
          clear TX
          refine wpAnyH_take (i := 2) (v := ?v_P12) (hi := (by simp only [List.getElem?_toArray, List.getElem?_cons_succ, List.getElem?_cons_zero]; rfl)) (by kernel_rfl) (by kernel_rfl) (by kernel_rfl) (by exact fun _ _ _ h => h) (Or.inl ⟨by rfl, ?hy_P12⟩) (by assumption) ?rest_P12
          case hy_P12 =>
            intro W hSW
            try dsimp only at hSW
            go_simp
            try with_reducible rfl
          try simp only [Act.put, List.setIfInBounds_toArray, List.set_cons_zero, List.set_cons_succ]
          refine wpAnyH_take (i := 3) (v := ?v_P13) (hi := (by simp only [List.getElem?_toArray, List.getElem?_cons_succ, List.getElem?_cons_zero]; rfl)) (by kernel_rfl) (by kernel_rfl) (by kernel_rfl) (by exact fun _ _ _ h => h) (Or.inl ⟨by rfl, ?hy_P13⟩) (by assumption) ?rest_P13
          case hy_P13 =>
            intro W hSW
            try dsimp only at hSW
            go_simp
            try with_reducible rfl
          try simp only [Act.put, List.setIfInBounds_toArray, List.set_cons_zero, List.set_cons_succ]
          refine wpAnyH_take (i := 4) (v := ?v_P14) (hi := (by simp only [List.getElem?_toArray, List.getElem?_cons_succ, List.getElem?_cons_zero]; rfl)) (by kernel_rfl) (by kernel_rfl) (by kernel_rfl) (by exact fun _ _ _ h => h) (Or.inl ⟨by rfl, ?hy_P14⟩) (by assumption) ?rest_P14
          case hy_P14 =>
            intro W hSW
            try dsimp only at hSW
            go_simp
            try with_reducible rfl
          try simp only [Act.put, List.setIfInBounds_toArray, List.set_cons_zero, List.set_cons_succ]
          refine wpAnyH_take (i := 5) (v := ?v_P15) (hi := (by simp only [List.getElem?_toArray, List.getElem?_cons_succ, List.getElem?_cons_zero]; rfl)) (by kernel_rfl) (by kernel_rfl) (by kernel_rfl) (by exact fun _ _ _ h => h) (Or.inl ⟨by rfl, ?hy_P15⟩) (by assumption) ?rest_P15
          case hy_P15 =>
            intro W hSW
            try dsimp only at hSW
            go_simp
            try with_reducible rfl
          try simp only [Act.put, List.setIfInBounds_toArray, List.set_cons_zero, List.set_cons_succ]
          refine wpAnyH_take (i := 7) (v := ?v_P17) (hi := (by simp only [List.getElem?_toArray, List.getElem?_cons_succ, List.getElem?_cons_zero]; rfl)) (by kernel_rfl) (by kernel_rfl) (by kernel_rfl) (by exact fun _ _ _ h => h) (Or.inl ⟨by rfl, ?hy_P17⟩) (by assumption) ?rest_P17
          case hy_P17 =>
            intro W hSW
            try dsimp only at hSW
            go_simp
            try with_reducible rfl
          try simp only [Act.put, List.setIfInBounds_toArray, List.set_cons_zero, List.set_cons_succ]
          refine wpAnyH_ready (rs := [6]) (by kernel_rfl) (by simp) ?_
          refine AllReadyH.cons (ho := (by simp only [List.getElem?_toArray, List.getElem?_cons_succ, List.getElem?_cons_zero]; rfl)) (fun K_ hK_ => ?_) AllReadyH.nil
          go_simp
          refine (implFormatHouse _ _ _ _ g _ (R2.out _ q1) (TW.out _ q1)).mono ?_
          rw [HFL.out]
          rintro e wfqx ⟨vfqx, rfl, hof, hbf⟩
          have hTf := Texts.of_own hof (by rw [HLN.out]; omega)
          obtain ⟨adfqx, capfqx, hvf_⟩ := own_form hof
          rw [HLN.out] at hvf_
          subst hvf_
          have qx : Below u8.heap.size u8 wfqx := bnext q1 hbf
          skip
          have TX := Lib.hid hTf
          clear hof hbf hTf
          refine hK_.out _ _ ?_ (fun hHeld_ => ?_)
          · try dsimp only
            exact MK.out _ qx
          clear hK_
          try simp only [Act.put, List.setIfInBounds_toArray, List.set_cons_zero, List.set_cons_succ]
          refine wpAnyH_ready (rs := [8]) (by kernel_rfl) (by simp) ?_
          refine AllReadyH.cons (ho := (by simp only [List.getElem?_toArray, List.getElem?_cons_succ, List.getElem?_cons_zero]; rfl)) (fun K_ hK_ => ?_) AllReadyH.nil
          go_simp
          refine (implFormatHouse _ _ _ _ g _ (R8.out _ qx) (TW.out _ qx)).mono ?_
          rw [HFL.out]
          rintro e wfqz ⟨vfqz, rfl, hof, hbf⟩
          have hTf := Texts.of_own hof (by rw [HLN.out]; omega)
          obtain ⟨adfqz, capfqz, hvf_⟩ := own_form hof
          rw [HLN.out] at hvf_
          subst hvf_
          have qz : Below u8.heap.size u8 wfqz := bnext qx hbf
          have TX := Lib.hid (TX.out.below hbf)
          have TZ := Lib.hid hTf
          clear hof hbf hTf
          refine hK_.out _ _ ?_ (fun hHeld_ => ?_)
          · try dsimp only
            exact MK.out _ qz
          clear hK_
          try simp only [Act.put, List.setIfInBounds_toArray, List.set_cons_zero, List.set_cons_succ]
          refine wpAnyH_ready (rs := [9]) (by kernel_rfl) (by simp) ?_
          refine AllReadyH.cons (ho := (by simp only [List.getElem?_toArray, List.getElem?_cons_succ, List.getElem?_cons_zero]; rfl)) (fun K_ hK_ => ?_) AllReadyH.nil
          go_simp
          refine (sameTexts_any _ _ FL _ TX.out TZ.out).mono ?_
          rintro e wg ⟨rfl, hbg⟩
          have qg : Below u8.heap.size u8 wg := bnext qz hbg
          have qgA : Below u8.heap.size u8 (wg.alloc (.cells #[] 3)) := balloc qg _
          clear hbg
          refine hK_.out _ _ ?_ (fun hHeld_ => ?_)
          · try dsimp only
            exact MK.out _ qg
          clear hK_
          try simp only [Act.put, List.setIfInBounds_toArray, List.set_cons_zero, List.set_cons_succ]
          refine wpAnyH_take (i := 10) (v := ?v_P110) (hi := (by simp only [List.getElem?_toArray, List.getElem?_cons_succ, List.getElem?_cons_zero]; rfl)) (by kernel_rfl) (by kernel_rfl) (by kernel_rfl) (by exact fun _ _ _ h => h) (Or.inl ⟨by rfl, ?hy_P110⟩) (by assumption) ?rest_P110
          case hy_P110 =>
            intro W hSW
            try dsimp only at hSW
            go_simp
            try with_reducible rfl
          try simp only [Act.put, List.setIfInBounds_toArray, List.set_cons_zero, List.set_cons_succ]
          refine wpAnyH_take (i := 11) (v := ?v_P111) (hi := (by simp only [List.getElem?_toArray, List.getElem?_cons_succ, List.getElem?_cons_zero]; rfl)) (by kernel_rfl) (by kernel_rfl) (by kernel_rfl) (by exact fun _ _ _ h => h) (Or.inl ⟨by rfl, ?hy_P111⟩) (by assumption) ?rest_P111
          case hy_P111 =>
            intro W hSW
            try dsimp only at hSW
            go_simp
            try with_reducible rfl
          try simp only [Act.put, List.setIfInBounds_toArray, List.set_cons_zero, List.set_cons_succ]
          refine wpAnyH_take (i := 12) (v := ?v_P112) (hi := (by simp only [List.getElem?_toArray, List.getElem?_cons_succ, List.getElem?_cons_zero]; rfl)) (by kernel_rfl) (by kernel_rfl) (by kernel_rfl) (by exact fun _ _ _ h => h) (Or.inl ⟨by rfl, ?hy_P112⟩) (by assumption) ?rest_P112
          case hy_P112 =>
            intro W hSW
            try dsimp only at hSW
            go_simp
            try with_reducible rfl
          try simp only [Act.put, List.setIfInBounds_toArray, List.set_cons_zero, List.set_cons_succ]
          refine wpAnyH_take (i := 14) (v := ?v_P114) (hi := (by simp only [List.getElem?_toArray, List.getElem?_cons_succ, List.getElem?_cons_zero]; rfl)) (by kernel_rfl) (by kernel_rfl) (by kernel_rfl) (by exact fun _ _ _ h => h) (Or.inl ⟨by rfl, ?hy_P114⟩) (by assumption) ?rest_P114
          case hy_P114 =>
            intro W hSW
            try dsimp only at hSW
            go_simp
            try with_reducible rfl
          try simp only [Act.put, List.setIfInBounds_toArray, List.set_cons_zero, List.set_cons_succ]
          refine wpAnyH_take (i := 16) (v := ?v_P116) (hi := (by simp only [List.getElem?_toArray, List.getElem?_cons_succ, List.getElem?_cons_zero]; rfl)) (by kernel_rfl) (by kernel_rfl) (by kernel_rfl) (by exact fun _ _ _ h => h) (Or.inl ⟨by rfl, ?hy_P116⟩) (by assumption) ?rest_P116
          case hy_P116 =>
            intro W hSW
            try dsimp only at hSW
            go_simp
            try with_reducible rfl
          try simp only [Act.put, List.setIfInBounds_toArray, List.set_cons_zero, List.set_cons_succ]
          refine wpAnyH_ready (rs := [13]) (by kernel_rfl) (by simp) ?_
          refine AllReadyH.cons (ho := (by simp only [List.getElem?_toArray, List.getElem?_cons_succ, List.getElem?_cons_zero]; rfl)) (fun K_ hK_ => ?_) AllReadyH.nil
          go_simp
          refine hK_.out _ _ ?_ (fun hHeld_ => ?_)
          · try dsimp only
            exact MK.out _ qgA
          clear hK_
          try simp only [Act.put, List.setIfInBounds_toArray, List.set_cons_zero, List.set_cons_succ]
          refine wpAnyH_ready (rs := [15]) (by kernel_rfl) (by simp) ?_
          refine AllReadyH.cons (ho := (by simp only [List.getElem?_toArray, List.getElem?_cons_succ, List.getElem?_cons_zero]; rfl)) (fun K_ hK_ => ?_) AllReadyH.nil
          (refine step_append_srcg (by rfl) _ _ 25 rfl wg.heap.size 3 i0 (.int .i64 0) 1 8 Tryd.underlying25 hi hz0 hz1 hz2 rfl (by decide) (.slice (some ⟨wg.heap.size, 0, none⟩) 0 0) 0 [] rfl (World.ownsRow_lit (e := 3) (size := 1) wg #[] 0 (Nat.le_refl _) (by decide) rfl) _ Nk.length Nk rfl (ints_recs ((RI5.out _ qgA).1)) HI5.out.2 (by rw [HNL7.out]; omega) (by decide) (by simp) ?_); intro v5 w5_ hown5 hgrow5 _; have q5 := app_below2 (World.ownsRow_lit (e := 3) (size := 1) wg #[] 0 (Nat.le_refl _) (by decide) rfl) hgrow5 qgA qg.size; have z5 := hgrow5.size; have O5 := Lib.hid hown5; clear hgrow5 hown5
          refine hK_.out _ _ ?_ (fun hHeld_ => ?_)
          · try dsimp only
            exact MK.out _ q5
          clear hK_
          try simp only [Act.put, List.setIfInBounds_toArray, List.set_cons_zero, List.set_cons_succ]
          refine wpAnyH_ready (rs := [17]) (by kernel_rfl) (by simp) ?_
          refine AllReadyH.cons (ho := (by simp only [List.getElem?_toArray, List.getElem?_cons_succ, List.getElem?_cons_zero]; rfl)) (fun K_ hK_ => ?_) AllReadyH.nil
          (refine step_append_srcg (by rfl) _ _ 25 rfl wg.heap.size 3 i0 (.int .i64 0) 1 8 Tryd.underlying25 hi hz0 hz1 hz2 rfl (by decide) v5 (0 + Nk.length) _ rfl O5.out _ M.length M rfl (ints_recs ((RI8.out _ q5).1)) HI8.out.2 (by rw [HNL7.out, HNL8.out]; omega) (by decide) (by have z5_ := z5; simp at z5_; omega) ?_); intro v6 w6_ hown6 hgrow6 _; have q6 := app_below2 O5.out hgrow6 q5 qg.size; have O6 := Lib.hid (own_ints (L := Nk ++ M) (by simpa using hown6) (by rw [List.length_append, HNL7.out, HNL8.out]; omega)); clear hgrow6 hown6
          refine hK_.out _ _ ?_ (fun hHeld_ => ?_)
          · try dsimp only
            exact MK.out _ q6
          clear hK_
          try simp only [Act.put, List.setIfInBounds_toArray, List.set_cons_zero, List.set_cons_succ]
          refine wpAnyH_ready (rs := [18]) (by kernel_rfl) (by simp) ?_
          refine AllReadyH.cons (ho := (by simp only [List.getElem?_toArray, List.getElem?_cons_succ, List.getElem?_cons_zero]; rfl)) (fun K_ hK_ => ?_) AllReadyH.nil
          go_simp
          refine (sameI_any _ _ N _ (RI.out _ q6) (by rw [← HNN.out]; exact O6.out)).mono ?_
          rintro e wh ⟨rfl, hbh⟩
          have q7 : Below u8.heap.size u8 wh := bnext q6 hbh
          clear hbh
          refine hK_.out _ _ ?_ (fun hHeld_ => ?_)
          · try dsimp only
            exact MK.out _ q7
          clear hK_
          try simp only [Act.put, List.setIfInBounds_toArray, List.set_cons_zero, List.set_cons_succ]
          refine wpAnyH_take (i := 19) (v := ?v_P119) (hi := (by simp only [List.getElem?_toArray, List.getElem?_cons_succ, List.getElem?_cons_zero]; rfl)) (by kernel_rfl) (by kernel_rfl) (by kernel_rfl) (by exact fun _ _ _ h => h) (Or.inl ⟨by rfl, ?hy_P119⟩) (by assumption) ?rest_P119
          case hy_P119 =>
            intro W hSW
            try dsimp only at hSW
            go_simp
            try with_reducible rfl
          try simp only [Act.put, List.setIfInBounds_toArray, List.set_cons_zero, List.set_cons_succ]
          refine wpAnyH_take (i := 20) (v := ?v_P120) (hi := (by simp only [List.getElem?_toArray, List.getElem?_cons_succ, List.getElem?_cons_zero]; rfl)) (by kernel_rfl) (by kernel_rfl) (by kernel_rfl) (by exact fun _ _ _ h => h) (Or.inl ⟨by rfl, ?hy_P120⟩) (by assumption) ?rest_P120
          case hy_P120 =>
            intro W hSW
            try dsimp only at hSW
            go_simp
            try with_reducible rfl
          try simp only [Act.put, List.setIfInBounds_toArray, List.set_cons_zero, List.set_cons_succ]
          refine wpAnyH_done (by kernel_rfl) ?_ _
          go_wp2_with fail
          go_ret
          exact ⟨rfl, bnext DX.out q7⟩

      · have hck2 : ¬ (capa : Int) = (k : Int) := by omega
        obtain ⟨g0, rfl⟩ : ∃ g, ada = some ⟨g, 0, none⟩ := by
          rcases HCP.out.2 with z | z
          · exact z
          · exact absurd (by have := HCP.out.1; omega) hck
        have RN : Hid (Recs 5 u5 (.slice (some ⟨g0, k * 5, none⟩) (n - k) (capa - k)) (n - k) (xs.drop (k * 5))) := Lib.hid (by have q := recs_from (cap' := capa - k) HA2.out hkl; rw [Nat.zero_add] at q; exact q)
        clear HCP
        have y8 := X5.out.six.lt
        have hDr : Below u5.heap.size u5 u5.drew := bdrew (bref _)
        have hDa : Below u5.heap.size u5 (u5.alloc (.cells #[.slice none 0 0, .slice none 0 0, .slice none 0 0, .slice none 0 0, .int .i64 0, .int .i64 0] 27)).drew := bdrew (balloc (bref _) _)
        have SZ := Lib.hid (show Six u5.heap.size ((u5.alloc (.cells #[.slice none 0 0, .slice none 0 0, .slice none 0 0, .slice none 0 0, .int .i64 0, .int .i64 0] 27)).drew) (.slice none 0 0) (.slice none 0 0) (.slice none 0 0) (.slice none 0 0) (.int .i64 0) (.int .i64 0) from ⟨by go_simp, by go_simp, by go_simp, by go_simp, by go_simp, by go_simp, by go_simp, by go_simp, by go_simp, by go_simp, by go_simp, by go_simp⟩)
        have HRD := Lib.hid (fun (W : World) (q : Below u5.heap.size u5 W) => (X5.out.house.read hBk).below q)
        have RAD := Lib.hid (fun (W : World) (q : Below u5.heap.size u5 W) => RN.out.below q)
        have hnil := X5.out.house.nils
        have SS : Hid (∀ w' : World, Below u5.heap.size u5 w' → w'.cell? ⟨P5, 0, none⟩ = some (.slice ac5 (gk).n cc5) ∧ w'.cell? ⟨P5, 1, none⟩ = some (.slice am5 (gk).ms.length cm5) ∧ w'.cell? ⟨P5, 2, none⟩ = some (.slice ao5 (gk).os.length co5) ∧ w'.cell? ⟨P5, 3, none⟩ = some (.slice at5 (gk).ts.length ct5) ∧ w'.cell? ⟨P5, 4, none⟩ = some (.int .i64 (gk).sent) ∧ w'.cell? ⟨P5, 5, none⟩ = some (.int .i64 (gk).day) ∧ Below u5.heap.size u5 w') := fun W q => ⟨(q.cell (p := ⟨P5, 0, none⟩) y8).trans X5.out.six.c0, (q.cell (p := ⟨P5, 1, none⟩) y8).trans X5.out.six.c1, (q.cell (p := ⟨P5, 2, none⟩) y8).trans X5.out.six.c2, (q.cell (p := ⟨P5, 3, none⟩) y8).trans X5.out.six.c3, (q.cell (p := ⟨P5, 4, none⟩) y8).trans X5.out.six.c4, (q.cell (p := ⟨P5, 5, none⟩) y8).trans X5.out.six.c5, q⟩
        go_upto_region 8 with fail
        go_cut [11, 12] (fun p q wx => ∃ (P : Nat) (ac8 am8 ao8 at8 : Option Addr) (cc8 cm8 co8 ct8 : Nat) (al8 : Option Addr) (cl8 : Nat), p = .pointer (some ⟨P, 0, none⟩) ∧ q = .slice al8 (M).length cl8 ∧ Hid (Six P wx (.slice ac8 (g).n cc8) (.slice am8 (g).ms.length cm8) (.slice ao8 (g).os.length co8) (.slice at8 (g).ts.length ct8) (.int .i64 (g).sent) (.int .i64 (g).day)) ∧ Hid (HouseO u5.heap.size wx.heap.size wx (.slice ac8 (g).n cc8) (.slice am8 (g).ms.length cm8) (.slice ao8 (g).os.length co8) (.slice at8 (g).ts.length ct8) g) ∧ Hid (Ints wx (.slice al8 (M).length cl8) (M) ∧ NilOk (.slice al8 (M).length cl8)) ∧ Hid (Below u5.heap.size u5 wx))
        case first =>
          go_region_held3 (fun w' => w'.cell? ⟨P5, 0, none⟩ = some (.slice ac5 (gk).n cc5) ∧ w'.cell? ⟨P5, 1, none⟩ = some (.slice am5 (gk).ms.length cm5) ∧ w'.cell? ⟨P5, 2, none⟩ = some (.slice ao5 (gk).os.length co5) ∧ w'.cell? ⟨P5, 3, none⟩ = some (.slice at5 (gk).ts.length ct5) ∧ w'.cell? ⟨P5, 4, none⟩ = some (.int .i64 (gk).sent) ∧ w'.cell? ⟨P5, 5, none⟩ = some (.int .i64 (gk).day) ∧ Below u5.heap.size u5 w')
            (first | with_reducible exact SS.out _ hDr | with_reducible exact SS.out _ hDa | with_reducible exact SS.out _ q2 | with_reducible exact SS.out _ qA | with_reducible exact SS.out _ qV | with_reducible exact SS.out _ qP | fail "keep")
            (first | (go_at_call 10; go_split_ands; refine (implRunActs _ _ _ _ _ gk (n - k) (xs.drop (k * 5)) _ (HRD.out _ (by assumption)) (RAD.out _ (by assumption)) hnil hBk).mono ?_; rw [HR8.out]; rintro e w2_ ⟨ac8, cc8, am8, cm8, ao8, co8, at8, ct8, al8, cl8, rfl, hW⟩; dsimp only at hW; have hO := hW.house; have hb2 := hW.below; obtain ⟨pn, qn, pa, qa, hI, -⟩ := hW.nums; have q2 : Below u5.heap.size u5 w2_ := (by first | exact bnext hDr hb2 | exact bnext hDa hb2); have qA : Below u5.heap.size u5 (w2_.alloc (.cells #[.slice none 0 0, .slice none 0 0, .slice none 0 0, .slice none 0 0, .int .i64 0, .int .i64 0] 27)) := balloc q2 _; have qV : Below u5.heap.size u5 (w2_.alloc (.cells #[.slice ac8 (g).n cc8, .slice am8 (g).ms.length cm8, .slice ao8 (g).os.length co8, .slice at8 (g).ts.length ct8, .int .i64 (g).sent, .int .i64 (g).day] 27)) := balloc q2 _; have qP : Below u5.heap.size u5 (put6 w2_ u5.heap.size (.slice ac8 (g).n cc8) (.slice am8 (g).ms.length cm8) (.slice ao8 (g).os.length co8) (.slice at8 (g).ts.length ct8) (.int .i64 (g).sent) (.int .i64 (g).day)) := Only.below q2 (only_put6 w2_ u5.heap.size _ _ _ _ _ _) (Nat.le_refl _); clear hW; (try (have SZ2 := SZ.out.below hb2; have SH := Lib.hid SZ2; obtain ⟨s0, s1, s2, s3, s4, s5, fs0, fs1, fs2, fs3, fs4, fs5⟩ := SZ2))))
          all_goals
            go_wp2_with fail
            go_meet
            first
            | (have oB := only_put6 w2_ u5.heap.size (.slice ac8 (g).n cc8) (.slice am8 (g).ms.length cm8) (.slice ao8 (g).os.length co8) (.slice at8 (g).ts.length ct8) (.int .i64 (g).sent) (.int .i64 (g).day)
               have hpn : u5.heap.size + 1 ≤ pn := by have z_ := pa; simp at z_; omega
               exact ⟨u5.heap.size, ac8, am8, ao8, at8, cc8, cm8, co8, ct8, al8, cl8, rfl, rfl, Lib.hid SH.out.put, Lib.hid ((hO.only oB (off_r (by simp))).wide (by simp) oB.size), Lib.hid ⟨own_ints (hI.only oB (off_r hpn)).own (by rw [HNL8.out]; omega), nilOk_own hI.own⟩, Lib.hid qP⟩)
            | (have B5 := BoxH.first hO (Nat.le_refl _)
               exact ⟨w2_.heap.size, ac8, am8, ao8, at8, cc8, cm8, co8, ct8, al8, cl8, rfl, rfl, Lib.hid B5.six, Lib.hid (B5.house.wide (by simp) (Nat.le_refl _)), Lib.hid ⟨(own_ints hI.own (by rw [HNL8.out]; omega)).below (balloc (bref w2_) _), nilOk_own hI.own⟩, Lib.hid qV⟩)
        case rest =>
          obtain ⟨P8, ac8, am8, ao8, at8, cc8, cm8, co8, ct8, al8, cl8, rfl, rfl, H6, HH, HI8, HBx⟩ := hcut
          clear SS SZ HRD RAD hnil hDr hDa
          have X8 := Lib.hid (BX.mk H6.out HH.out)
          have X2 := Lib.hid (X2.out.below HBx.out)
          have DX := Lib.hid (bnext DX.out HBx.out)
          have TB := Lib.hid (TB.out.below HBx.out)
          have HI := Lib.hid (HI.out.below HBx.out)
          have HI5 := Lib.hid (And.intro (HI5.out.1.below HBx.out) HI5.out.2)
          clear H6 HH HBx X5
          generalize wc = u8 at *
          have y2_ := X2.out.six.lt
          have y8_ := X8.out.six.lt
          obtain ⟨FL, hFL⟩ : ∃ FL, formatHouse g = FL := ⟨_, rfl⟩
          have HLN := Lib.hid (show FL.length = g.n + 2 by rw [← hFL, formatHouse_t okg, List.length_append, linesTo_len]; rfl)
          have hgn : g.n ≤ 12 := (chainOk_n (daysOk_chain (houseOk_facts okg).days).1).2
          have HFL := Lib.hid hFL
          clear hFL
          obtain ⟨i0, hi, hz0, hz1, hz2⟩ := info_parts infoInt'
          have R2 := Lib.hid (fun (W : World) (q : Below u8.heap.size u8 W) => (X2.out.house.read hBg).below q)
          have R8 := Lib.hid (fun (W : World) (q : Below u8.heap.size u8 W) => (X8.out.house.read hBg).below q)
          have TW := Lib.hid (fun (W : World) (q : Below u8.heap.size u8 W) => TB.out.below q)
          have RI := Lib.hid (fun (W : World) (q : Below u8.heap.size u8 W) => HI.out.below q)
          have RI5 := Lib.hid (fun (W : World) (q : Below u8.heap.size u8 W) => And.intro (HI5.out.1.below q) True.intro)
          have RI8 := Lib.hid (fun (W : World) (q : Below u8.heap.size u8 W) => And.intro (HI8.out.1.below q) True.intro)
          have MK : Hid (∀ w' : World, Below u8.heap.size u8 w' → w'.cell? ⟨w2.heap.size, 0, none⟩ = some (.slice ac2 (g).n cc2) ∧ w'.cell? ⟨w2.heap.size, 1, none⟩ = some (.slice am2 (g).ms.length cm2) ∧ w'.cell? ⟨w2.heap.size, 2, none⟩ = some (.slice ao2 (g).os.length co2) ∧ w'.cell? ⟨w2.heap.size, 3, none⟩ = some (.slice at2 (g).ts.length ct2) ∧ w'.cell? ⟨w2.heap.size, 4, none⟩ = some (.int .i64 (g).sent) ∧ w'.cell? ⟨w2.heap.size, 5, none⟩ = some (.int .i64 (g).day) ∧ w'.cell? ⟨P8, 0, none⟩ = some (.slice ac8 (g).n cc8) ∧ w'.cell? ⟨P8, 1, none⟩ = some (.slice am8 (g).ms.length cm8) ∧ w'.cell? ⟨P8, 2, none⟩ = some (.slice ao8 (g).os.length co8) ∧ w'.cell? ⟨P8, 3, none⟩ = some (.slice at8 (g).ts.length ct8) ∧ w'.cell? ⟨P8, 4, none⟩ = some (.int .i64 (g).sent) ∧ w'.cell? ⟨P8, 5, none⟩ = some (.int .i64 (g).day) ∧ Below u8.heap.size u8 w') := fun W q => ⟨(q.cell (p := ⟨w2.heap.size, 0, none⟩) y2_).trans X2.out.six.c0, (q.cell (p := ⟨w2.heap.size, 1, none⟩) y2_).trans X2.out.six.c1, (q.cell (p := ⟨w2.heap.size, 2, none⟩) y2_).trans X2.out.six.c2, (q.cell (p := ⟨w2.heap.size, 3, none⟩) y2_).trans X2.out.six.c3, (q.cell (p := ⟨w2.heap.size, 4, none⟩) y2_).trans X2.out.six.c4, (q.cell (p := ⟨w2.heap.size, 5, none⟩) y2_).trans X2.out.six.c5, (q.cell (p := ⟨P8, 0, none⟩) y8_).trans X8.out.six.c0, (q.cell (p := ⟨P8, 1, none⟩) y8_).trans X8.out.six.c1, (q.cell (p := ⟨P8, 2, none⟩) y8_).trans X8.out.six.c2, (q.cell (p := ⟨P8, 3, none⟩) y8_).trans X8.out.six.c3, (q.cell (p := ⟨P8, 4, none⟩) y8_).trans X8.out.six.c4, (q.cell (p := ⟨P8, 5, none⟩) y8_).trans X8.out.six.c5, q⟩
          have hDr : Below u8.heap.size u8 u8.drew := bdrew (bref _)
          have hp2 : (0 : Int) < (g.n : Int) + 2 := by omega
          go_upto_region 9 with fail
          refine wp_region_held_drew (S := fun w' => w'.cell? ⟨w2.heap.size, 0, none⟩ = some (.slice ac2 (g).n cc2) ∧ w'.cell? ⟨w2.heap.size, 1, none⟩ = some (.slice am2 (g).ms.length cm2) ∧ w'.cell? ⟨w2.heap.size, 2, none⟩ = some (.slice ao2 (g).os.length co2) ∧ w'.cell? ⟨w2.heap.size, 3, none⟩ = some (.slice at2 (g).ts.length ct2) ∧ w'.cell? ⟨w2.heap.size, 4, none⟩ = some (.int .i64 (g).sent) ∧ w'.cell? ⟨w2.heap.size, 5, none⟩ = some (.int .i64 (g).day) ∧ w'.cell? ⟨P8, 0, none⟩ = some (.slice ac8 (g).n cc8) ∧ w'.cell? ⟨P8, 1, none⟩ = some (.slice am8 (g).ms.length cm8) ∧ w'.cell? ⟨P8, 2, none⟩ = some (.slice ao8 (g).os.length co8) ∧ w'.cell? ⟨P8, 3, none⟩ = some (.slice at8 (g).ts.length ct8) ∧ w'.cell? ⟨P8, 4, none⟩ = some (.int .i64 (g).sent) ∧ w'.cell? ⟨P8, 5, none⟩ = some (.int .i64 (g).day) ∧ Below u8.heap.size u8 w') (by kernel_rfl) ?_ (fun hHeld_ => ?_)
          · exact MK.out _ hDr
          refine wpAnyH_take (i := 0) (v := ?v_P20) (hi := (by simp only [List.getElem?_toArray, List.getElem?_cons_zero]; rfl)) (by kernel_rfl) (by kernel_rfl) (by kernel_rfl) (by exact fun _ _ _ h => h) (Or.inl ⟨by rfl, ?hy_P20⟩) (by assumption) ?rest_P20
          case hy_P20 =>
            intro W hSW
            try dsimp only at hSW
            go_simp
            try with_reducible rfl
          try simp only [Act.put, List.setIfInBounds_toArray, List.set_cons_zero, List.set_cons_succ]
          refine wpAnyH_ready (rs := [1]) (by kernel_rfl) (by simp) ?_
          refine AllReadyH.cons (ho := (by simp only [List.getElem?_toArray, List.getElem?_cons_succ, List.getElem?_cons_zero]; rfl)) (fun K_ hK_ => ?_) AllReadyH.nil
          go_simp
          refine (implFormatHouse _ _ _ _ g _ (R2.out _ hDr) (TW.out _ hDr)).mono ?_
          rw [HFL.out]
          rintro e wfq1 ⟨vfq1, rfl, hof, hbf⟩
          have hTf := Texts.of_own hof (by rw [HLN.out]; omega)
          obtain ⟨adfq1, capfq1, hvf_⟩ := own_form hof
          rw [HLN.out] at hvf_
          subst hvf_
          have q1 : Below u8.heap.size u8 wfq1 := bnext hDr hbf
          skip
          have TX := Lib.hid hTf
          clear hof hbf hTf
          refine hK_.out _ _ ?_ (fun hHeld_ => ?_)
          · try dsimp only
            exact MK.out _ q1
          clear hK_
          try simp only [Act.put, List.setIfInBounds_toArray, List.set_cons_zero, List.set_cons_succ]
          clear TX
          refine wpAnyH_take (i := 2) (v := ?v_P22) (hi := (by simp only [List.getElem?_toArray, List.getElem?_cons_succ, List.getElem?_cons_zero]; rfl)) (by kernel_rfl) (by kernel_rfl) (by kernel_rfl) (by exact fun _ _ _ h => h) (Or.inl ⟨by rfl, ?hy_P22⟩) (by assumption) ?rest_P22
          case hy_P22 =>
            intro W hSW
            try dsimp only at hSW
            go_simp
            try with_reducible rfl
          try simp only [Act.put, List.setIfInBounds_toArray, List.set_cons_zero, List.set_cons_succ]
          refine wpAnyH_take (i := 3) (v := ?v_P23) (hi := (by simp only [List.getElem?_toArray, List.getElem?_cons_succ, List.getElem?_cons_zero]; rfl)) (by kernel_rfl) (by kernel_rfl) (by kernel_rfl) (by exact fun _ _ _ h => h) (Or.inl ⟨by rfl, ?hy_P23⟩) (by assumption) ?rest_P23
          case hy_P23 =>
            intro W hSW
            try dsimp only at hSW
            go_simp
            try with_reducible rfl
          try simp only [Act.put, List.setIfInBounds_toArray, List.set_cons_zero, List.set_cons_succ]
          refine wpAnyH_take (i := 4) (v := ?v_P24) (hi := (by simp only [List.getElem?_toArray, List.getElem?_cons_succ, List.getElem?_cons_zero]; rfl)) (by kernel_rfl) (by kernel_rfl) (by kernel_rfl) (by exact fun _ _ _ h => h) (Or.inl ⟨by rfl, ?hy_P24⟩) (by assumption) ?rest_P24
          case hy_P24 =>
            intro W hSW
            try dsimp only at hSW
            go_simp
            try with_reducible rfl
          try simp only [Act.put, List.setIfInBounds_toArray, List.set_cons_zero, List.set_cons_succ]
          refine wpAnyH_take (i := 5) (v := ?v_P25) (hi := (by simp only [List.getElem?_toArray, List.getElem?_cons_succ, List.getElem?_cons_zero]; rfl)) (by kernel_rfl) (by kernel_rfl) (by kernel_rfl) (by exact fun _ _ _ h => h) (Or.inl ⟨by rfl, ?hy_P25⟩) (by assumption) ?rest_P25
          case hy_P25 =>
            intro W hSW
            try dsimp only at hSW
            go_simp
            try with_reducible rfl
          try simp only [Act.put, List.setIfInBounds_toArray, List.set_cons_zero, List.set_cons_succ]
          refine wpAnyH_take (i := 7) (v := ?v_P27) (hi := (by simp only [List.getElem?_toArray, List.getElem?_cons_succ, List.getElem?_cons_zero]; rfl)) (by kernel_rfl) (by kernel_rfl) (by kernel_rfl) (by exact fun _ _ _ h => h) (Or.inl ⟨by rfl, ?hy_P27⟩) (by assumption) ?rest_P27
          case hy_P27 =>
            intro W hSW
            try dsimp only at hSW
            go_simp
            try with_reducible rfl
          try simp only [Act.put, List.setIfInBounds_toArray, List.set_cons_zero, List.set_cons_succ]
          refine wpAnyH_ready (rs := [6]) (by kernel_rfl) (by simp) ?_
          refine AllReadyH.cons (ho := (by simp only [List.getElem?_toArray, List.getElem?_cons_succ, List.getElem?_cons_zero]; rfl)) (fun K_ hK_ => ?_) AllReadyH.nil
          go_simp
          refine (implFormatHouse _ _ _ _ g _ (R2.out _ q1) (TW.out _ q1)).mono ?_
          rw [HFL.out]
          rintro e wfqx ⟨vfqx, rfl, hof, hbf⟩
          have hTf := Texts.of_own hof (by rw [HLN.out]; omega)
          obtain ⟨adfqx, capfqx, hvf_⟩ := own_form hof
          rw [HLN.out] at hvf_
          subst hvf_
          have qx : Below u8.heap.size u8 wfqx := bnext q1 hbf
          skip
          have TX := Lib.hid hTf
          clear hof hbf hTf
          refine hK_.out _ _ ?_ (fun hHeld_ => ?_)
          · try dsimp only
            exact MK.out _ qx
          clear hK_
          try simp only [Act.put, List.setIfInBounds_toArray, List.set_cons_zero, List.set_cons_succ]
          refine wpAnyH_ready (rs := [8]) (by kernel_rfl) (by simp) ?_
          refine AllReadyH.cons (ho := (by simp only [List.getElem?_toArray, List.getElem?_cons_succ, List.getElem?_cons_zero]; rfl)) (fun K_ hK_ => ?_) AllReadyH.nil
          go_simp
          refine (implFormatHouse _ _ _ _ g _ (R8.out _ qx) (TW.out _ qx)).mono ?_
          rw [HFL.out]
          rintro e wfqz ⟨vfqz, rfl, hof, hbf⟩
          have hTf := Texts.of_own hof (by rw [HLN.out]; omega)
          obtain ⟨adfqz, capfqz, hvf_⟩ := own_form hof
          rw [HLN.out] at hvf_
          subst hvf_
          have qz : Below u8.heap.size u8 wfqz := bnext qx hbf
          have TX := Lib.hid (TX.out.below hbf)
          have TZ := Lib.hid hTf
          clear hof hbf hTf
          refine hK_.out _ _ ?_ (fun hHeld_ => ?_)
          · try dsimp only
            exact MK.out _ qz
          clear hK_
          try simp only [Act.put, List.setIfInBounds_toArray, List.set_cons_zero, List.set_cons_succ]
          refine wpAnyH_ready (rs := [9]) (by kernel_rfl) (by simp) ?_
          refine AllReadyH.cons (ho := (by simp only [List.getElem?_toArray, List.getElem?_cons_succ, List.getElem?_cons_zero]; rfl)) (fun K_ hK_ => ?_) AllReadyH.nil
          go_simp
          refine (sameTexts_any _ _ FL _ TX.out TZ.out).mono ?_
          rintro e wg ⟨rfl, hbg⟩
          have qg : Below u8.heap.size u8 wg := bnext qz hbg
          have qgA : Below u8.heap.size u8 (wg.alloc (.cells #[] 3)) := balloc qg _
          clear hbg
          refine hK_.out _ _ ?_ (fun hHeld_ => ?_)
          · try dsimp only
            exact MK.out _ qg
          clear hK_
          try simp only [Act.put, List.setIfInBounds_toArray, List.set_cons_zero, List.set_cons_succ]
          refine wpAnyH_take (i := 10) (v := ?v_P210) (hi := (by simp only [List.getElem?_toArray, List.getElem?_cons_succ, List.getElem?_cons_zero]; rfl)) (by kernel_rfl) (by kernel_rfl) (by kernel_rfl) (by exact fun _ _ _ h => h) (Or.inl ⟨by rfl, ?hy_P210⟩) (by assumption) ?rest_P210
          case hy_P210 =>
            intro W hSW
            try dsimp only at hSW
            go_simp
            try with_reducible rfl
          try simp only [Act.put, List.setIfInBounds_toArray, List.set_cons_zero, List.set_cons_succ]
          refine wpAnyH_take (i := 11) (v := ?v_P211) (hi := (by simp only [List.getElem?_toArray, List.getElem?_cons_succ, List.getElem?_cons_zero]; rfl)) (by kernel_rfl) (by kernel_rfl) (by kernel_rfl) (by exact fun _ _ _ h => h) (Or.inl ⟨by rfl, ?hy_P211⟩) (by assumption) ?rest_P211
          case hy_P211 =>
            intro W hSW
            try dsimp only at hSW
            go_simp
            try with_reducible rfl
          try simp only [Act.put, List.setIfInBounds_toArray, List.set_cons_zero, List.set_cons_succ]
          refine wpAnyH_take (i := 12) (v := ?v_P212) (hi := (by simp only [List.getElem?_toArray, List.getElem?_cons_succ, List.getElem?_cons_zero]; rfl)) (by kernel_rfl) (by kernel_rfl) (by kernel_rfl) (by exact fun _ _ _ h => h) (Or.inl ⟨by rfl, ?hy_P212⟩) (by assumption) ?rest_P212
          case hy_P212 =>
            intro W hSW
            try dsimp only at hSW
            go_simp
            try with_reducible rfl
          try simp only [Act.put, List.setIfInBounds_toArray, List.set_cons_zero, List.set_cons_succ]
          refine wpAnyH_take (i := 14) (v := ?v_P214) (hi := (by simp only [List.getElem?_toArray, List.getElem?_cons_succ, List.getElem?_cons_zero]; rfl)) (by kernel_rfl) (by kernel_rfl) (by kernel_rfl) (by exact fun _ _ _ h => h) (Or.inl ⟨by rfl, ?hy_P214⟩) (by assumption) ?rest_P214
          case hy_P214 =>
            intro W hSW
            try dsimp only at hSW
            go_simp
            try with_reducible rfl
          try simp only [Act.put, List.setIfInBounds_toArray, List.set_cons_zero, List.set_cons_succ]
          refine wpAnyH_take (i := 16) (v := ?v_P216) (hi := (by simp only [List.getElem?_toArray, List.getElem?_cons_succ, List.getElem?_cons_zero]; rfl)) (by kernel_rfl) (by kernel_rfl) (by kernel_rfl) (by exact fun _ _ _ h => h) (Or.inl ⟨by rfl, ?hy_P216⟩) (by assumption) ?rest_P216
          case hy_P216 =>
            intro W hSW
            try dsimp only at hSW
            go_simp
            try with_reducible rfl
          try simp only [Act.put, List.setIfInBounds_toArray, List.set_cons_zero, List.set_cons_succ]
          refine wpAnyH_ready (rs := [13]) (by kernel_rfl) (by simp) ?_
          refine AllReadyH.cons (ho := (by simp only [List.getElem?_toArray, List.getElem?_cons_succ, List.getElem?_cons_zero]; rfl)) (fun K_ hK_ => ?_) AllReadyH.nil
          go_simp
          refine hK_.out _ _ ?_ (fun hHeld_ => ?_)
          · try dsimp only
            exact MK.out _ qgA
          clear hK_
          try simp only [Act.put, List.setIfInBounds_toArray, List.set_cons_zero, List.set_cons_succ]
          refine wpAnyH_ready (rs := [15]) (by kernel_rfl) (by simp) ?_
          refine AllReadyH.cons (ho := (by simp only [List.getElem?_toArray, List.getElem?_cons_succ, List.getElem?_cons_zero]; rfl)) (fun K_ hK_ => ?_) AllReadyH.nil
          (refine step_append_srcg (by rfl) _ _ 25 rfl wg.heap.size 3 i0 (.int .i64 0) 1 8 Tryd.underlying25 hi hz0 hz1 hz2 rfl (by decide) (.slice (some ⟨wg.heap.size, 0, none⟩) 0 0) 0 [] rfl (World.ownsRow_lit (e := 3) (size := 1) wg #[] 0 (Nat.le_refl _) (by decide) rfl) _ Nk.length Nk rfl (ints_recs ((RI5.out _ qgA).1)) HI5.out.2 (by rw [HNL7.out]; omega) (by decide) (by simp) ?_); intro v5 w5_ hown5 hgrow5 _; have q5 := app_below2 (World.ownsRow_lit (e := 3) (size := 1) wg #[] 0 (Nat.le_refl _) (by decide) rfl) hgrow5 qgA qg.size; have z5 := hgrow5.size; have O5 := Lib.hid hown5; clear hgrow5 hown5
          refine hK_.out _ _ ?_ (fun hHeld_ => ?_)
          · try dsimp only
            exact MK.out _ q5
          clear hK_
          try simp only [Act.put, List.setIfInBounds_toArray, List.set_cons_zero, List.set_cons_succ]
          refine wpAnyH_ready (rs := [17]) (by kernel_rfl) (by simp) ?_
          refine AllReadyH.cons (ho := (by simp only [List.getElem?_toArray, List.getElem?_cons_succ, List.getElem?_cons_zero]; rfl)) (fun K_ hK_ => ?_) AllReadyH.nil
          (refine step_append_srcg (by rfl) _ _ 25 rfl wg.heap.size 3 i0 (.int .i64 0) 1 8 Tryd.underlying25 hi hz0 hz1 hz2 rfl (by decide) v5 (0 + Nk.length) _ rfl O5.out _ M.length M rfl (ints_recs ((RI8.out _ q5).1)) HI8.out.2 (by rw [HNL7.out, HNL8.out]; omega) (by decide) (by have z5_ := z5; simp at z5_; omega) ?_); intro v6 w6_ hown6 hgrow6 _; have q6 := app_below2 O5.out hgrow6 q5 qg.size; have O6 := Lib.hid (own_ints (L := Nk ++ M) (by simpa using hown6) (by rw [List.length_append, HNL7.out, HNL8.out]; omega)); clear hgrow6 hown6
          refine hK_.out _ _ ?_ (fun hHeld_ => ?_)
          · try dsimp only
            exact MK.out _ q6
          clear hK_
          try simp only [Act.put, List.setIfInBounds_toArray, List.set_cons_zero, List.set_cons_succ]
          refine wpAnyH_ready (rs := [18]) (by kernel_rfl) (by simp) ?_
          refine AllReadyH.cons (ho := (by simp only [List.getElem?_toArray, List.getElem?_cons_succ, List.getElem?_cons_zero]; rfl)) (fun K_ hK_ => ?_) AllReadyH.nil
          go_simp
          refine (sameI_any _ _ N _ (RI.out _ q6) (by rw [← HNN.out]; exact O6.out)).mono ?_
          rintro e wh ⟨rfl, hbh⟩
          have q7 : Below u8.heap.size u8 wh := bnext q6 hbh
          clear hbh
          refine hK_.out _ _ ?_ (fun hHeld_ => ?_)
          · try dsimp only
            exact MK.out _ q7
          clear hK_
          try simp only [Act.put, List.setIfInBounds_toArray, List.set_cons_zero, List.set_cons_succ]
          refine wpAnyH_take (i := 19) (v := ?v_P219) (hi := (by simp only [List.getElem?_toArray, List.getElem?_cons_succ, List.getElem?_cons_zero]; rfl)) (by kernel_rfl) (by kernel_rfl) (by kernel_rfl) (by exact fun _ _ _ h => h) (Or.inl ⟨by rfl, ?hy_P219⟩) (by assumption) ?rest_P219
          case hy_P219 =>
            intro W hSW
            try dsimp only at hSW
            go_simp
            try with_reducible rfl
          try simp only [Act.put, List.setIfInBounds_toArray, List.set_cons_zero, List.set_cons_succ]
          refine wpAnyH_take (i := 20) (v := ?v_P220) (hi := (by simp only [List.getElem?_toArray, List.getElem?_cons_succ, List.getElem?_cons_zero]; rfl)) (by kernel_rfl) (by kernel_rfl) (by kernel_rfl) (by exact fun _ _ _ h => h) (Or.inl ⟨by rfl, ?hy_P220⟩) (by assumption) ?rest_P220
          case hy_P220 =>
            intro W hSW
            try dsimp only at hSW
            go_simp
            try with_reducible rfl
          try simp only [Act.put, List.setIfInBounds_toArray, List.set_cons_zero, List.set_cons_succ]
          refine wpAnyH_done (by kernel_rfl) ?_ _
          go_wp2_with fail
          go_ret
          exact ⟨rfl, bnext DX.out q7⟩

end Go.Proofs.YtfnlniknclkeaaaDoor
