/- The drawing of a lot, walked. -/
import Derived.Test.YtkdpfjaebhgnoaaPackFn
import Derived.Test.YtkdpfjaebhgnoaaPick
import Derived.Test.YtkdpfjaebhgnoaaCode
import Derived.Deep.RegionLaw
namespace Go.Proofs.Ytkdpfjaebhgnoaa
open Go.ChangeShapes Go.WideShapes Go.ChangeAt Go.RowKit

theorem infoIntK : (Try.prog.info? 3).map (fun i => (i.zero, i.size, i.bytes)) = some (some (.int .i64 0), 1, 8) := by kernel_rfl
theorem Only.past {lo hi lo' hi' : Nat} {a w w' : World} (h : Only lo hi a w) (k : Only lo' hi' w w') (hl : a.heap.size ≤ lo') : Only lo hi a w' :=
  ⟨k.os.trans h.os, k.tape.trans h.tape, k.output.trans h.output, Nat.le_trans h.size k.size, fun i hi hn => (k.block i (Nat.lt_of_lt_of_le hi h.size) (by omega)).trans (h.block i hi hn)⟩
/-- the state while a lot is drawn: its box at B, the result's at R -/
structure LotS (L X : Nat) (v : Value) (bs : List Int) (R B : Nat) (nm : Int) (u : Value) (xs : List Int) (w : World) : Prop where
  cur : CurO L X v bs w
  lt : X < R
  rl : R < B
  bl : B < w.heap.size
  r0 : w.cell? ⟨R, 0, none⟩ = some (.int .i64 0)
  r1 : w.cell? ⟨R, 1, none⟩ = some (.slice none 0 0)
  fr0 : w.frozen? ⟨R, 0, none⟩ = false
  fr1 : w.frozen? ⟨R, 1, none⟩ = false
  c0 : w.cell? ⟨B, 0, none⟩ = some (.int .i64 nm)
  c1 : w.cell? ⟨B, 1, none⟩ = some u
  f1 : w.frozen? ⟨B, 1, none⟩ = false
  own : w.ownsRow (B + 1) 3 1 u xs.length (xs.map (Value.int .i64))
section
variable {L X : Nat} {v : Value} {bs : List Int} {R B : Nat} {nm : Int} {u : Value} {xs : List Int} {w w' : World}
theorem LotS.keep (h : LotS L X v bs R B nm u xs w) (hs : w.heap.size ≤ w'.heap.size) (hR : w'.heap[R]? = w.heap[R]?) (hB : w'.heap[B]? = w.heap[B]?) (hc : CurO L X v bs w') (ho : w'.ownsRow (B + 1) 3 1 u xs.length (xs.map (Value.int .i64))) : LotS L X v bs R B nm u xs w' :=
  ⟨hc, h.lt, h.rl, Nat.lt_of_lt_of_le h.bl hs, (World.cell?_of_block hR).trans h.r0, (World.cell?_of_block hR).trans h.r1, (World.frozen?_of_block hR).trans h.fr0, (World.frozen?_of_block hR).trans h.fr1, (World.cell?_of_block hB).trans h.c0, (World.cell?_of_block hB).trans h.c1, (World.frozen?_of_block hB).trans h.f1, ho⟩
theorem LotS.below (h : LotS L X v bs R B nm u xs w) (hb : Below w.heap.size w w') : LotS L X v bs R B nm u xs w' :=
  h.keep hb.size (hb.block R (Nat.lt_trans h.rl h.bl)) (hb.block B h.bl) (h.cur.below hb) (own_below h.own hb)
theorem LotS.curs (h : LotS L X v bs R B nm u xs w) (ho : Only X (X + 1) w w') (hc : CurO L X v bs w') : LotS L X v bs R B nm u xs w' := by
  have hlt := h.lt; have hrl := h.rl; have hbl := h.bl
  exact h.keep ho.size (ho.block R (by omega) (by omega)) (ho.block B h.bl (by omega)) hc (own_curP h.own ho (by omega))
theorem LotS.grown {W w1 : World} {o : Obj} (h : LotS L X v bs R B nm u xs W) (hg : (W.alloc o).grownBy w1 u.ownBlock) :
    w1.cell? ⟨B, 0, none⟩ = some (.int .i64 nm) ∧ w1.cell? ⟨B, 1, none⟩ = some u ∧ w1.frozen? ⟨B, 1, none⟩ = false ∧ w1.heap[R]? = W.heap[R]? ∧ W.heap.size ≤ w1.heap.size := by
  have hlt := h.lt; have hrl := h.rl; have hbl := h.bl
  have hne : ∀ k, k ≤ B → u.ownBlock ≠ some k := fun k hk q => by have := (h.own.lt _ q).1; omega
  have hbA : B < (W.alloc o).heap.size := by simp; omega
  have hk := hg.block B hbA (fun q => hne B (Nat.le_refl _) q.symm)
  have hr := hg.block R (by simp; omega) (fun q => hne R (by omega) q.symm)
  have a1 := balloc (bref W) o
  refine ⟨(World.cell?_of_block hk).trans ((a1.cell (p := ⟨B, 0, none⟩) hbl).trans h.c0), (World.cell?_of_block hk).trans ((a1.cell (p := ⟨B, 1, none⟩) hbl).trans h.c1), (World.frozen?_of_block hk).trans ((a1.frozen (p := ⟨B, 1, none⟩) hbl).trans h.f1), hr.trans (a1.block R (by omega)), ?_⟩
  have := hg.size; simp at this; omega
theorem LotS.push {v' : Value} {W w1 : World} {o : Obj} {x : Int} (h : LotS L X v bs R B nm u xs W) (hown : w1.ownsRow (B + 1) 3 1 v' (xs.length + 1) (xs.map (Value.int .i64) ++ [.int .i64 x])) (hg : (W.alloc o).grownBy w1 u.ownBlock) :
    LotS L X v bs R B nm v' (xs ++ [x]) (w1.setCell ⟨B, 1, none⟩ v') := by
  obtain ⟨b1, b2, b3, hr, hs⟩ := h.grown hg
  have hlt := h.lt; have hrl := h.rl; have hbl := h.bl
  have hne' : v'.ownBlock ≠ some B := fun q => by have := (hown.lt _ q).1; omega
  have hR : (w1.setCell ⟨B, 1, none⟩ v').heap[R]? = W.heap[R]? := (Below.heap_setCell w1 ⟨B, 1, none⟩ v' R (by show R ≠ B; omega)).trans hr
  have hO : Only B (B + 1) w1 (w1.setCell ⟨B, 1, none⟩ v') := (Only.refl _ _ _).set (p := ⟨B, 1, none⟩) (Nat.le_refl _) (Nat.lt_succ_self _) _
  exact ⟨(cur_appP h.cur h.own hg (by omega)).only hO (by omega), h.lt, h.rl, by simp; omega, (World.cell?_of_block hR).trans h.r0, (World.cell?_of_block hR).trans h.r1, (World.frozen?_of_block hR).trans h.fr0, (World.frozen?_of_block hR).trans h.fr1, by go_simp, by go_simp, by go_simp, by simpa using own_set hown hne' _⟩
theorem LotS.pushO {lo hi : Nat} {a W w1 : World} {o : Obj} (v' : Value) (h : LotS L X v bs R B nm u xs W) (hb : Only lo hi a W) (ha : a.heap.size ≤ R) (hg : (W.alloc o).grownBy w1 u.ownBlock) : Only lo hi a (w1.setCell ⟨B, 1, none⟩ v') := by
  have hrl := h.rl; have hbl := h.bl
  have h1 : Only (B + 1) ((W.alloc o).heap.size) (W.alloc o) w1 := Only.of_grown hg fun k hk => by have := h.own.lt k hk; simp; omega
  exact ((hb.alloc o).past h1 (by omega)).past ((Only.refl B (B + 1) w1).set (p := ⟨B, 1, none⟩) (Nat.le_refl _) (Nat.lt_succ_self _) v') (by omega)
end
theorem lotS_new {L X : Nat} {v : Value} {bs : List Int} {R : Nat} {nm : Int} {w1 : World} (hc : CurO L X v bs w1) (hX : X < R) (hR : R + 2 ≤ w1.heap.size) (r0 : w1.cell? ⟨R, 0, none⟩ = some (.int .i64 0)) (r1 : w1.cell? ⟨R, 1, none⟩ = some (.slice none 0 0)) (fr0 : w1.frozen? ⟨R, 0, none⟩ = false) (fr1 : w1.frozen? ⟨R, 1, none⟩ = false) :
    LotS L X v bs R w1.heap.size nm (.slice none 0 0) [] (w1.alloc (.cells #[.int .i64 nm, .slice none 0 0] 47)) := by
  have a1 := balloc (bref w1) (.cells #[.int .i64 nm, .slice none 0 0] 47)
  exact ⟨hc.below a1, hX, by omega, by simp, (a1.cell (p := ⟨R, 0, none⟩) (by show R < _; omega)).trans r0, (a1.cell (p := ⟨R, 1, none⟩) (by show R < _; omega)).trans r1, (a1.frozen (p := ⟨R, 0, none⟩) (by show R < _; omega)).trans fr0, (a1.frozen (p := ⟨R, 1, none⟩) (by show R < _; omega)).trans fr1, by go_simp, by go_simp, by go_simp, World.ownsRow_nil _ _ _ _⟩
def pickN (nm : Int) : Prop := nm = 50 ∨ nm = 100 ∨ nm = 250 ∨ nm = 500 ∨ nm = 1000
theorem pickN_at {k : Nat} (h : k < 5) : pickN (nth [50, 100, 250, 500, 1000] k) := by
  unfold pickN
  obtain rfl | rfl | rfl | rfl | rfl : k = 0 ∨ k = 1 ∨ k = 2 ∨ k = 3 ∨ k = 4 := by omega
  all_goals simp [nth]
theorem pickN_lim {nm : Int} (h : pickN nm) : 50 ≤ nm ∧ nm ≤ 1000 ∧ 1 ≤ shortLimit nm ∧ shortLimit nm ≤ 30 ∧ 2 * shortLimit nm ≤ nm := by
  rcases h with rfl | rfl | rfl | rfl | rfl <;> decide
theorem pick6_at (t : Int) {k : Nat} (h : k < 6) (h0 : 1 ≤ t) (h1 : t ≤ 30) : - t ≤ nth [0, 0, 0, -t, 2, 5] k ∧ nth [0, 0, 0, -t, 2, 5] k ≤ 5 := by
  obtain rfl | rfl | rfl | rfl | rfl | rfl : k = 0 ∨ k = 1 ∨ k = 2 ∨ k = 3 ∨ k = 4 ∨ k = 5 := by omega
  all_goals simp [nth]; omega

set_option maxRecDepth 100000 in
set_option maxHeartbeats 4000000 in
theorem l34Lot_any (L X : Nat) (v : Value) (bs : List Int) (w : World) (h : CurO L X v bs w) : Calls Try.prog 79 #[.pointer (some ⟨X, 0, none⟩)] w fun e w' => ∃ u nm xs, e = .returned (.agg #[.int .i64 nm, u]) ∧ LotD nm xs ∧ w'.ownsRow w.heap.size 3 1 u xs.length (xs.map (Value.int .i64)) ∧ CurO L X v bs w' ∧ Only X (X + 1) w w' := by
  obtain ⟨i0, hi0, hz0, hz1, hz2⟩ := info_parts infoIntK
  go_enter Try.func79, Try.ntmps79
  have hX := h.xl
  have h1 := (h.below (balloc (bref w) (.cells #[.int .i64 0, .slice none 0 0] 47))).below (balloc (bref _) (.cells #[.int .i64 50, .int .i64 100, .int .i64 250, .int .i64 500, .int .i64 1000] 3))
  have I1 := lit_ints (w.alloc (.cells #[.int .i64 0, .slice none 0 0] 47)) (w.heap.size + 1) 5 [50, 100, 250, 500, 1000] #[.int .i64 50, .int .i64 100, .int .i64 250, .int .i64 500, .int .i64 1000] rfl rfl (by decide) (by simp)
  have D1 := Lib.hid (balloc (balloc (bref w) (.cells #[.int .i64 0, .slice none 0 0] 47)) (.cells #[.int .i64 50, .int .i64 100, .int .i64 250, .int .i64 500, .int .i64 1000] 3))
  have e0 : ((w.alloc (.cells #[.int .i64 0, .slice none 0 0] 47)).alloc (.cells #[.int .i64 50, .int .i64 100, .int .i64 250, .int .i64 500, .int .i64 1000] 3)).cell? ⟨w.heap.size, 0, none⟩ = some (.int .i64 0) := by go_simp
  have e1 : ((w.alloc (.cells #[.int .i64 0, .slice none 0 0] 47)).alloc (.cells #[.int .i64 50, .int .i64 100, .int .i64 250, .int .i64 500, .int .i64 1000] 3)).cell? ⟨w.heap.size, 1, none⟩ = some (.slice none 0 0) := by go_simp
  have g0 : ((w.alloc (.cells #[.int .i64 0, .slice none 0 0] 47)).alloc (.cells #[.int .i64 50, .int .i64 100, .int .i64 250, .int .i64 500, .int .i64 1000] 3)).frozen? ⟨w.heap.size, 0, none⟩ = false := by go_simp
  have g1 : ((w.alloc (.cells #[.int .i64 0, .slice none 0 0] 47)).alloc (.cells #[.int .i64 50, .int .i64 100, .int .i64 250, .int .i64 500, .int .i64 1000] 3)).frozen? ⟨w.heap.size, 1, none⟩ = false := by go_simp
  have zz : ((w.alloc (.cells #[.int .i64 0, .slice none 0 0] 47)).alloc (.cells #[.int .i64 50, .int .i64 100, .int .i64 250, .int .i64 500, .int .i64 1000] 3)).heap.size = w.heap.size + 2 := by simp
  go_wp2_with (first | (go_at_call 85; refine (l01PickInt_any L X v bs _ [50, 100, 250, 500, 1000] _ h1 I1 (by decide) (by intro b o l c e; cases e; omega)).mono ?_; rintro e w1 ⟨k1, hk1, rfl, c1, o1⟩; have hp := pickN_at hk1; generalize nth [50, 100, 250, 500, 1000] k1 = nm at *; have zo := o1.size; have z1 : w.heap.size + 2 ≤ w1.heap.size := (by omega); have hRk := o1.block w.heap.size (by omega) (by omega); have r0 := (World.cell?_of_block hRk).trans e0; have r1 := (World.cell?_of_block hRk).trans e1; have fr0 := (World.frozen?_of_block hRk).trans g0; have fr1 := (World.frozen?_of_block hRk).trans g1; have T := Lib.hid (lotS_new (nm := nm) c1 hX z1 r0 r1 fr0 fr1); have O := Lib.hid ((((Only.refl X (X + 1) w).step D1.out).trans o1).alloc (.cells #[.int .i64 nm, .slice none 0 0] 47)); clear h1 I1 e0 e1 g0 g1 zz zo hRk r0 r1 fr0 fr1 c1 o1 D1) | (go_at_call 77; refine (l01Below_any L X v bs _ _ T.out.cur).mono ?_; rintro e w2 ⟨x1, rfl, p1, q1, _, c2, o2⟩; have T := Lib.hid (T.out.curs o2 c2); have O := Lib.hid (O.out.trans o2); have c0 := T.out.c0; clear o2 c2) | (go_at_call 74; refine (specShortLimit _ _).mono ?_; rintro e w' ⟨rfl, rfl⟩))
  obtain ⟨n0, n1, s0, s1, s2⟩ := pickN_lim hp
  obtain ⟨t, ht⟩ : ∃ t, t = shortLimit nm := ⟨_, rfl⟩
  rw [← ht] at s0 s1 s2 ⊢
  have HT := Lib.hid ht
  have hn : x1 < 12 := q1 (by omega)
  obtain ⟨n, rfl⟩ := Int.eq_ofNat_of_zero_le p1
  clear ht q1 hp h c0
  go_loopw [6] (fun i wr => ∃ (k : Nat) (xs : List Int) (u : Value), k ≤ n + 1 ∧ i = .int .i64 k ∧ xs.length = k ∧ Hid (∀ j, j < xs.length → nm - 2 * t ≤ nth xs j ∧ nth xs j ≤ nm + t + 5) ∧ Hid (LotS L X v bs w.heap.size w1.heap.size nm u xs wr) ∧ Hid (Only X (X + 1) w wr)) (fun i _ => n + 1 - (intOf i).toNat)
  case atStart => exact ⟨0, [], _, Nat.zero_le _, rfl, rfl, fun j hj => absurd hj (by simp), T.out, O.out⟩
  case round =>
    clear T O
    obtain ⟨k, xs, u, hk, rfl, hxl, HE, T, O⟩ := hrel
    have c0 := T.out.c0
    have c1 := T.out.c1
    have f1 := T.out.f1
    have hneg : IntKind.i64.wrap (-t) = -t := by rw [IntKind.wrap_i64]; omega
    have hdb : IntKind.i64.wrap (2 * t) = 2 * t := by rw [IntKind.wrap_i64]; omega
    have hdb1 : IntKind.i64.wrap (2 * t + 1) = 2 * t + 1 := by rw [IntKind.wrap_i64]; omega
    by_cases hlt : k < n + 1
    · have HX := Lib.hid hxl
      have TA := Lib.hid (T.out.below (bdrew (bref wr)))
      have OA := Lib.hid (O.out.step (bdrew (bref wr)))
      have bl0 := T.out.bl
      have hXw : X < wr.heap.size := by have a := T.out.bl; have b := T.out.lt; have c := T.out.rl; omega
      clear hxl
      go_wp2_with fail
      go_region_law
        (first | (go_simp; go_at_call 77; refine (l01Below_any L X v bs _ _ (by first | with_reducible exact TA.out.cur | exact (T.out.below (bdrew (balloc (bref _) _))).cur)).mono ?_; rintro e w3 ⟨xa, rfl, pa, qa, _, ca, oa⟩; have qa := qa (by omega); have v1 : IntKind.i64.wrap (nm + xa) = nm + xa := (by rw [IntKind.wrap_i64]; omega); have v2 : IntKind.i64.wrap (nm + xa - t) = nm + xa - t := (by rw [IntKind.wrap_i64]; omega); (first | (have T := Lib.hid (show LotS L X v bs w.heap.size w1.heap.size nm u xs w3 from by with_reducible exact TA.out.curs oa ca); have O := Lib.hid (show Only X (X + 1) w w3 from by with_reducible exact OA.out.trans oa)) | (have I6 := Lib.hid (((lit_ints wr wr.heap.size 6 [0, 0, 0, -t, 2, 5] _ rfl rfl (by simp) rfl).below (bdrew (bref _))).beside oa (by intro b o l c e; cases e; have a := T.out.bl; have b := T.out.lt; have c := T.out.rl; omega)); have T := Lib.hid ((T.out.below (bdrew (balloc (bref _) _))).curs oa ca); have O := Lib.hid ((O.out.step (bdrew (balloc (bref _) _))).trans oa)) | fail "ARM ONE"); have bl := T.out.bl; have c0 := T.out.c0; have c1 := T.out.c1; have f1 := T.out.f1; clear oa ca) | (go_simp; go_at_call 85; refine (l01PickInt_any L X v bs _ [0, 0, 0, -t, 2, 5] _ (by first | with_reducible exact T.out.cur | exact (T.out.below (balloc (bref _) _)).cur) (by first | with_reducible exact I6.out | exact lit_ints _ _ 6 [0, 0, 0, -t, 2, 5] _ rfl rfl (by simp) rfl) (by simp) (by intro b o l c e; cases e; have a := T.out.bl; have b := T.out.lt; have c := T.out.rl; (try simp at a); omega)).mono ?_; rintro e w4 ⟨k2, hk2, rfl, ca, oa⟩; obtain ⟨y0, y1⟩ := pick6_at t hk2 s0 s1; generalize nth [0, 0, 0, -t, 2, 5] k2 = y at *; have v3 : IntKind.i64.wrap (nm + xa - t + y) = nm + xa - t + y := (by rw [IntKind.wrap_i64]; omega); (first | (have T := Lib.hid (show LotS L X v bs w.heap.size w1.heap.size nm u xs w4 from by with_reducible exact T.out.curs oa ca); have O := Lib.hid (show Only X (X + 1) w w4 from by with_reducible exact O.out.trans oa)) | (have T := Lib.hid ((T.out.below (balloc (bref _) _)).curs oa ca); have O := Lib.hid ((O.out.alloc _).trans oa)) | fail "ARM TWO"); have bl := T.out.bl; have c0 := T.out.c0; have c1 := T.out.c1; have f1 := T.out.f1; clear oa ca) | (refine step_append_src rfl _ _ 22 rfl (w1.heap.size + 1) 3 i0 (.int .i64 0) 1 8 Try.underlying22 hi0 hz0 hz1 hz2 rfl (by decide) u xs.length (xs.map (Value.int .i64)) rfl (own_below T.out.own (balloc (bref _) _)) _ 1 [nm + xa - t + y] rfl (ints_recs (lit_ints w4 w4.heap.size 1 [nm + xa - t + y] _ rfl rfl (by simp) rfl)) (nilOk_some _ _ _) (by have := HX.out; omega) (by decide) (by have := T.out.bl; simp; omega) ?_; intro v' w5 hown hgrow hat; obtain ⟨ad', cap', rfl⟩ := own_form hown; obtain ⟨c0, c1, f1, _, z5⟩ := T.out.grown hgrow; have T5 := Lib.hid (T.out.push (x := nm + xa - t + y) (by simpa using hown) hgrow); have O5 := Lib.hid (T.out.pushO (.slice ad' (xs.length + 1) cap') O.out (Nat.le_refl _) hgrow); clear hown hgrow hat))
      all_goals
        go_wp2_with fail
        go_roundw
        case rel =>
          refine ⟨k + 1, xs ++ [nm + xa - t + y], _, by omega, by go_num, by simp [HX.out], fun j hj => ?_, T5.out, O5.out⟩
          simp at hj
          rcases Nat.lt_or_ge j xs.length with z | z
          · have := HE.out j z
            simpa [nth, List.getElem?_append, z] using this
          · obtain rfl : j = xs.length := by omega
            simp [nth]; omega
        case measure => simp [intOf]; omega
    · obtain rfl : k = n + 1 := by omega
      have r0 := T.out.r0
      have r1 := T.out.r1
      have fr0 := T.out.fr0
      have fr1 := T.out.fr1
      obtain ⟨adu, capu, rfl⟩ := own_form T.out.own
      have HX := Lib.hid hxl
      clear hxl
      go_wp2_with fail
      refine bodyPost_ret (v := .agg #[.int .i64 nm, .slice adu xs.length capu]) (by simp [results, Try.results79, go_sem, r0, r1]) rfl ?_
      have fin : ∀ WF : World, Only w.heap.size (w.heap.size + 1) wr WF → WF.ownsRow w.heap.size 3 1 (.slice adu xs.length capu) xs.length (xs.map (Value.int .i64)) ∧ CurO L X v bs WF ∧ Only X (X + 1) w WF := fun WF oF =>
        ⟨own_base (own_only T.out.own oF fun b hb hq => by have := (T.out.own.lt b hb).1; have := T.out.rl; omega) (by have := T.out.rl; omega), T.out.cur.only oF T.out.lt, O.out.past oF (Nat.le_refl _)⟩
      refine ⟨_, nm, xs, rfl, ⟨n0, n1, by rw [← HT.out]; exact s0, by rw [← HT.out]; exact s1, by rw [← HT.out]; exact s2, by have := HX.out; omega, by have := HX.out; omega, by rw [← HT.out]; exact HE.out⟩, fin _ ?_⟩
      repeat (first | with_reducible exact Only.refl _ _ _ | with_reducible refine Only.set ?_ (by simp only []; omega) (by simp only []; omega) _)

set_option maxRecDepth 100000 in
set_option maxHeartbeats 2000000 in
theorem drawLot_any (v : Value) (bs : List Int) (w : World) (h : Bytes w v bs) : Calls Try.prog 52 #[v] w fun e w' => ∃ ad cap nm xs, e = .returned (.agg #[.int .i64 nm, .slice ad xs.length cap]) ∧ LotD nm xs ∧ w'.ownsRow w.heap.size 3 1 (.slice ad xs.length cap) xs.length (xs.map (Value.int .i64)) ∧ Below w.heap.size w w' := by
  have h1 := h.below (balloc (bref w) (.cells #[.int .i64 0, .slice none 0 0] 47))
  have D0 := Lib.hid (balloc (bref w) (.cells #[.int .i64 0, .slice none 0 0] 47))
  have b0 : (w.alloc (.cells #[.int .i64 0, .slice none 0 0] 47)).cell? ⟨w.heap.size, 0, none⟩ = some (.int .i64 0) := by go_simp
  have b1 : (w.alloc (.cells #[.int .i64 0, .slice none 0 0] 47)).cell? ⟨w.heap.size, 1, none⟩ = some (.slice none 0 0) := by go_simp
  have b2 : (w.alloc (.cells #[.int .i64 0, .slice none 0 0] 47)).frozen? ⟨w.heap.size, 0, none⟩ = false := by go_simp
  have b3 : (w.alloc (.cells #[.int .i64 0, .slice none 0 0] 47)).frozen? ⟨w.heap.size, 1, none⟩ = false := by go_simp
  have zz : (w.alloc (.cells #[.int .i64 0, .slice none 0 0] 47)).heap.size = w.heap.size + 1 := by simp
  go_enter Try.func52, Try.ntmps52
  go_wp2_with (first | (go_at_call 76; refine (l01New_any v bs _ h1).mono ?_; rintro e w1 ⟨X, rfl, c0, hb1⟩) | (go_at_call 79; refine (l34Lot_any _ X v bs _ c0).mono ?_; rintro e w2 ⟨u, nm, xs, rfl, HD, hown, c2, o2⟩; obtain ⟨adu, capu, rfl⟩ := own_form hown; have lt1 := c0.lt; have z1 := hb1.size; have D2 := Lib.hid (Only.below (bnext D0.out hb1) o2 (by omega)); have k1 := hb1.block w.heap.size (by omega); have k2 := (o2.block w.heap.size (by omega) (by omega)).trans k1; have r0 := (World.cell?_of_block k2).trans b0; have r1 := (World.cell?_of_block k2).trans b1; have fr0 := (World.frozen?_of_block k2).trans b2; have fr1 := (World.frozen?_of_block k2).trans b3; have hO := Lib.hid hown; clear hown b0 b1 b2 b3 k1 k2 c2 o2 hb1))
  refine bodyPost_ret (v := .agg #[.int .i64 nm, .slice adu xs.length capu]) (by simp [results, Try.results52, go_sem, r0, r1]) rfl ?_
  have fin : ∀ WF : World, Only w.heap.size (w.heap.size + 1) w2 WF → WF.ownsRow w.heap.size 3 1 (.slice adu xs.length capu) xs.length (xs.map (Value.int .i64)) ∧ Below w.heap.size w WF := fun WF oF =>
    ⟨own_base (own_only hO.out oF fun b hb hq => by have := (hO.out.lt b hb).1; omega) (by omega), Only.below D2.out oF (Nat.le_refl _)⟩
  refine ⟨_, _, nm, xs, rfl, HD, fin _ ?_⟩
  repeat (first | with_reducible exact Only.refl _ _ _ | with_reducible refine Only.set ?_ (by simp only []; omega) (by simp only []; omega) _)
end Go.Proofs.Ytkdpfjaebhgnoaa
