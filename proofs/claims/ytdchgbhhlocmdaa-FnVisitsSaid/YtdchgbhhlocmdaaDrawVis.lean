/- Drawn visits and orders of them, walked. -/
import Derived.Test.YtdchgbhhlocmdaaSwapFn
import Derived.Test.YtdchgbhhlocmdaaPick
import Derived.Test.YtdchgbhhlocmdaaDueOrder
import Derived.Test.YtdchgbhhlocmdaaCopyInts
import Derived.Test.YtdchgbhhlocmdaaScalar
namespace Go.Proofs.Ytdchgbhhlocmdaa
open Go.ChangeShapes Go.WideShapes Go.ChangeAt Go.RowKit

theorem infoVis : (Try.prog.info? 41).map (fun i => (i.zero, i.size, i.bytes)) = some (some (.agg #[.int .i64 0, .int .i64 0]), 2, 16) := by kernel_rfl
theorem only_pastV {lo hi lo' hi' : Nat} {a w w' : World} (h : Only lo hi a w) (k : Only lo' hi' w w') (hl : a.heap.size ≤ lo') : Only lo hi a w' :=
  ⟨k.os.trans h.os, k.tape.trans h.tape, k.output.trans h.output, Nat.le_trans h.size k.size, fun i hi hn => (k.block i (Nat.lt_of_lt_of_le hi h.size) (by omega)).trans (h.block i hi hn)⟩
theorem lit_vis (w : World) (B : Nat) (d e : Int) (hB : B = w.heap.size) : Recs 2 (w.alloc (.cells #[.int .i64 d, .int .i64 e] 41)) (.slice (some ⟨B, 0, none⟩) 1 1) 1 [d, e] := by
  subst hB
  exact Recs.of_own (base := w.heap.size) (e := 41) (by have := World.ownsRow_lit (e := 41) (size := 2) w #[.int .i64 d, .int .i64 e] 1 (Nat.le_refl _) (by decide) rfl; simpa using this) (by omega)
theorem vis_row {w : World} {B n : Nat} {v : Value} {xs : List Int} {d e : Int} (h : w.ownsRow B 41 2 v (n + 1) (xs.map (Value.int .i64) ++ [d, e].map (Value.int .i64))) : w.ownsRow B 41 2 v (n + 1) ((xs ++ [d, e]).map (Value.int .i64)) := by
  rw [List.map_append]; exact h

set_option maxRecDepth 100000 in
set_option maxHeartbeats 4000000 in
theorem l33List_any (L X : Nat) (v : Value) (bs : List Int) (w : World) (h : CurO L X v bs w) : Calls Try.prog 69 #[.pointer (some ⟨X, 0, none⟩)] w fun e w' => ∃ ad n cap xs, e = .returned (.slice ad n cap) ∧ VisD n xs ∧ n ≤ 6 ∧ w'.ownsRow w.heap.size 41 2 (.slice ad n cap) n (xs.map (Value.int .i64)) ∧ CurO L X v bs w' ∧ Only X (X + 1) w w' := by
  obtain ⟨i0, hi0, hz0, hz1, hz2⟩ := info_parts infoVis
  go_enter Try.func69, Try.ntmps69
  have hX := h.xl
  have HC0 := Lib.hid (h.below (balloc (bref w) (.cells #[] 41)))
  have HO0 := Lib.hid ((Only.refl X (X + 1) w).alloc (.cells #[] 41))
  have HR0 := Lib.hid (World.ownsRow_lit (e := 41) (size := 2) w #[] 0 (Nat.le_refl _) (by decide) rfl)
  clear h
  go_wp2_with (first | (go_at_call_of 70 (Value.int .i64 7); refine (l01Below_any L X v bs _ _ HC0.out).mono ?_; rintro e w1 ⟨x1, rfl, p1, q1, _, c1, o1⟩; have q1 := q1 (by omega); have HR1 := Lib.hid (own_curP HR0.out o1 hX); have HO1 := Lib.hid (HO0.out.trans o1); have HC1 := Lib.hid c1; have z1 := HO1.out.size; clear o1 c1))
  obtain ⟨n, rfl⟩ := Int.eq_ofNat_of_zero_le p1
  go_loopw [3, 5] (fun u i wr => ∃ (k : Nat) (xs : List Int), k ≤ n ∧ i = .int .i64 k ∧ Hid (VisD k xs) ∧ Hid (CurO L X v bs wr) ∧ Hid (wr.ownsRow w.heap.size 41 2 u k (xs.map (Value.int .i64))) ∧ Hid (Only X (X + 1) w wr)) (fun _ i _ => n - (intOf i).toNat)
  case atStart => exact ⟨0, [], Nat.zero_le _, rfl, VisD.nil, HC1.out, HR1.out, HO1.out⟩
  case round =>
    clear HC0 HO0 HR0 HC1 HO1 HR1
    obtain ⟨k, xs, hk, rfl, HD, HC1, HR1, HO1⟩ := hrel
    by_cases hlt : k < n
    · skip
      go_wp2_with (first | (go_at_call_of 70 (Value.int .i64 6); refine (l01Below_any L X v bs _ _ HC1.out).mono ?_; rintro e w2 ⟨x2, rfl, p2, q2, _, c2, o2⟩; have q2 := q2 (by omega); have HR2 := Lib.hid (own_curP HR1.out o2 hX); have HO2 := Lib.hid (HO1.out.trans o2); have HC2 := Lib.hid c2; have z2 := HO2.out.size; clear o2 c2) | (go_at_call_of 70 (Value.int .i64 20); refine (l01Below_any L X v bs _ _ HC2.out).mono ?_; rintro e w3 ⟨x3, rfl, p3, q3, _, c3, o3⟩; have q3 := q3 (by omega); have HR3 := Lib.hid (own_curP HR2.out o3 hX); have HO3 := Lib.hid (HO2.out.trans o3); have HC3 := Lib.hid c3; have z3 := HO3.out.size; clear o3 c3) | (at_builtin; refine wpList_append_src _ rfl _ _ 26 rfl w.heap.size 41 i0 (.agg #[.int .i64 0, .int .i64 0]) 2 16 Try.underlying26 hi0 hz0 hz1 hz2 rfl (by decide) _ _ _ rfl (HR3.out.alloc _) _ 1 [_, _] rfl (lit_vis _ _ _ _ rfl) (nilOk_some _ _ _) (by omega) (by decide) (by simp; omega) ?_; intro v' w7 hown hgrow hat; have HR7 := Lib.hid (vis_row hown); have HC7 := Lib.hid (cur_appP HC3.out HR3.out hgrow hX); have HO7 := Lib.hid (only_pastV (HO3.out.alloc _) (Only.of_grown (lo := w.heap.size) (hi := w3.heap.size + 1) hgrow fun b hb => by have := HR3.out.lt b hb; omega) (Nat.le_refl _)); clear hown hgrow hat))
      go_roundw
      case rel => exact ⟨k + 1, _, by omega, by go_num, HD.out.push (by omega) (by omega) (by omega) (by omega), HC7.out, HR7.out, HO7.out⟩
      case measure => simp [intOf]; omega
    · obtain rfl : k = n := by omega
      obtain ⟨adu, capu, rfl⟩ := own_form HR1.out
      go_wp2_with fail
      go_ret
      exact ⟨_, _, _, xs, rfl, HD.out, by omega, HR1.out, HC1.out, HO1.out⟩

set_option maxRecDepth 100000 in
set_option maxHeartbeats 4000000 in
theorem swapRows_any (ad : Option Addr) (cap : Nat) (xs : List Int) (i k : Nat) (w : World) (h : Ints w (.slice ad xs.length cap) xs) (hn : NilOk (.slice ad xs.length cap)) (h20 : xs.length ≤ 1048576) (hi : i < xs.length) (hk : k < xs.length) : Calls Try.prog 71 #[.slice ad xs.length cap, .int .i64 (i : Int), .int .i64 (k : Int)] w fun e w' => ∃ ad' cap' L, e = .returned (.slice ad' (List.length (α := Int) L) cap') ∧ L.Perm xs ∧ w'.ownsRow w.heap.size 3 1 (.slice ad' L.length cap') L.length (L.map (Value.int .i64)) ∧ Below w.heap.size w w' := by
  obtain ⟨i0, hi0, hz0, hz1, hz2⟩ := info_parts infoInt'
  have hr := (ints_recs h).alloc (.cells #[] 3)
  have R0 := World.ownsRow_lit (e := 3) (size := 1) w #[] 0 (Nat.le_refl _) (by decide) rfl
  have HP := Lib.hid (swap_perm xs i k hi hk)
  have hI := Lib.hid h
  have in1 : inB (i : Int) 0 ((xs.length : Int) - 1) = true := by simp [inB]; omega
  have in2 : inB (k : Int) 0 ((xs.length : Int) - 1) = true := by simp [inB]; omega
  go_enter Try.func71, Try.ntmps71
  go_upto_region 3 with (first | (at_builtin; refine wpList_append_src _ rfl _ _ 24 rfl w.heap.size 3 i0 (.int .i64 0) 1 8 Try.underlying24 hi0 hz0 hz1 hz2 rfl (by decide) (.slice (some ⟨w.heap.size, 0, none⟩) 0 0) 0 [] rfl R0 _ xs.length xs rfl hr hn (by omega) (by decide) (by simp) ?_; intro v' w1 hown hgrow hat; obtain ⟨a1, c1, rfl⟩ := own_form hown; have HO := Lib.hid hown; have HB := Lib.hid ((balloc (bref w) _).grown hgrow (by simp) (fun k hk => by cases hk; exact Nat.le_refl _)); clear hown hgrow hat) | (go_at_call_of 77 (Value.int .i64 (i : Int)); refine (l01In_any _ _ _ _).mono ?_; rintro e w' ⟨rfl, rfl⟩) | (go_at_call_of 77 (Value.int .i64 (k : Int)); refine (l01In_any _ _ _ _).mono ?_; rintro e w' ⟨rfl, rfl⟩))
  obtain ⟨g, hg⟩ : ∃ g, a1 = some ⟨g, 0, none⟩ := by
    rcases HO.out.2 with ⟨q, z⟩ | ⟨g, cp, _, q, _⟩
    · exact absurd z (by simp; omega)
    · cases q; exact ⟨g, rfl⟩
  subst hg
  obtain ⟨_, _, _, hv, hc⟩ := hI.out
  cases hv
  obtain ⟨b, o, rfl, e0⟩ := hc i hi
  obtain ⟨_, _, hq, e1⟩ := hc k hk
  cases hq
  clear hc
  have l0 := World.block_lt_of_cell? w _ e0
  simp only at l0
  have e0 := (HB.out.cell (p := ⟨b, o + i, none⟩) l0).trans e0
  have e1 := (HB.out.cell (p := ⟨b, o + k, none⟩) l0).trans e1
  have hO : w1.ownsRow w.heap.size 3 1 (.slice (some ⟨g, 0, none⟩) xs.length c1) xs.length (xs.map (Value.int .i64)) := by simpa using HO.out
  have hbg : w.heap.size ≤ g := (hO.lt g rfl).1
  have hgb : ¬ g = b := by omega
  have hbg' : ¬ b = g := by omega
  have f0 := hO.frozenAt i
  have hold0 := own_cell hO i (by simpa using hi)
  obtain ⟨u0, hu0⟩ := hold0
  have S1 := (hO.stored i (.int .i64 (nth xs k))).1
  have f1 := S1.frozenAt k
  obtain ⟨u1, hu1⟩ := own_cell S1 k (by simpa using hk)
  have S2 := Lib.hid (S1.stored k (.int .i64 (nth xs i))).1
  have D2 := Lib.hid (Only.below HB.out (((Only.refl g (g + 1) w1).set (p := ⟨g, i, none⟩) (Nat.le_refl _) (Nat.lt_succ_self _) (.int .i64 (nth xs k))).set (p := ⟨g, k, none⟩) (Nat.le_refl _) (Nat.lt_succ_self _) (.int .i64 (nth xs i))) hbg)
  have hle : xs.length ≤ 1048576 := h20
  clear hO S1 R0 hr HO HB hi0 hz0 hz1 hz2 h20
  have i1 : (0 : Int) ≤ (i : Int) := by omega
  have i2 : (i : Int) < (xs.length : Int) := by omega
  have i3 : (0 : Int) ≤ (k : Int) := by omega
  have i4 : (k : Int) < (xs.length : Int) := by omega
  go_wp2_with fail
  go_ret
  refine ⟨some ⟨g, 0, none⟩, c1, (xs.set i (nth xs k)).set k (nth xs i), by simp, HP.out, ?_, D2.out⟩
  have q := S2.out
  simpa [List.map_set] using q

set_option maxRecDepth 100000 in
set_option maxHeartbeats 4000000 in
theorem drawVisits_any (v : Value) (bs : List Int) (w : World) (h : Bytes w v bs) : Calls Try.prog 28 #[v] w fun e w' => ∃ ad n cap xs ad2 cap2 R, e = .returned (.tuple #[.slice ad n cap, .slice ad2 (List.length R) cap2]) ∧ VisD n xs ∧ n ≤ 6 ∧ R.Perm (rangeI n) ∧ Recs 2 w' (.slice ad n cap) n xs ∧ Ints w' (.slice ad2 R.length cap2) R ∧ Below w.heap.size w w' := by
  go_enter Try.func28, Try.ntmps28
  go_wp2_with (first | (go_at_call 68; refine (l01New_any v bs w h).mono ?_; rintro e w1 ⟨X, rfl, c0, hb1⟩; have hX := c0.xl; have lX := c0.lt; have HC1 := Lib.hid c0; have D1 := Lib.hid hb1; clear c0 hb1) | (go_at_call 69; refine (l33List_any w.heap.size X v bs _ HC1.out).mono ?_; rintro e w2 ⟨adl, n, capl, xs, rfl, VD, n6, hr2, hc2, ho2⟩; have hok := VD.ok (by omega); have HV2 := Lib.hid hr2; have HC2 := Lib.hid hc2; have D2 := Lib.hid (Only.below D1.out ho2 lX); have z2 := ho2.size; clear hr2 hc2 ho2) | (go_at_call 13; refine (specDueOrder _ n xs _ (Recs.of_own HV2.out (by omega))).mono ?_; rw [dueOrder_t hok]; rintro e w3 ⟨u3, rfl, hr3, hb3⟩; obtain ⟨ad3, cap3, rfl⟩ := own_form hr3; have HV3 := Lib.hid (own_below HV2.out hb3); have HR3 := Lib.hid hr3; have HC3 := Lib.hid (HC2.out.below hb3); have D3 := Lib.hid (bnext D2.out hb3); have z3 := hb3.size; clear hr3 hb3) | (go_at_call_of 70 (Value.int .i64 6); refine (l01Below_any w.heap.size X v bs _ _ HC3.out).mono ?_; rintro e w4 ⟨x4, rfl, p4, q4, _, c4, o4⟩; have q4 := q4 (by omega); have HV4 := Lib.hid (own_curP HV3.out o4 hX); have HR4 := Lib.hid (own_curP HR3.out o4 (by omega)); have HC4 := Lib.hid c4; have D4 := Lib.hid (Only.below D3.out o4 lX); have z4 := o4.size; clear c4 o4))
  obtain ⟨m, rfl⟩ := Int.eq_ofNat_of_zero_le p4
  have HP4 := Lib.hid (dueP_perm n xs)
  clear HV2 HV3 HR3 HC1 HC2 HC3 D1 D2 D3 q4 p4
  go_loopw [6, 7] (fun u i wr => ∃ (j : Nat) (R : List Int) (ad : Option Addr) (cap : Nat), i = .int .i64 (j : Int) ∧ j ≤ m ∧ u = .slice ad R.length cap ∧ Hid (R.Perm (rangeI n)) ∧ Hid (CurO w.heap.size X v bs wr) ∧ Hid (wr.ownsRow w2.heap.size 3 1 (.slice ad R.length cap) R.length (R.map (Value.int .i64))) ∧ Hid (wr.ownsRow w1.heap.size 41 2 (.slice adl n capl) n (xs.map (Value.int .i64))) ∧ Hid (Below w.heap.size w wr) ∧ w2.heap.size ≤ wr.heap.size) (fun _ i _ => (intOf i).toNat)
  case atStart => exact ⟨m, _, _, _, rfl, Nat.le_refl _, rfl, HP4, HC4, HR4, HV4, D4, by omega⟩
  case round =>
    clear HP4 HC4 HR4 HV4 D4
    obtain ⟨j, R, ad, cap, rfl, hj, rfl, HP, HC, HR, HV, HD, zr⟩ := hrel
    have HLR := Lib.hid (perm_len HP.out)
    by_cases hgo : 0 < j ∧ 1 < R.length
    · obtain ⟨j0, r1⟩ := hgo
      have i0 : (0 : Int) < (j : Int) := by omega
      have i1 : (1 : Int) < (R.length : Int) := by omega
      have rl : R.length ≤ 6 := by rw [HLR.out]; omega
      go_wp2_with (first | (go_at_call_of 70 (Value.int .i64 (R.length : Int)); refine (l01Below_any w.heap.size X v bs _ _ HC.out).mono ?_; rintro e w5 ⟨x5, rfl, p5, q5, _, c5, o5⟩; have q5 := q5 (by omega); have HV5 := Lib.hid (own_curP HV.out o5 hX); have HR5 := Lib.hid (own_curP HR.out o5 (by omega)); have HC5 := Lib.hid c5; have D5 := Lib.hid (Only.below HD.out o5 lX); have z5 := o5.size; clear c5 o5) | (go_at_call_of 70 (Value.int .i64 (R.length : Int)); refine (l01Below_any w.heap.size X v bs _ _ HC5.out).mono ?_; rintro e w6 ⟨x6, rfl, p6, q6, _, c6, o6⟩; have q6 := q6 (by omega); have HV6 := Lib.hid (own_curP HV5.out o6 hX); have HR6 := Lib.hid (own_curP HR5.out o6 (by omega)); have HC6 := Lib.hid c6; have D6 := Lib.hid (Only.below D5.out o6 lX); have z6 := o6.size; clear c6 o6; obtain ⟨y5, rfl⟩ := Int.eq_ofNat_of_zero_le p5; obtain ⟨y6, rfl⟩ := Int.eq_ofNat_of_zero_le p6) | (go_at_call 71; refine (swapRows_any ad cap R y5 y6 _ (Ints.of_own HR6.out (by omega)) (nilOk_own HR6.out) (by omega) (by omega) (by omega)).mono ?_; rintro e w7 ⟨ad7, cap7, R7, rfl, hp7, hr7, hb7⟩; have HP7 := Lib.hid (hp7.trans HP.out); have HC7 := Lib.hid (HC6.out.below hb7); have HR7 := Lib.hid (own_base (B' := w2.heap.size) hr7 (by omega)); have HV7 := Lib.hid (own_below HV6.out hb7); have D7 := Lib.hid (bnext D6.out hb7); have z7 := hb7.size; clear hp7 hr7 hb7))
      go_roundw
      case rel => exact ⟨j - 1, R7, ad7, cap7, by go_num, by omega, rfl, HP7, HC7, HR7, HV7, D7, by omega⟩
      case measure => simp [intOf]; omega
    · have fin : Recs 2 wr (.slice adl n capl) n xs ∧ Ints wr (.slice ad R.length cap) R := ⟨Recs.of_own HV.out (by omega), Ints.of_own HR.out (by have := HLR.out; omega)⟩
      have FIN := Lib.hid fin
      clear fin
      by_cases j0 : 0 < j
      · have r1 : ¬ 1 < R.length := fun z => hgo ⟨j0, z⟩
        have i0 : (0 : Int) < (j : Int) := by omega
        have i1 : ¬ (1 : Int) < (R.length : Int) := by omega
        clear hgo
        go_wp2_with fail
        refine bodyPost_ret (v := .tuple #[.slice adl n capl, .slice ad R.length cap]) (by simp [results, Try.results28, go_sem]) rfl ?_
        exact ⟨_, _, _, _, _, _, _, rfl, VD, n6, HP.out, FIN.out.1, FIN.out.2, HD.out⟩
      · obtain rfl : j = 0 := by omega
        clear hgo j0
        go_wp2_with fail
        refine bodyPost_ret (v := .tuple #[.slice adl n capl, .slice ad R.length cap]) (by simp [results, Try.results28, go_sem]) rfl ?_
        exact ⟨_, _, _, _, _, _, _, rfl, VD, n6, HP.out, FIN.out.1, FIN.out.2, HD.out⟩
end Go.Proofs.Ytdchgbhhlocmdaa
