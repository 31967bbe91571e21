/- Drawn acts, walked. -/
import Derived.Test.YtlipfkalehikkaaActsFn
import Derived.Test.YtlipfkalehikkaaDrawHouse
import Derived.Test.YtlipfkalehikkaaGH
import Derived.Test.YtlipfkalehikkaaGI
import Derived.Deep.RegionWith
namespace Go.Proofs.Ytlipfkalehikkaa
open Go.ChangeShapes Go.WideShapes Go.ChangeAt Go.RowKit

/-- five cells of zeros -/
structure FiveZ (B : Nat) (w : World) : Prop where
  c0 : w.cell? ⟨B, 0, none⟩ = some (.int .i64 0)
  c1 : w.cell? ⟨B, 1, none⟩ = some (.int .i64 0)
  c2 : w.cell? ⟨B, 2, none⟩ = some (.int .i64 0)
  c3 : w.cell? ⟨B, 3, none⟩ = some (.int .i64 0)
  c4 : w.cell? ⟨B, 4, none⟩ = some (.int .i64 0)
  f0 : w.frozen? ⟨B, 0, none⟩ = false
  f1 : w.frozen? ⟨B, 1, none⟩ = false
  f2 : w.frozen? ⟨B, 2, none⟩ = false
  f3 : w.frozen? ⟨B, 3, none⟩ = false
  f4 : w.frozen? ⟨B, 4, none⟩ = false
theorem FiveZ.lt {B : Nat} {w : World} (h : FiveZ B w) : B < w.heap.size := World.block_lt_of_cell? w _ h.c0
theorem FiveZ.only {B lo hi : Nat} {w w' : World} (h : FiveZ B w) (ho : Only lo hi w w') (hn : ¬ (lo ≤ B ∧ B < hi)) : FiveZ B w' := by
  have hk := ho.block B h.lt hn
  exact ⟨(World.cell?_of_block hk).trans h.c0, (World.cell?_of_block hk).trans h.c1, (World.cell?_of_block hk).trans h.c2, (World.cell?_of_block hk).trans h.c3, (World.cell?_of_block hk).trans h.c4, (World.frozen?_of_block hk).trans h.f0, (World.frozen?_of_block hk).trans h.f1, (World.frozen?_of_block hk).trans h.f2, (World.frozen?_of_block hk).trans h.f3, (World.frozen?_of_block hk).trans h.f4⟩
abbrev put5 (w : World) (B : Nat) (a b c d e : Value) : World := ((((w.setCell ⟨B, 0, none⟩ a).setCell ⟨B, 1, none⟩ b).setCell ⟨B, 2, none⟩ c).setCell ⟨B, 3, none⟩ d).setCell ⟨B, 4, none⟩ e
theorem only_put5 (w : World) (B : Nat) (a b c d e : Value) : Only B (B + 1) w (put5 w B a b c d e) :=
  (((((Only.refl B (B + 1) w).set (Nat.le_refl _) (Nat.lt_succ_self _) _).set (Nat.le_refl _) (Nat.lt_succ_self _) _).set (Nat.le_refl _) (Nat.lt_succ_self _) _).set (Nat.le_refl _) (Nat.lt_succ_self _) _).set (Nat.le_refl _) (Nat.lt_succ_self _) _
set_option maxRecDepth 100000 in
set_option maxHeartbeats 4000000 in
theorem l39Act_any (L X : Nat) (v : Value) (bs : List Int) (w : World) (h : CurO L X v bs w) : Calls Try.prog 47 #[.pointer (some ⟨X, 0, none⟩)] w fun e w' => ∃ k a b c d : Int, e = .returned (.agg #[.int .i64 k, .int .i64 a, .int .i64 b, .int .i64 c, .int .i64 d]) ∧ actOk k a b c d = true ∧ CurO L X v bs w' ∧ Only X (X + 1) w w' := by
  have hX := h.xl
  have HF0 := Lib.hid (show FiveZ w.heap.size (w.alloc (.cells #[.int .i64 0, .int .i64 0, .int .i64 0, .int .i64 0, .int .i64 0] 34)) from ⟨by go_simp, by go_simp, by go_simp, by go_simp, by go_simp, by go_simp, by go_simp, by go_simp, by go_simp, by go_simp⟩)
  have HC0 := Lib.hid (h.below (balloc (bref w) (.cells #[.int .i64 0, .int .i64 0, .int .i64 0, .int .i64 0, .int .i64 0] 34)))
  have HO0 := Lib.hid ((Only.refl X (X + 1) w).alloc (.cells #[.int .i64 0, .int .i64 0, .int .i64 0, .int .i64 0, .int .i64 0] 34))
  clear h
  go_enter Try.func47, Try.ntmps47
  go_upto_region 2 with (first | (go_at_call_of 46 (Value.int .i64 8); refine (l01Below_any L X v bs _ _ HC0.out).mono ?_; rintro e w1 ⟨x, rfl, x0, x1, _, c1, o1⟩; have x1 := x1 (by omega); have HC1 := Lib.hid c1; have HO1 := Lib.hid (HO0.out.trans o1); have HF1 := Lib.hid (HF0.out.only o1 (by omega)); clear c1 o1))
  clear HC0 HO0 HF0
  rcases (show x = 0 ∨ x = 1 ∨ x = 2 ∨ x = 3 ∨ (x ≠ 0 ∧ x ≠ 1 ∧ x ≠ 2 ∧ x ≠ 3) by omega) with e5 | e5 | e5 | e5 | e5
  · skip
    subst e5
    go_wp2_with (first | (go_at_call_of 46 (Value.int .i64 5); refine (l01Below_any L X v bs _ _ HC1.out).mono ?_; rintro e w2 ⟨y, rfl, y0, y1, _, c2, o2⟩; have y1 := y1 (by omega); have HC2 := Lib.hid c2; have HO2 := Lib.hid (HO1.out.trans o2); have HF2 := Lib.hid (HF1.out.only o2 (by omega)); clear c2 o2; have r0 := HF2.out.c0; have r1 := HF2.out.c1; have r2 := HF2.out.c2; have r3 := HF2.out.c3; have r4 := HF2.out.c4; have fr0 := HF2.out.f0; have fr1 := HF2.out.f1; have fr2 := HF2.out.f2; have fr3 := HF2.out.f3; have fr4 := HF2.out.f4))
    refine bodyPost_ret (v := .agg #[.int .i64 2, .int .i64 (1 + y), .int .i64 0, .int .i64 0, .int .i64 0]) (by simp [results, Try.results47, go_sem, r0, r1, r2, r3, r4]) rfl ?_
    have oR := only_put5 w2 w.heap.size (.int .i64 2) (.int .i64 (1 + y)) (.int .i64 0) (.int .i64 0) (.int .i64 0)
    exact ⟨(2), ((1 + y)), (0), (0), (0), rfl, ok_2 (by omega), HC2.out.only oR hX, only_pastB HO2.out oR (Nat.le_refl _)⟩
  · skip
    subst e5
    go_wp2_with (first | (go_at_call_of 46 (Value.int .i64 5); refine (l01Below_any L X v bs _ _ HC1.out).mono ?_; rintro e w2 ⟨y, rfl, y0, y1, _, c2, o2⟩; have y1 := y1 (by omega); have HC2 := Lib.hid c2; have HO2 := Lib.hid (HO1.out.trans o2); have HF2 := Lib.hid (HF1.out.only o2 (by omega)); clear c2 o2) | (go_at_call_of 46 (Value.int .i64 10); refine (l01Below_any L X v bs _ _ HC2.out).mono ?_; rintro e w3 ⟨z, rfl, z0, z1, _, c3, o3⟩; have z1 := z1 (by omega); have HC3 := Lib.hid c3; have HO3 := Lib.hid (HO2.out.trans o3); have HF3 := Lib.hid (HF2.out.only o3 (by omega)); clear c3 o3; have r0 := HF3.out.c0; have r1 := HF3.out.c1; have r2 := HF3.out.c2; have r3 := HF3.out.c3; have r4 := HF3.out.c4; have fr0 := HF3.out.f0; have fr1 := HF3.out.f1; have fr2 := HF3.out.f2; have fr3 := HF3.out.f3; have fr4 := HF3.out.f4))
    refine bodyPost_ret (v := .agg #[.int .i64 3, .int .i64 y, .int .i64 z, .int .i64 0, .int .i64 0]) (by simp [results, Try.results47, go_sem, r0, r1, r2, r3, r4]) rfl ?_
    have oR := only_put5 w3 w.heap.size (.int .i64 3) (.int .i64 y) (.int .i64 z) (.int .i64 0) (.int .i64 0)
    exact ⟨(3), (y), (z), (0), (0), rfl, ok_3 (by omega), HC3.out.only oR hX, only_pastB HO3.out oR (Nat.le_refl _)⟩
  · skip
    subst e5
    go_wp2_with (first | (go_at_call_of 46 (Value.int .i64 6); refine (l01Below_any L X v bs _ _ HC1.out).mono ?_; rintro e w2 ⟨y, rfl, y0, y1, _, c2, o2⟩; have y1 := y1 (by omega); have HC2 := Lib.hid c2; have HO2 := Lib.hid (HO1.out.trans o2); have HF2 := Lib.hid (HF1.out.only o2 (by omega)); clear c2 o2; have r0 := HF2.out.c0; have r1 := HF2.out.c1; have r2 := HF2.out.c2; have r3 := HF2.out.c3; have r4 := HF2.out.c4; have fr0 := HF2.out.f0; have fr1 := HF2.out.f1; have fr2 := HF2.out.f2; have fr3 := HF2.out.f3; have fr4 := HF2.out.f4))
    refine bodyPost_ret (v := .agg #[.int .i64 4, .int .i64 y, .int .i64 0, .int .i64 0, .int .i64 0]) (by simp [results, Try.results47, go_sem, r0, r1, r2, r3, r4]) rfl ?_
    have oR := only_put5 w2 w.heap.size (.int .i64 4) (.int .i64 y) (.int .i64 0) (.int .i64 0) (.int .i64 0)
    exact ⟨(4), (y), (0), (0), (0), rfl, ok_4 (by omega), HC2.out.only oR hX, only_pastB HO2.out oR (Nat.le_refl _)⟩
  · skip
    subst e5
    go_wp2_with (first | (go_at_call_of 46 (Value.int .i64 6); refine (l01Below_any L X v bs _ _ HC1.out).mono ?_; rintro e w2 ⟨y, rfl, y0, y1, _, c2, o2⟩; have y1 := y1 (by omega); have HC2 := Lib.hid c2; have HO2 := Lib.hid (HO1.out.trans o2); have HF2 := Lib.hid (HF1.out.only o2 (by omega)); clear c2 o2) | (go_at_call_of 46 (Value.int .i64 6); refine (l01Below_any L X v bs _ _ HC2.out).mono ?_; rintro e w3 ⟨z, rfl, z0, z1, _, c3, o3⟩; have z1 := z1 (by omega); have HC3 := Lib.hid c3; have HO3 := Lib.hid (HO2.out.trans o3); have HF3 := Lib.hid (HF2.out.only o3 (by omega)); clear c3 o3; have r0 := HF3.out.c0; have r1 := HF3.out.c1; have r2 := HF3.out.c2; have r3 := HF3.out.c3; have r4 := HF3.out.c4; have fr0 := HF3.out.f0; have fr1 := HF3.out.f1; have fr2 := HF3.out.f2; have fr3 := HF3.out.f3; have fr4 := HF3.out.f4))
    refine bodyPost_ret (v := .agg #[.int .i64 5, .int .i64 y, .int .i64 z, .int .i64 0, .int .i64 0]) (by simp [results, Try.results47, go_sem, r0, r1, r2, r3, r4]) rfl ?_
    have oR := only_put5 w3 w.heap.size (.int .i64 5) (.int .i64 y) (.int .i64 z) (.int .i64 0) (.int .i64 0)
    exact ⟨(5), (y), (z), (0), (0), rfl, ok_5 (by omega), HC3.out.only oR hX, only_pastB HO3.out oR (Nat.le_refl _)⟩
  · skip
    have e0 : (x == 0) = false := beq_eq_false_iff_ne.2 (by omega)
    have e1 : (x == 1) = false := beq_eq_false_iff_ne.2 (by omega)
    have e2 : (x == 2) = false := beq_eq_false_iff_ne.2 (by omega)
    have e3 : (x == 3) = false := beq_eq_false_iff_ne.2 (by omega)
    have e6 : ¬ x = 0 := by omega
    have e7 : ¬ x = 1 := by omega
    have e8 : ¬ x = 2 := by omega
    have e9 : ¬ x = 3 := by omega
    go_wp2_with (first | (go_at_call_of 46 (Value.int .i64 5); refine (l01Below_any L X v bs _ _ HC1.out).mono ?_; rintro e w2 ⟨y, rfl, y0, y1, _, c2, o2⟩; have y1 := y1 (by omega); have HC2 := Lib.hid c2; have HO2 := Lib.hid (HO1.out.trans o2); have HF2 := Lib.hid (HF1.out.only o2 (by omega)); clear c2 o2) | (go_at_call_of 46 (Value.int .i64 9); refine (l01Below_any L X v bs _ _ HC2.out).mono ?_; rintro e w3 ⟨z, rfl, z0, z1, _, c3, o3⟩; have z1 := z1 (by omega); have HC3 := Lib.hid c3; have HO3 := Lib.hid (HO2.out.trans o3); have HF3 := Lib.hid (HF2.out.only o3 (by omega)); clear c3 o3) | (go_at_call_of 46 (Value.int .i64 4); refine (l01Below_any L X v bs _ _ HC3.out).mono ?_; rintro e w4 ⟨t, rfl, t0, t1, _, c4, o4⟩; have t1 := t1 (by omega); have HC4 := Lib.hid c4; have HO4 := Lib.hid (HO3.out.trans o4); have HF4 := Lib.hid (HF3.out.only o4 (by omega)); clear c4 o4) | (go_at_call_of 46 (Value.int .i64 4); refine (l01Below_any L X v bs _ _ HC4.out).mono ?_; rintro e w5 ⟨s, rfl, s0, s1, _, c5, o5⟩; have s1 := s1 (by omega); have HC5 := Lib.hid c5; have HO5 := Lib.hid (HO4.out.trans o5); have HF5 := Lib.hid (HF4.out.only o5 (by omega)); clear c5 o5; have r0 := HF5.out.c0; have r1 := HF5.out.c1; have r2 := HF5.out.c2; have r3 := HF5.out.c3; have r4 := HF5.out.c4; have fr0 := HF5.out.f0; have fr1 := HF5.out.f1; have fr2 := HF5.out.f2; have fr3 := HF5.out.f3; have fr4 := HF5.out.f4))
    refine bodyPost_ret (v := .agg #[.int .i64 1, .int .i64 y, .int .i64 z, .int .i64 t, .int .i64 s]) (by simp [results, Try.results47, go_sem, r0, r1, r2, r3, r4]) rfl ?_
    have oR := only_put5 w5 w.heap.size (.int .i64 1) (.int .i64 y) (.int .i64 z) (.int .i64 t) (.int .i64 s)
    exact ⟨(1), (y), (z), (t), (s), rfl, ok_1 (by omega), HC5.out.only oR hX, only_pastB HO5.out oR (Nat.le_refl _)⟩
theorem lit_act (w : World) (B : Nat) (k a b c d : Int) (hB : B = w.heap.size) : Recs 5 (w.alloc (.cells #[.int .i64 k, .int .i64 a, .int .i64 b, .int .i64 c, .int .i64 d] 34)) (.slice (some ⟨B, 0, none⟩) 1 1) 1 [k, a, b, c, d] := by
  subst hB
  exact Recs.of_own (base := w.heap.size) (e := 34) (by have := World.ownsRow_lit (e := 34) (size := 5) w #[.int .i64 k, .int .i64 a, .int .i64 b, .int .i64 c, .int .i64 d] 1 (Nat.le_refl _) (by decide) rfl; simpa using this) (by omega)
theorem act_row {w : World} {B n : Nat} {v : Value} {xs : List Int} {k a b c d : Int} (h : w.ownsRow B 34 5 v (n + 1) (xs.map (Value.int .i64) ++ [k, a, b, c, d].map (Value.int .i64))) : w.ownsRow B 34 5 v (n + 1) ((xs ++ [k, a, b, c, d]).map (Value.int .i64)) := by
  rw [List.map_append]; exact h
set_option maxRecDepth 100000 in
set_option maxHeartbeats 4000000 in
theorem l39List_any (L X : Nat) (v : Value) (bs : List Int) (w : World) (h : CurO L X v bs w) : Calls Try.prog 19 #[.pointer (some ⟨X, 0, none⟩)] w fun e w' => ∃ ad n cap xs, e = .returned (.slice ad n cap) ∧ ActsD n xs ∧ n ≤ 21 ∧ w'.ownsRow w.heap.size 34 5 (.slice ad n cap) n (xs.map (Value.int .i64)) ∧ CurO L X v bs w' ∧ Only X (X + 1) w w' := by
  obtain ⟨i0, hi0, hz0, hz1, hz2⟩ := info_parts infoAct'
  have hX := h.xl
  have R1 := Lib.hid (World.ownsRow_lit (e := 34) (size := 5) w #[] 0 (Nat.le_refl _) (by decide) rfl)
  have C1 := Lib.hid (h.below (balloc (bref w) (.cells #[] 34)))
  have O1 := Lib.hid ((Only.refl X (X + 1) w).alloc (.cells #[] 34))
  clear h
  go_enter Try.func19, Try.ntmps19
  go_wp2_with (first | (go_at_call_of 46 (Value.int .i64 22); refine (l01Below_any L X v bs _ _ C1.out).mono ?_; rintro e w2 ⟨x2, rfl, p2, q2, _, c2, o2⟩; have q2 := q2 (by omega); have R2 := Lib.hid (own_curP R1.out o2 hX); have O2 := Lib.hid (O1.out.trans o2); have C2 := Lib.hid c2; clear c2 o2))
  obtain ⟨n, rfl⟩ := Int.eq_ofNat_of_zero_le p2
  go_loopw [3, 5] (fun u i wr => ∃ (k : Nat) (xs : List Int), k ≤ n ∧ i = .int .i64 k ∧ Hid (ActsD k xs) ∧ Hid (CurO L X v bs wr) ∧ Hid (wr.ownsRow w.heap.size 34 5 u k (xs.map (Value.int .i64))) ∧ Hid (Only X (X + 1) w wr)) (fun _ i _ => n - (intOf i).toNat)
  case atStart => exact ⟨0, [], Nat.zero_le _, rfl, actsD_nil, C2.out, R2.out, O2.out⟩
  case round =>
    clear C2 R2 O2 C1 R1 O1
    obtain ⟨k, xs, hk, rfl, HD, HC, HR, HO⟩ := hrel
    by_cases hlt : k < n
    · have hle : (k : Int) < n := by omega
      go_wp2_with (first | (go_at_call 47; refine (l39Act_any L X v bs _ HC.out).mono ?_; rintro e w6 ⟨a0, a1, a2, a3, a4, rfl, ok6, c6, o6⟩; have HR6 := Lib.hid (own_below (own_curP HR.out o6 hX) (balloc (bref w6) (.cells #[.int .i64 a0, .int .i64 a1, .int .i64 a2, .int .i64 a3, .int .i64 a4] 34))); have HO6 := Lib.hid ((HO.out.trans o6).alloc (.cells #[.int .i64 a0, .int .i64 a1, .int .i64 a2, .int .i64 a3, .int .i64 a4] 34)); have HC6 := Lib.hid (c6.below (balloc (bref w6) (.cells #[.int .i64 a0, .int .i64 a1, .int .i64 a2, .int .i64 a3, .int .i64 a4] 34))); have HK6 := Lib.hid ok6; have z6 : w.heap.size ≤ w6.heap.size := (HO.out.trans o6).size; clear o6 c6 ok6) | (at_builtin; refine wpList_append_src _ rfl _ _ 28 rfl w.heap.size 34 i0 (.agg #[.int .i64 0, .int .i64 0, .int .i64 0, .int .i64 0, .int .i64 0]) 5 40 Try.underlying28 hi0 hz0 hz1 hz2 rfl (by decide) _ _ _ rfl (HR6.out.alloc _) _ 1 [_, _, _, _, _] rfl (lit_act _ _ _ _ _ _ _ (by simp)) (nilOk_some _ _ _) (by omega) (by decide) (by simp; omega) ?_; intro v' w7 hown hgrow hat; have HR7 := Lib.hid (act_row hown); have HC7 := Lib.hid (cur_appP HC6.out HR6.out hgrow hX); have HO7 := Lib.hid (only_past (HO6.out.alloc _) (Only.of_grown (lo := w.heap.size) (hi := w6.heap.size + 1 + 1) hgrow fun b hb => by have := HR6.out.lt b hb; simp at this; omega) (Nat.le_refl _)); clear hown hgrow hat))
      all_goals
        go_roundw
        case rel => exact ⟨k + 1, _, by omega, by go_num, Lib.hid (HD.out.push HK6.out), HC7, HR7, HO7⟩
        case measure => simp [intOf]; omega
    · obtain rfl : k = n := by omega
      obtain ⟨adu, capu, rfl⟩ := own_form HR.out
      go_wp2_with fail
      go_ret
      exact ⟨_, _, _, xs, rfl, HD.out, by omega, HR.out, HC.out, HO.out⟩
theorem sample_ok : newHouse 1000 0 = (firstHouse 1000 0, true) ∧ houseOk (firstHouse 1000 0) = true := ⟨newHouse_ok (by omega) (by omega), (first_facts (by omega) (by omega)).1⟩
set_option maxRecDepth 100000 in
set_option maxHeartbeats 4000000 in
theorem l39House_any (L X : Nat) (v : Value) (bs : List Int) (w : World) (h : CurO L X v bs w) : Calls Try.prog 18 #[.pointer (some ⟨X, 0, none⟩)] w fun e w' => ∃ (hd : HD) (ac am ao at_ : Option Addr) (cc cm co ct : Nat), e = .returned (.agg #[.slice ac (hd).n cc, .slice am (hd).ms.length cm, .slice ao (hd).os.length co, .slice at_ (hd).ts.length ct, .int .i64 (hd).sent, .int .i64 (hd).day]) ∧ houseOk hd = true ∧ HouseO w.heap.size w'.heap.size w' (.slice ac (hd).n cc) (.slice am (hd).ms.length cm) (.slice ao (hd).os.length co) (.slice at_ (hd).ts.length ct) hd ∧ CurO L X v bs w' ∧ Only X (X + 1) w w' := by
  have hX := h.xl
  have RZ := Lib.hid (show Six w.heap.size (w.alloc (.cells #[.slice none 0 0, .slice none 0 0, .slice none 0 0, .slice none 0 0, .int .i64 0, .int .i64 0] 27)) (.slice none 0 0) (.slice none 0 0) (.slice none 0 0) (.slice none 0 0) (.int .i64 0) (.int .i64 0) from ⟨by go_simp, by go_simp, by go_simp, by go_simp, by go_simp, by go_simp, by go_simp, by go_simp, by go_simp, by go_simp, by go_simp, by go_simp⟩)
  have OZ := Lib.hid ((Only.refl X (X + 1) w).alloc (.cells #[.slice none 0 0, .slice none 0 0, .slice none 0 0, .slice none 0 0, .int .i64 0, .int .i64 0] 27))
  have HC0 := Lib.hid (h.below (balloc (bref w) (.cells #[.slice none 0 0, .slice none 0 0, .slice none 0 0, .slice none 0 0, .int .i64 0, .int .i64 0] 27)))
  clear h
  go_enter Try.func18, Try.ntmps18
  go_wp2_with fail
  refine (l01Once_any L X v bs _ _ HC0.out).mono ?_
  rintro e w1 ⟨b, rfl, c1, o1⟩
  have HC1 := Lib.hid c1
  have HO1 := Lib.hid (OZ.out.trans o1)
  have R1 := Lib.hid (RZ.out.only o1 (by omega))
  have y1 : w.heap.size + 1 ≤ w1.heap.size := by have q := o1.size; simp at q; omega
  clear c1 o1 HC0 OZ RZ
  cases b with
  | true =>
    have HS := Lib.hid sample_ok
    go_wp2_with (first | (go_at_call 44; refine (specSampleHouse _).mono ?_; rw [HS.out.1]; generalize hg : firstHouse 1000 0 = hd at *; rintro e w2 ⟨ac0, cc0, am0, cm0, ao0, co0, at0, ct0, rfl, hO2, hb2⟩; have hO2' := Lib.hid hO2; have R2 := R1.out.below hb2; obtain ⟨r0, r1, r2, r3, r4, r5, fr0, fr1, fr2, fr3, fr4, fr5⟩ := R2; have C2 := Lib.hid (HC1.out.below hb2); have O2 := Lib.hid (HO1.out.step hb2); have z2 := hb2.size; clear hb2 hO2 hg)
    )
    refine bodyPost_ret (v := .agg #[.slice ac0 (hd).n cc0, .slice am0 (hd).ms.length cm0, .slice ao0 (hd).os.length co0, .slice at0 (hd).ts.length ct0, .int .i64 (hd).sent, .int .i64 (hd).day]) (by simp [results, Try.results18, go_sem, r0, r1, r2, r3, r4, r5]) rfl ?_
    have oR := only_put6 w2 w.heap.size (.slice ac0 (hd).n cc0) (.slice am0 (hd).ms.length cm0) (.slice ao0 (hd).os.length co0) (.slice at0 (hd).ts.length ct0) (.int .i64 hd.sent) (.int .i64 hd.day)
    exact ⟨hd, ac0, am0, ao0, at0, cc0, cm0, co0, ct0, rfl, HS.out.2, (hO2'.out.only oR (off_r (by omega))).wide (by omega) oR.size, C2.out.only oR hX, only_pastB O2.out oR (Nat.le_refl _)⟩
  | false =>
    go_wp2_with (first | (go_at_call 45; refine (l38House_any L X v bs _ HC1.out).mono ?_; rintro e w2 ⟨hd, ac0, am0, ao0, at0, cc0, cm0, co0, ct0, rfl, ok2, -, -, hO2, c2, o2⟩; have hO2' := Lib.hid hO2; have R2 := R1.out.only o2 (by omega); obtain ⟨r0, r1, r2, r3, r4, r5, fr0, fr1, fr2, fr3, fr4, fr5⟩ := R2; have C2 := Lib.hid c2; have O2 := Lib.hid (HO1.out.trans o2); have z2 := o2.size; clear c2 o2 hO2))
    refine bodyPost_ret (v := .agg #[.slice ac0 (hd).n cc0, .slice am0 (hd).ms.length cm0, .slice ao0 (hd).os.length co0, .slice at0 (hd).ts.length ct0, .int .i64 (hd).sent, .int .i64 (hd).day]) (by simp [results, Try.results18, go_sem, r0, r1, r2, r3, r4, r5]) rfl ?_
    have oR := only_put6 w2 w.heap.size (.slice ac0 (hd).n cc0) (.slice am0 (hd).ms.length cm0) (.slice ao0 (hd).os.length co0) (.slice at0 (hd).ts.length ct0) (.int .i64 hd.sent) (.int .i64 hd.day)
    exact ⟨hd, ac0, am0, ao0, at0, cc0, cm0, co0, ct0, rfl, ok2, (hO2'.out.only oR (off_r (by omega))).wide (by omega) oR.size, C2.out.only oR hX, only_pastB O2.out oR (Nat.le_refl _)⟩
set_option maxRecDepth 100000 in
set_option maxHeartbeats 4000000 in
theorem drawActs_any (v : Value) (bs : List Int) (w : World) (h : Bytes w v bs) : Calls Try.prog 5 #[v] w fun e w' => ∃ (hd : HD) (ac am ao at_ : Option Addr) (cc cm co ct : Nat) (ad : Option Addr) (n cap : Nat) (xs : List Int), e = .returned (.tuple #[.agg #[.slice ac (hd).n cc, .slice am (hd).ms.length cm, .slice ao (hd).os.length co, .slice at_ (hd).ts.length ct, .int .i64 (hd).sent, .int .i64 (hd).day], .slice ad n cap]) ∧ houseOk hd = true ∧ HouseO w.heap.size w'.heap.size w' (.slice ac (hd).n cc) (.slice am (hd).ms.length cm) (.slice ao (hd).os.length co) (.slice at_ (hd).ts.length ct) hd ∧ ActsD n xs ∧ n ≤ 21 ∧ w'.ownsRow w.heap.size 34 5 (.slice ad n cap) n (xs.map (Value.int .i64)) ∧ Below w.heap.size w w' := by
  have RZ := Lib.hid (show Six w.heap.size (w.alloc (.cells #[.slice none 0 0, .slice none 0 0, .slice none 0 0, .slice none 0 0, .int .i64 0, .int .i64 0] 27)) (.slice none 0 0) (.slice none 0 0) (.slice none 0 0) (.slice none 0 0) (.int .i64 0) (.int .i64 0) from ⟨by go_simp, by go_simp, by go_simp, by go_simp, by go_simp, by go_simp, by go_simp, by go_simp, by go_simp, by go_simp, by go_simp, by go_simp⟩)
  have h1 := Lib.hid (h.below (balloc (bref w) (.cells #[.slice none 0 0, .slice none 0 0, .slice none 0 0, .slice none 0 0, .int .i64 0, .int .i64 0] 27)))
  clear h
  go_enter Try.func5, Try.ntmps5
  go_wp2_with (first
    | (go_at_call 17; refine (l01New_any v bs _ h1.out).mono ?_; rintro e w1 ⟨X, rfl, c1, hb1⟩; have hX := c1.xl; have lX : w.heap.size + 1 ≤ X := (by have q := c1.lt; simp at q; exact q); have HC1 := Lib.hid c1; have R1 := Lib.hid (RZ.out.below hb1); have D1 := Lib.hid (bnext (balloc (bref w) _) hb1); have y1 := hb1.size; clear c1 hb1)
    | (go_at_call 18; refine (l39House_any _ X v bs _ HC1.out).mono ?_; rintro e w2 ⟨hd, ac0, am0, ao0, at0, cc0, cm0, co0, ct0, rfl, ok2, hO2, c2, o2⟩; have R2 := Lib.hid (R1.out.only o2 (by omega)); have D2 := Lib.hid (Only.below D1.out o2 (by omega)); have y2 := o2.size; have H2 := Lib.hid hO2; have HC2 := Lib.hid c2; clear o2 hO2 c2)
    | (go_at_call 19; refine (l39List_any _ X v bs _ HC2.out).mono ?_; rintro e w3 ⟨ad, n, cap, xs, rfl, hd3, hn3, hr3, -, o3⟩; have R3 := R2.out.only o3 (by omega); have y3' : w2.heap.size ≤ w3.heap.size := o3.size; have D3 := Lib.hid (Only.below D2.out o3 (by omega)); have y3 := o3.size; have H3 := Lib.hid (H2.out.only o3 (off_r (by omega))); have Q3 := Lib.hid hr3; clear o3 hr3; obtain ⟨r0, r1, r2, r3, r4, r5, fr0, fr1, fr2, fr3, fr4, fr5⟩ := R3))
  refine bodyPost_ret (v := .tuple #[.agg #[.slice ac0 (hd).n cc0, .slice am0 (hd).ms.length cm0, .slice ao0 (hd).os.length co0, .slice at0 (hd).ts.length ct0, .int .i64 (hd).sent, .int .i64 (hd).day], .slice ad n cap]) (by simp [results, Try.results5, go_sem, r0, r1, r2, r3, r4, r5]) rfl ?_
  have z1 : w.heap.size + 1 ≤ w1.heap.size := by simpa using y1
  have oR := only_put6 w3 w.heap.size (.slice ac0 (hd).n cc0) (.slice am0 (hd).ms.length cm0) (.slice ao0 (hd).os.length co0) (.slice at0 (hd).ts.length ct0) (.int .i64 hd.sent) (.int .i64 hd.day)
  exact ⟨hd, ac0, am0, ao0, at0, cc0, cm0, co0, ct0, ad, n, cap, xs, rfl, ok2, (H3.out.only oR (off_r (by omega))).wide (by omega) (Nat.le_trans y3' oR.size), hd3, hn3, own_base (own_only Q3.out oR (fun b e z => by have := (Q3.out.lt b e).1; omega)) (by omega), Only.below D3.out oR (Nat.le_refl _)⟩
end Go.Proofs.Ytlipfkalehikkaa
