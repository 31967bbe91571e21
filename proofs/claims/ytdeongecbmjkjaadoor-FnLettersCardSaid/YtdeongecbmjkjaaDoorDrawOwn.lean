/- Drawn owners and some copies of a drawn chain, walked. -/
import Derived.Test.YtdeongecbmjkjaaDoorDrawList
import Derived.Test.YtdeongecbmjkjaaDoorOwnL
namespace Go.Proofs.YtdeongecbmjkjaaDoor
open Go.ChangeShapes Go.WideShapes Go.ChangeAt Go.RowKit

theorem int_rowO {w : World} {B : Nat} {v : Value} {xs : List Int} {x : Int} (h : w.ownsRow B 3 1 v (xs.length + 1) (xs.map (Value.int .i64) ++ [x].map (Value.int .i64))) : w.ownsRow B 3 1 v (xs ++ [x]).length ((xs ++ [x]).map (Value.int .i64)) := by
  rw [List.map_append, List.length_append]; exact h
theorem lit_oneO (w : World) (B : Nat) (x : Int) (hB : B = w.heap.size) : Recs 1 (w.alloc (.cells #[.int .i64 x] 3)) (.slice (some ⟨B, 0, none⟩) 1 1) 1 [x] := by
  subst hB
  exact Recs.of_own (base := w.heap.size) (e := 3) (by have := World.ownsRow_lit (e := 3) (size := 1) w #[.int .i64 x] 1 (Nat.le_refl _) (by decide) rfl; simpa using this) (by omega)
theorem bd_push {xs : List Int} {x c : Int} (h : ∀ j, j < xs.length → 0 ≤ nth xs j ∧ nth xs j ≤ c) (h0 : 0 ≤ x) (h1 : x ≤ c) : ∀ j, j < (xs ++ [x]).length → 0 ≤ nth (xs ++ [x]) j ∧ nth (xs ++ [x]) j ≤ c := fun j hj => by
  simp at hj
  rcases Nat.lt_or_ge j xs.length with z | z
  · rw [nth_appl z]; exact h j z
  · rw [nth_appr (j := 0) (by omega)]; simp [nth]; omega

set_option maxRecDepth 100000 in
set_option maxHeartbeats 4000000 in
theorem l37Owners_any (L X : Nat) (v : Value) (bs : List Int) (w : World) (h : CurO L X v bs w) (adl : Option Addr) (m capl : Nat) (hm : m ≤ 12) : Calls Tryd.prog 81 #[.pointer (some ⟨X, 0, none⟩), .slice adl m capl] w fun e w' => ∃ ad cap os, e = .returned (.slice ad os.length cap) ∧ os.length = m ∧ (∀ j, j < os.length → 0 ≤ nth os j ∧ nth os j ≤ 4) ∧ w'.ownsRow w.heap.size 3 1 (.slice ad os.length cap) os.length (os.map (Value.int .i64)) ∧ CurO L X v bs w' ∧ Only X (X + 1) w w' := by
  obtain ⟨i0, hi0, hz0, hz1, hz2⟩ := info_parts infoInt'
  go_enter Tryd.func81, Tryd.ntmps81
  have hX := h.xl
  have C1 := Lib.hid (h.below (balloc (bref w) (.cells #[] 3)))
  have O1 := Lib.hid ((Only.refl X (X + 1) w).alloc (.cells #[] 3))
  have R1 := Lib.hid (World.ownsRow_lit (e := 3) (size := 1) w #[] 0 (Nat.le_refl _) (by decide) rfl)
  clear h
  go_wp2_with fail
  go_loopw [5, 6] (fun q i wr => ∃ (k : Nat) (os : List Int), k ≤ m ∧ i = .int .i64 k ∧ Hid (os.length = k) ∧ Hid (∀ j, j < os.length → 0 ≤ nth os j ∧ nth os j ≤ 4) ∧ Hid (CurO L X v bs wr) ∧ Hid (wr.ownsRow w.heap.size 3 1 q os.length (os.map (Value.int .i64))) ∧ Hid (Only X (X + 1) w wr)) (fun _ i _ => m - (intOf i).toNat)
  case atStart => exact ⟨0, [], Nat.zero_le _, rfl, rfl, fun j hj => absurd hj (by simp), C1.out, R1.out, O1.out⟩
  case round =>
    clear C1 R1 O1
    obtain ⟨k, os, hk, rfl, HL, HD, HC, HR, HO⟩ := hrel
    by_cases hlt : k < m
    · skip
      go_wp2_with (first | (go_at_call_of 96 (Value.int .i64 5); refine (l01Below_any L X v bs _ _ HC.out).mono ?_; rintro e w4 ⟨x4, rfl, p4, q4, _, c4, o4⟩; have q4 := q4 (by omega); have HR4 := Lib.hid (own_curP HR.out o4 hX); have HO4 := Lib.hid (HO.out.trans o4); have HC4 := Lib.hid c4; have z4 := HO4.out.size; clear o4 c4) | (at_builtin; refine wpList_append_src _ rfl _ _ 29 rfl w.heap.size 3 i0 (.int .i64 0) 1 8 Tryd.underlying29 hi0 hz0 hz1 hz2 rfl (by decide) _ _ _ rfl (HR4.out.alloc _) _ 1 [x4] rfl (lit_oneO _ _ _ rfl) (nilOk_some _ _ _) (by have := HL.out; omega) (by decide) (by simp; omega) ?_; intro v' w7 hown hgrow hat; have HR7 := Lib.hid (int_rowO hown); have HC7 := Lib.hid (cur_appP HC4.out HR4.out hgrow hX); have HO7 := Lib.hid (only_past (HO4.out.alloc _) (Only.of_grown (lo := w.heap.size) (hi := w4.heap.size + 1) hgrow fun b hb => by have := HR4.out.lt b hb; omega) (Nat.le_refl _)); clear hown hgrow hat))
      go_roundw
      case rel => exact ⟨k + 1, os ++ [x4], by omega, by go_num, Lib.hid (by simp [HL.out]), bd_push HD.out p4 (by omega), HC7.out, HR7.out, HO7.out⟩
      case measure => simp [intOf]; omega
    · obtain rfl : k = m := by omega
      obtain ⟨adu, capu, rfl⟩ := own_form HR.out
      go_wp2_with fail
      go_ret
      exact ⟨_, _, os, rfl, by have := HL.out; omega, HD.out, HR.out, HC.out, HO.out⟩

set_option maxRecDepth 100000 in
set_option maxHeartbeats 4000000 in
theorem l37Some_any (L X : Nat) (v : Value) (bs : List Int) (w : World) (h : CurO L X v bs w) (n : Nat) (hn : 1 ≤ n) : Calls Tryd.prog 82 #[.pointer (some ⟨X, 0, none⟩), .int .i64 n] w fun e w' => ∃ ad cap os, e = .returned (.slice ad os.length cap) ∧ os.length ≤ 5 ∧ (∀ j, j < os.length → 0 ≤ nth os j ∧ nth os j ≤ (n : Int) - 1) ∧ w'.ownsRow w.heap.size 3 1 (.slice ad os.length cap) os.length (os.map (Value.int .i64)) ∧ CurO L X v bs w' ∧ Only X (X + 1) w w' := by
  obtain ⟨i0, hi0, hz0, hz1, hz2⟩ := info_parts infoInt'
  go_enter Tryd.func82, Tryd.ntmps82
  have hX := h.xl
  have C1 := Lib.hid (h.below (balloc (bref w) (.cells #[] 3)))
  have O1 := Lib.hid ((Only.refl X (X + 1) w).alloc (.cells #[] 3))
  have R1 := Lib.hid (World.ownsRow_lit (e := 3) (size := 1) w #[] 0 (Nat.le_refl _) (by decide) rfl)
  clear h
  go_wp2_with (first | (go_at_call_of 96 (Value.int .i64 6); refine (l01Below_any L X v bs _ _ C1.out).mono ?_; rintro e w2 ⟨x2, rfl, p2, q2, _, c2, o2⟩; have q2 := q2 (by omega); have C1 := Lib.hid c2; have O1 := Lib.hid (O1.out.trans o2); have R1 := Lib.hid (own_curP R1.out o2 hX); clear c2 o2))
  obtain ⟨m, rfl⟩ := Int.eq_ofNat_of_zero_le p2
  have hmn : (if (1 : Int) < (n : Int) then (n : Int) else 1) = (n : Int) := by split <;> omega
  go_loopw [5, 7] (fun q i wr => ∃ (k : Nat) (os : List Int), k ≤ m ∧ i = .int .i64 k ∧ Hid (os.length = k) ∧ Hid (∀ j, j < os.length → 0 ≤ nth os j ∧ nth os j ≤ (n : Int) - 1) ∧ Hid (CurO L X v bs wr) ∧ Hid (wr.ownsRow w.heap.size 3 1 q os.length (os.map (Value.int .i64))) ∧ Hid (Only X (X + 1) w wr)) (fun _ i _ => m - (intOf i).toNat)
  case atStart => exact ⟨0, [], Nat.zero_le _, rfl, rfl, fun j hj => absurd hj (by simp), C1.out, R1.out, O1.out⟩
  case round =>
    clear C1 R1 O1
    obtain ⟨k, os, hk, rfl, HL, HD, HC, HR, HO⟩ := hrel
    by_cases hlt : k < m
    · skip
      go_wp2_with (first | (go_at_call_of 96 (Value.int .i64 (n : Int)); refine (l01Below_any L X v bs _ _ HC.out).mono ?_; rintro e w4 ⟨x4, rfl, p4, q4, _, c4, o4⟩; have q4 := q4 (by omega); have HR4 := Lib.hid (own_curP HR.out o4 hX); have HO4 := Lib.hid (HO.out.trans o4); have HC4 := Lib.hid c4; have z4 := HO4.out.size; clear o4 c4) | (at_builtin; refine wpList_append_src _ rfl _ _ 29 rfl w.heap.size 3 i0 (.int .i64 0) 1 8 Tryd.underlying29 hi0 hz0 hz1 hz2 rfl (by decide) _ _ _ rfl (HR4.out.alloc _) _ 1 [x4] rfl (lit_oneO _ _ _ rfl) (nilOk_some _ _ _) (by have := HL.out; omega) (by decide) (by simp; omega) ?_; intro v' w7 hown hgrow hat; have HR7 := Lib.hid (int_rowO hown); have HC7 := Lib.hid (cur_appP HC4.out HR4.out hgrow hX); have HO7 := Lib.hid (only_past (HO4.out.alloc _) (Only.of_grown (lo := w.heap.size) (hi := w4.heap.size + 1) hgrow fun b hb => by have := HR4.out.lt b hb; omega) (Nat.le_refl _)); clear hown hgrow hat))
      go_roundw
      case rel => exact ⟨k + 1, os ++ [x4], by omega, by go_num, Lib.hid (by simp [HL.out]), bd_push HD.out p4 (by omega), HC7.out, HR7.out, HO7.out⟩
      case measure => simp [intOf]; omega
    · obtain rfl : k = m := by omega
      obtain ⟨adu, capu, rfl⟩ := own_form HR.out
      go_wp2_with fail
      go_ret
      exact ⟨_, _, os, rfl, by have := HL.out; omega, HD.out, HR.out, HC.out, HO.out⟩

set_option maxRecDepth 100000 in
set_option maxHeartbeats 2000000 in
theorem drawOwners_any (v : Value) (bs : List Int) (w : World) (h : Bytes w v bs) : Calls Tryd.prog 42 #[v] w fun e w' => ∃ ad cap ad2 cap2 ad3 cap3 n xs os ss, e = .returned (.tuple #[.slice ad n cap, .slice ad2 os.length cap2, .slice ad3 ss.length cap3]) ∧ chainOk n xs = true ∧ n ≤ 10 ∧ os.length = n ∧ ss.length ≤ 5 ∧ (∀ j, j < os.length → 0 ≤ nth os j ∧ nth os j ≤ 4) ∧ (∀ j, j < ss.length → 0 ≤ nth ss j ∧ nth ss j ≤ (n : Int) - 1) ∧ NilOk (.slice ad3 ss.length cap3) ∧ Recs 3 w' (.slice ad n cap) n xs ∧ Ints w' (.slice ad2 os.length cap2) os ∧ Ints w' (.slice ad3 ss.length cap3) ss ∧ Below w.heap.size w w' := by
  go_enter Tryd.func42, Tryd.ntmps42
  go_wp2_with (first | (go_at_call 68; refine (l01New_any v bs w h).mono ?_; rintro e w1 ⟨X, rfl, c1, hb1⟩; have lX := c1.lt; have yX := c1.xl; have HB1 := Lib.hid hb1; clear hb1) | (go_at_call 80; refine (l31List_any _ X v bs _ c1).mono ?_; rintro e w2 ⟨ad, n, cap, xs, rfl, HD, h1, h10, hr2, c2, o2⟩; have B2 := Lib.hid (Only.below HB1.out o2 lX); have hch := HD.chain h1 (by omega); have z2 := o2.size; have HR2 := Lib.hid hr2; clear c1 o2 hr2) | (go_at_call 81; refine (l37Owners_any _ X v bs _ c2 ad n cap (by omega)).mono ?_; rintro e w3 ⟨ad2, cap2, os, rfl, hol, hob, hm3, c3, o3⟩; have HR3 := Lib.hid (own_curP HR2.out o3 yX); have HM3 := Lib.hid hm3; have B3 := Lib.hid (Only.below B2.out o3 lX); have z3 := o3.size; have c3' := Lib.hid c3; have HOL := Lib.hid hol; clear c2 hm3 o3 c3 hol) | (go_at_call 82; refine (l37Some_any _ X v bs _ c3'.out n h1).mono ?_; rintro e w4 ⟨ad3, cap3, ss, rfl, hsl, hsb, hm4, c4, o4⟩; have HR4 := Lib.hid (own_curP HR3.out o4 yX); have HM4 := Lib.hid (own_curP HM3.out o4 (by omega)); have HS4 := Lib.hid hm4; have B4 := Lib.hid (Only.below B3.out o4 lX); clear o4 c4 hm4))
  refine bodyPost_ret (v := .tuple #[.slice ad n cap, .slice ad2 os.length cap2, .slice ad3 ss.length cap3]) (by simp [results, Tryd.results42, go_sem]) rfl ?_
  exact ⟨_, _, _, _, _, _, n, xs, os, ss, rfl, hch, h10, HOL.out, hsl, hob, hsb, nilOk_own HS4.out, Recs.of_own HR4.out (by omega), Ints.of_own HM4.out (by have := HOL.out; omega), Ints.of_own HS4.out (by omega), B4.out⟩
end Go.Proofs.YtdeongecbmjkjaaDoor
