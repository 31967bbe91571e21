/- Drawn chains, walked. -/
import Derived.Test.YtdeongecbmjkjaaDoorPick
import Derived.Test.YtdeongecbmjkjaaDoorChainFn
import Derived.Test.YtdeongecbmjkjaaDoorCopyInts
import Derived.Deep.RegionWith
import Derived.Deep.RegionHeld3
namespace Go.Proofs.YtdeongecbmjkjaaDoor
open Go.ChangeShapes Go.WideShapes Go.ChangeAt Go.RowKit

theorem nth_appl {xs zs : List Int} {k : Nat} (h : k < xs.length) : nth (xs ++ zs) k = nth xs k := by simp [nth, List.getElem?_append, h]
theorem nth_appr {xs zs : List Int} {k j : Nat} (h : k = xs.length + j) : nth (xs ++ zs) k = nth zs j := by
  subst h
  simp only [nth, List.getD_eq_getElem?_getD]
  rw [List.getElem?_append_right (by omega), show xs.length + j - xs.length = j by omega]
theorem cpOk_ext {xs zs : List Int} {k : Nat} (h : k * 3 + 3 ≤ xs.length) : cpOk (xs ++ zs) k = cpOk xs k := by
  have e0 : cP (xs ++ zs) k = cP xs k := nth_appl (by omega)
  have e1 : cD (xs ++ zs) k = cD xs k := nth_appl (by omega)
  have e2 : cE (xs ++ zs) k = cE xs k := nth_appl (by omega)
  unfold cpOk
  rw [e0, e1, e2]
/-- n copies of a drawn chain -/
structure ChainD (n : Nat) (xs : List Int) : Prop where
  len : xs.length = n * 3
  ok : allTo (cpOk xs) n = true
theorem ChainD.push {n : Nat} {xs : List Int} (h : ChainD n xs) {p d e : Int} (p0 : -1 ≤ p) (p1 : p < n) (d0 : -1000000 ≤ d) (d1 : d ≤ 1000000) (e0 : 0 ≤ e) (e1 : e ≤ 1000) : ChainD (n + 1) (xs ++ [p, d, e]) := by
  obtain ⟨hl, ho⟩ := h
  refine ⟨by simp; omega, allTo_of fun j hj => ?_⟩
  rcases Nat.lt_or_ge j n with q | q
  · rw [cpOk_ext (by omega)]; exact allTo_at ho q
  · obtain rfl : j = n := by omega
    have f0 : cP (xs ++ [p, d, e]) j = p := nth_appr (j := 0) (by omega)
    have f1 : cD (xs ++ [p, d, e]) j = d := nth_appr (j := 1) (by omega)
    have f2 : cE (xs ++ [p, d, e]) j = e := nth_appr (j := 2) (by omega)
    exact cpOk_t (by rw [f0]; simp [inB]; omega) (by rw [f1]; simp [inB]; omega) (by rw [f2]; simp [inB]; omega)
theorem chainD_one {e : Int} (e0 : 0 ≤ e) (e1 : e ≤ 1000) : ChainD 1 [-1, 1000, e] := ChainD.push (n := 0) (xs := []) ⟨rfl, rfl⟩ (by omega) (by omega) (by omega) (by omega) e0 e1
theorem ChainD.chain {n : Nat} {xs : List Int} (h : ChainD n xs) (h0 : 1 ≤ n) (h1 : n ≤ 12) : chainOk n xs = true := chainOk_t (by simp [inB]; omega) h.ok
theorem only_past {lo hi lo' hi' : Nat} {a w w' : World} (h : Only lo hi a w) (k : Only lo' hi' w w') (hl : a.heap.size ≤ lo') : Only lo hi a w' :=
  ⟨k.os.trans h.os, k.tape.trans h.tape, k.output.trans h.output, Nat.le_trans h.size k.size, fun i hi hn => (k.block i (Nat.lt_of_lt_of_le hi h.size) (by omega)).trans (h.block i hi hn)⟩
theorem lit_copy (w : World) (B : Nat) (p d e : Int) (hB : B = w.heap.size) : Recs 3 (w.alloc (.cells #[.int .i64 p, .int .i64 d, .int .i64 e] 96)) (.slice (some ⟨B, 0, none⟩) 1 1) 1 [p, d, e] := by
  subst hB
  exact Recs.of_own (base := w.heap.size) (e := 96) (by have := World.ownsRow_lit (e := 96) (size := 3) w #[.int .i64 p, .int .i64 d, .int .i64 e] 1 (Nat.le_refl _) (by decide) rfl; simpa using this) (by omega)
theorem copy_row {w : World} {B n : Nat} {v : Value} {xs : List Int} {p d e : Int} (h : w.ownsRow B 96 3 v (n + 1) (xs.map (Value.int .i64) ++ [p, d, e].map (Value.int .i64))) : w.ownsRow B 96 3 v (n + 1) ((xs ++ [p, d, e]).map (Value.int .i64)) := by
  rw [List.map_append]; exact h

set_option maxRecDepth 100000 in
set_option maxHeartbeats 4000000 in
theorem l31List_any (L X : Nat) (v : Value) (bs : List Int) (w : World) (h : CurO L X v bs w) : Calls Tryd.prog 80 #[.pointer (some ⟨X, 0, none⟩)] w fun e w' => ∃ ad n cap xs, e = .returned (.slice ad n cap) ∧ ChainD n xs ∧ 1 ≤ n ∧ n ≤ 10 ∧ w'.ownsRow w.heap.size 96 3 (.slice ad n cap) n (xs.map (Value.int .i64)) ∧ CurO L X v bs w' ∧ Only X (X + 1) w w' := by
  obtain ⟨i0, hi0, hz0, hz1, hz2⟩ := info_parts infoCopy'
  go_enter Tryd.func80, Tryd.ntmps80
  have hX := h.xl
  go_wp2_with (first | (go_at_call_of 96 (Value.int .i64 3); refine (l01Below_any L X v bs _ _ h).mono ?_; rintro e w1 ⟨x1, rfl, p1, q1, _, c1, o1⟩; have q1 := q1 (by omega); have C1 := Lib.hid (c1.below (balloc (bref w1) (.cells #[.int .i64 (-1), .int .i64 1000, .int .i64 x1] 96))); have O1 := Lib.hid (o1.alloc (.cells #[.int .i64 (-1), .int .i64 1000, .int .i64 x1] 96)); have R1 := Lib.hid (own_base (B' := w.heap.size) (World.ownsRow_lit (e := 96) (size := 3) w1 #[.int .i64 (-1), .int .i64 1000, .int .i64 x1] 1 (Nat.le_refl _) (by decide) rfl) o1.size); have D1 := Lib.hid (chainD_one p1 (by omega)); clear c1 o1 h) | (go_at_call_of 96 (Value.int .i64 9); refine (l01Below_any L X v bs _ _ C1.out).mono ?_; rintro e w2 ⟨x2, rfl, p2, q2, _, c2, o2⟩; have q2 := q2 (by omega); have R2 := Lib.hid (own_curP R1.out o2 hX); have O2 := Lib.hid (O1.out.trans o2); have C2 := Lib.hid c2; clear c2 o2))
  obtain ⟨n, rfl⟩ := Int.eq_ofNat_of_zero_le p2
  go_loopw [3, 5] (fun u i wr => ∃ (k : Nat) (xs : List Int), 1 ≤ k ∧ k ≤ n + 1 ∧ i = .int .i64 k ∧ Hid (ChainD k xs) ∧ Hid (CurO L X v bs wr) ∧ Hid (wr.ownsRow w.heap.size 96 3 u k (xs.map (Value.int .i64))) ∧ Hid (Only X (X + 1) w wr)) (fun _ i _ => n + 1 - (intOf i).toNat)
  case atStart => exact ⟨1, _, Nat.le_refl _, by omega, rfl, D1.out, C2.out, R2.out, O2.out⟩
  case round =>
    clear D1 C2 R2 O2 C1 R1 O1
    obtain ⟨k, xs, hk1, hk, rfl, HD, HC, HR, HO⟩ := hrel
    by_cases hlt : k < n + 1
    · have hle : (k : Int) ≤ n := by omega
      go_wp2_with (first | (go_at_call_of 96 (Value.int .i64 (k : Int)); refine (l01Below_any L X v bs _ _ HC.out).mono ?_; rintro e w3 ⟨x3, rfl, p3, q3, _, c3, o3⟩; have q3 := q3 (by omega); have HR3 := Lib.hid (own_curP HR.out o3 hX); have HO3 := Lib.hid (HO.out.trans o3); have HC3 := Lib.hid c3; clear o3 c3) | (go_at_call 93; refine (l01Once_any L X v bs _ _ HC3.out).mono ?_; rintro e w4 ⟨b, rfl, c4, o4⟩; have HR4 := Lib.hid (own_curP HR3.out o4 hX); have HO4 := Lib.hid (HO3.out.trans o4); have HC4 := Lib.hid c4; clear o4 c4) | (go_at_call_of 96 (Value.int .i64 21); refine (l01Below_any L X v bs _ _ HC4.out).mono ?_; rintro e w5 ⟨x5, rfl, p5, q5, _, c5, o5⟩; have q5 := q5 (by omega); have HR5 := Lib.hid (own_curP HR4.out o5 hX); have HO5 := Lib.hid (HO4.out.trans o5); have HC5 := Lib.hid c5; clear o5 c5) | (go_at_call_of 96 (Value.int .i64 6); refine (l01Below_any L X v bs _ _ HC5.out).mono ?_; rintro e w6 ⟨x6, rfl, p6, q6, _, c6, o6⟩; have q6 := q6 (by omega); have HR6 := Lib.hid (own_curP HR5.out o6 hX); have HO6 := Lib.hid (HO5.out.trans o6); have HC6 := Lib.hid c6; have z6 := HO6.out.size; clear o6 c6) | (at_builtin; refine wpList_append_src _ rfl _ _ 51 rfl w.heap.size 96 i0 (.agg #[.int .i64 0, .int .i64 0, .int .i64 0]) 3 24 Tryd.underlying51 hi0 hz0 hz1 hz2 rfl (by decide) _ _ _ rfl (HR6.out.alloc _) _ 1 [_, _, _] rfl (lit_copy _ _ _ _ _ rfl) (nilOk_some _ _ _) (by omega) (by decide) (by simp; omega) ?_; intro v' w7 hown hgrow hat; have HR7 := Lib.hid (copy_row hown); have HC7 := Lib.hid (cur_appP HC6.out HR6.out hgrow hX); have HO7 := Lib.hid (only_past (HO6.out.alloc _) (Only.of_grown (lo := w.heap.size) (hi := w6.heap.size + 1) hgrow fun b hb => by have := HR6.out.lt b hb; omega) (Nat.le_refl _)); clear hown hgrow hat))
      all_goals
        go_roundw
        case rel => exact ⟨k + 1, _, by omega, by omega, by go_num, HD.out.push (by omega) (by omega) (by omega) (by omega) (by omega) (by omega), HC7.out, HR7.out, HO7.out⟩
        case measure => simp [intOf]; omega
    · obtain rfl : k = n + 1 := by omega
      obtain ⟨adu, capu, rfl⟩ := own_form HR.out
      go_wp2_with fail
      go_ret
      exact ⟨_, _, _, xs, rfl, HD.out, hk1, by omega, HR.out, HC.out, HO.out⟩
end Go.Proofs.YtdeongecbmjkjaaDoor
