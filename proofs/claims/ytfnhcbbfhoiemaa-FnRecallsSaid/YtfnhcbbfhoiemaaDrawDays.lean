/- Drawn days, walked. -/
import Derived.Test.YtfnhcbbfhoiemaaDrawList
import Derived.Test.YtfnhcbbfhoiemaaRecFn
import Derived.Test.YtfnhcbbfhoiemaaCode
import Derived.Deep.DeepCutAuto
namespace Go.Proofs.Ytfnhcbbfhoiemaa
open Go.ChangeShapes Go.WideShapes Go.ChangeAt Go.RowKit

theorem int_row {w : World} {B : Nat} {v : Value} {xs : List Int} {x : Int} (h : w.ownsRow B 3 1 v (xs.length + 1) (xs.map (Value.int .i64) ++ [x].map (Value.int .i64))) : w.ownsRow B 3 1 v (xs ++ [x]).length ((xs ++ [x]).map (Value.int .i64)) := by
  rw [List.map_append, List.length_append]; exact h
/-- days of the first m copies -/
structure DaysD (xs ms : List Int) (m : Nat) : Prop where
  len : ms.length = m
  ok : allTo (dayOk xs ms) m = true
  bd : ∀ j, j < m → 0 ≤ nth ms j ∧ nth ms j ≤ 7 + 5 * (j : Int)
theorem DaysD.push {n m : Nat} {xs ms : List Int} (h : DaysD xs ms m) (hc : ∀ j, j < n → -1 ≤ cP xs j ∧ cP xs j < j) (hm : m < n) (hn : n ≤ 12) {d : Int} (d0 : 0 ≤ d) (d1 : (cP xs m < 0 ∧ d ≤ 7) ∨ (0 ≤ cP xs m ∧ nth ms (cP xs m).toNat ≤ d ∧ d ≤ nth ms (cP xs m).toNat + 5)) : DaysD xs (ms ++ [d]) (m + 1) := by
  obtain ⟨hl, ho, hb⟩ := h
  have e0 : ∀ j, j < m → nth (ms ++ [d]) j = nth ms j := fun j hj => nth_appl (by omega)
  have e1 : nth (ms ++ [d]) m = d := nth_appr (j := 0) (by omega)
  have hp := hc m hm
  refine ⟨by simp; omega, allTo_of fun j hj => ?_, fun j hj => ?_⟩
  · rcases Nat.lt_or_ge j m with q | q
    · have h1 := allTo_at ho q
      have hpj := hc j (by omega)
      unfold dayOk at h1 ⊢
      rw [e0 j q]
      rcases Int.lt_or_le (cP xs j) 0 with z | z
      · simpa [z] using h1
      · rw [e0 (cP xs j).toNat (by omega)]; exact h1
    · obtain rfl : j = m := by omega
      rcases d1 with ⟨z, d1⟩ | ⟨z, d1, d2⟩
      · exact dayOk_2 (by rw [e1]; simp [inB]; omega) z
      · have := hb (cP xs j).toNat (by omega)
        exact dayOk_3 (by rw [e1]; simp [inB]; omega) (by rw [e1, e0 _ (by omega)]; exact d1)
  · rcases Nat.lt_or_ge j m with q | q
    · rw [e0 j q]; exact hb j q
    · obtain rfl : j = m := by omega
      rw [e1]
      rcases d1 with ⟨z, d1⟩ | ⟨z, d1, d2⟩
      · omega
      · have := hb (cP xs j).toNat (by omega)
        omega

set_option maxRecDepth 100000 in
set_option maxHeartbeats 4000000 in
theorem l36Days_any (L X : Nat) (v : Value) (bs : List Int) (w : World) (h : CurO L X v bs w) (B0 n : Nat) (u : Value) (xs : List Int) (hu : w.ownsRow B0 35 3 u n (xs.map (Value.int .i64))) (hB0 : X < B0) (hch : chainOk n xs = true) (hlen : xs.length = n * 3) : Calls Try.prog 60 #[.pointer (some ⟨X, 0, none⟩), u] w fun e w' => ∃ ad cap ms, e = .returned (.slice ad ms.length cap) ∧ DaysD xs ms n ∧ w'.ownsRow w.heap.size 3 1 (.slice ad ms.length cap) ms.length (ms.map (Value.int .i64)) ∧ CurO L X v bs w' ∧ Only X (X + 1) w w' := by
  obtain ⟨i0, hi0, hz0, hz1, hz2⟩ := info_parts infoInt'
  have hn := (chainOk_n hch).2
  have hcp : ∀ j, j < n → -1 ≤ cP xs j ∧ cP xs j < j := fun j hj => chainOk_p hch hj
  have HCP := Lib.hid hcp
  have HLX := Lib.hid hlen
  obtain ⟨adl, capl, rfl⟩ := own_form hu
  have HU := Lib.hid hu
  go_enter Try.func60, Try.ntmps60
  have hX := h.xl
  have C1 := Lib.hid (h.below (balloc (bref w) (.cells #[] 3)))
  have O1 := Lib.hid ((Only.refl X (X + 1) w).alloc (.cells #[] 3))
  have R1 := Lib.hid (World.ownsRow_lit (e := 3) (size := 1) w #[] 0 (Nat.le_refl _) (by decide) rfl)
  clear h hu hch hcp hlen
  go_wp2_with fail
  go_loopw [5, 6] (fun q i wr => ∃ (k : Nat) (ms : List Int), k ≤ n ∧ i = .int .i64 k ∧ Hid (DaysD xs ms k) ∧ Hid (CurO L X v bs wr) ∧ Hid (wr.ownsRow w.heap.size 3 1 q ms.length (ms.map (Value.int .i64))) ∧ Hid (Only X (X + 1) w wr)) (fun _ i _ => n - (intOf i).toNat)
  case atStart => exact ⟨0, [], Nat.zero_le _, rfl, ⟨rfl, rfl, fun j hj => absurd hj (by omega)⟩, C1.out, R1.out, O1.out⟩
  case round =>
    clear C1 R1 O1
    obtain ⟨k, ms, hk, rfl, HD, HC, HR, HO⟩ := hrel
    have HL : Hid (ms.length = k) := HD.out.len
    by_cases hlt : k < n
    · have HUr := Lib.hid (own_curP HU.out HO.out hB0)
      obtain ⟨_, _, _, _, hv, hc⟩ := Recs.of_own HUr.out (by omega)
      cases hv
      obtain ⟨b, o, rfl, e0, _, _, hbl⟩ := at3 HLX.out hc k hlt
      have hbX : b ≠ X := by have := (HUr.out.lt b rfl).1; omega
      obtain ⟨hp0, hp1⟩ := HCP.out k hlt
      clear hc
      rcases Int.lt_or_le (cP xs k) 0 with hz | hz
      · have hin : inB (cP xs k) 0 ((k : Int) - 1) = false := by simp [inB]; omega
        go_wp2_with (first | (go_at_call_of 61 (Value.int .i64 8); refine (l01Below_any L X v bs _ _ HC.out).mono ?_; rintro e w4 ⟨x4, rfl, p4, q4, _, c4, o4⟩; have q4 := q4 (by omega); have HR4 := Lib.hid (own_curP HR.out o4 hX); have HO4 := Lib.hid (HO.out.trans o4); have HC4 := Lib.hid c4; have z4 := HO4.out.size; have e0 := (World.cell?_of_block (o4.block b hbl (by omega))).trans e0; clear o4 c4) | (go_at_call 77; refine (l01In_any _ _ _ _).mono ?_; rw [hin]; rintro e w' ⟨rfl, rfl⟩) | (at_builtin; refine wpList_append_src _ rfl _ _ 25 rfl w.heap.size 3 i0 (.int .i64 0) 1 8 Try.underlying25 hi0 hz0 hz1 hz2 rfl (by decide) _ _ _ rfl (HR4.out.alloc _) _ 1 [x4] rfl (ints_recs (lit_ints _ _ 1 [x4] _ rfl rfl (by simp) rfl)) (nilOk_some _ _ _) (by have := HL.out; omega) (by decide) (by simp; omega) ?_; intro v' w7 hown hgrow hat; have HR7 := Lib.hid (int_row hown); have HC7 := Lib.hid (cur_appP HC4.out HR4.out hgrow hX); have HO7 := Lib.hid (only_past (HO4.out.alloc _) (Only.of_grown (lo := w.heap.size) (hi := w4.heap.size + 1) hgrow fun b hb => by have := HR4.out.lt b hb; omega) (Nat.le_refl _)); clear hown hgrow hat))
        go_roundw
        case rel => exact ⟨k + 1, ms ++ [x4], by omega, by go_num, HD.out.push HCP.out hlt hn p4 (.inl ⟨hz, by omega⟩), HC7.out, HR7.out, HO7.out⟩
        case measure => simp [intOf]; omega
      · have hin : inB (cP xs k) 0 ((k : Int) - 1) = true := by simp [inB]; omega
        obtain ⟨p, hp⟩ := Int.eq_ofNat_of_zero_le hz
        obtain ⟨hb0, hb1⟩ := HD.out.bd p (by omega)
        rw [hp] at hin e0 hz hp1
        have HP := Lib.hid hp
        go_wp2_with (first | (go_at_call_of 61 (Value.int .i64 8); refine (l01Below_any L X v bs _ _ HC.out).mono ?_; rintro e w3 ⟨x3, rfl, p3, q3, _, c3, o3⟩; have q3 := q3 (by omega); have HR3 := Lib.hid (own_curP HR.out o3 hX); have HO3 := Lib.hid (HO.out.trans o3); have HC3 := Lib.hid c3; have e1 := (World.cell?_of_block (o3.block b hbl (by omega))).trans e0; have hbl3 : b < w3.heap.size := Nat.lt_of_lt_of_le hbl o3.size; clear o3 c3) | (go_at_call 77; refine (l01In_any _ _ _ _).mono ?_; rw [hin]; rintro e w' ⟨rfl, rfl⟩))
        clear hp hp0
        obtain ⟨_, ad2, cap2, rfl, hc2⟩ := Ints.of_own HR3.out (by have := HL.out; omega)
        obtain ⟨b2, o2, rfl, f1⟩ := hc2 p (by have := HL.out; omega)
        have hb2 := HR3.out.lt b2 rfl
        clear hc2
        have hpm : p < ms.length := by have := HL.out; omega
        generalize hdp : nth ms p = dp at *
        have HDP := Lib.hid hdp
        clear hdp
        have HCd := Lib.hid (HC3.out.below (bdrew (bref w3)))
        have HRd := Lib.hid (own_below HR3.out (bdrew (bref w3)))
        have HOd := Lib.hid (HO3.out.step (bdrew (bref w3)))
        go_upto_region 7 with fail
        go_region_held3 (fun w' => w'.cell? ⟨b, o + k * 3, none⟩ = some (.int .i64 p) ∧ w'.cell? ⟨b2, o2 + p, none⟩ = some (.int .i64 dp))
          (refine ⟨?_, ?_⟩ <;> go_simp)
          (first | (go_at_call_of 61 (Value.int .i64 6); refine (l01Below_any L X v bs _ _ HCd.out).mono ?_; rintro e w4 ⟨x4, rfl, p4, q4, _, c4, o4⟩; have q4 := q4 (by omega); have HR4 := Lib.hid (own_curP HRd.out o4 hX); have HO4 := Lib.hid (HOd.out.trans o4); have HC4 := Lib.hid c4; have z4 := HO4.out.size; have e2 : w4.cell? ⟨b, o + k * 3, none⟩ = some (.int .i64 p) := (World.cell?_of_block (o4.block b hbl3 (by omega))).trans e1; have f2 : w4.cell? ⟨b2, o2 + p, none⟩ = some (.int .i64 dp) := (World.cell?_of_block (o4.block b2 hb2.2 (by omega))).trans f1; have vd : IntKind.i64.wrap (dp + x4) = dp + x4 := (by rw [IntKind.wrap_i64]; omega); clear o4 c4))
        all_goals
          go_wp2_with (first | (at_builtin; refine wpList_append_src _ rfl _ _ 25 rfl w.heap.size 3 i0 (.int .i64 0) 1 8 Try.underlying25 hi0 hz0 hz1 hz2 rfl (by decide) _ _ _ rfl (HR4.out.alloc _) _ 1 [dp + x4] rfl (ints_recs (lit_ints _ _ 1 [dp + x4] _ rfl rfl (by simp) rfl)) (nilOk_some _ _ _) (by have := HL.out; omega) (by decide) (by simp; omega) ?_; intro v' w7 hown hgrow hat; have HR7 := Lib.hid (int_row hown); have HC7 := Lib.hid (cur_appP HC4.out HR4.out hgrow hX); have HO7 := Lib.hid (only_past (HO4.out.alloc _) (Only.of_grown (lo := w.heap.size) (hi := w4.heap.size + 1) hgrow fun b hb => by have := HR4.out.lt b hb; omega) (Nat.le_refl _)); clear hown hgrow hat))
          go_roundw
          case rel => exact ⟨k + 1, ms ++ [dp + x4], by omega, by go_num, HD.out.push HCP.out hlt hn (by omega) (.inr ⟨by rw [HP.out]; omega, by rw [HP.out]; simp only [Int.toNat_natCast]; rw [HDP.out]; omega, by rw [HP.out]; simp only [Int.toNat_natCast]; rw [HDP.out]; omega⟩), HC7.out, HR7.out, HO7.out⟩
          case measure => simp [intOf]; omega
    · obtain rfl : k = n := by omega
      obtain ⟨adu, capu, rfl⟩ := own_form HR.out
      go_wp2_with fail
      go_ret
      exact ⟨_, _, ms, rfl, HD.out, HR.out, HC.out, HO.out⟩
end Go.Proofs.Ytfnhcbbfhoiemaa
