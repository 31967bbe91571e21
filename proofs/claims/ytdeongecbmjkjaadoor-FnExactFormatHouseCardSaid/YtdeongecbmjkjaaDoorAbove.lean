/- The walks of isCopy, above and AboveIn, in the program and in the reference. -/
import Derived.Test.YtdeongecbmjkjaaDoorChain
import Derived.Test.YtdeongecbmjkjaaDoorOwnL
import Derived.Laws.NewBlocks
namespace Go.Proofs.YtdeongecbmjkjaaDoor
open Go.ChangeShapes Go.WideShapes Go.ChangeAt Go.RowKit

theorem isCopy_any (v : Value) (n : Nat) (xs : List Int) (k : Int) (w : World) (h : Recs 3 w v n xs) : Calls Tryd.prog 73 #[v, .int .i64 k] w fun e w' => e = .returned (.bool (chainOk n xs && inB k 0 ((n : Int) - 1))) ∧ Below w.heap.size w w' := by
  have hv := h
  have hn := h.len
  obtain ⟨hl, he, ad, cap, rfl, hc⟩ := h
  clear hc he
  cases h1 : chainOk n xs with
  | false =>
    go_enter Tryd.func73, Tryd.ntmps73
    go_wp2_with fail
    refine (implChainOk_any _ n xs _ hv).mono ?_
    rintro e w1 ⟨rfl, hb1⟩
    rw [h1]
    go_wp2
    go_ret
    exact ⟨rfl, hb1⟩
  | true =>
    go_enter Tryd.func73, Tryd.ntmps73
    go_wp2_with fail
    refine (implChainOk_any _ n xs _ hv).mono ?_
    rintro e w1 ⟨rfl, hb1⟩
    rw [h1]
    go_wp2_with (go_at_call 54; refine (in_any _ _ _ _).mono ?_; rintro e w' ⟨rfl, rfl⟩)
    go_ret
    exact ⟨ret_bool (by simp), hb1⟩

set_option maxRecDepth 100000 in
theorem above_any (v : Value) (n : Nat) (xs : List Int) (k0 : Int) (w : World) (h : Recs 3 w v n xs) (hch : chainOk n xs = true) (h0 : 0 ≤ k0) (h1 : k0 < n) : Calls Tryd.prog 74 #[v, .int .i64 k0] w (GivesN w (upL xs k0)) := by
  obtain ⟨i0, hi, hz0, hz1, hz2⟩ := info_parts Tryd.infoInt
  have hn12 := (chainOk_n hch).2
  obtain ⟨hl, he, ad, cap, rfl, hc⟩ := h
  have hat := fun k hk => at3 (w := w) he hc k hk
  clear hc he
  go_enter Tryd.func74, Tryd.ntmps74
  go_wp2_with fail
  go_loopw [1, 5] (fun kk v wr => ∃ (k : Int) (L : List Int) (f : Nat), kk = .int .i64 k ∧ -1 ≤ k ∧ k < n ∧ k + 1 ≤ f ∧ L.length + f ≤ 12 ∧ Hid (L ++ upFrom xs f k = upL xs k0) ∧
      wr.ownsRow w.heap.size 3 1 v L.length (L.map (Value.int .i64)) ∧ (v = .slice none 0 0 ↔ L = []) ∧ Below w.heap.size w wr) (fun kk _ _ => (intOf kk + 1).toNat)
  case atStart => exact ⟨k0, [], 12, rfl, by omega, by omega, by omega, by simp, rfl, World.ownsRow_nil _ _ _ _, by simp, bref _⟩
  case round =>
    obtain ⟨k, L, f, rfl, hk1, hk2, hkf, hlf, hx, hown, hnl, hbel⟩ := hrel
    by_cases h0 : 0 ≤ k
    · obtain ⟨f, rfl⟩ : ∃ f', f = f' + 1 := ⟨f - 1, by omega⟩
      obtain ⟨b, o, rfl, e0, e1, e2, hb⟩ := hat k.toNat (by omega)
      have hp := chainOk_p hch (k := k.toNat) (by omega)
      obtain ⟨p1, p2⟩ := hp
      have hb' := hbel.cell (p := ⟨b, o + k.toNat * 3, none⟩) hb
      rw [← hb'] at e0
      have z1 := hbel.size
      have lb : b < wr.heap.size := by omega
      have HX := Lib.hid (show (L ++ [k]) ++ upFrom xs f (cP xs k.toNat) = upL xs k0 by rw [← hx.out, upFrom_yes h0]; simp)
      have HC := Lib.hid e0
      clear hat e0 e1 e2 hb'
      have HNL := Lib.hid hnl
      clear hnl
      go_wp2_with (at_builtin; refine wpList_append_own _ rfl _ _ 29 rfl w.heap.size 3 i0 (.int .i64 0) 1 8 Tryd.underlying29 hi hz0 hz1 hz2 rfl (by decide) _ _ _ rfl (hown.alloc _) ⟨wr.heap.size, 0, none⟩ 1 1 [.int .i64 k] rfl rfl (cell_one_new _ _ _) (ints_oneCell .i64 [k]) (by unfold maxLen; omega) (by omega) (by simp; omega) ?_; intro v' w1 hown' hgrow hnil; have e3 := kept_cell hown hgrow hb HC.out; have HR := Lib.hid (app_step hown hown' hgrow hbel (Nat.le_refl _)); have HN := Lib.hid (nil_step (L := L) (k := k) hnil); clear hown hown' hgrow hbel hnil)
      go_roundw
      case rel => exact ⟨cP xs k.toNat, L ++ [k], f, rfl, p1, by omega, by omega, by simp; omega, HX.out, HR.out.1, HN.out, HR.out.2⟩
      case measure => simp [intOf]; omega
    · have HX := Lib.hid (show L = upL xs k0 by rw [← hx.out, upFrom_no h0]; simp)
      have HO := Lib.hid hown
      have HN := Lib.hid hnl
      have HB := Lib.hid hbel
      clear hat hown hbel hnl
      go_wp2
      go_ret
      rw [← HX.out]
      exact ⟨_, rfl, HO.out, HN.out, HB.out⟩

theorem implAboveIn (v : Value) (n : Nat) (xs : List Int) (k : Int) (w : World) (h : Recs 3 w v n xs) : Calls Tryd.prog 72 #[v, .int .i64 k] w (GivesN w (aboveL n xs k)) := by
  have hv := h
  obtain ⟨hl, he, ad, cap, rfl, hc⟩ := h
  clear hc he
  cases h1 : chainOk n xs with
  | false =>
    have H := Lib.hid (aboveL_c (k := k) h1)
    go_enter Tryd.func72, Tryd.ntmps72
    go_wp2_with fail
    refine (isCopy_any _ n xs k _ hv).mono ?_
    rintro e w1 ⟨rfl, hb1⟩
    rw [h1]
    go_wp2
    go_ret
    rw [H.out]
    exact ⟨_, rfl, World.ownsRow_nil _ _ _ _, by simp, hb1⟩
  | true =>
    cases h2 : inB k 0 ((n : Int) - 1) with
    | false =>
      have H := Lib.hid (aboveL_k (xs := xs) h2)
      go_enter Tryd.func72, Tryd.ntmps72
      go_wp2_with fail
      refine (isCopy_any _ n xs k _ hv).mono ?_
      rintro e w1 ⟨rfl, hb1⟩
      rw [h1, h2]
      go_wp2
      go_ret
      rw [H.out]
      exact ⟨_, rfl, World.ownsRow_nil _ _ _ _, by simp, hb1⟩
    | true =>
      have H := Lib.hid (aboveL_t h1 h2)
      have hk := inB_le h2
      obtain ⟨k1, k2⟩ := hk
      go_enter Tryd.func72, Tryd.ntmps72
      go_wp2_with fail
      refine (isCopy_any _ n xs k _ hv).mono ?_
      rintro e w1 ⟨rfl, hb1⟩
      rw [h1, h2]
      go_wp2_with fail
      refine (above_any _ n xs k _ (hv.below hb1) h1 k1 (by omega)).mono ?_
      rintro e w2 ⟨v', rfl, hown, hnl, hb2⟩
      have HO := Lib.hid hown
      have HN := Lib.hid hnl
      clear hown hnl
      go_wp2
      go_ret
      rw [H.out]
      exact ⟨_, rfl, own_base HO.out hb1.size, HN.out, bnext hb1 hb2⟩

set_option maxRecDepth 100000 in
theorem specAboveIn (v : Value) (n : Nat) (xs : List Int) (k0 : Int) (w : World) (h : Recs 3 w v n xs) : Calls Tryd.prog 88 #[v, .int .i64 k0] w (Gives w (aboveL n xs k0)) := by
  obtain ⟨i0, hi, hz0, hz1, hz2⟩ := info_parts Tryd.infoInt
  have hv := h
  obtain ⟨hl, he, ad, cap, rfl, hc⟩ := h
  have hat := fun k hk => at3 (w := w) he hc k hk
  clear hc he
  go_enter Tryd.func88, Tryd.ntmps88
  go_wp2_with fail
  refine (specChainOk_any _ n xs _ (hv.alloc _)).mono ?_
  rintro e w1 ⟨rfl, hb1⟩
  have hown1 := own_below (World.ownsRow_lit (e := 3) (size := 1) w #[] 0 (Nat.le_refl _) (by decide) rfl) hb1
  have HO1 := Lib.hid hown1
  have HB1 := Lib.hid (bnext (balloc (bref w) _) hb1)
  clear hown1 hb1
  cases hch : chainOk n xs with
  | false =>
    have H := Lib.hid (aboveL_c (k := k0) hch)
    clear hat
    go_wp2
    go_ret
    rw [H.out]
    exact ⟨_, rfl, by simpa using HO1.out, HB1.out⟩
  | true =>
    have hn12 := (chainOk_n hch).2
    cases h2 : inB k0 0 ((n : Int) - 1) with
    | false =>
      have H := Lib.hid (aboveL_k (xs := xs) h2)
      clear hat
      go_wp2_with (go_at_call 52; refine (l01In_any _ _ _ _).mono ?_; rintro e w' ⟨rfl, rfl⟩)
      go_ret
      rw [H.out]
      exact ⟨_, rfl, by simpa using HO1.out, HB1.out⟩
    | true =>
      have H := Lib.hid (aboveL_t hch h2)
      have hk := inB_le h2
      obtain ⟨k1, k2⟩ := hk
      go_wp2_with (go_at_call 52; refine (l01In_any _ _ _ _).mono ?_; rintro e w' ⟨rfl, rfl⟩)
      go_loopw [1, 5] (fun kk v wr => ∃ (k : Int) (L : List Int) (f : Nat), kk = .int .i64 k ∧ -1 ≤ k ∧ k < n ∧ k + 1 ≤ f ∧ L.length + f ≤ 12 ∧ Hid (L ++ upFrom xs f k = upL xs k0) ∧
          wr.ownsRow w.heap.size 3 1 v L.length (L.map (Value.int .i64)) ∧ Below w.heap.size w wr) (fun kk _ _ => (intOf kk + 1).toNat)
      case atStart => exact ⟨k0, [], 12, rfl, by omega, by omega, by omega, by simp, rfl, by simpa using HO1.out, HB1.out⟩
      case round =>
        obtain ⟨k, L, f, rfl, hk1, hk2, hkf, hlf, hx, hown, hbel⟩ := hrel
        by_cases h0 : 0 ≤ k
        · obtain ⟨f, rfl⟩ : ∃ f', f = f' + 1 := ⟨f - 1, by omega⟩
          obtain ⟨b, o, rfl, e0, e1, e2, hb⟩ := hat k.toNat (by omega)
          have hp := chainOk_p hch (k := k.toNat) (by omega)
          obtain ⟨p1, p2⟩ := hp
          have hb' := hbel.cell (p := ⟨b, o + k.toNat * 3, none⟩) hb
          rw [← hb'] at e0
          have z1 := hbel.size
          have lb : b < wr.heap.size := by omega
          have HX := Lib.hid (show (L ++ [k]) ++ upFrom xs f (cP xs k.toNat) = upL xs k0 by rw [← hx.out, upFrom_yes h0]; simp)
          have HC := Lib.hid e0
          clear hat e0 e1 e2 hb'
          go_wp2_with (at_builtin; refine wpList_append_own _ rfl _ _ 29 rfl w.heap.size 3 i0 (.int .i64 0) 1 8 Tryd.underlying29 hi hz0 hz1 hz2 rfl (by decide) _ _ _ rfl (hown.alloc _) ⟨wr.heap.size, 0, none⟩ 1 1 [.int .i64 k] rfl rfl (cell_one_new _ _ _) (ints_oneCell .i64 [k]) (by unfold maxLen; omega) (by omega) (by simp; omega) ?_; intro v' w1 hown' hgrow hnil; have e3 := kept_cell hown hgrow hb HC.out; have HR := Lib.hid (app_step hown hown' hgrow hbel (Nat.le_refl _)); clear hown hown' hgrow hbel hnil)
          go_roundw
          case rel => exact ⟨cP xs k.toNat, L ++ [k], f, rfl, p1, by omega, by omega, by simp; omega, HX.out, HR.out.1, HR.out.2⟩
          case measure => simp [intOf]; omega
        · have HX := Lib.hid (show L = upL xs k0 by rw [← hx.out, upFrom_no h0]; simp)
          have HO := Lib.hid hown
          have HB := Lib.hid hbel
          clear hat hown hbel
          go_wp2
          go_ret
          rw [H.out, ← HX.out]
          exact ⟨_, rfl, HO.out, HB.out⟩


end Go.Proofs.YtdeongecbmjkjaaDoor
