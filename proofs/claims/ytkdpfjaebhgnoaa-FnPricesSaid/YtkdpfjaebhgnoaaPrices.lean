/- Drawn goods, and the law of prices, walked. -/
import Derived.Test.YtkdpfjaebhgnoaaPricesFn
import Derived.Test.YtkdpfjaebhgnoaaCode
import Derived.Test.YtkdpfjaebhgnoaaOwnL
import Derived.Test.YtkdpfjaebhgnoaaCopyInts
namespace Go.Proofs.Ytkdpfjaebhgnoaa
open Go.ChangeShapes Go.WideShapes Go.ChangeAt Go.RowKit

/-- a row beside the cursor -/
theorem own_cur {w w' : World} {B X n : Nat} {e : TypeId} {s : Nat} {v : Value} {xs : List Value} (h : w.ownsRow B e s v n xs) (ho : Only X (X + 1) w w') (hX : X < B) : w'.ownsRow B e s v n xs :=
  own_only h ho fun b hb hq => by have := (h.lt b hb).1; omega
/-- the cursor behind an append -/
theorem cur_app {L X B : Nat} {v u : Value} {bs : List Int} {w w' : World} {o : Obj} {e : TypeId} {s n : Nat} {xs : List Value} (h : CurO L X v bs w) (hown : w.ownsRow B e s u n xs) (hg : (w.alloc o).grownBy w' u.ownBlock) (hX : X < B) : CurO L X v bs w' :=
  (h.below (balloc (bref w) o)).only (lo := B) (hi := w.heap.size + 1) (Only.of_grown hg fun k hk => by have := hown.lt k hk; omega) hX
theorem below_app' {a w w' : World} {B : Nat} {u : Value} {o : Obj} {e : TypeId} {s n : Nat} {xs : List Value} (h : Below a.heap.size a w) (hown : w.ownsRow B e s u n xs) (hg : (w.alloc o).grownBy w' u.ownBlock) (hB : a.heap.size ≤ B) : Below a.heap.size a w' :=
  (balloc h o).grown hg (by have := h.size; simp; omega) fun k hk => by have := (hown.lt k hk).1; omega
set_option maxRecDepth 100000 in
set_option maxHeartbeats 2000000 in
theorem drawGoods_any (v : Value) (bs : List Int) (w : World) (h : Bytes w v bs) : Calls Try.prog 41 #[v] w fun e w' => ∃ u xs p, e = .returned (.tuple #[u, .int .i64 p]) ∧ Goods xs p ∧ w'.ownsRow w.heap.size 3 1 u xs.length (xs.map (Value.int .i64)) ∧ Below w.heap.size w w' := by
  obtain ⟨i0, hi0, hz0, hz1, hz2⟩ := info_parts infoInt'
  go_enter Try.func41, Try.ntmps41
  go_wp2_with (first | (go_at_call 76; refine (l01New_any v bs w h).mono ?_; rintro e w1 ⟨X, rfl, c0, hb1⟩; have R0 := Lib.hid (World.ownsRow_lit (e := 3) (size := 1) w1 #[] 0 (Nat.le_refl _) (by decide) rfl); have c0' := c0.below (balloc (bref w1) (.cells #[] 3)); have D1 := Lib.hid (balloc hb1 (.cells #[] 3)); have yX := c0.xl; have lX := c0.lt; clear hb1 c0) | (go_at_call 77; refine (l01Below_any _ _ _ _ 8 _ c0').mono ?_; rintro e w2 ⟨x1, rfl, p1, q1, r1, c1, o1⟩))
  have hn : x1 < 8 := q1 (by omega)
  obtain ⟨n, rfl⟩ := Int.eq_ofNat_of_zero_le p1
  have R1 := Lib.hid (own_cur R0.out o1 yX)
  have D2 := Lib.hid (Only.below D1.out o1 lX)
  have zw2 : w1.heap.size ≤ w2.heap.size := by have q := o1.size; simp at q; omega
  clear q1 r1 o1
  go_loopw [5, 7] (fun u i wr => ∃ (k : Nat) (xs : List Int), k ≤ n ∧ i = .int .i64 k ∧ xs.length = k ∧ Hid (∀ j, j < xs.length → 0 ≤ nth xs j ∧ nth xs j < 900) ∧ CurO w.heap.size X v bs wr ∧ wr.ownsRow w1.heap.size 3 1 u k (xs.map (Value.int .i64)) ∧ w1.heap.size ≤ wr.heap.size ∧ Hid (Below w.heap.size w wr)) (fun _ i _ => n - (intOf i).toNat)
  case atStart => exact ⟨0, [], Nat.zero_le _, rfl, rfl, fun j hj => absurd hj (by simp), c1, R1.out, zw2, D2⟩
  case round =>
    obtain ⟨k, xs, hk, rfl, hxl, HE, hcur, hown, zr, HB⟩ := hrel
    by_cases hlt : k < n
    · go_wp2_with (first | (go_at_call 77; refine (l01Below_any _ _ _ _ 900 _ hcur).mono ?_; rintro e w3 ⟨x2, rfl, p2, q2, r2, c2, o2⟩; have hown2 := own_cur hown o2 yX; have D3 := Only.below HB.out o2 lX; have z3 := o2.size) | (at_builtin; refine wpList_append_own _ rfl _ _ 22 rfl w1.heap.size 3 i0 (.int .i64 0) 1 8 Try.underlying22 hi0 hz0 hz1 hz2 rfl (by decide) _ _ _ rfl (hown2.alloc _) ⟨w3.heap.size, 0, none⟩ 1 1 [.int .i64 x2] rfl rfl (cell_one_new _ _ _) (ints_oneCell .i64 [x2]) (by unfold maxLen; omega) (by omega) (by simp; omega) ?_; intro v' w4 hown' hgrow hnil; have z4 : w3.heap.size + 1 ≤ w4.heap.size := (by have q := hgrow.size; simp at q; exact q); have HO := Lib.hid hown'; have HC := Lib.hid (cur_app c2 hown2 hgrow yX); have HD := Lib.hid (below_app' D3 hown2 hgrow (Nat.le_trans lX (Nat.le_of_lt yX))); clear hown' hgrow hnil))
      go_roundw
      case rel =>
        refine ⟨k + 1, xs ++ [x2], by omega, by go_num, by simp [hxl], fun j hj => ?_, HC.out, by simpa using HO.out, by omega, HD⟩
        simp at hj
        rcases Nat.lt_or_ge j xs.length with z | z
        · have := HE.out j z
          simpa [nth, List.getElem?_append, z] using this
        · obtain rfl : j = xs.length := by omega
          have := q2 (by omega)
          simp [nth]; omega
      case measure => simp [intOf]; omega
    · obtain rfl : k = n := by omega
      have HO := Lib.hid hown
      go_wp2_with (first | (go_at_call 77; refine (l01Below_any _ _ _ _ 4000 _ hcur).mono ?_; rintro e w3 ⟨x2, rfl, p2, q2, r2, c2, o2⟩))
      have hp := q2 (by omega)
      obtain ⟨adu, capu, rfl⟩ := own_form HO.out
      refine bodyPost_ret (v := .tuple #[.slice adu k capu, .int .i64 (1 + x2)]) (by simp [results, Try.results41, go_sem]) rfl ?_
      refine ⟨_, xs, 1 + x2, rfl, ⟨by omega, HE.out, by omega, by omega⟩, ?_, Only.below HB.out o2 lX⟩
      have h1 := own_base (B' := w.heap.size) (own_cur HO.out o2 yX) (by omega)
      rw [hxl]
      exact h1

theorem int_wf {x : Int} (h0 : -9223372036854775808 ≤ x) (h1 : x ≤ 9223372036854775807) : (Lit.int .i64 x).wf = true := by
  simp [Lit.wf, IntKind.min, IntKind.max, IntKind.signed, IntKind.bits]; omega
set_option maxRecDepth 100000 in
set_option maxHeartbeats 4000000 in
theorem fnPrices_any (v : Value) (bs : List Int) (w : World) (h : Bytes w v bs) : Calls Try.prog 10 #[v] w fun e w' => e = .returned (.bool true) ∧ Below w.heap.size w w' := by
  by_cases hbig : (1048576 : Int) < bs.length
  · have hd : decide ((1048576 : Int) < bs.length) = true := by simp; omega
    go_enter Try.func10, Try.ntmps10
    go_wp2_with (first | (go_at_call 40; refine (big_any v bs w h).mono ?_; rw [hd]; rintro e w' ⟨rfl, rfl⟩))
    go_ret
    exact ⟨rfl, bref _⟩
  · have hd : decide ((1048576 : Int) < bs.length) = false := by simp; omega
    go_enter Try.func10, Try.ntmps10
    go_wp2_with (first | (go_at_call 40; refine (big_any v bs w h).mono ?_; rw [hd]; rintro e w' ⟨rfl, rfl⟩) | (go_at_call 41; refine (drawGoods_any v bs w h).mono ?_; rintro e w1 ⟨u, xs, p, rfl, G, hown, hb1⟩; obtain ⟨adu, capu, rfl⟩ := own_form hown; have hI := Ints.of_own hown (by have := G.len; omega); have hB := h.below hb1; have p0 := G.p0; have p1 := G.p1; have hl7 := G.len; clear hown) | (go_at_call 34; refine (implLossOf _ xs p _ hI).mono ?_; rintro e w2 ⟨rfl, hb2⟩; have hI2 := hI.below hb2; have hB2 := hB.below hb2) | (go_at_call 42; refine (at_any v bs 0 _ hB2 (by omega)).mono ?_; rintro e w' ⟨a0, rfl, a1, a2, rfl⟩))
    obtain ⟨hg0, hg1, hg2, hg3⟩ := grams_props (m := a0 * 9) p0 (by omega) (by omega) (by omega)
    refine (implGramsFor _ p _).mono ?_
    rintro e w' ⟨rfl, rfl⟩
    generalize gramsFor (a0 * 9) p = g at *
    have bg := priceOf_bd g p
    have bg1 := priceOf_bd (g + 1) p
    have D2 := Lib.hid (bnext hb1 hb2)
    have HI2 := Lib.hid hI2
    have HG := Lib.hid G
    have hbS := priceOf_bd (sumTo (nth xs) xs.length) p
    obtain ⟨hs0, hs1, hs2, _⟩ := G.sum _ (Nat.le_refl _)
    have hE1 : priceOfAll xs p = priceOf (sumTo (nth xs) xs.length) p + lossOf xs p := by have a := G.all; have b := G.loss.1; unfold sumI at b; omega
    have hL1 : 2 * lossOf xs p ≤ xs.length + 1 := G.loss.2.1
    have hL2 : 2 * (- lossOf xs p) ≤ xs.length + 1 := G.loss.2.2
    have hE3 := G.thousand
    clear hb1 hb2 hI hI2 hB G
    have key : ∀ g : Int, True := fun _ => trivial
    clear key
    by_cases hgt : g < 100000
    · have hg4 := hg3 hgt
      go_wp2_with (first | (go_at_call 44; refine (implPriceOf _ p _).mono ?_; rintro e w' ⟨rfl, rfl⟩))
      go_loopw [9, 10] (fun s i wr => ∃ k : Nat, k ≤ xs.length ∧ i = .int .i64 k ∧ s = .int .i64 (sumTo (nth xs) k) ∧ Hid (Below w2.heap.size w2 wr)) (fun _ i _ => xs.length - (intOf i).toNat)
      case atStart => exact ⟨0, Nat.zero_le _, rfl, rfl, bref _⟩
      case round =>
        obtain ⟨k, hk, rfl, rfl, HB⟩ := hrel
        have hI := HI2.out.below HB.out
        obtain ⟨sk0, sk1, _⟩ := HG.out.sum k hk
        by_cases hlt : k < xs.length
        · obtain ⟨_, ad2, cap2, hv, hc⟩ := hI
          cases hv
          obtain ⟨b, o, rfl, e0⟩ := hc k hlt
          obtain ⟨x0, x1⟩ := HG.out.each k hlt
          obtain ⟨b1, b2, b3, b4, b5, b6⟩ := HG.out.price_bd hlt
          have HS := Lib.hid (show sumTo (nth xs) (k + 1) = sumTo (nth xs) k + nth xs k from rfl)
          have wr1 : IntKind.i64.wrap (1000 * priceOf (nth xs k) p) = 1000 * priceOf (nth xs k) p := by rw [IntKind.wrap_i64]; omega
          have wr2 : IntKind.i64.wrap (nth xs k * p) = nth xs k * p := by rw [IntKind.wrap_i64]; generalize nth xs k * p = y at *; omega
          have wr3 : IntKind.i64.wrap (1000 * priceOf (nth xs k) p - nth xs k * p) = 1000 * priceOf (nth xs k) p - nth xs k * p := by rw [IntKind.wrap_i64]; generalize nth xs k * p = y at *; omega
          have wr4 : IntKind.i64.wrap (nth xs k * p - 1000 * priceOf (nth xs k) p) = nth xs k * p - 1000 * priceOf (nth xs k) p := by rw [IntKind.wrap_i64]; generalize nth xs k * p = y at *; omega
          have wm : (if 1000 * priceOf (nth xs k) p - nth xs k * p < nth xs k * p - 1000 * priceOf (nth xs k) p then nth xs k * p - 1000 * priceOf (nth xs k) p else 1000 * priceOf (nth xs k) p - nth xs k * p) ≤ 500 ∧ 0 ≤ (if 1000 * priceOf (nth xs k) p - nth xs k * p < nth xs k * p - 1000 * priceOf (nth xs k) p then nth xs k * p - 1000 * priceOf (nth xs k) p else 1000 * priceOf (nth xs k) p - nth xs k * p) := by
            generalize nth xs k * p = y at *
            split <;> omega
          have wr5 : IntKind.i64.wrap (2 * (if 1000 * priceOf (nth xs k) p - nth xs k * p < nth xs k * p - 1000 * priceOf (nth xs k) p then nth xs k * p - 1000 * priceOf (nth xs k) p else 1000 * priceOf (nth xs k) p - nth xs k * p)) = 2 * (if 1000 * priceOf (nth xs k) p - nth xs k * p < nth xs k * p - 1000 * priceOf (nth xs k) p then nth xs k * p - 1000 * priceOf (nth xs k) p else 1000 * priceOf (nth xs k) p - nth xs k * p) := by
            rw [IntKind.wrap_i64]; generalize (if 1000 * priceOf (nth xs k) p - nth xs k * p < nth xs k * p - 1000 * priceOf (nth xs k) p then nth xs k * p - 1000 * priceOf (nth xs k) p else 1000 * priceOf (nth xs k) p - nth xs k * p) = z at *; omega
          have wm2 : 2 * (if 1000 * priceOf (nth xs k) p - nth xs k * p < nth xs k * p - 1000 * priceOf (nth xs k) p then nth xs k * p - 1000 * priceOf (nth xs k) p else 1000 * priceOf (nth xs k) p - nth xs k * p) ≤ 1000 := by have := wm.1; omega
          clear wm
          have hn0 : ¬ priceOf (nth xs k) p < 0 := by omega
          clear hc
          go_wp2_with (first | (go_at_call 44; refine (implPriceOf _ p _).mono ?_; rintro e w' ⟨rfl, rfl⟩))
          go_quiet (fail)
          go_wp2
          go_roundw
          case rel => exact ⟨k + 1, by omega, by go_num, by rw [HS.out], bdrewN HB.out _⟩
          case measure => simp [intOf]; omega
        · obtain rfl : k = xs.length := by omega
          have hBr := (h.below D2.out).below HB.out
          have hIr := HI2.out.below HB.out
          go_wp2_with (first | (go_at_call 42; refine (at_any v bs 1 _ hBr (by omega)).mono ?_; rintro e w' ⟨t, rfl, t1, t2, rfl⟩; have hT : priceAfterTare (sumTo (nth xs) xs.length + t) t p = priceOf (sumTo (nth xs) xs.length) p := HG.out.tare t1) | (go_at_call 17; refine (implPriceOfAll _ xs p _ hIr).mono ?_; rintro e w3 ⟨rfl, hb3⟩; have HB3 := Lib.hid hb3; clear hb3) | (go_at_call 45; refine (implPriceAfterTare _ t p _ (int_wf (by omega) (by omega)) (int_wf (by omega) (by omega))).mono ?_; rintro e w' ⟨rfl, rfl⟩) | (go_at_call 44; refine (implPriceOf _ p _).mono ?_; rintro e w' ⟨rfl, rfl⟩))
          all_goals
            go_ret
            exact ⟨rfl, bnext (bnext D2.out HB.out) HB3.out⟩
    · obtain rfl : g = 100000 := by omega
      go_wp2_with (first | (go_at_call 44; refine (implPriceOf _ p _).mono ?_; rintro e w' ⟨rfl, rfl⟩))
      go_loopw [9, 10] (fun s i wr => ∃ k : Nat, k ≤ xs.length ∧ i = .int .i64 k ∧ s = .int .i64 (sumTo (nth xs) k) ∧ Hid (Below w2.heap.size w2 wr)) (fun _ i _ => xs.length - (intOf i).toNat)
      case atStart => exact ⟨0, Nat.zero_le _, rfl, rfl, bref _⟩
      case round =>
        obtain ⟨k, hk, rfl, rfl, HB⟩ := hrel
        have hI := HI2.out.below HB.out
        obtain ⟨sk0, sk1, _⟩ := HG.out.sum k hk
        by_cases hlt : k < xs.length
        · obtain ⟨_, ad2, cap2, hv, hc⟩ := hI
          cases hv
          obtain ⟨b, o, rfl, e0⟩ := hc k hlt
          obtain ⟨x0, x1⟩ := HG.out.each k hlt
          obtain ⟨b1, b2, b3, b4, b5, b6⟩ := HG.out.price_bd hlt
          have HS := Lib.hid (show sumTo (nth xs) (k + 1) = sumTo (nth xs) k + nth xs k from rfl)
          have wr1 : IntKind.i64.wrap (1000 * priceOf (nth xs k) p) = 1000 * priceOf (nth xs k) p := by rw [IntKind.wrap_i64]; omega
          have wr2 : IntKind.i64.wrap (nth xs k * p) = nth xs k * p := by rw [IntKind.wrap_i64]; generalize nth xs k * p = y at *; omega
          have wr3 : IntKind.i64.wrap (1000 * priceOf (nth xs k) p - nth xs k * p) = 1000 * priceOf (nth xs k) p - nth xs k * p := by rw [IntKind.wrap_i64]; generalize nth xs k * p = y at *; omega
          have wr4 : IntKind.i64.wrap (nth xs k * p - 1000 * priceOf (nth xs k) p) = nth xs k * p - 1000 * priceOf (nth xs k) p := by rw [IntKind.wrap_i64]; generalize nth xs k * p = y at *; omega
          have wm : (if 1000 * priceOf (nth xs k) p - nth xs k * p < nth xs k * p - 1000 * priceOf (nth xs k) p then nth xs k * p - 1000 * priceOf (nth xs k) p else 1000 * priceOf (nth xs k) p - nth xs k * p) ≤ 500 ∧ 0 ≤ (if 1000 * priceOf (nth xs k) p - nth xs k * p < nth xs k * p - 1000 * priceOf (nth xs k) p then nth xs k * p - 1000 * priceOf (nth xs k) p else 1000 * priceOf (nth xs k) p - nth xs k * p) := by
            generalize nth xs k * p = y at *
            split <;> omega
          have wr5 : IntKind.i64.wrap (2 * (if 1000 * priceOf (nth xs k) p - nth xs k * p < nth xs k * p - 1000 * priceOf (nth xs k) p then nth xs k * p - 1000 * priceOf (nth xs k) p else 1000 * priceOf (nth xs k) p - nth xs k * p)) = 2 * (if 1000 * priceOf (nth xs k) p - nth xs k * p < nth xs k * p - 1000 * priceOf (nth xs k) p then nth xs k * p - 1000 * priceOf (nth xs k) p else 1000 * priceOf (nth xs k) p - nth xs k * p) := by
            rw [IntKind.wrap_i64]; generalize (if 1000 * priceOf (nth xs k) p - nth xs k * p < nth xs k * p - 1000 * priceOf (nth xs k) p then nth xs k * p - 1000 * priceOf (nth xs k) p else 1000 * priceOf (nth xs k) p - nth xs k * p) = z at *; omega
          have wm2 : 2 * (if 1000 * priceOf (nth xs k) p - nth xs k * p < nth xs k * p - 1000 * priceOf (nth xs k) p then nth xs k * p - 1000 * priceOf (nth xs k) p else 1000 * priceOf (nth xs k) p - nth xs k * p) ≤ 1000 := by have := wm.1; omega
          clear wm
          have hn0 : ¬ priceOf (nth xs k) p < 0 := by omega
          clear hc
          go_wp2_with (first | (go_at_call 44; refine (implPriceOf _ p _).mono ?_; rintro e w' ⟨rfl, rfl⟩))
          go_quiet (fail)
          go_wp2
          go_roundw
          case rel => exact ⟨k + 1, by omega, by go_num, by rw [HS.out], bdrewN HB.out _⟩
          case measure => simp [intOf]; omega
        · obtain rfl : k = xs.length := by omega
          have hBr := (h.below D2.out).below HB.out
          have hIr := HI2.out.below HB.out
          go_wp2_with (first | (go_at_call 42; refine (at_any v bs 1 _ hBr (by omega)).mono ?_; rintro e w' ⟨t, rfl, t1, t2, rfl⟩; have hT : priceAfterTare (sumTo (nth xs) xs.length + t) t p = priceOf (sumTo (nth xs) xs.length) p := HG.out.tare t1) | (go_at_call 17; refine (implPriceOfAll _ xs p _ hIr).mono ?_; rintro e w3 ⟨rfl, hb3⟩; have HB3 := Lib.hid hb3; clear hb3) | (go_at_call 45; refine (implPriceAfterTare _ t p _ (int_wf (by omega) (by omega)) (int_wf (by omega) (by omega))).mono ?_; rintro e w' ⟨rfl, rfl⟩) | (go_at_call 44; refine (implPriceOf _ p _).mono ?_; rintro e w' ⟨rfl, rfl⟩))
          all_goals
            go_ret
            exact ⟨rfl, bnext (bnext D2.out HB.out) HB3.out⟩
end Go.Proofs.Ytkdpfjaebhgnoaa
