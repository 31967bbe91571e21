/- Texts laid together: Letters, LettersV, WithFn. -/
import Derived.Test.YtlipfkalehikkaaGB
import Derived.Test.YtlipfkalehikkaaGC
import Derived.Test.YtlipfkalehikkaaGD
import Derived.Test.YtlipfkalehikkaaGF
import Derived.Test.YtlipfkalehikkaaGA
/- The walks of LettersFor, in the program and in the reference. -/
namespace Go.Proofs.Ytlipfkalehikkaa
open Go.ChangeShapes Go.WideShapes Go.ChangeAt Go.RowKit

theorem infoLet : (Try.prog.info? 76).map (fun i => (i.zero, i.size, i.bytes)) = some (some (.agg #[.int .i64 0, .slice none 0 0]), 2, 32) := by kernel_rfl
theorem one_let (x : Int) (s : Value) (hs : s.oneCell' = true) : ∀ u, u ∈ [Value.int .i64 x, s] → u.oneCell' = true := by
  intro u hu
  simp at hu
  rcases hu with rfl | rfl
  · rfl
  · exact hs
theorem cell_two_new' (w : World) (b : Nat) (x y : Value) (t : TypeId) (hb : b = w.heap.size) : ∀ j u, [x, y][j]? = some u → (w.alloc (.cells #[x, y] t)).cell? ((⟨b, 0, none⟩ : Addr).add j) = some u := by
  subst hb
  intro j u hj
  rw [Addr.add_lit, Nat.zero_add]
  rw [World.cell?_alloc_new]
  simpa using hj
set_option maxRecDepth 100000 in
set_option maxHeartbeats 1000000 in
theorem implLettersFor (v : Value) (n : Nat) (xs : List Int) (u : Value) (os : List Int) (va : Value) (aff : List Int) (w : World) (h : Recs 3 w v n xs) (hO : Ints w u os) (hA : Ints w va aff) (hnA : NilOk va) (h20 : aff.length ≤ 1048576) :
    Calls Try.prog 50 #[v, u, va] w (fun e w' => ∃ ad cap, e = .returned (.slice ad (lettersFor n xs os aff).length cap) ∧ LetO w.heap.size w'.heap.size w' (.slice ad (lettersFor n xs os aff).length cap) (lettersFor n xs os aff) ∧ Below w.heap.size w w') := by
  obtain ⟨i0, hi0, hz0, hz1, hz2⟩ := info_parts infoInt'
  obtain ⟨j0, hj0, jz0, jz1, jz2⟩ := info_parts infoLet
  obtain ⟨adv, capv, rfl⟩ : ∃ ad cap, v = .slice ad n cap := by obtain ⟨_, _, ad, cap, hh, _⟩ := h; exact ⟨ad, cap, hh⟩
  obtain ⟨adu, capu, rfl⟩ : ∃ ad cap, u = .slice ad os.length cap := by obtain ⟨_, ad, cap, hh, _⟩ := hO; exact ⟨ad, cap, hh⟩
  obtain ⟨ada, capa, rfl⟩ : ∃ ad cap, va = .slice ad aff.length cap := by obtain ⟨_, ad, cap, hh, _⟩ := hA; exact ⟨ad, cap, hh⟩
  cases h1 : ownersOk n xs os with
  | false =>
    have HX := Lib.hid (letters_f (aff := aff) h1)
    go_enter Try.func50, Try.ntmps50
    go_wp2_with (first | (go_at_call 36; refine (implOwnersOk _ n xs _ os _ h hO).mono ?_; rw [h1]; rintro e w1 ⟨rfl, hb1⟩))
    go_ret
    rw [HX.out]
    exact ⟨none, 0, rfl, ⟨[], LetV.nil _ _ _⟩, hb1⟩
  | true =>
    have HCH := Lib.hid (ownersOk_chain h1)
    have hn12 := chainOk_n HCH.out.1
    go_enter Try.func50, Try.ntmps50
    go_wp2_with (first | (go_at_call 36; refine (implOwnersOk _ n xs _ os _ h hO).mono ?_; rw [h1]; rintro e w1 ⟨rfl, hb1⟩; have hA1 := hA.below hb1; have hO1 := Lib.hid (hO.below hb1); have D1 := Lib.hid hb1; clear hb1))
    have HA1 := Lib.hid hA1
    obtain ⟨_, ad2, cap2, hv, hc⟩ := hA1
    cases hv
    go_loop [20] (fun i => ∃ k : Nat, k ≤ aff.length ∧ i = .int .i64 k ∧ Hid (allTo (inChain n aff) k = true)) (fun i => aff.length - (intOf i).toNat)
    case atStart => exact ⟨0, Nat.zero_le _, rfl, rfl⟩
    case round =>
      obtain ⟨k, hk, rfl, HA⟩ := hrel
      by_cases hlt : k < aff.length
      · obtain ⟨b, o, rfl, e0⟩ := hc k hlt
        clear hc
        have hwn : wrap64 ((n : Int) - 1) = (n : Int) - 1 := IntWalk.wrap64_in _ (by omega)
        cases hin : inB (nth aff k) 0 ((n : Int) - 1) with
        | false =>
          have HX := Lib.hid (letters_g (xs := xs) (os := os) hlt hin)
          go_wp2_with (first | (go_at_call 38; refine (in_any _ _ _ _).mono ?_; rintro e w' ⟨rfl, rfl⟩))
          go_ret
          rw [HX.out]
          exact ⟨none, 0, rfl, ⟨[], LetV.nil _ _ _⟩, D1.out⟩
        | true =>
          have HX := Lib.hid (allTo_succ HA.out (show inChain n aff k = true from hin))
          go_wp2_with (first | (go_at_call 38; refine (in_any _ _ _ _).mono ?_; rintro e w' ⟨rfl, rfl⟩))
          go_round
          case rel => exact ⟨k + 1, by omega, by go_num, HX.out⟩
          case measure => simp [intOf]; omega
      · obtain rfl : k = aff.length := by omega
        have HX := Lib.hid (letters_t h1 HA.out)
        have HIC := Lib.hid (in_chain HA.out)
        clear hc
        go_wp2
        go_loopw [9, 10] (fun z i wr => ∃ (o : Nat) (vs : List Value) (ad : Option Addr) (cap : Nat), o ≤ 21 ∧ i = .int .i64 o ∧ z = .slice ad (postTo (diffL aff) os o).length cap ∧ LetV w1.heap.size wr.heap.size wr (.slice ad (postTo (diffL aff) os o).length cap) vs (postTo (diffL aff) os o) ∧ Hid (Below w1.heap.size w1 wr)) (fun _ i _ => 21 - (intOf i).toNat)
        case atStart => exact ⟨0, [], none, 0, by omega, rfl, rfl, LetV.nil _ _ _, bref _⟩
        case round =>
          obtain ⟨o, vs, ad, cap, ho, rfl, rfl, hL, HB⟩ := hrel
          have hpl := postTo_len (diffL aff) os o
          by_cases hlt2 : o < 21
          · have hAr := HA1.out.below HB.out
            go_wp2_with (first | (go_at_call 51; refine (different_any _ aff _ hAr hnA h20).mono ?_; rintro e w3 ⟨ad3, cap3, rfl, hown3, hb3⟩; have HD3 := Lib.hid (Ints.of_own hown3 (by have := diffL_len aff; omega)); have HL3 := Lib.hid ((hL.below hb3).wide (Nat.le_refl _) hb3.size); have HB3 := Lib.hid (bnext HB.out hb3); clear hown3 hb3))
            have hdl := diffL_len aff
            have z31 : w1.heap.size ≤ w3.heap.size := HB3.out.size
            go_loopw [11, 38] (fun l i wr => ∃ k : Nat, k ≤ (diffL aff).length ∧ i = .int .i64 k ∧ wr.ownsRow w3.heap.size 3 1 l (pickTo (diffL aff) os o k).length ((pickTo (diffL aff) os o k).map (Value.int .i64)) ∧ Hid (Below w3.heap.size w3 wr)) (fun _ i _ => (diffL aff).length - (intOf i).toNat)
            case atStart => exact ⟨0, Nat.zero_le _, rfl, World.ownsRow_nil _ _ _ _, bref _⟩
            case round =>
              obtain ⟨k, hk, rfl, hown, HC⟩ := hrel
              have hpk := pickTo_len (diffL aff) os o k
              have zr := HC.out.size
              by_cases hlt3 : k < (diffL aff).length
              · obtain ⟨_, ad5, cap5, hv5, hc5⟩ := HD3.out.below HC.out
                cases hv5
                obtain ⟨b5, o5, rfl, e0⟩ := hc5 k hlt3
                obtain ⟨m0, m1⟩ : 0 ≤ nth (diffL aff) k ∧ nth (diffL aff) k < n := by
                  have := diffL_mem.1 (nth_in hlt3)
                  obtain ⟨j, hj, e⟩ := List.getElem_of_mem this
                  have q := HIC.out j hj
                  rwa [show nth aff j = nth (diffL aff) k by rw [← e]; simp [nth, hj]] at q
                have m2 : (nth (diffL aff) k).toNat < os.length := by rw [HCH.out.2]; omega
                have m3 : nth (diffL aff) k < (os.length : Int) := by rw [HCH.out.2]; exact m1
                obtain ⟨_, ad6, cap6, hv6, hc6⟩ := (hO1.out.below HB3.out).below HC.out
                cases hv6
                obtain ⟨b6, o6, rfl, e6⟩ := hc6 _ m2
                clear hc5 hc6
                cases hq : (nth os (nth (diffL aff) k).toNat == (o : Int)) with
                | true =>
                  have HL5 := Lib.hid (pickTo_yes hlt3 hq)
                  go_wp2_with (first | (at_builtin; refine wpList_append_own _ rfl _ _ 25 rfl w3.heap.size 3 i0 (.int .i64 0) 1 8 Try.underlying25 hi0 hz0 hz1 hz2 rfl (by decide) _ _ _ rfl (hown.alloc _) ⟨wr.heap.size, 0, none⟩ 1 1 [.int .i64 (nth (diffL aff) k)] rfl rfl (cell_one_new _ _ _) (ints_oneCell .i64 [nth (diffL aff) k]) (by unfold maxLen; omega) (by omega) (by simp; omega) ?_; intro v' w4 hown' hgrow hnil; have HO := Lib.hid hown'; have HW := Lib.hid ((HC.out.alloc (by omega) _).grown hgrow (by simp; omega) (fun b e => (hown.lt b e).1)); clear hown' hgrow hnil))
                  go_roundw
                  case rel => exact ⟨k + 1, by omega, by go_num, by rw [HL5.out]; simpa using HO.out, HW⟩
                  case measure => simp [intOf]; omega
                | false =>
                  have HL5 := Lib.hid (pickTo_no hlt3 hq)
                  go_wp2
                  go_roundw
                  case rel => exact ⟨k + 1, by omega, by go_num, by rw [HL5.out]; exact hown, HC⟩
                  case measure => simp [intOf]; omega
              · obtain rfl : k = (diffL aff).length := by omega
                rw [pickTo_all] at hown hpk
                obtain ⟨ad4, cap4, rfl⟩ := own_form hown
                have HL4 := Lib.hid (HL3.out.below HC.out)
                have HB4 := Lib.hid (bnext HB3.out HC.out)
                by_cases hp0 : (pickO (diffL aff) os o).length = 0
                · have HN := Lib.hid (postTo_no hp0)
                  have hp1 : ¬ 0 < (pickO (diffL aff) os o).length := by omega
                  clear hown
                  go_wp2
                  go_roundw
                  case rel => exact ⟨o + 1, vs, ad, cap, by omega, by go_num, by rw [HN.out], by rw [HN.out]; exact HL4.out.wide (Nat.le_refl _) zr, HB4⟩
                  case measure => simp [intOf]; omega
                · have hp1 : 0 < (pickO (diffL aff) os o).length := by omega
                  have HN := Lib.hid (postTo_yes hp1)
                  have HR := Lib.hid (RowO.of hown)
                  have s1 := Lib.hid (show Sep (Value.slice ad (postTo (diffL aff) os o).length cap) (.slice ad4 (pickO (diffL aff) os o).length cap4) from fun b hb hb' => by have q1 := HL4.out.top b hb; have q2 := (hown.lt b hb').1; omega)
                  have s2 := Lib.hid (show ∀ i, i < (postTo (diffL aff) os o).length → Sep (vget vs i) (.slice ad4 (pickO (diffL aff) os o).length cap4) from fun i hi => RowO.sep (HL4.out.each i hi) HR.out (off_l (Nat.le_refl _)))
                  have HLA := Lib.hid (((HL4.out.wide (Nat.le_refl _) zr).below (balloc (bref wr) (.cells #[.int .i64 o, .slice ad4 (pickO (diffL aff) os o).length cap4] 76))).wide (Nat.le_refl _) (show wr.heap.size ≤ (wr.alloc (.cells #[.int .i64 o, .slice ad4 (pickO (diffL aff) os o).length cap4] 76)).heap.size by simp))
                  have HRA := Lib.hid ((HR.out.below (balloc (bref wr) (.cells #[.int .i64 o, .slice ad4 (pickO (diffL aff) os o).length cap4] 76))).wide z31 (show wr.heap.size ≤ (wr.alloc (.cells #[.int .i64 o, .slice ad4 (pickO (diffL aff) os o).length cap4] 76)).heap.size by simp))
                  have hrow := HLA.out.row
                  have zA : w1.heap.size ≤ wr.heap.size := by omega
                  clear hown
                  go_wp2_with (first | (at_builtin; refine wpList_append_own_at _ rfl _ _ 55 rfl w1.heap.size 76 j0 (.agg #[.int .i64 0, .slice none 0 0]) 2 32 Try.underlying55 hj0 jz0 jz1 jz2 rfl (by decide) _ _ _ rfl hrow ⟨wr.heap.size, 0, none⟩ 1 1 [.int .i64 o, .slice ad4 (pickO (diffL aff) os o).length cap4] rfl rfl (cell_two_new' _ _ _ _ _ rfl) (one_let _ _ rfl) (by unfold maxLen; omega) (by omega) (by simp; omega) ?_; intro v' w5 hown' hgrow hnil hat; obtain ⟨ad7, cap7, rfl⟩ := own_form hown'; have HP := Lib.hid (LetV.push HLA.out HRA.out s1.out s2.out hown' hgrow hat); have HW := Lib.hid ((HB4.out.alloc zA _).grown hgrow (by simp; omega) (fun b e => (hrow.lt b e).1)); clear hown' hgrow hnil hat hrow))
                  go_roundw
                  case rel => exact ⟨o + 1, _, ad7, cap7, by omega, by go_num, by rw [HN.out, List.length_append]; rfl, by rw [HN.out]; simpa using HP.out, HW⟩
                  case measure => simp [intOf]; omega
          · obtain rfl : o = 21 := by omega
            go_wp2
            go_ret
            rw [HX.out]
            exact ⟨_, _, rfl, LetO.wide ⟨vs, hL⟩ D1.out.size (Nat.le_refl _), bnext D1.out HB.out⟩

theorem LetV.lit {lo hi : Nat} {w : World} {g cap : Nat} (hrow : w.ownsRow lo 76 2 (.slice (some ⟨g, 0, none⟩) 0 cap) 0 []) (hg : g < hi) : LetV lo hi w (.slice (some ⟨g, 0, none⟩) 0 cap) [] [] :=
  ⟨rfl, hrow, (fun b h => by cases h; exact hg), fun i hi => absurd hi (by simp), fun i hi => absurd hi (by simp), fun i j _ hj => absurd hj (by simp)⟩
set_option maxRecDepth 100000 in
set_option maxHeartbeats 1000000 in
theorem specLettersFor (v : Value) (n : Nat) (xs : List Int) (u : Value) (os : List Int) (va : Value) (aff : List Int) (w : World) (h : Recs 3 w v n xs) (hO : Ints w u os) (hA : Ints w va aff) :
    Calls Try.prog 58 #[v, u, va] w (fun e w' => ∃ ad cap, e = .returned (.slice ad (lettersFor n xs os aff).length cap) ∧ LetO w.heap.size w'.heap.size w' (.slice ad (lettersFor n xs os aff).length cap) (lettersFor n xs os aff) ∧ Below w.heap.size w w') := by
  obtain ⟨i0, hi0, hz0, hz1, hz2⟩ := info_parts infoInt'
  obtain ⟨j0, hj0, jz0, jz1, jz2⟩ := info_parts infoLet
  obtain ⟨adv, capv, rfl⟩ : ∃ ad cap, v = .slice ad n cap := by obtain ⟨_, _, ad, cap, hh, _⟩ := h; exact ⟨ad, cap, hh⟩
  obtain ⟨adu, capu, rfl⟩ : ∃ ad cap, u = .slice ad os.length cap := by obtain ⟨_, ad, cap, hh, _⟩ := hO; exact ⟨ad, cap, hh⟩
  obtain ⟨ada, capa, rfl⟩ : ∃ ad cap, va = .slice ad aff.length cap := by obtain ⟨_, ad, cap, hh, _⟩ := hA; exact ⟨ad, cap, hh⟩
  have hl := h.len
  have hAl := hA.len
  have LV0 := Lib.hid (LetV.lit (hi := w.heap.size + 1) (World.ownsRow_lit (e := 76) (size := 2) w #[] 0 (Nat.le_refl _) (by decide) rfl) (Nat.lt_succ_self _))
  have D1 := Lib.hid (balloc (bref w) (.cells #[] 76))
  have hA0 := Lib.hid (hA.below D1.out)
  have hO0 := Lib.hid (hO.below D1.out)
  have hr0 := Lib.hid (h.below D1.out)
  have sz1 : (w.alloc (.cells #[] 76)).heap.size = w.heap.size + 1 := by simp
  go_enter Try.func58, Try.ntmps58
  go_wp2
  generalize w.alloc (.cells #[] 76) = w1 at *
  have HSZ := Lib.hid sz1
  clear sz1
  obtain ⟨_, ad2, cap2, hv, hc⟩ := hA0.out
  cases hv
  go_loop [8] (fun i => ∃ k : Nat, k ≤ aff.length ∧ i = .int .i64 k ∧ Hid (allTo (inChain n aff) k = true)) (fun i => aff.length - (intOf i).toNat)
  case atStart => exact ⟨0, Nat.zero_le _, rfl, rfl⟩
  case round =>
    obtain ⟨k, hk, rfl, HA⟩ := hrel
    by_cases hlt : k < aff.length
    · obtain ⟨b, o, rfl, e0⟩ := hc k hlt
      clear hc
      have hwn : wrap64 ((n : Int) - 1) = (n : Int) - 1 := IntWalk.wrap64_in _ (by omega)
      cases hin : inB (nth aff k) 0 ((n : Int) - 1) with
      | false =>
        have HX := Lib.hid (letters_g (xs := xs) (os := os) hlt hin)
        go_wp2_with (first | (go_at_call 55; refine (l01In_any _ _ _ _).mono ?_; rintro e w' ⟨rfl, rfl⟩))
        go_ret
        rw [HX.out]
        exact ⟨_, _, rfl, ⟨[], LV0.out.wide (Nat.le_refl _) (by rw [HSZ.out]; exact Nat.le_refl _)⟩, D1.out⟩
      | true =>
        have HX := Lib.hid (allTo_succ HA.out (show inChain n aff k = true from hin))
        go_wp2_with (first | (go_at_call 55; refine (l01In_any _ _ _ _).mono ?_; rintro e w' ⟨rfl, rfl⟩))
        go_round
        case rel => exact ⟨k + 1, by omega, by go_num, HX.out⟩
        case measure => simp [intOf]; omega
    · obtain rfl : k = aff.length := by omega
      clear hc
      have LV1 := Lib.hid (LV0.out.wide (lo' := w.heap.size) (hi' := w1.heap.size) (Nat.le_refl _) (by rw [HSZ.out]; exact Nat.le_refl _))
      go_wp2
      cases h1 : ownersOk n xs os with
      | false =>
        have HX := Lib.hid (letters_f (aff := aff) h1)
        go_loopw [7, 9] (fun z i wr => z = .slice (some ⟨w.heap.size, 0, none⟩) 0 0 ∧ i = .int .i64 0 ∧ wr = w1) (fun _ _ _ => 0)
        case atStart => exact ⟨rfl, rfl, rfl⟩
        case round =>
          obtain ⟨rfl, rfl, rfl⟩ := hrel
          go_wp2_with (first | (go_at_call 54; refine (specOwnersOk _ n xs _ os _ hr0.out hO0.out).mono ?_; rw [h1]; rintro e w2 ⟨rfl, hb2⟩))
          go_ret
          rw [HX.out]
          exact ⟨_, _, rfl, ⟨[], (LV1.out.below hb2).wide (Nat.le_refl _) hb2.size⟩, bnext D1.out hb2⟩
      | true =>
        have HCH := Lib.hid (ownersOk_chain h1)
        have hn12 := chainOk_n HCH.out.1
        have HX := Lib.hid (letters_t h1 HA.out)
        have HIC := Lib.hid (in_chain HA.out)
        go_loopw [7, 9] (fun z i wr => ∃ (o : Nat) (vs : List Value) (ad : Option Addr) (cap : Nat), o ≤ 21 ∧ i = .int .i64 o ∧ z = .slice ad (postTo (diffL aff) os o).length cap ∧ LetV w.heap.size wr.heap.size wr (.slice ad (postTo (diffL aff) os o).length cap) vs (postTo (diffL aff) os o) ∧ Hid (Below w.heap.size w wr)) (fun _ i _ => 21 - (intOf i).toNat)
        case atStart => exact ⟨0, [], some ⟨w.heap.size, 0, none⟩, 0, by omega, rfl, rfl, LV1.out, D1.out⟩
        case round =>
          obtain ⟨o, vs, ad, cap, ho, rfl, rfl, hL, HB⟩ := hrel
          have hpl := postTo_len (diffL aff) os o
          by_cases hlt2 : o < 21
          · have ho20 : (o : Int) ≤ 20 := by omega
            have ho20' : o ≤ 20 := by omega
            have hr3 := h.below HB.out
            have hO3 := hO.below HB.out
            go_wp2_with (first | (go_at_call 54; refine (specOwnersOk _ n xs _ os _ hr3 hO3).mono ?_; rw [h1]; rintro e w3 ⟨rfl, hb3⟩; have HL3 := Lib.hid ((hL.below hb3).wide (Nat.le_refl _) hb3.size); have HB3 := Lib.hid (bnext HB.out hb3); have HO4 := Lib.hid (hO3.below hb3); have R3 := Lib.hid (World.ownsRow_lit (e := 3) (size := 1) w3 #[] 0 (Nat.le_refl _) (by decide) rfl); clear hb3))
            have z31 : w.heap.size ≤ w3.heap.size := HB3.out.size
            go_loopw [10, 11] (fun l i wr => ∃ k : Nat, k ≤ n ∧ i = .int .i64 k ∧ wr.ownsRow w3.heap.size 3 1 l (pickN os aff o k).length ((pickN os aff o k).map (Value.int .i64)) ∧ Hid (Below w3.heap.size w3 wr)) (fun _ i _ => n - (intOf i).toNat)
            case atStart => exact ⟨0, Nat.zero_le _, rfl, R3.out, balloc (bref _) _⟩
            case round =>
              obtain ⟨k, hk, rfl, hown, HC⟩ := hrel
              have hpk := pickN_len os aff o k
              have zr := HC.out.size
              by_cases hlt3 : k < n
              · have m2 : k < os.length := by rw [HCH.out.2]; exact hlt3
                obtain ⟨_, ad6, cap6, hv6, hc6⟩ := HO4.out.below HC.out
                cases hv6
                obtain ⟨b6, o6, rfl, e6⟩ := hc6 _ m2
                clear hc6
                have hAr := (hA.below HB3.out).below HC.out
                cases hq : (nth os k == (o : Int)) with
                | true =>
                  by_cases hm : (k : Int) ∈ aff
                  · have HL5 := Lib.hid (pickN_yes hq hm)
                    go_wp2_with (first | (go_at_call 61; refine (l31Has_any _ aff (k : Int) _ hAr).mono ?_; rintro e w' ⟨rfl, rfl⟩) | (at_builtin; refine wpList_append_own _ rfl _ _ 25 rfl w3.heap.size 3 i0 (.int .i64 0) 1 8 Try.underlying25 hi0 hz0 hz1 hz2 rfl (by decide) _ _ _ rfl (hown.alloc _) ⟨wr.heap.size, 0, none⟩ 1 1 [.int .i64 k] rfl rfl (cell_one_new _ _ _) (ints_oneCell .i64 [(k : Int)]) (by unfold maxLen; omega) (by omega) (by simp; omega) ?_; intro v' w4 hown' hgrow hnil; have HO := Lib.hid hown'; have HW := Lib.hid ((HC.out.alloc (by omega) _).grown hgrow (by simp; omega) (fun b e => (hown.lt b e).1)); clear hown' hgrow hnil))
                    go_roundw
                    case rel => exact ⟨k + 1, by omega, by go_num, by rw [HL5.out]; simpa using HO.out, HW⟩
                    case measure => simp [intOf]; omega
                  · have HL5 := Lib.hid (pickN_no2 (os := os) (o := (o : Int)) hm)
                    go_wp2_with (first | (go_at_call 61; refine (l31Has_any _ aff (k : Int) _ hAr).mono ?_; rintro e w' ⟨rfl, rfl⟩))
                    go_roundw
                    case rel => exact ⟨k + 1, by omega, by go_num, by rw [HL5.out]; exact hown, HC⟩
                    case measure => simp [intOf]; omega
                | false =>
                  have HL5 := Lib.hid (pickN_no (aff := aff) hq)
                  go_wp2
                  go_roundw
                  case rel => exact ⟨k + 1, by omega, by go_num, by rw [HL5.out]; exact hown, HC⟩
                  case measure => simp [intOf]; omega
              · obtain rfl : k = n := by omega
                rw [pick_eq HIC.out] at hown hpk
                obtain ⟨ad4, cap4, rfl⟩ := own_form hown
                have HL4 := Lib.hid (HL3.out.below HC.out)
                have HB4 := Lib.hid (bnext HB3.out HC.out)
                by_cases hp0 : (pickO (diffL aff) os o).length = 0
                · have HN := Lib.hid (postTo_no hp0)
                  have hp1 : ¬ 0 < (pickO (diffL aff) os o).length := by omega
                  clear hown
                  go_wp2
                  go_roundw
                  case rel => exact ⟨o + 1, vs, ad, cap, by omega, by go_num, by rw [HN.out], by rw [HN.out]; exact HL4.out.wide (Nat.le_refl _) zr, HB4⟩
                  case measure => simp [intOf]; omega
                · have hp1 : 0 < (pickO (diffL aff) os o).length := by omega
                  have HN := Lib.hid (postTo_yes hp1)
                  have HR := Lib.hid (RowO.of hown)
                  have s1 := Lib.hid (show Sep (Value.slice ad (postTo (diffL aff) os o).length cap) (.slice ad4 (pickO (diffL aff) os o).length cap4) from fun b hb hb' => by have q1 := HL4.out.top b hb; have q2 := (hown.lt b hb').1; omega)
                  have s2 := Lib.hid (show ∀ i, i < (postTo (diffL aff) os o).length → Sep (vget vs i) (.slice ad4 (pickO (diffL aff) os o).length cap4) from fun i hi => RowO.sep (HL4.out.each i hi) HR.out (off_l (Nat.le_refl _)))
                  have HLA := Lib.hid (((HL4.out.wide (Nat.le_refl _) zr).below (balloc (bref wr) (.cells #[.int .i64 o, .slice ad4 (pickO (diffL aff) os o).length cap4] 76))).wide (Nat.le_refl _) (show wr.heap.size ≤ (wr.alloc (.cells #[.int .i64 o, .slice ad4 (pickO (diffL aff) os o).length cap4] 76)).heap.size by simp))
                  have HRA := Lib.hid ((HR.out.below (balloc (bref wr) (.cells #[.int .i64 o, .slice ad4 (pickO (diffL aff) os o).length cap4] 76))).wide z31 (show wr.heap.size ≤ (wr.alloc (.cells #[.int .i64 o, .slice ad4 (pickO (diffL aff) os o).length cap4] 76)).heap.size by simp))
                  have hrow := HLA.out.row
                  have zB : w.heap.size ≤ wr.heap.size := Nat.le_trans z31 zr
                  clear hown
                  go_wp2_with (first | (at_builtin; refine wpList_append_own_at _ rfl _ _ 55 rfl w.heap.size 76 j0 (.agg #[.int .i64 0, .slice none 0 0]) 2 32 Try.underlying55 hj0 jz0 jz1 jz2 rfl (by decide) _ _ _ rfl hrow ⟨wr.heap.size, 0, none⟩ 1 1 [.int .i64 o, .slice ad4 (pickO (diffL aff) os o).length cap4] rfl rfl (cell_two_new' _ _ _ _ _ rfl) (one_let _ _ rfl) (by unfold maxLen; omega) (by omega) (by simp; omega) ?_; intro v' w5 hown' hgrow hnil hat; obtain ⟨ad7, cap7, rfl⟩ := own_form hown'; have HP := Lib.hid (LetV.push HLA.out HRA.out s1.out s2.out hown' hgrow hat); have HW := Lib.hid ((HB4.out.alloc zB _).grown hgrow (by simp; omega) (fun b e => (hrow.lt b e).1)); clear hown' hgrow hnil hat hrow))
                  go_roundw
                  case rel => exact ⟨o + 1, _, ad7, cap7, by omega, by go_num, by rw [HN.out, List.length_append]; rfl, by rw [HN.out]; simpa using HP.out, HW⟩
                  case measure => simp [intOf]; omega
          · obtain rfl : o = 21 := by omega
            go_wp2
            go_ret
            rw [HX.out]
            exact ⟨_, _, rfl, ⟨vs, hL⟩, HB.out⟩
end Go.Proofs.Ytlipfkalehikkaa

/- LettersFor: the contracts in the form of the law. -/
namespace Go.Proofs.Ytlipfkalehikkaa
open Go.ChangeShapes Go.WideShapes Go.ChangeAt Go.RowKit

theorem LetO.read {lo hi : Nat} {w : World} {v : Value} {ls : List (Int × List Int)} (h : LetO lo hi w v ls) (b : LetB ls) : Letters w v ls := by
  obtain ⟨vs, h⟩ := h
  exact h.reads (by have := b.n; omega) (fun i hi => by have := b.c i hi; omega)
theorem pickO_len (D os : List Int) (o : Int) : (pickO D os o).length ≤ D.length := List.length_filter_le _ _
theorem postTo_c (D os : List Int) : ∀ (o i : Nat), i < (postTo D os o).length → (lCopies (postTo D os o) i).length ≤ D.length
  | 0, i, h => by simp [postTo] at h
  | o + 1, i, h => by
    have ih := postTo_c D os o
    rcases Nat.eq_zero_or_pos (pickO D os o).length with q | q
    · rw [postTo_no q] at h ⊢
      exact ih i h
    · rw [postTo_yes q] at h ⊢
      rw [List.length_append] at h
      rcases Nat.lt_or_ge i (postTo D os o).length with z | z
      · rw [(ls_app z).2]; exact ih i z
      · obtain rfl : i = (postTo D os o).length := by simp at h; omega
        rw [ls_last.2]; exact pickO_len _ _ _
theorem lettersFor_b (n : Nat) (xs os aff : List Int) (h : aff.length ≤ 1048576) : LetB (lettersFor n xs os aff) := by
  unfold lettersFor
  split
  · have := postTo_len (diffL aff) os 21
    refine ⟨by omega, fun i hi => ?_⟩
    have := postTo_c (diffL aff) os 21 i hi
    have := diffL_len aff
    omega
  · exact ⟨by simp, fun i hi => absurd hi (by simp)⟩
theorem implLettersV (v : Value) (n : Nat) (xs : List Int) (u : Value) (os : List Int) (va : Value) (aff : List Int) (w : World) (h : Recs 3 w v n xs) (hO : Ints w u os) (hA : Ints w va aff) (hnA : NilOk va) (h20 : aff.length ≤ 1048576) :
    Calls Try.prog 50 #[v, u, va] w fun e w' => ∃ z, e = .returned z ∧ LetO w.heap.size w'.heap.size w' z (lettersFor n xs os aff) ∧ Below w.heap.size w w' :=
  (implLettersFor v n xs u os va aff w h hO hA hnA h20).mono fun _ _ ⟨_, _, q1, q2, q3⟩ => ⟨_, q1, q2, q3⟩
theorem specLettersV (v : Value) (n : Nat) (xs : List Int) (u : Value) (os : List Int) (va : Value) (aff : List Int) (w : World) (h : Recs 3 w v n xs) (hO : Ints w u os) (hA : Ints w va aff) (_ : NilOk va) (_ : aff.length ≤ 1048576) :
    Calls Try.prog 58 #[v, u, va] w fun e w' => ∃ z, e = .returned z ∧ LetO w.heap.size w'.heap.size w' z (lettersFor n xs os aff) ∧ Below w.heap.size w w' :=
  (specLettersFor v n xs u os va aff w h hO hA).mono fun _ _ ⟨_, _, q1, q2, q3⟩ => ⟨_, q1, q2, q3⟩
end Go.Proofs.Ytlipfkalehikkaa

/- The withdrawal of a copy: the plain law. -/
namespace Go.Proofs.Ytlipfkalehikkaa
open Go.ChangeShapes Go.WideShapes Go.ChangeAt Go.RowKit

def wA (h : HD) (b s : Int) : List Int := affected h.n h.xs h.ms b s
def wF (h : HD) (b s : Int) : List Int := newOnes h.ts (wA h b s)
def wL (h : HD) (b s : Int) : List (Int × List Int) := lettersFor h.n h.xs h.os (wF h b s)
def wH (h : HD) (b s : Int) : HD := ⟨h.n, h.xs, h.ms, h.os, diffL (h.ts ++ wF h b s), h.sent + ((wL h b s).length : Int), h.day⟩
def withdraw (h : HD) (b s : Int) : HD × List (Int × List Int) × Bool := if houseOk h = true ∧ ¬ wA h b s = [] ∧ h.sent + ((wL h b s).length : Int) ≤ 1000 then (wH h b s, wL h b s, true) else (h, [], false)
theorem withdraw_1 {h : HD} {b s : Int} (q : houseOk h = false) : withdraw h b s = (h, [], false) := if_neg (by simp [q])
theorem withdraw_2 {h : HD} {b s : Int} (q : wA h b s = []) : withdraw h b s = (h, [], false) := if_neg (by simp [q])
theorem withdraw_3 {h : HD} {b s : Int} (q : 1000 < h.sent + ((wL h b s).length : Int)) : withdraw h b s = (h, [], false) := if_neg (fun z => by have := z.2.2; omega)
theorem withdraw_t {h : HD} {b s : Int} (q1 : houseOk h = true) (q2 : ¬ wA h b s = []) (q3 : h.sent + ((wL h b s).length : Int) ≤ 1000) : withdraw h b s = (wH h b s, wL h b s, true) := if_pos ⟨q1, q2, q3⟩
theorem wA_len (h : HD) (b s : Int) : (wA h b s).length ≤ 12 := affected_len _ _ _ _ _
theorem wF_len (h : HD) (b s : Int) : (wF h b s).length ≤ 12 := Nat.le_trans (newOnes_len _ _) (wA_len h b s)
theorem wL_b (h : HD) (b s : Int) : LetB (wL h b s) := lettersFor_b _ _ _ _ (by have := wF_len h b s; omega)
theorem asc_lt {ts : List Int} (h : ascOk ts = true) : ∀ j, j < ts.length → ∀ i, i < j → nth ts i < nth ts j
  | 0, _, i, hi => absurd hi (by omega)
  | j + 1, hj, i, hi => by
    have h2 := allTo_at h hj
    simp [ascAt] at h2
    rcases Nat.lt_or_ge i j with z | z
    · have := asc_lt h j (by omega) i z
      omega
    · obtain rfl : i = j := by omega
      exact h2
theorem asc_strict {ts : List Int} (h : ascOk ts = true) : StrictI ts := List.pairwise_iff_getElem.2 fun i j hi hj hij => by
  have := asc_lt h j hj i hij
  simpa [nth, hi, hj] using this
theorem strict_asc {ts : List Int} (h : StrictI ts) : ascOk ts = true := allTo_of fun k hk => by
  rcases Nat.eq_zero_or_pos k with z | z
  · subst z; rfl
  · have := List.pairwise_iff_getElem.1 h (k - 1) k (by omega) hk (by omega)
    have e1 : nth ts (k - 1) = ts[k - 1] := by simp [nth, show k - 1 < ts.length by omega]
    have e2 : nth ts k = ts[k] := by simp [nth, hk]
    simp [ascAt, e1, e2, this]
theorem strict_nodup {ts : List Int} (h : StrictI ts) : ts.Nodup := h.imp fun q => by omega
theorem told_sort {h : HD} {b s : Int} (q : houseOk h = true) : sortL (h.ts ++ wF h b s) = diffL (h.ts ++ wF h b s) := by
  have hn : (h.ts ++ wF h b s).Nodup := List.nodup_append.2 ⟨strict_nodup (asc_strict (houseOk_facts q).asc), strict_nodup (newOnes_strict _ _), fun x hx y hy e => by
    subst e; exact (newOnes_mem.1 hy).2 hx⟩
  exact strict_ext (strict_of (sortL_sorted _) ((sortL_perm _).nodup_iff.2 hn)) (diffL_strict _) fun x => by rw [sortL_mem, diffL_mem]
theorem told_len {h : HD} {b s : Int} : (diffL (h.ts ++ wF h b s)).length ≤ h.ts.length + 12 := by
  have a := diffL_len (h.ts ++ wF h b s)
  have c := wF_len h b s
  rw [List.length_append] at a
  omega
theorem wH_b {h : HD} {b s : Int} (q : houseOk h = true) : HouseB (wH h b s) 1048576 := by
  have c := houseOk_b q
  exact ⟨by have := c.n; show h.n ≤ _; omega, by have := c.ms; show h.ms.length ≤ _; omega, by have := c.os; show h.os.length ≤ _; omega, by have := c.ts; have := told_len (h := h) (b := b) (s := s); show (diffL (h.ts ++ wF h b s)).length ≤ _; omega⟩
theorem withdraw_b {h : HD} (hB : HouseB h 1048576) (b s : Int) : HouseB (withdraw h b s).1 1048576 ∧ LetB (withdraw h b s).2.1 := by
  unfold withdraw
  split
  next q => exact ⟨wH_b q.1, wL_b h b s⟩
  · exact ⟨hB, by simp, fun i hi => absurd hi (by simp)⟩
theorem withdraw_ok {h : HD} {b s : Int} (q : houseOk h = true) : houseOk (withdraw h b s).1 = true := by
  unfold withdraw
  split
  next z =>
    have F := houseOk_facts q
    have t1 : allTo (toldAt (wH h b s).n (wH h b s).ts) (wH h b s).ts.length = true := allTo_of fun k hk => by
      have hm : nth (diffL (h.ts ++ wF h b s)) k ∈ h.ts ++ wF h b s := diffL_mem.1 (nth_in hk)
      have hr : 0 ≤ nth (diffL (h.ts ++ wF h b s)) k ∧ nth (diffL (h.ts ++ wF h b s)) k < h.n := by
        rcases List.mem_append.1 hm with y | y
        · obtain ⟨i, hi, e⟩ := List.getElem_of_mem y
          have := F.told i hi
          have e2 : nth h.ts i = h.ts[i] := by simp [nth, hi]
          rw [e2, e] at this
          exact this
        · exact affected_mem (newOnes_mem.1 y).1
      show inB (nth (diffL (h.ts ++ wF h b s)) k) 0 ((h.n : Int) - 1) = true
      simp [inB]; omega
    have t2 : allTo (madeAt (wH h b s).ms (wH h b s).day) (wH h b s).ms.length = true := allTo_of fun k hk => by
      have := F.made k hk
      show decide (nth h.ms k ≤ h.day) = true
      simpa using this
    show houseOk (wH h b s) = true
    rw [house_t (h := wH h b s) F.days F.owners (strict_asc (diffL_strict _)) t1 t2]
    have hs : inB (h.sent + ((wL h b s).length : Int)) 0 1000 = true := by have := F.sent; have := z.2.2; simp [inB]; omega
    have hd : inB h.day 0 10000 = true := by have := F.day; simp [inB]; omega
    show (inB (h.sent + ((wL h b s).length : Int)) 0 1000 && inB h.day 0 10000) = true
    rw [hs, hd]; rfl
  · exact q
end Go.Proofs.Ytlipfkalehikkaa
