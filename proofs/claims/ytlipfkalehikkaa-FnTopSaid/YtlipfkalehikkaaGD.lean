/- Texts laid together: SortI, SortW, NewOnes. -/
import Derived.Sort.OwnSortedInts
import Derived.Test.YtlipfkalehikkaaShelf
import Derived.Test.YtlipfkalehikkaaGB
import Derived.Test.YtlipfkalehikkaaGA
/- The library's sort of a slice of integers that the call itself has made. -/
namespace Go.Proofs.Ytlipfkalehikkaa
open Go.ChangeShapes Go.WideShapes Go.ChangeAt Go.RowKit

open Go.Sort in
theorem sortInts_any {B : Nat} {ad : Option Addr} {cap : Nat} (xs : List Int) (w : World) (h : w.ownsRow B 3 1 (.slice ad xs.length cap) xs.length (xs.map (Value.int .i64))) (hl : xs.length ≤ 1048576) :
    Calls Try.prog 65 #[.slice ad xs.length cap] w fun e w' => e = .returned (.tuple #[]) ∧ w'.ownsRow B 3 1 (.slice ad xs.length cap) xs.length ((sortL xs).map (Value.int .i64)) ∧ w.grownBy w' (Value.slice ad xs.length cap).ownBlock := by
  rcases h.2 with ⟨hnil, hk0⟩ | ⟨g, c, cur, hv, hbase, hb, h1, h2, h3, h4⟩
  · obtain rfl : xs = [] := List.eq_nil_of_length_eq_zero hk0
    refine (Any.sort_Ints_none laysInts ad cap w).mono ?_
    rintro e w' ⟨rfl, rfl⟩
    exact ⟨rfl, by simpa [sortL] using h, only_refl _ _⟩
  · cases hv
    have hH : Holds (Value.int .i64) w g 0 xs.toArray := holds_of_blockI hb (by simpa using h4)
    have hgl : g < w.heap.size := (Array.getElem?_eq_some_iff.1 hb).1
    refine (Any.sort_Ints laysInts g 0 cap xs w hH hgl (by omega)).mono ?_
    rintro e w' ⟨rfl, n, os, rfl⟩
    have hro := ownsRow_sortedI (n := n) (os := os) (ts := sortL xs) (sortL_len xs) hbase hb h1 h2 h3
    have hg := grownBy_sortedI (w := w) (g := g) (n := n) (os := os) (sortL xs).toArray
    exact ⟨rfl, hro, hg⟩
end Go.Proofs.Ytlipfkalehikkaa

/- The walks of the program's different numbers of a list and of the reference's sorted copy. -/
namespace Go.Proofs.Ytlipfkalehikkaa
open Go.ChangeShapes Go.WideShapes Go.ChangeAt Go.RowKit

set_option maxRecDepth 100000 in
set_option maxHeartbeats 1000000 in
theorem different_any (v : Value) (xs : List Int) (w : World) (h : Ints w v xs) (hn : NilOk v) (h20 : xs.length ≤ 1048576) : Calls Try.prog 51 #[v] w (CopyOf w (diffL xs)) := by
  obtain ⟨i0, hi0, hz0, hz1, hz2⟩ := info_parts infoInt'
  have hS := sortL_len xs
  go_enter Try.func51, Try.ntmps51
  go_wp2_with (first | (go_at_call 48; refine (copyInts_any _ xs _ h hn h20).mono ?_; rintro e w1 ⟨ad, cap, rfl, hown, hb1⟩) | (go_at_call 65; refine (sortInts_any xs _ hown h20).mono ?_; rintro e w2 ⟨rfl, hown2, hg⟩))
  have HD := Lib.hid (below_mark hb1 hg hown (Nat.le_refl _))
  have HI := Lib.hid (show Ints w2 (.slice ad xs.length cap) (sortL xs) from Ints.of_own (by rw [hS]; exact hown2) (by omega))
  clear hown hb1 hg hown2
  go_loopw [4, 13] (fun u i wr => ∃ k : Nat, k ≤ xs.length ∧ i = .int .i64 k ∧ wr.ownsRow w2.heap.size 3 1 u (diffTo (sortL xs) k).length ((diffTo (sortL xs) k).map (Value.int .i64)) ∧ Below w2.heap.size w2 wr) (fun _ i _ => xs.length - (intOf i).toNat)
  case atStart => exact ⟨0, Nat.zero_le _, rfl, World.ownsRow_nil _ _ _ _, bref _⟩
  case round =>
    obtain ⟨k, hk, rfl, hown, hbel⟩ := hrel
    have hlk := diffTo_len (sortL xs) k
    have z1 := hbel.size
    by_cases hlt : k < xs.length
    · have hI := HI.out.below hbel
      obtain ⟨_, ad2, cap2, hv, hc⟩ := hI
      rw [hS] at hv
      cases hv
      obtain ⟨b, f, rfl, e0⟩ := hc k (by omega)
      by_cases hk0 : k = 0
      · have kz : ((k : Int) == 0) = true := by simp [hk0]
        have HL := Lib.hid (diffTo_yes (l := sortL xs) (k := k) (.inl hk0))
        clear hc hk0
        go_wp2_with (first | (at_builtin; refine wpList_append_own _ rfl _ _ 25 rfl w2.heap.size 3 i0 (.int .i64 0) 1 8 Try.underlying25 hi0 hz0 hz1 hz2 rfl (by decide) _ _ _ rfl (hown.alloc _) ⟨wr.heap.size, 0, none⟩ 1 1 [.int .i64 (nth (sortL xs) k)] rfl rfl (cell_one_new _ _ _) (ints_oneCell .i64 [(nth (sortL xs) k)]) (by unfold maxLen; omega) (by omega) (by simp; omega) ?_; intro v' w3 hown' hgrow hnil; have HR := Lib.hid (app_step hown hown' hgrow hbel (Nat.le_refl _)); clear hown' hgrow hnil))
        go_roundw
        case rel => exact ⟨k + 1, by omega, by go_num, by rw [HL.out]; exact HR.out.1, HR.out.2⟩
        case measure => simp [intOf]; omega
      · obtain ⟨b', f', hb', e1⟩ := hc (k - 1) (by omega)
        cases hb'
        have ek : ((k : Int) - 1) = ((k - 1 : Nat) : Int) := by omega
        have hkz : ((k : Int) == 0) = false := by simp; omega
        have ge1 : (0 : Int) ≤ (k : Int) - 1 := by omega
        have tn : ((k : Int) - 1).toNat = k - 1 := by omega
        clear hc
        by_cases hd : nth (sortL xs) (k - 1) = nth (sortL xs) k
        · have hq : (nth (sortL xs) (k - 1) != nth (sortL xs) k) = false := by simp [hd]
          have HL := Lib.hid (diffTo_no (l := sortL xs) (k := k) (by rintro (q | q); exact hk0 q; exact q hd))
          have HO := Lib.hid hown
          have HB := Lib.hid hbel
          clear hown hbel
          go_wp2
          go_roundw
          case rel => exact ⟨k + 1, by omega, by go_num, by rw [HL.out]; exact HO.out, HB.out⟩
          case measure => simp [intOf]; omega
        · have hq : (nth (sortL xs) (k - 1) != nth (sortL xs) k) = true := by simp [hd]
          have HL := Lib.hid (diffTo_yes (l := sortL xs) (k := k) (.inr hd))
          go_wp2_with (first | (at_builtin; refine wpList_append_own _ rfl _ _ 25 rfl w2.heap.size 3 i0 (.int .i64 0) 1 8 Try.underlying25 hi0 hz0 hz1 hz2 rfl (by decide) _ _ _ rfl (hown.alloc _) ⟨wr.heap.size, 0, none⟩ 1 1 [.int .i64 (nth (sortL xs) k)] rfl rfl (cell_one_new _ _ _) (ints_oneCell .i64 [(nth (sortL xs) k)]) (by unfold maxLen; omega) (by omega) (by simp; omega) ?_; intro v' w3 hown' hgrow hnil; have HR := Lib.hid (app_step hown hown' hgrow hbel (Nat.le_refl _)); clear hown' hgrow hnil))
          go_roundw
          case rel => exact ⟨k + 1, by omega, by go_num, by rw [HL.out]; exact HR.out.1, HR.out.2⟩
          case measure => simp [intOf]; omega
    · obtain rfl : k = xs.length := by omega
      have HO := Lib.hid hown
      have HB := Lib.hid (bnext HD.out hbel)
      have HE := Lib.hid HD.out.size
      clear hown hbel
      obtain ⟨ad', cap', rfl⟩ := own_form HO.out
      go_wp2
      go_ret
      refine ⟨ad', cap', ?_, ?_, HB.out⟩
      · simp [diffL, hS]
      · have := own_base (B' := w.heap.size) HO.out HE.out
        simpa [diffL, hS] using this

theorem own_store {w : World} {B g cap n : Nat} {e : TypeId} {R : List Int} (h : w.ownsRow B e 1 (.slice (some ⟨g, 0, none⟩) n cap) n (R.map (Value.int .i64))) (k : Nat) (y : Int) : (w.setCell ⟨g, k, none⟩ (.int .i64 y)).ownsRow B e 1 (.slice (some ⟨g, 0, none⟩) n cap) n ((R.set k y).map (Value.int .i64)) := by
  have := (h.stored k (.int .i64 y)).1
  simpa [List.map_set] using this
theorem own_at {w : World} {B g cap n : Nat} {e : TypeId} {R : List Int} (h : w.ownsRow B e 1 (.slice (some ⟨g, 0, none⟩) n cap) n (R.map (Value.int .i64))) {k : Nat} (hk : k < R.length) : w.cell? ⟨g, k, none⟩ = some (.int .i64 (nth R k)) := by
  have hl : n = R.length := by have := h.1; simp at this; omega
  rw [h.cellAt k (by omega)]
  simp [nth, hk]
set_option maxRecDepth 100000 in
theorem l10Sorted_any (v : Value) (xs : List Int) (w : World) (h : Ints w v xs) (hn : NilOk v) (h20 : xs.length ≤ 1048576) : Calls Try.prog 59 #[v] w (CopyOf w (sortL xs)) := by
  obtain ⟨i0, hi, hz0, hz1, hz2⟩ := info_parts infoInt'
  have hr := (ints_recs h).alloc (.cells #[] 3)
  have R0 := World.ownsRow_lit (e := 3) (size := 1) w #[] 0 (Nat.le_refl _) (by decide) rfl
  go_enter Try.func59, Try.ntmps59
  go_wp2_with (at_builtin; refine wpList_append_src _ rfl _ _ 25 rfl w.heap.size 3 i0 (.int .i64 0) 1 8 Try.underlying25 hi hz0 hz1 hz2 rfl (by decide) (.slice (some ⟨w.heap.size, 0, none⟩) 0 0) 0 [] rfl R0 _ xs.length xs rfl hr hn (by omega) (by decide) (by simp) ?_; intro v' w1 hown hgrow hat)
  rw [Nat.zero_add, List.nil_append] at hown
  obtain ⟨ad, cap, rfl⟩ := own_form hown
  have HO := Lib.hid hown
  have HB := Lib.hid ((balloc (bref w) _).grown hgrow (by simp) (fun k hk => by cases hk; exact Nat.le_refl _))
  clear hown hgrow hat R0 hr
  go_wp2
  go_loopw [4] (fun i wr => ∃ (k : Nat) (R : List Int), 1 ≤ k ∧ k ≤ xs.length + 1 ∧ i = .int .i64 k ∧ R.length = xs.length ∧ Hid (R.Perm xs) ∧ Hid (SortedI (R.take k)) ∧ wr.ownsRow w.heap.size 3 1 (.slice ad xs.length cap) xs.length (R.map (Value.int .i64)) ∧ Hid (Below w.heap.size w wr)) (fun i _ => xs.length + 1 - (intOf i).toNat)
  case atStart =>
    refine ⟨1, xs, Nat.le_refl _, by omega, rfl, rfl, List.Perm.refl _, ?_, HO.out, HB.out⟩
    cases xs with
    | nil => exact List.Pairwise.nil
    | cons a t => exact List.pairwise_singleton _ _
  case round =>
    obtain ⟨i, R, hi1, hi2, rfl, hRl, HP, HS, hown, HW⟩ := hrel
    by_cases hlt : i < xs.length
    · obtain ⟨g, rfl, hg⟩ : ∃ g, ad = some ⟨g, 0, none⟩ ∧ w.heap.size ≤ g := by
        rcases hown.2 with ⟨_, h0⟩ | ⟨g, c, cur, hv, hb, _⟩
        · exact absurd h0 (by omega)
        · cases hv; exact ⟨g, rfl, hb⟩
      have e0 := own_at hown (k := i) (by omega)
      have HO2 := Lib.hid hown
      clear hown
      go_wp2
      go_loopw [6] (fun kk wr => ∃ (k : Nat) (q : Int), k ≤ i ∧ kk = .int .i64 k ∧ Hid (∀ j, k ≤ j → j < i → nth R i < nth R j) ∧ wr.ownsRow w.heap.size 3 1 (.slice (some ⟨g, 0, none⟩) xs.length cap) xs.length ((shiftRow R i k q).map (Value.int .i64)) ∧ Hid (Below w.heap.size w wr)) (fun kk _ => (intOf kk).toNat)
      case atStart => exact ⟨i, nth R i, Nat.le_refl _, rfl, fun j h1 h2 => absurd h1 (by omega), by rw [shiftRow_start (by omega)]; exact HO2.out, HW⟩
      case round =>
        obtain ⟨k, q, hk, rfl, HH, hown, HV⟩ := hrel
        have hsl := shiftRow_len q hk (show i < R.length by omega)
        have f0 := hown.frozenAt k
        obtain ⟨u0, c0⟩ := own_cell hown k (by omega)
        by_cases hk0 : k = 0
        · subst hk0
          have HF := Lib.hid (own_store hown 0 (nth R i))
          clear hown
          go_wp2
          go_roundw
          case rel =>
            refine ⟨i + 1, shiftRow R i 0 (nth R i), by omega, by omega, by go_num, by rw [shiftRow_len _ hk (by omega)]; exact hRl, (shiftRow_perm hk (by omega)).trans HP.out, shiftRow_sorted hk (by omega) HS.out (.inl rfl) HH.out, ?_, bset HV.out hg _⟩
            have h1 := HF.out
            rw [shiftRow_set _ _ hk (by omega)] at h1
            exact h1
          case measure => simp [intOf]; omega
        · have e1 := own_at hown (k := k - 1) (by omega)
          rw [shiftRow_nth q hk (by omega) (show k - 1 < k by omega)] at e1
          have tn : ((k : Int) - 1).toNat = k - 1 := by omega
          have ge1 : (0 : Int) ≤ (k : Int) - 1 := by omega
          have gk : (0 : Int) < (k : Int) := by omega
          by_cases hc : nth R i < nth R (k - 1)
          · have HF := Lib.hid (own_store hown k (nth R (k - 1)))
            clear hown
            go_wp2
            go_roundw
            case rel =>
              refine ⟨k - 1, nth R (k - 1), by omega, by go_num, fun j h1 h2 => ?_, ?_, bset HV.out hg _⟩
              · rcases Nat.eq_or_lt_of_le h1 with q | q
                · rw [← q]; exact hc
                · exact HH.out j (by omega) h2
              · have h1 := HF.out
                rw [shiftRow_step _ (by omega) hk (by omega)] at h1
                exact h1
            case measure => simp [intOf]; omega
          · have HF := Lib.hid (own_store hown k (nth R i))
            clear hown
            go_wp2
            go_roundw
            case rel =>
              refine ⟨i + 1, shiftRow R i k (nth R i), by omega, by omega, by go_num, by rw [shiftRow_len _ hk (by omega)]; exact hRl, (shiftRow_perm hk (by omega)).trans HP.out, shiftRow_sorted hk (by omega) HS.out (.inr (by omega)) HH.out, ?_, bset HV.out hg _⟩
              have h1 := HF.out
              rw [shiftRow_set _ _ hk (by omega)] at h1
              exact h1
            case measure => simp [intOf]; omega
    · have HE := Lib.hid (show R = sortL xs from by
        have h1 := HS.out
        rw [List.take_of_length_le (by omega)] at h1
        exact sortL_of HP.out h1)
      have HO2 := Lib.hid hown
      clear hown
      go_wp2
      go_ret
      refine ⟨ad, cap, by simp [sortL_len], ?_, HW.out⟩
      rw [sortL_len, ← HE.out]; exact HO2.out
end Go.Proofs.Ytlipfkalehikkaa

/- The walks of NewOnes, in the program and in the reference. -/
namespace Go.Proofs.Ytlipfkalehikkaa
open Go.ChangeShapes Go.WideShapes Go.ChangeAt Go.RowKit

set_option maxRecDepth 100000 in
set_option maxHeartbeats 1000000 in
theorem implNewOnes (vt : Value) (ts : List Int) (v : Value) (xs : List Int) (w : World) (ht : Ints w vt ts) (h : Ints w v xs) (hn : NilOk v) (h20 : xs.length ≤ 1048576) : Calls Try.prog 49 #[vt, v] w (CopyOf w (newOnes ts xs)) := by
  obtain ⟨i0, hi0, hz0, hz1, hz2⟩ := info_parts infoInt'
  have hS := diffL_len xs
  go_enter Try.func49, Try.ntmps49
  go_wp2_with (first | (go_at_call 51; refine (different_any _ xs _ h hn h20).mono ?_; rintro e w1 ⟨ad, cap, rfl, hown, hb1⟩))
  have HD := Lib.hid hb1
  have HI := Lib.hid (Ints.of_own hown (by omega))
  have HT := Lib.hid (ht.below hb1)
  have HZ := Lib.hid hb1.size
  clear hown hb1
  go_wp2
  go_loopw [5, 11] (fun u i wr => ∃ k : Nat, k ≤ (diffL xs).length ∧ i = .int .i64 k ∧ wr.ownsRow w1.heap.size 3 1 u (fltTo (diffL xs) ts k).length ((fltTo (diffL xs) ts k).map (Value.int .i64)) ∧ Below w1.heap.size w1 wr) (fun _ i _ => (diffL xs).length - (intOf i).toNat)
  case atStart => exact ⟨0, Nat.zero_le _, rfl, World.ownsRow_nil _ _ _ _, bref _⟩
  case round =>
    obtain ⟨k, hk, rfl, hown, hbel⟩ := hrel
    have hlk := fltTo_len (diffL xs) ts k
    have z1 := hbel.size
    have hT := HT.out.below hbel
    by_cases hlt : k < (diffL xs).length
    · obtain ⟨_, ad2, cap2, hv, hc⟩ := HI.out.below hbel
      cases hv
      obtain ⟨b, f, rfl, e0⟩ := hc k (by omega)
      clear hc
      by_cases hm : nth (diffL xs) k ∈ ts
      · have HL := Lib.hid (fltTo_yes hm)
        go_wp2_with (first | (go_at_call 39; refine (hasInt_any vt _ _ _ hT).mono ?_; rintro e w' ⟨rfl, rfl⟩))
        go_roundw
        case rel => exact ⟨k + 1, by omega, by go_num, by rw [HL.out]; exact hown, hbel⟩
        case measure => simp [intOf]; omega
      · have HL := Lib.hid (fltTo_no hm)
        go_wp2_with (first | (go_at_call 39; refine (hasInt_any vt _ _ _ hT).mono ?_; rintro e w' ⟨rfl, rfl⟩) | (at_builtin; refine wpList_append_own _ rfl _ _ 25 rfl w1.heap.size 3 i0 (.int .i64 0) 1 8 Try.underlying25 hi0 hz0 hz1 hz2 rfl (by decide) _ _ _ rfl (hown.alloc _) ⟨wr.heap.size, 0, none⟩ 1 1 [.int .i64 (nth (diffL xs) k)] rfl rfl (cell_one_new _ _ _) (ints_oneCell .i64 [(nth (diffL xs) k)]) (by unfold maxLen; omega) (by omega) (by simp; omega) ?_; intro v' w3 hown' hgrow hnil; have HR := Lib.hid (app_step hown hown' hgrow hbel (Nat.le_refl _)); clear hown' hgrow hnil))
        go_roundw
        case rel => exact ⟨k + 1, by omega, by go_num, by rw [HL.out]; exact HR.out.1, HR.out.2⟩
        case measure => simp [intOf]; omega
    · obtain rfl : k = (diffL xs).length := by omega
      have HO := Lib.hid hown
      have HB := Lib.hid (bnext HD.out hbel)
      clear hown hbel
      obtain ⟨ad', cap', rfl⟩ := own_form HO.out
      go_wp2
      go_ret
      refine ⟨ad', cap', ?_, ?_, HB.out⟩
      · simp [← fltTo_all]
      · have := own_base (B' := w.heap.size) HO.out HZ.out
        simpa [← fltTo_all] using this

set_option maxRecDepth 100000 in
set_option maxHeartbeats 1000000 in
theorem specNewOnes (vt : Value) (ts : List Int) (v : Value) (xs : List Int) (w : World) (ht : Ints w vt ts) (h : Ints w v xs) (hn : NilOk v) (h20 : xs.length ≤ 1048576) : Calls Try.prog 57 #[vt, v] w (CopyOf w (newOnes ts xs)) := by
  obtain ⟨i0, hi0, hz0, hz1, hz2⟩ := info_parts infoInt'
  obtain ⟨adt, capt, rfl⟩ : ∃ ad cap, vt = .slice ad ts.length cap := by obtain ⟨_, ad, cap, hh, _⟩ := ht; exact ⟨ad, cap, hh⟩
  obtain ⟨adv, capv, rfl⟩ : ∃ ad cap, v = .slice ad xs.length cap := by obtain ⟨_, ad, cap, hh, _⟩ := h; exact ⟨ad, cap, hh⟩
  have R0 := Lib.hid (World.ownsRow_lit (e := 3) (size := 1) w #[] 0 (Nat.le_refl _) (by decide) rfl)
  go_enter Try.func57, Try.ntmps57
  go_wp2
  go_loopw [5, 6] (fun u i wr => ∃ k : Nat, k ≤ xs.length ∧ i = .int .i64 k ∧ wr.ownsRow w.heap.size 3 1 u (freshTo ts xs k).length ((freshTo ts xs k).map (Value.int .i64)) ∧ Below w.heap.size w wr) (fun _ i _ => xs.length - (intOf i).toNat)
  case atStart => exact ⟨0, Nat.zero_le _, rfl, R0.out, balloc (bref _) _⟩
  case round =>
    obtain ⟨k, hk, rfl, hown, hbel⟩ := hrel
    have hlk := freshTo_len ts xs k
    have z1 := hbel.size
    have hT := ht.below hbel
    obtain ⟨adu, capu, rfl⟩ := own_form hown
    have hU : Ints wr (.slice adu (freshTo ts xs k).length capu) (freshTo ts xs k) := Ints.of_own hown (by omega)
    by_cases hlt : k < xs.length
    · obtain ⟨_, ad2, cap2, hv, hc⟩ := h.below hbel
      cases hv
      obtain ⟨b, f, rfl, e0⟩ := hc k (by omega)
      clear hc
      by_cases hm : nth xs k ∈ ts
      · have HL := Lib.hid (freshTo_yes (xs := xs) (k := k) (.inl hm))
        go_wp2_with (first | (go_at_call_of 61 (Value.slice adt ts.length capt); refine (l31Has_any (Value.slice adt ts.length capt) ts (nth xs k) _ hT).mono ?_; rintro e w' ⟨rfl, rfl⟩))
        go_roundw
        case rel => exact ⟨k + 1, by omega, by go_num, by rw [HL.out]; exact hown, hbel⟩
        case measure => simp [intOf]; omega
      · by_cases hm2 : nth xs k ∈ freshTo ts xs k
        · have HL := Lib.hid (freshTo_yes (ts := ts) (.inr hm2))
          go_wp2_with (first | (go_at_call_of 61 (Value.slice adt ts.length capt); refine (l31Has_any (Value.slice adt ts.length capt) ts (nth xs k) _ hT).mono ?_; rintro e w' ⟨rfl, rfl⟩) | (go_at_call_of 61 (Value.slice adu (freshTo ts xs k).length capu); refine (l31Has_any (Value.slice adu (freshTo ts xs k).length capu) (freshTo ts xs k) (nth xs k) _ hU).mono ?_; rintro e w' ⟨rfl, rfl⟩))
          go_roundw
          case rel => exact ⟨k + 1, by omega, by go_num, by rw [HL.out]; exact hown, hbel⟩
          case measure => simp [intOf]; omega
        · have HL := Lib.hid (freshTo_no hm hm2)
          go_wp2_with (first | (go_at_call_of 61 (Value.slice adt ts.length capt); refine (l31Has_any (Value.slice adt ts.length capt) ts (nth xs k) _ hT).mono ?_; rintro e w' ⟨rfl, rfl⟩) | (go_at_call_of 61 (Value.slice adu (freshTo ts xs k).length capu); refine (l31Has_any (Value.slice adu (freshTo ts xs k).length capu) (freshTo ts xs k) (nth xs k) _ hU).mono ?_; rintro e w' ⟨rfl, rfl⟩) | (at_builtin; refine wpList_append_own _ rfl _ _ 25 rfl w.heap.size 3 i0 (.int .i64 0) 1 8 Try.underlying25 hi0 hz0 hz1 hz2 rfl (by decide) _ _ _ rfl (hown.alloc _) ⟨wr.heap.size, 0, none⟩ 1 1 [.int .i64 (nth xs k)] rfl rfl (cell_one_new _ _ _) (ints_oneCell .i64 [(nth xs k)]) (by unfold maxLen; omega) (by omega) (by simp; omega) ?_; intro v' w3 hown' hgrow hnil; have HR := Lib.hid (app_step hown hown' hgrow hbel (Nat.le_refl _)); clear hown' hgrow hnil))
          go_roundw
          case rel => exact ⟨k + 1, by omega, by go_num, by rw [HL.out]; exact HR.out.1, HR.out.2⟩
          case measure => simp [intOf]; omega
    · obtain rfl : k = xs.length := by omega
      have HN := Lib.hid (nilOk_own hown)
      have HB := Lib.hid hbel
      have HZ := Lib.hid hbel.size
      clear hown hbel
      go_wp2_with (first | (go_at_call 59; refine (l10Sorted_any _ (freshTo ts xs xs.length) _ hU HN.out (by omega)).mono ?_; rintro e w1 ⟨ad', cap', rfl, hown, hb1⟩))
      go_ret
      refine ⟨ad', cap', by simp [freshTo_all], ?_, bnext HB.out hb1⟩
      have := own_base (B' := w.heap.size) hown HZ.out
      simpa [freshTo_all] using this

theorem implNewOnesV (vt : Value) (ts : List Int) (v : Value) (xs : List Int) (w : World) (ht : Ints w vt ts) (h : Ints w v xs) (hn : NilOk v) (h20 : xs.length ≤ 1048576) : Calls Try.prog 49 #[vt, v] w fun e w' => ∃ u, e = .returned u ∧ w'.ownsRow w.heap.size 3 1 u (newOnes ts xs).length ((newOnes ts xs).map (Value.int .i64)) ∧ Below w.heap.size w w' :=
  (implNewOnes vt ts v xs w ht h hn h20).mono fun _ _ ⟨_, _, q1, q2, q3⟩ => ⟨_, q1, q2, q3⟩

theorem specNewOnesV (vt : Value) (ts : List Int) (v : Value) (xs : List Int) (w : World) (ht : Ints w vt ts) (h : Ints w v xs) (hn : NilOk v) (h20 : xs.length ≤ 1048576) : Calls Try.prog 57 #[vt, v] w fun e w' => ∃ u, e = .returned u ∧ w'.ownsRow w.heap.size 3 1 u (newOnes ts xs).length ((newOnes ts xs).map (Value.int .i64)) ∧ Below w.heap.size w w' :=
  (specNewOnes vt ts v xs w ht h hn h20).mono fun _ _ ⟨_, _, q1, q2, q3⟩ => ⟨_, q1, q2, q3⟩
end Go.Proofs.Ytlipfkalehikkaa
