/- The walks of the laws' helpers on slices of integers: toIntS, szIntS, eqIntS. -/
import Derived.Test.YtdchgbhhlocmdaaProg
import Derived.Test.YtdchgbhhlocmdaaOwnL
namespace Go.Proofs.Ytdchgbhhlocmdaa
open Go.ChangeShapes Go.WideShapes Go.ChangeAt Go.RowKit

theorem szIntS_any (v : Value) (xs : List Int) (left : Int) (w : World) (h : Ints w v xs) (h0 : 0 ≤ left) (h1 : left ≤ 1048576) :
    Calls Try.prog 83 #[v, .int .i64 left] w fun e w' => e = .returned (.int .i64 (if left < xs.length then -1 else left - xs.length)) ∧ w = w' := by
  obtain ⟨hl, ad, cap, rfl, hc⟩ := h
  clear hc
  by_cases hlt : left < xs.length
  all_goals
    go_enter Try.func83, Try.ntmps83
    go_wp2
    go_ret
    exact ⟨ret_int (by first | rfl | (split <;> omega)), rfl⟩

theorem eqIntS_any (a b : Value) (xs ys : List Int) (w : World) (ha : Ints w a xs) (hb : Ints w b ys) :
    Calls Try.prog 16 #[a, b] w fun e w' => e = .returned (.bool (decide (xs = ys))) ∧ ∃ n, w' = w.drewN n := by
  obtain ⟨hl, ad, cap, rfl, hc⟩ := ha
  obtain ⟨hl', ad', cap', rfl, hc'⟩ := hb
  by_cases hn : xs.length = ys.length
  · have hne : ((xs.length : Int) != (ys.length : Int)) = false := by simp [hn]
    have HN := Lib.hid hn
    clear hn
    go_enter Try.func16, Try.ntmps16
    go_wp2
    go_loopw [5] (fun i wr => ∃ k n : Nat, k ≤ xs.length ∧ i = .int .i64 k ∧ wr = w.drewN n ∧ xs.take k = ys.take k) (fun i _ => xs.length - (intOf i).toNat)
    case atStart => exact ⟨0, 0, Nat.zero_le _, rfl, rfl, rfl⟩
    case round =>
      obtain ⟨k, n, hk, rfl, rfl, hx⟩ := hrel
      have HX := Lib.hid hx
      clear hx
      by_cases hlt : k < xs.length
      · obtain ⟨b, o, rfl, hcell⟩ := hc k hlt
        obtain ⟨b', o', rfl, hcell'⟩ := hc' k (by have := HN.out; omega)
        have hlt' : k < ys.length := by have := HN.out; omega
        clear hc hc'
        have hnx := take_nth xs k hlt
        have hny := take_nth ys k hlt'
        have HNX := Lib.hid hnx
        have HNY := Lib.hid hny
        clear hnx hny
        by_cases heq : nth xs k = nth ys k
        · have hb : (nth xs k != nth ys k) = false := by simp [heq]
          have HE := Lib.hid heq
          clear heq
          go_wp2
          go_quiet (fail)
          go_wp2
          go_roundw
          case rel => exact ⟨k + 1, _, by omega, by go_num, rfl, by rw [HNX.out, HNY.out, HX.out, HE.out]⟩
          case measure => simp [intOf]; omega
        · have hb : (nth xs k != nth ys k) = true := by simp [heq]
          have hne : xs ≠ ys := fun e => heq (by rw [e])
          go_wp2
          go_quiet (fail)
          go_wp2
          go_ret
          exact ⟨ret_bool (by simp [hne]), _, World.drewN_drewN _ _ _⟩
      · have he : xs = ys := by
          have h1 := HX.out
          have h2 := HN.out
          rw [List.take_of_length_le (by omega), List.take_of_length_le (by omega)] at h1
          exact h1
        have HE := Lib.hid he
        clear he
        go_wp2
        go_ret
        exact ⟨ret_bool (by simp [HE.out]), _, rfl⟩
  · have hne : ((xs.length : Int) != (ys.length : Int)) = true := by rw [bne_iff_ne]; omega
    have hx : xs ≠ ys := fun e => hn (by rw [e])
    go_enter Try.func16, Try.ntmps16
    go_wp2
    go_ret
    exact ⟨ret_bool (by simp [hx]), 0, rfl⟩

theorem eqIntS_bel (a b : Value) (xs ys : List Int) (w : World) (ha : Ints w a xs) (hb : Ints w b ys) :
    Calls Try.prog 16 #[a, b] w fun e w' => e = .returned (.bool (decide (xs = ys))) ∧ Below w.heap.size w w' :=
  (eqIntS_any a b xs ys w ha hb).mono fun _ _ ⟨he, n, hw⟩ => ⟨he, by rw [hw]; exact bdrewN (bref _) n⟩

theorem toIntS_any (v : Value) (xs : List Int) (w : World) (h : Ints w v xs) (h20 : xs.length ≤ 17592186043904) :
    Calls Try.prog 32 #[v] w fun e w' => e = .returned (.slice (some ⟨w.heap.size, 0, none⟩) xs.length xs.length) ∧
      w'.ownsRow w.heap.size 3 1 (.slice (some ⟨w.heap.size, 0, none⟩) xs.length xs.length) xs.length (xs.map (Value.int .i64)) ∧ Below w.heap.size w w' := by
  obtain ⟨i0, hi, hz0, hz1, hz2⟩ := info_parts Try.infoInt
  obtain ⟨hl, ad, cap, rfl, hc⟩ := h
  go_enter Try.func32, Try.ntmps32
  go_wp2_with (at_make; refine wpList_make_full _ rfl _ _ 24 rfl w.heap.size 3 i0 (.int .i64 0) 1 Try.underlying24 hi hz0 hz1 _ _ _ _ xs.length rfl rfl rfl rfl ?c1 ?c2 ?c3 ?_)
  case c1 => rw [hz2]; omega
  case c2 => unfold maxLen; omega
  case c3 => exact Nat.le_refl _
  intro w1 hown hgrow
  have hbel : Below w.heap.size w w1 := (Below.refl _ _).grown hgrow (Nat.le_refl _) (fun _ h => by cases h)
  clear hgrow hi hz0 hz1 hz2
  go_wp2
  go_loopw [4] (fun i wr => ∃ k : Nat, k ≤ xs.length ∧ i = .int .i64 k ∧
      wr.ownsRow w.heap.size 3 1 (.slice (some ⟨w.heap.size, 0, none⟩) xs.length xs.length) xs.length ((xs.take k).map (Value.int .i64) ++ List.replicate (xs.length - k) (.int .i64 0)) ∧ Below w.heap.size w wr) (fun i _ => xs.length - (intOf i).toNat)
  case atStart => exact ⟨0, Nat.zero_le _, rfl, by simpa [toList_madeCells_one] using hown, hbel⟩
  case round =>
    clear hown hbel
    obtain ⟨k, hk, rfl, hown, hbel⟩ := hrel
    by_cases hlt : k < xs.length
    · obtain ⟨b, o, rfl, hcell⟩ := hc k hlt
      clear hc
      have hb := World.block_lt_of_cell? w _ hcell
      rw [← hbel.cell (p := ⟨b, o + k, none⟩) hb] at hcell
      have hst := hown.stored k (.int .i64 (nth xs k))
      have hfz := hown.frozenAt k
      have hold := hown.cellAt k (by omega)
      obtain ⟨u, hu⟩ : ∃ u, wr.cell? ⟨w.heap.size, k, none⟩ = some u := by
        rw [hold]; exact ⟨_, List.getElem?_eq_getElem (by simp; omega)⟩
      have HS := Lib.hid hst
      clear hst hold hown
      have HB := Lib.hid hbel
      clear hbel
      go_wp2
      go_roundw
      case rel =>
        refine ⟨k + 1, by omega, by go_num, ?_, HB.out.setCell (Nat.le_refl _) _⟩
        have h1 := HS.out.1
        rw [put_nth xs k hlt] at h1
        exact h1
      case measure => simp [intOf]; omega
    · have he : k = xs.length := by omega
      subst he
      rw [show xs.take xs.length = xs from List.take_length, Nat.sub_self, List.replicate_zero, List.append_nil] at hown
      have HO := Lib.hid hown
      clear hown hc
      go_wp2
      go_ret
      exact ⟨rfl, HO.out, hbel⟩
end Go.Proofs.Ytdchgbhhlocmdaa
