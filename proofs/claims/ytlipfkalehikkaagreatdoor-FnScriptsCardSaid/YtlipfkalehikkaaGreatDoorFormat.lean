/- The reference's writing of a number, walked; the program's by the library's contract. -/
import Derived.Test.YtlipfkalehikkaaGreatDoorText
import Derived.Test.YtlipfkalehikkaaGreatDoorProg
import Derived.Test.YtlipfkalehikkaaGreatDoorShelfI
import Derived.Lib.SmallJoins
import Derived.WalkSpells
namespace Go.Proofs.YtlipfkalehikkaaGreatDoor
open Go.ChangeShapes Go.WideShapes Go.ChangeAt Go.RowKit

theorem l01Figure_any (x : Nat) (hx : x < 10) (w : World) : Calls Tryz.prog 69 #[.int .i64 x] w fun e w' => e = .returned (.int .u8 (48 + (x : Int))) ∧ w = w' := by
  go_enter Tryz.func69, Tryz.ntmps69
  go_wp2
  go_ret
  exact ⟨by simp, rfl⟩

set_option maxRecDepth 100000 in
theorem specFormatInt_pos (u : Nat) (hu0 : 0 < u) (hu : u ≤ 9223372036854775807) (w : World) : Calls Tryz.prog 37 #[.int .i64 (u : Int)] w fun e w' => e = .returned (.string (bstr (Lib.itoa (u : Int)))) ∧ Below w.heap.size w w' := by
  have hz : ¬ (u : Int) = 0 := by omega
  have hzq : ((u : Int) == 0) = false := by simp; omega
  have hn : ¬ (u : Int) < 0 := by omega
  go_enter Tryz.func37, Tryz.ntmps37
  go_wp2
  go_loopw [0, 4] (fun n s wr => ∃ (m : Nat) (t : List UInt8), m ≤ u ∧ n = .int .i64 (m : Int) ∧ s = .string (bstr t) ∧ Hid (Digs u m t) ∧ Hid (Below w.heap.size w wr)) (fun n _ _ => (intOf n).natAbs)
  case atStart => exact ⟨u, [], Nat.le_refl _, rfl, rfl, Digs.start hu0, bref _⟩
  case round =>
    obtain ⟨m, t, hm, rfl, rfl, HD, HB⟩ := hrel
    by_cases h0 : m = 0
    · subst h0
      have e := Lib.hid (HD.out.zero rfl)
      have _h := e
      go_wp2
      go_ret
      exact ⟨by rw [itoa_pos, ← e.out]; rfl, HB.out⟩
    · have h1 : 0 < m := by omega
      obtain ⟨x, hx, hx'⟩ : ∃ x : Nat, x = m % 10 ∧ (m : Int) % 10 = (x : Int) := ⟨m % 10, rfl, by omega⟩
      obtain ⟨y, hy, hy'⟩ : ∃ y : Nat, y = m / 10 ∧ (m : Int) / 10 = (y : Int) := ⟨m / 10, rfl, by omega⟩
      have hx10 : x < 10 := by omega
      have hne : ¬ (m : Int) = 0 := by omega
      have ht : t.length ≤ 19 := Nat.le_trans HD.out.len (dec_len20 (by omega))
      have hconv := conv_one (P := Tryz.prog) wr 22 9 5 (48 + (x : Int)) (48 + x) (by omega) Tryz.underlying22 Tryz.underlying5 Tryz.underlying9
      have HD' := Lib.hid (HD.out.step h1)
      rw [← hx, ← hy] at HD'
      generalize UInt8.ofNat (48 + x) = c at hconv HD'
      have hadd := add_bstr (P := Tryz.prog) (wr.alloc (.cells #[.int .u8 (48 + (x : Int))] 5)) [c] t (by simp; omega)
      have hym : y < m := by omega
      clear hx hy ht
      have hxn : ¬ (x : Int) < 0 := by omega
      go_wp2_with (first | (go_at_call 69; refine (l01Figure_any x hx10 _).mono ?_; rintro e w' ⟨rfl, rfl⟩))
      go_roundw
      case rel => exact ⟨y, _, by omega, by go_num, rfl, HD'.out, balloc HB.out _⟩
      case measure => simp [intOf]; omega

set_option maxRecDepth 100000 in
theorem specFormatInt_neg (u : Nat) (hu0 : 0 < u) (hu : u ≤ 9223372036854775808) (w : World) : Calls Tryz.prog 37 #[.int .i64 (-(u : Int))] w fun e w' => e = .returned (.string (bstr (Lib.itoa (-(u : Int))))) ∧ Below w.heap.size w w' := by
  have hz : ¬ (-(u : Int)) = 0 := by omega
  have hzq : ((-(u : Int)) == 0) = false := by simp; omega
  have hn : (-(u : Int)) < 0 := by omega
  go_enter Tryz.func37, Tryz.ntmps37
  go_wp2
  go_loopw [0, 4] (fun n s wr => ∃ (m : Nat) (t : List UInt8), m ≤ u ∧ n = .int .i64 (-(m : Int)) ∧ s = .string (bstr t) ∧ Hid (Digs u m t) ∧ Hid (Below w.heap.size w wr)) (fun n _ _ => (intOf n).natAbs)
  case atStart => exact ⟨u, [], Nat.le_refl _, rfl, rfl, Digs.start hu0, bref _⟩
  case round =>
    obtain ⟨m, t, hm, rfl, rfl, HD, HB⟩ := hrel
    by_cases h0 : m = 0
    · subst h0
      have e := Lib.hid (HD.out.zero rfl)
      have hadd : (Op.stringOp .add { data := #[45] } (bstr t)).run Tryz.prog wr = .ok (.string (bstr (45 :: t))) wr := add_bstr (P := Tryz.prog) wr [45] t (by have := HD.out.len; have := dec_len20 (u := u) (by omega); simp; omega)
      go_wp2
      go_ret
      exact ⟨by rw [itoa_neg hu0, ← e.out]; rfl, HB.out⟩
    · have h1 : 0 < m := by omega
      obtain ⟨x, hx, hx'⟩ : ∃ x : Nat, x = m % 10 ∧ (-(m : Int)).tmod 10 = -(x : Int) := ⟨m % 10, rfl, by rw [Int.neg_tmod]; congr 1⟩
      obtain ⟨y, hy, hy'⟩ : ∃ y : Nat, y = m / 10 ∧ (-(m : Int)).tdiv 10 = -(y : Int) := ⟨m / 10, rfl, by rw [Int.neg_tdiv]; congr 1⟩
      have hx10 : x < 10 := by omega
      have hne : ¬ (-(m : Int)) = 0 := by omega
      have ht : t.length ≤ 19 := Nat.le_trans HD.out.len (dec_len20 (by omega))
      have hconv := conv_one (P := Tryz.prog) wr 22 9 5 (48 + (x : Int)) (48 + x) (by omega) Tryz.underlying22 Tryz.underlying5 Tryz.underlying9
      have HD' := Lib.hid (HD.out.step h1)
      rw [← hx, ← hy] at HD'
      generalize UInt8.ofNat (48 + x) = c at hconv HD'
      have hadd := add_bstr (P := Tryz.prog) (wr.alloc (.cells #[.int .u8 (48 + (x : Int))] 5)) [c] t (by simp; omega)
      have hym : y < m := by omega
      clear hx hy ht
      by_cases hx0 : x = 0
      · have hxn : ¬ (x : Int) < 0 := by omega
        rw [show -(x : Int) = (x : Int) by omega] at hx'
        clear hx0
        go_wp2_with (first | (go_at_call 69; refine (l01Figure_any x hx10 _).mono ?_; rintro e w' ⟨rfl, rfl⟩))
        go_roundw
        case rel => exact ⟨y, _, by omega, by go_num, rfl, HD'.out, balloc HB.out _⟩
        case measure => simp [intOf]; omega
      · have hxn : -(x : Int) < 0 := by omega
        have hnn : IntKind.i64.wrap (-(-(x : Int))) = (x : Int) := by rw [IntKind.wrap_i64]; omega
        clear hx0
        go_wp2_with (first | (go_at_call 69; refine (l01Figure_any x hx10 _).mono ?_; rintro e w' ⟨rfl, rfl⟩))
        go_roundw
        case rel => exact ⟨y, _, by omega, by go_num, rfl, HD'.out, balloc HB.out _⟩
        case measure => simp [intOf]; omega

theorem specFormatInt (n : Int) (h0 : -9223372036854775808 ≤ n) (h1 : n ≤ 9223372036854775807) (w : World) : Calls Tryz.prog 37 #[.int .i64 n] w fun e w' => e = .returned (.string (bstr (Lib.itoa n))) ∧ Below w.heap.size w w' := by
  rcases Int.lt_trichotomy n 0 with h | h | h
  · obtain ⟨u, rfl⟩ : ∃ u : Nat, n = -(u : Int) := ⟨n.natAbs, by omega⟩
    exact specFormatInt_neg u (by omega) (by omega) w
  · subst h
    go_enter Tryz.func37, Tryz.ntmps37
    go_wp2
    go_ret
    exact ⟨by rw [show Lib.itoa 0 = [48] from by rw [show (0 : Int) = ((0 : Nat) : Int) from rfl, itoa_pos, dec_small (by omega)]; rfl]; rfl, bref _⟩
  · obtain ⟨u, rfl⟩ : ∃ u : Nat, n = (u : Int) := ⟨n.natAbs, by omega⟩
    exact specFormatInt_pos u (by omega) (by omega) w
theorem below_grow (w : World) (k : Nat) (os : Array Obj) : Below w.heap.size w (Go.Sort.grow (w.drewN k) os) := by
  have h := bdrewN (bref w) k
  refine ⟨h.os, h.tape, h.output, ?_, fun i hi => ?_⟩
  · have := h.size; simp [Go.Sort.grow]
  · rw [← h.block i hi]
    have := h.size
    simp only [Go.Sort.grow]
    exact Array.getElem?_append_left (by omega)
/-- the table that the library's writing of numbers reads -/
def Tab (w : World) : Prop := Lib.TabIs Tryz.prog w "internal/strconv.uint64pow10" .u64 Lib.pow10Tab
theorem tab_name : ∃ g, Tryz.prog.globalNamed "internal/strconv.uint64pow10" = some g := Option.isSome_iff_exists.1 (by kernel_rfl)
theorem Tab.below {w w' : World} (h : Tab w) (hb : Below w.heap.size w w') : Tab w' := by
  obtain ⟨g, hg⟩ := tab_name
  exact Go.Joins.tab_stays hg h hb (Nat.le_refl _)
theorem implFormatInt (n : Int) (h0 : -9223372036854775808 ≤ n) (h1 : n ≤ 9223372036854775807) (w : World) (ht : Tab w) : Calls Tryz.prog 11 #[.int .i64 n] w fun e w' => e = .returned (.string (bstr (Lib.itoa n))) ∧ Below w.heap.size w w' := by
  go_enter Tryz.func11, Tryz.ntmps11
  go_wp2_with (first | (go_at_call 29; refine (Go.Proofs.Any.strconv_Itoa laysItoa n h0 h1 _ ht).mono ?_; rintro e w' ⟨rfl, k, os, rfl⟩))
  go_ret
  exact ⟨rfl, below_grow _ _ _⟩
end Go.Proofs.YtlipfkalehikkaaGreatDoor
