/- The walks of the greatest common divisor and of the fractions of small numbers, in the program and in the reference. -/
import Derived.Test.YtkdpfjaebhgnoaaScalar
import Derived.BigRegion
namespace Go.Proofs.Ytkdpfjaebhgnoaa
open Go.ChangeShapes Go.WideShapes Go.ChangeAt Go.RowKit

theorem gcd_step {x y g : Nat} (h : Nat.gcd x y = g) : Nat.gcd y (x % y) = g := by rw [← h, Nat.gcd_comm x y, Nat.gcd_rec y x, Nat.gcd_comm]
def fracOk (t b : Nat) : Bool := inB t (-1000000) 1000000 && (inB b 1 1000000 && (Nat.gcd t b : Int) == 1)
def fracN (t b : Nat) : Int × Int × Bool := if fracOk (t / Nat.gcd t b) (b / Nat.gcd t b) = true then (((t / Nat.gcd t b : Nat) : Int), ((b / Nat.gcd t b : Nat) : Int), true) else (0, 0, false)

theorem gcd_any (a b : Nat) (w : World) (ha : a ≤ 1000000000000) (hb : b ≤ 1000000000000) : Calls Try.prog 87 #[.int .i64 a, .int .i64 b] w fun e w' => e = .returned (.int .i64 (Nat.gcd a b : Nat)) ∧ ∃ m, w' = w.drewN m := by
  have a0 : (0 : Int) ≤ a := by omega
  have b0 : (0 : Int) ≤ b := by omega
  go_enter Try.func87, Try.ntmps87
  go_wp2_with fail
  go_loopw [0, 1] (fun p q wr => ∃ x y m : Nat, p = .int .i64 x ∧ q = .int .i64 y ∧ x ≤ 1000000000000 ∧ y ≤ 1000000000000 ∧ Hid (Nat.gcd x y = Nat.gcd a b) ∧ wr = w.drewN m) (fun _ q _ => (intOf q).toNat)
  case atStart => exact ⟨a, b, 0, rfl, rfl, ha, hb, rfl, rfl⟩
  case round =>
    obtain ⟨x, y, m, rfl, rfl, hx, hy, hg, rfl⟩ := hrel
    by_cases h0 : y = 0
    · subst h0
      have H := Lib.hid (show x = Nat.gcd a b by rw [← hg.out]; simp)
      go_wp2
      go_ret
      exact ⟨ret_int (by rw [← H.out]), _, rfl⟩
    · have i0 : (0 : Int) < (y : Int) := by omega
      have i1 : (0 : Int) ≤ (x : Int) := by omega
      have H := Lib.hid (gcd_step hg.out)
      have hm := Nat.mod_lt x (Nat.pos_of_ne_zero h0)
      go_wp2_with fail
      go_quiet (fail)
      go_wp2
      go_roundw
      case rel => exact ⟨y, x % y, _, rfl, by go_num, hy, by omega, H.out, World.drewN_drewN _ _ _⟩
      case measure => simp [intOf]; omega

theorem implFractionOk (t b : Nat) (w : World) (ht : t ≤ 1000000000000) (hb : b ≤ 1000000000000) : Calls Try.prog 88 #[.agg #[.int .i64 t, .int .i64 b]] w fun e w' => e = .returned (.bool (fracOk t b)) ∧ Below w.heap.size w w' := by
  cases h1 : inB t (-1000000) 1000000 with
  | false =>
    go_enter Try.func88, Try.ntmps88
    go_wp2_with (go_at_call 64; refine (in_any _ _ _ _).mono ?_; rintro e w' ⟨rfl, rfl⟩)
    go_ret
    exact ⟨ret_bool (by simp [fracOk, h1]), balloc (bref w) _⟩
  | true =>
    cases h2 : inB b 1 1000000 with
    | false =>
      go_enter Try.func88, Try.ntmps88
      go_wp2_with (go_at_call 64; refine (in_any _ _ _ _).mono ?_; rintro e w' ⟨rfl, rfl⟩)
      go_ret
      exact ⟨ret_bool (by simp [fracOk, h1, h2]), balloc (bref w) _⟩
    | true =>
      go_enter Try.func88, Try.ntmps88
      go_wp2_with (first | (go_at_call 64; refine (in_any _ _ _ _).mono ?_; rintro e w' ⟨rfl, rfl⟩) | (go_at_call 87; refine (gcd_any t b _ ht hb).mono ?_; rintro e w' ⟨rfl, m, rfl⟩))
      go_ret
      exact ⟨ret_bool (by simp [fracOk, h1, h2]), bdrewN (balloc (bref w) _) _⟩

theorem fracN_t {t b : Nat} (h : fracOk (t / Nat.gcd t b) (b / Nat.gcd t b) = true) : fracN t b = (((t / Nat.gcd t b : Nat) : Int), ((b / Nat.gcd t b : Nat) : Int), true) := if_pos h
theorem fracN_f {t b : Nat} (h : fracOk (t / Nat.gcd t b) (b / Nat.gcd t b) = false) : fracN t b = (0, 0, false) := if_neg (by simp [h])

theorem implReduced (t b : Nat) (w : World) (ht : t ≤ 1000000000000) (hb0 : 1 ≤ b) (hb : b ≤ 1000000000000) : Calls Try.prog 86 #[.int .i64 t, .int .i64 b] w fun e w' => e = .returned (.tuple #[.agg #[.int .i64 (fracN t b).1, .int .i64 (fracN t b).2.1], .bool (fracN t b).2.2]) ∧ Below w.heap.size w w' := by
  have hg := Nat.gcd_pos_of_pos_right t hb0
  obtain ⟨p, hp⟩ : ∃ p, p = t / Nat.gcd t b := ⟨_, rfl⟩
  obtain ⟨q, hq⟩ : ∃ q, q = b / Nat.gcd t b := ⟨_, rfl⟩
  have hd1 : p ≤ t := hp ▸ Nat.div_le_self t (Nat.gcd t b)
  have hd2 : q ≤ b := hq ▸ Nat.div_le_self b (Nat.gcd t b)
  have i0 : (0 : Int) < (Nat.gcd t b : Int) := by omega
  have i1 : (0 : Int) ≤ (t : Int) := by omega
  have i2 : (0 : Int) < (b : Int) := by omega
  have q1 : wrap64 ((t : Int) / ((Nat.gcd t b : Nat) : Int)) = (p : Int) := by rw [IntWalk.wrap64_in _ (by rw [← Int.natCast_ediv, ← hp]; omega)]; rw [hp]; rfl
  have q2 : wrap64 ((b : Int) / ((Nat.gcd t b : Nat) : Int)) = (q : Int) := by rw [IntWalk.wrap64_in _ (by rw [← Int.natCast_ediv, ← hq]; omega)]; rw [hq]; rfl
  cases hok : fracOk p q with
  | false =>
    have H := Lib.hid (show fracN t b = (0, 0, false) from by rw [fracN_f (by rw [← hp, ← hq]; exact hok)])
    clear hp hq
    go_enter Try.func86, Try.ntmps86
    go_wp2_with (first | (go_at_call 87; refine (gcd_any t b _ ht hb).mono ?_; rintro e w' ⟨rfl, m, rfl⟩))
    go_region
    go_wp2_with fail
    refine (implFractionOk p q _ (by omega) (by omega)).mono ?_
    rintro e w1 ⟨rfl, hb1⟩
    have z0 : ∀ (o1 o2 : Obj) (n : Nat), (((w.alloc o1).drewN n).alloc o2).heap.size = w.heap.size + 2 := fun o1 o2 n => by show ((w.alloc o1).alloc o2).heap.size = _; simp
    have z1 : w.heap.size + 2 ≤ w1.heap.size := by have := hb1.size; rw [z0] at this; exact this
    have e0 : w1.cell? ⟨w.heap.size, 0, none⟩ = some (.int .i64 0) := (hb1.cell (p := ⟨w.heap.size, 0, none⟩) (by rw [z0]; simp)).trans (by show ((w.alloc _).alloc _).cell? _ = _; simp)
    have e1 : w1.cell? ⟨w.heap.size, 1, none⟩ = some (.int .i64 0) := (hb1.cell (p := ⟨w.heap.size, 1, none⟩) (by rw [z0]; simp)).trans (by show ((w.alloc _).alloc _).cell? _ = _; simp)
    have f0 : w1.frozen? ⟨w.heap.size, 0, none⟩ = false := (hb1.frozen (p := ⟨w.heap.size, 0, none⟩) (by rw [z0]; simp)).trans (by show ((w.alloc _).alloc _).frozen? _ = _; simp)
    have f1 : w1.frozen? ⟨w.heap.size, 1, none⟩ = false := (hb1.frozen (p := ⟨w.heap.size, 1, none⟩) (by rw [z0]; simp)).trans (by show ((w.alloc _).alloc _).frozen? _ = _; simp)
    have e2 : w1.cell? ⟨w.heap.size + 1, 0, none⟩ = some (.int .i64 p) := (hb1.cell (p := ⟨w.heap.size + 1, 0, none⟩) (by rw [z0]; simp)).trans (by show ((w.alloc _).alloc _).cell? _ = _; simp)
    have e3 : w1.cell? ⟨w.heap.size + 1, 1, none⟩ = some (.int .i64 q) := (hb1.cell (p := ⟨w.heap.size + 1, 1, none⟩) (by rw [z0]; simp)).trans (by show ((w.alloc _).alloc _).cell? _ = _; simp)
    have D1 := Lib.hid (bnext (balloc (bdrewN (balloc (bref w) _) _) _) hb1)
    clear hb1 z0
    go_wp2
    refine bodyPost_ret (v := .tuple #[.agg #[.int .i64 0, .int .i64 0], .bool false]) (by simp [results, Try.results86, go_sem, e0, e1]) rfl ?_
    exact ⟨by rw [H.out], bset (bset D1.out (Nat.le_refl _) _) (Nat.le_refl _) _⟩
  | true =>
    have H := Lib.hid (show fracN t b = ((p : Int), (q : Int), true) from by rw [fracN_t (by rw [← hp, ← hq]; exact hok), ← hp, ← hq])
    clear hp hq
    go_enter Try.func86, Try.ntmps86
    go_wp2_with (first | (go_at_call 87; refine (gcd_any t b _ ht hb).mono ?_; rintro e w' ⟨rfl, m, rfl⟩))
    go_region
    go_wp2_with fail
    refine (implFractionOk p q _ (by omega) (by omega)).mono ?_
    rintro e w1 ⟨rfl, hb1⟩
    have z0 : ∀ (o1 o2 : Obj) (n : Nat), (((w.alloc o1).drewN n).alloc o2).heap.size = w.heap.size + 2 := fun o1 o2 n => by show ((w.alloc o1).alloc o2).heap.size = _; simp
    have z1 : w.heap.size + 2 ≤ w1.heap.size := by have := hb1.size; rw [z0] at this; exact this
    have e0 : w1.cell? ⟨w.heap.size, 0, none⟩ = some (.int .i64 0) := (hb1.cell (p := ⟨w.heap.size, 0, none⟩) (by rw [z0]; simp)).trans (by show ((w.alloc _).alloc _).cell? _ = _; simp)
    have e1 : w1.cell? ⟨w.heap.size, 1, none⟩ = some (.int .i64 0) := (hb1.cell (p := ⟨w.heap.size, 1, none⟩) (by rw [z0]; simp)).trans (by show ((w.alloc _).alloc _).cell? _ = _; simp)
    have f0 : w1.frozen? ⟨w.heap.size, 0, none⟩ = false := (hb1.frozen (p := ⟨w.heap.size, 0, none⟩) (by rw [z0]; simp)).trans (by show ((w.alloc _).alloc _).frozen? _ = _; simp)
    have f1 : w1.frozen? ⟨w.heap.size, 1, none⟩ = false := (hb1.frozen (p := ⟨w.heap.size, 1, none⟩) (by rw [z0]; simp)).trans (by show ((w.alloc _).alloc _).frozen? _ = _; simp)
    have e2 : w1.cell? ⟨w.heap.size + 1, 0, none⟩ = some (.int .i64 p) := (hb1.cell (p := ⟨w.heap.size + 1, 0, none⟩) (by rw [z0]; simp)).trans (by show ((w.alloc _).alloc _).cell? _ = _; simp)
    have e3 : w1.cell? ⟨w.heap.size + 1, 1, none⟩ = some (.int .i64 q) := (hb1.cell (p := ⟨w.heap.size + 1, 1, none⟩) (by rw [z0]; simp)).trans (by show ((w.alloc _).alloc _).cell? _ = _; simp)
    have D1 := Lib.hid (bnext (balloc (bdrewN (balloc (bref w) _) _) _) hb1)
    clear hb1 z0
    go_wp2
    refine bodyPost_ret (v := .tuple #[.agg #[.int .i64 p, .int .i64 q], .bool true]) (by simp [results, Try.results86, go_sem, e0, e1]) rfl ?_
    exact ⟨by rw [H.out], bset (bset D1.out (Nat.le_refl _) _) (Nat.le_refl _) _⟩

theorem implMakeFraction (t b : Nat) (w : World) (ht : t ≤ 1000000000000) (hb0 : 1 ≤ b) (hb : b ≤ 1000000000000) : Calls Try.prog 81 #[.int .i64 t, .int .i64 b] w fun e w' => e = .returned (.tuple #[.agg #[.int .i64 (fracN t b).1, .int .i64 (fracN t b).2.1], .bool (fracN t b).2.2]) ∧ Below w.heap.size w w' := by
  have i2 : (0 : Int) < (b : Int) := by omega
  have j1 : inB t (-1000000000000) 1000000000000 = true := inB_t (by omega) (by omega)
  have j2 : inB b (-1000000000000) 1000000000000 = true := inB_t (by omega) (by omega)
  go_enter Try.func81, Try.ntmps81
  go_wp2_with (go_at_call 64; refine (in_any _ _ _ _).mono ?_; rintro e w' ⟨rfl, rfl⟩)
  refine (implReduced t b _ ht hb0 hb).mono ?_
  rintro e w1 ⟨rfl, hb1⟩
  have e0 : w1.cell? ⟨w.heap.size, 0, none⟩ = some (.int .i64 0) := (hb1.cell (p := ⟨w.heap.size, 0, none⟩) (by simp)).trans (by simp)
  have e1 : w1.cell? ⟨w.heap.size, 1, none⟩ = some (.int .i64 0) := (hb1.cell (p := ⟨w.heap.size, 1, none⟩) (by simp)).trans (by simp)
  have f0 : w1.frozen? ⟨w.heap.size, 0, none⟩ = false := (hb1.frozen (p := ⟨w.heap.size, 0, none⟩) (by simp)).trans (by simp)
  have f1 : w1.frozen? ⟨w.heap.size, 1, none⟩ = false := (hb1.frozen (p := ⟨w.heap.size, 1, none⟩) (by simp)).trans (by simp)
  have D1 := Lib.hid (bnext (balloc (bref w) _) hb1)
  clear hb1
  go_wp2
  refine bodyPost_ret (v := .tuple #[.agg #[.int .i64 (fracN t b).1, .int .i64 (fracN t b).2.1], .bool (fracN t b).2.2]) (by simp [results, Try.results81, go_sem, e0, e1]) rfl ?_
  exact ⟨rfl, bset (bset D1.out (Nat.le_refl _) _) (Nat.le_refl _) _⟩
end Go.Proofs.Ytkdpfjaebhgnoaa
