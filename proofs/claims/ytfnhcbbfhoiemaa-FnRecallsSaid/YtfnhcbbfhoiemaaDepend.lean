/- The walks of DoesDepend and CountBelow, in the program and in the reference. -/
import Derived.Test.YtfnhcbbfhoiemaaAbove
import Derived.Test.YtfnhcbbfhoiemaaHasInt
import Derived.Test.YtfnhcbbfhoiemaaL31Has
namespace Go.Proofs.Ytfnhcbbfhoiemaa
open Go.ChangeShapes Go.WideShapes Go.ChangeAt Go.RowKit

def depends (n : Nat) (xs : List Int) (a b : Int) : Bool := decide (b ∈ aboveL n xs a)
/-- how many of the first k copies depend on b -/
def countDep (n : Nat) (xs : List Int) (b : Int) (k : Nat) : Int := sumTo (fun a => if depends n xs a b = true then 1 else 0) k
theorem countDep_bd (n : Nat) (xs : List Int) (b : Int) (k : Nat) : 0 ≤ countDep n xs b k ∧ countDep n xs b k ≤ 1 * k :=
  sumTo_bd _ 1 k (fun j _ => by constructor <;> (split <;> omega)) k (Nat.le_refl _)

theorem implDoesDepend (v : Value) (n : Nat) (xs : List Int) (a b : Int) (w : World) (h : Recs 3 w v n xs) : Calls Try.prog 21 #[v, .int .i64 a, .int .i64 b] w fun e w' => e = .returned (.bool (depends n xs a b)) ∧ Below w.heap.size w w' := by
  have hl := aboveL_len n xs a
  go_enter Try.func21, Try.ntmps21
  go_wp2_with fail
  refine (implAboveIn _ n xs a _ h).mono ?_
  rintro e w1 ⟨v', rfl, hown, _, hb1⟩
  have hI := own_ints hown (by omega)
  have HO := Lib.hid hown
  clear hown
  go_wp2_with fail
  refine (hasInt_any _ _ b _ hI).mono ?_
  rintro e w' ⟨rfl, rfl⟩
  go_wp2
  go_ret
  exact ⟨rfl, hb1⟩

theorem implCountBelow (v : Value) (n : Nat) (xs : List Int) (b : Int) (w : World) (h : Recs 3 w v n xs) (h20 : n ≤ 1048576) : Calls Try.prog 20 #[v, .int .i64 b] w fun e w' => e = .returned (.int .i64 (countDep n xs b n)) ∧ Below w.heap.size w w' := by
  obtain ⟨ad, cap, rfl⟩ : ∃ ad cap, v = .slice ad n cap := by obtain ⟨_, _, ad, cap, hh, _⟩ := h; exact ⟨ad, cap, hh⟩
  go_enter Try.func20, Try.ntmps20
  go_wp2_with fail
  go_loopw [5, 9] (fun s i wr => ∃ k : Nat, k ≤ n ∧ i = .int .i64 k ∧ s = .int .i64 (countDep n xs b k) ∧ Below w.heap.size w wr) (fun _ i _ => n - (intOf i).toNat)
  case atStart => exact ⟨0, Nat.zero_le _, rfl, rfl, bref _⟩
  case round =>
    obtain ⟨k, hk, rfl, rfl, hbel⟩ := hrel
    by_cases hlt : k < n
    · obtain ⟨s1, s2⟩ := countDep_bd n xs b k
      cases hd : depends n xs k b with
      | false =>
        have H := Lib.hid (show countDep n xs b (k + 1) = countDep n xs b k by show countDep n xs b k + (if depends n xs k b = true then 1 else 0) = _; rw [hd]; simp)
        go_wp2_with fail
        refine (implDoesDepend _ n xs k b _ (h.below hbel)).mono ?_
        rintro e w1 ⟨rfl, hb1⟩
        rw [hd]
        have HB := Lib.hid (bnext hbel hb1)
        clear hbel hb1
        go_wp2
        go_roundw
        case rel => exact ⟨k + 1, by omega, by go_num, by rw [H.out], HB.out⟩
        case measure => simp [intOf]; omega
      | true =>
        have H := Lib.hid (show countDep n xs b (k + 1) = countDep n xs b k + 1 by show countDep n xs b k + (if depends n xs k b = true then 1 else 0) = _; rw [hd]; simp)
        go_wp2_with fail
        refine (implDoesDepend _ n xs k b _ (h.below hbel)).mono ?_
        rintro e w1 ⟨rfl, hb1⟩
        rw [hd]
        have HB := Lib.hid (bnext hbel hb1)
        clear hbel hb1
        go_wp2
        go_roundw
        case rel => exact ⟨k + 1, by omega, by go_num, by rw [H.out], HB.out⟩
        case measure => simp [intOf]; omega
    · obtain rfl : k = n := by omega
      have HB := Lib.hid hbel
      clear hbel
      go_wp2
      go_ret
      exact ⟨rfl, HB.out⟩

end Go.Proofs.Ytfnhcbbfhoiemaa
