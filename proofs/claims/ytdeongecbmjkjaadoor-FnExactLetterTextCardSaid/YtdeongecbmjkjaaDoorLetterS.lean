/- The walks of the laws' helpers on letters. -/
import Derived.Test.YtdeongecbmjkjaaDoorIntS
import Derived.Test.YtdeongecbmjkjaaDoorLettersFn
import Derived.Test.YtdeongecbmjkjaaDoorAfter
namespace Go.Proofs.YtdeongecbmjkjaaDoor
open Go.ChangeShapes Go.WideShapes Go.ChangeAt Go.RowKit
theorem szLetter_any (nm : Int) (v : Value) (xs : List Int) (left : Int) (w : World) (h : Ints w v xs) (h0 : 0 ≤ left) (h1 : left ≤ 1048576) :
    Calls Tryd.prog 14 #[.agg #[.int .i64 nm, v], .int .i64 left] w fun e w' => e = .returned (.int .i64 (if left < xs.length then -1 else left - xs.length)) ∧ Below w.heap.size w w' := by
  have hI := h.alloc (.cells #[.int .i64 nm, v] 31)
  by_cases hlt : left < xs.length
  all_goals
    go_enter Tryd.func14, Tryd.ntmps14
    go_wp2_with (go_at_call 51; refine (szIntS_any _ _ _ _ hI h0 h1).mono ?_; rintro e w' ⟨rfl, rfl⟩)
    all_goals
      go_ret
      exact ⟨ret_int (by first | rfl | (split <;> omega)), balloc (bref _) _⟩

theorem toLetter_any (nm : Int) (v : Value) (xs : List Int) (w : World) (h : Ints w v xs) (h20 : xs.length ≤ 17592186043904) :
    Calls Tryd.prog 16 #[.agg #[.int .i64 nm, v]] w fun e w' => ∃ g : Nat, e = .returned (.agg #[.int .i64 nm, .slice (some ⟨g, 0, none⟩) xs.length xs.length]) ∧ w'.ownsRow w.heap.size 3 1 (.slice (some ⟨g, 0, none⟩) xs.length xs.length) xs.length (xs.map (Value.int .i64)) ∧ Below w.heap.size w w' := by
  go_enter Tryd.func16, Tryd.ntmps16
  go_wp2_with fail
  refine (toIntS_any _ _ _ (((h.alloc _).alloc _).alloc _) h20).mono ?_
  rintro e w1 ⟨rfl, hown, hb1⟩
  have c1 := below_cell hb1
  have f1 := below_frozen hb1
  have z1 := hb1.size
  simp at z1
  have HO := Lib.hid hown
  clear hown
  have HB := Lib.hid hb1
  clear hb1
  go_wp2
  refine bodyPost_ret (v := .agg #[.int .i64 nm, .slice (some ⟨w.heap.size + 1 + 1 + 1, 0, none⟩) xs.length xs.length]) (by simp [results, Tryd.results16, go_sem, c1]) rfl ?_
  have hO : w1.ownsRow w.heap.size 3 1 (.slice (some ⟨w.heap.size + 1 + 1 + 1, 0, none⟩) xs.length xs.length) xs.length (xs.map (Value.int .i64)) := by
    have := own_base (B' := w.heap.size) HO.out (by simp; omega)
    simpa using this
  refine ⟨_, rfl, own_set (own_set (own_set hO (ob_ne (by omega)) _) (ob_ne (by omega)) _) (ob_ne (by omega)) _, ?_⟩
  exact bset (bset (bset (bnext (balloc (balloc (balloc (bref _) _) _) _) HB.out) (by simp; omega) _) (by simp) _) (by simp) _

theorem eqLetter_any (n1 n2 : Int) (a b : Value) (xs ys : List Int) (w : World) (ha : Ints w a xs) (hb : Ints w b ys) :
    Calls Tryd.prog 18 #[.agg #[.int .i64 n1, a], .agg #[.int .i64 n2, b]] w fun e w' => e = .returned (.bool (decide (n1 = n2) && decide (xs = ys))) ∧ Below w.heap.size w w' := by
  have hA := (ha.alloc (.cells #[.int .i64 n1, a] 34)).alloc (.cells #[.int .i64 n2, b] 34)
  have hB := (hb.alloc (.cells #[.int .i64 n1, a] 34)).alloc (.cells #[.int .i64 n2, b] 34)
  by_cases hn : n1 = n2
  · have hq : (n1 != n2) = false := by simp [hn]
    have HN := Lib.hid hn
    clear hn
    cases hx : decide (xs = ys) with
    | false =>
      go_enter Tryd.func18, Tryd.ntmps18
      go_wp2_with (go_at_call 55; refine (eqIntS_any _ _ _ _ _ hA hB).mono ?_; rintro e w' ⟨rfl, m, rfl⟩)
      go_ret
      exact ⟨ret_bool (by simp [HN.out]), bdrewN (balloc (balloc (bref _) _) _) _⟩
    | true =>
      go_enter Tryd.func18, Tryd.ntmps18
      go_wp2_with (go_at_call 55; refine (eqIntS_any _ _ _ _ _ hA hB).mono ?_; rintro e w' ⟨rfl, m, rfl⟩)
      go_ret
      exact ⟨ret_bool (by simp [HN.out]), bdrewN (balloc (balloc (bref _) _) _) _⟩
  · have hq : (n1 != n2) = true := by simp [hn]
    go_enter Tryd.func18, Tryd.ntmps18
    go_wp2
    go_ret
    exact ⟨ret_bool (by simp [hn]), balloc (balloc (bref _) _) _⟩


theorem Tryd.infoLetter : (Tryd.prog.info? 34).map (fun i => (i.zero, i.size, i.bytes)) = some (some (.agg #[.int .i64 0, .slice none 0 0]), 2, 32) := by kernel_rfl

/-- the first k pairs of cells of the row at block B are the letters' -/
def Filled (w : World) (B : Nat) (ls : List (Int × List Int)) (k : Nat) : Prop :=
  ∀ i, i < k → ∃ u, w.cell? ⟨B, i * 2, none⟩ = some (.int .i64 (lOwner ls i)) ∧ w.cell? ⟨B, i * 2 + 1, none⟩ = some u ∧ Ints w u (lCopies ls i) ∧ ∀ b, u.ownBlock = some b → B < b
theorem Filled.below {w w' : World} {B : Nat} {ls : List (Int × List Int)} {k : Nat} (h : Filled w B ls k) (hb : Below w.heap.size w w') : Filled w' B ls k := fun i hi => by
  obtain ⟨u, h0, h1, h2, h3⟩ := h i hi
  exact ⟨u, (hb.cell (p := ⟨B, i * 2, none⟩) (World.block_lt_of_cell? w _ h0)).trans h0, (hb.cell (p := ⟨B, i * 2 + 1, none⟩) (World.block_lt_of_cell? w _ h1)).trans h1, h2.below hb, h3⟩
theorem cell_set_same {w : World} {a : Addr} {u x : Value} (h : w.cell? a = some u) : (w.setCell a x).cell? a = some x := World.cell?_setCell_same w a x h
theorem Filled.step {w : World} {B g c : Nat} {ls : List (Int × List Int)} {k : Nat} (h : Filled w B ls k) {x y : Value} (hx : w.cell? ⟨B, k * 2, none⟩ = some x) (hy : w.cell? ⟨B, k * 2 + 1, none⟩ = some y) (hg : B < g)
    (hi : Ints w (.slice (some ⟨g, 0, none⟩) (lCopies ls k).length c) (lCopies ls k)) :
    Filled ((w.setCell ⟨B, k * 2, none⟩ (.int .i64 (lOwner ls k))).setCell ⟨B, k * 2 + 1, none⟩ (.slice (some ⟨g, 0, none⟩) (lCopies ls k).length c)) B ls (k + 1) := fun i hik => by
  have e1 : ∀ j, j ≠ k * 2 → j ≠ k * 2 + 1 → ((w.setCell ⟨B, k * 2, none⟩ (.int .i64 (lOwner ls k))).setCell ⟨B, k * 2 + 1, none⟩ (.slice (some ⟨g, 0, none⟩) (lCopies ls k).length c)).cell? ⟨B, j, none⟩ = w.cell? ⟨B, j, none⟩ := fun j h1 h2 => by
    rw [World.cell?_setCell_other _ _ _ _ (by first | (simp; done) | (simp; omega)), World.cell?_setCell_other _ _ _ _ (by first | (simp; done) | (simp; omega))]
  have hI : ∀ u ys, Ints w u ys → (∀ b, u.ownBlock = some b → B < b) → Ints ((w.setCell ⟨B, k * 2, none⟩ (.int .i64 (lOwner ls k))).setCell ⟨B, k * 2 + 1, none⟩ (.slice (some ⟨g, 0, none⟩) (lCopies ls k).length c)) u ys := fun u ys hu hb =>
    (hu.setCell (fun b e => by have := hb b e; omega) _ _).setCell (fun b e => by have := hb b e; omega) _ _
  rcases Nat.lt_succ_iff_lt_or_eq.1 hik with hlt | rfl
  · obtain ⟨u, h0, h1, h2, h3⟩ := h i hlt
    exact ⟨u, by rw [e1 _ (by omega) (by omega)]; exact h0, by rw [e1 _ (by omega) (by omega)]; exact h1, hI u _ h2 h3, h3⟩
  · refine ⟨_, ?_, ?_, hI _ _ hi (fun b e => by simp [Value.ownBlock] at e; omega), fun b e => by simp [Value.ownBlock] at e; omega⟩
    · rw [World.cell?_setCell_other _ _ _ _ (by simp)]; exact cell_set_same hx
    · exact cell_set_same (by rw [World.cell?_setCell_other _ _ _ _ (by simp)]; exact hy)

end Go.Proofs.YtdeongecbmjkjaaDoor
