/- The walks of the laws' helpers on letters. -/
import Derived.Test.YtdchgbhhlocmdaaIntS
import Derived.Test.YtdchgbhhlocmdaaLettersFn
import Derived.Test.YtdchgbhhlocmdaaAfter
namespace Go.Proofs.Ytdchgbhhlocmdaa
open Go.ChangeShapes Go.WideShapes Go.ChangeAt Go.RowKit
theorem eqLetter_any (n1 n2 : Int) (a b : Value) (xs ys : List Int) (w : World) (ha : Ints w a xs) (hb : Ints w b ys) :
    Calls Try.prog 81 #[.agg #[.int .i64 n1, a], .agg #[.int .i64 n2, b]] w fun e w' => e = .returned (.bool (decide (n1 = n2) && decide (xs = ys))) ∧ Below w.heap.size w w' := by
  have hA := (ha.alloc (.cells #[.int .i64 n1, a] 91)).alloc (.cells #[.int .i64 n2, b] 91)
  have hB := (hb.alloc (.cells #[.int .i64 n1, a] 91)).alloc (.cells #[.int .i64 n2, b] 91)
  by_cases hn : n1 = n2
  · have hq : (n1 != n2) = false := by simp [hn]
    have HN := Lib.hid hn
    clear hn
    cases hx : decide (xs = ys) with
    | false =>
      go_enter Try.func81, Try.ntmps81
      go_wp2_with (go_at_call 16; refine (eqIntS_any _ _ _ _ _ hA hB).mono ?_; rintro e w' ⟨rfl, m, rfl⟩)
      go_ret
      exact ⟨ret_bool (by simp [HN.out]), bdrewN (balloc (balloc (bref _) _) _) _⟩
    | true =>
      go_enter Try.func81, Try.ntmps81
      go_wp2_with (go_at_call 16; refine (eqIntS_any _ _ _ _ _ hA hB).mono ?_; rintro e w' ⟨rfl, m, rfl⟩)
      go_ret
      exact ⟨ret_bool (by simp [HN.out]), bdrewN (balloc (balloc (bref _) _) _) _⟩
  · have hq : (n1 != n2) = true := by simp [hn]
    go_enter Try.func81, Try.ntmps81
    go_wp2
    go_ret
    exact ⟨ret_bool (by simp [hn]), balloc (balloc (bref _) _) _⟩


theorem Try.infoLetter : (Try.prog.info? 91).map (fun i => (i.zero, i.size, i.bytes)) = some (some (.agg #[.int .i64 0, .slice none 0 0]), 2, 32) := by kernel_rfl

/-- the first k pairs of cells of the row at block B are the letters' -/
def Filled (w : World) (B : Nat) (ls : List (Int × List Int)) (k : Nat) : Prop :=
  ∀ i, i < k → ∃ u, w.cell? ⟨B, i * 2, none⟩ = some (.int .i64 (lOwner ls i)) ∧ w.cell? ⟨B, i * 2 + 1, none⟩ = some u ∧ Ints w u (lCopies ls i) ∧ ∀ b, u.ownBlock = some b → B < b
theorem Filled.below {w w' : World} {B : Nat} {ls : List (Int × List Int)} {k : Nat} (h : Filled w B ls k) (hb : Below w.heap.size w w') : Filled w' B ls k := fun i hi => by
  obtain ⟨u, h0, h1, h2, h3⟩ := h i hi
  exact ⟨u, (hb.cell (p := ⟨B, i * 2, none⟩) (World.block_lt_of_cell? w _ h0)).trans h0, (hb.cell (p := ⟨B, i * 2 + 1, none⟩) (World.block_lt_of_cell? w _ h1)).trans h1, h2.below hb, h3⟩
theorem cell_set_same {w : World} {a : Addr} {u x : Value} (h : w.cell? a = some u) : (w.setCell a x).cell? a = some x := World.cell?_setCell_same w a x h
theorem Filled.step {w : World} {B g c : Nat} {ls : List (Int × List Int)} {k : Nat} (h : Filled w B ls k) {x y : Value} (hx : w.cell? ⟨B, k * 2, none⟩ = some x) (hy : w.cell? ⟨B, k * 2 + 1, none⟩ = some y) (hg : B < g)
    (hi : Ints w (.slice (some ⟨g, 0, none⟩) (lCopies ls k).length c) (lCopies ls k)) :
    Filled ((w.setCell ⟨B, k * 2, none⟩ (.int .i64 (lOwner ls k))).setCell ⟨B, k * 2 + 1, none⟩ (.slice (some ⟨g, 0, none⟩) (lCopies ls k).length c)) B ls (k + 1) := fun i hik => by
  have e1 : ∀ j, j ≠ k * 2 → j ≠ k * 2 + 1 → ((w.setCell ⟨B, k * 2, none⟩ (.int .i64 (lOwner ls k))).setCell ⟨B, k * 2 + 1, none⟩ (.slice (some ⟨g, 0, none⟩) (lCopies ls k).length c)).cell? ⟨B, j, none⟩ = w.cell? ⟨B, j, none⟩ := fun j h1 h2 => by
    rw [World.cell?_setCell_other _ _ _ _ (by first | (simp; done) | (simp; omega)), World.cell?_setCell_other _ _ _ _ (by first | (simp; done) | (simp; omega))]
  have hI : ∀ u ys, Ints w u ys → (∀ b, u.ownBlock = some b → B < b) → Ints ((w.setCell ⟨B, k * 2, none⟩ (.int .i64 (lOwner ls k))).setCell ⟨B, k * 2 + 1, none⟩ (.slice (some ⟨g, 0, none⟩) (lCopies ls k).length c)) u ys := fun u ys hu hb =>
    (hu.setCell (fun b e => by have := hb b e; omega) _ _).setCell (fun b e => by have := hb b e; omega) _ _
  rcases Nat.lt_succ_iff_lt_or_eq.1 hik with hlt | rfl
  · obtain ⟨u, h0, h1, h2, h3⟩ := h i hlt
    exact ⟨u, by rw [e1 _ (by omega) (by omega)]; exact h0, by rw [e1 _ (by omega) (by omega)]; exact h1, hI u _ h2 h3, h3⟩
  · refine ⟨_, ?_, ?_, hI _ _ hi (fun b e => by simp [Value.ownBlock] at e; omega), fun b e => by simp [Value.ownBlock] at e; omega⟩
    · rw [World.cell?_setCell_other _ _ _ _ (by simp)]; exact cell_set_same hx
    · exact cell_set_same (by rw [World.cell?_setCell_other _ _ _ _ (by simp)]; exact hy)

theorem eqLetterS_any (a b : Value) (ls ms : List (Int × List Int)) (w : World) (ha : Letters w a ls) (hb : Letters w b ms) :
    Calls Try.prog 38 #[a, b] w fun e w' => e = .returned (.bool (decide (ls = ms))) ∧ Below w.heap.size w w' := by
  obtain ⟨hl, ad, cap, rfl, hc⟩ := ha
  obtain ⟨hl', ad', cap', rfl, hc'⟩ := hb
  by_cases hn : ls.length = ms.length
  · have hne : ((ls.length : Int) != (ms.length : Int)) = false := by simp [hn]
    have HN := Lib.hid hn
    clear hn
    go_enter Try.func38, Try.ntmps38
    go_wp2
    go_loopw [5] (fun i wr => ∃ k : Nat, k ≤ ls.length ∧ i = .int .i64 k ∧ Hid (ls.take k = ms.take k) ∧ Below w.heap.size w wr) (fun i _ => ls.length - (intOf i).toNat)
    case atStart => exact ⟨0, Nat.zero_le _, rfl, rfl, bref _⟩
    case round =>
      obtain ⟨k, hk, rfl, hx, hbel⟩ := hrel
      by_cases hlt : k < ls.length
      · obtain ⟨b, o, u, rfl, e0, e1, hi⟩ := hc k hlt
        obtain ⟨b', o', u', rfl, g0, g1, hi'⟩ := hc' k (by have := HN.out; omega)
        clear hc hc'
        have q0 := (hbel.cell (p := ⟨b, o + k * 2, none⟩) (World.block_lt_of_cell? w _ e0)).trans e0
        have q1 := (hbel.cell (p := ⟨b, o + k * 2 + 1, none⟩) (World.block_lt_of_cell? w _ e1)).trans e1
        have r0 := (hbel.cell (p := ⟨b', o' + k * 2, none⟩) (World.block_lt_of_cell? w _ g0)).trans g0
        have r1 := (hbel.cell (p := ⟨b', o' + k * 2 + 1, none⟩) (World.block_lt_of_cell? w _ g1)).trans g1
        have hu0 := fun x : After wr => x.cell q0
        have hu1 := fun x : After wr => x.cell q1
        have hu2 := fun x : After wr => x.cell r0
        have hu3 := fun x : After wr => x.cell r1
        have j0 := hi.below hbel
        have j1 := hi'.below hbel
        clear e0 e1 g0 g1 q0 q1 r0 r1 hi hi'
        have i0 : (0 : Int) ≤ (k : Int) := by omega
        have i1 : (k : Int) < (ls.length : Int) := by omega
        have i2 : (k : Int) < (ms.length : Int) := by have := HN.out; omega
        have HB := Lib.hid hbel
        clear hbel
        have HC : Hid (∀ x : After wr, Calls Try.prog 81 #[.agg #[.int .i64 (lOwner ls k), u], .agg #[.int .i64 (lOwner ms k), u']] x.w fun e w' => e = .returned (.bool (decide (lOwner ls k = lOwner ms k) && decide (lCopies ls k = lCopies ms k))) ∧ Below x.w.heap.size x.w w') :=
          fun x => eqLetter_any _ _ _ _ _ _ _ (j0.below x.b) (j1.below x.b)
        cases hq : (decide (lOwner ls k = lOwner ms k) && decide (lCopies ls k = lCopies ms k)) with
        | false =>
          have HX := Lib.hid (show ls ≠ ms from fun e => by rw [e] at hq; simp at hq)
          rw [hq] at HC
          go_wp2_with fail
          refine wp_region_after (by kernel_rfl) (by kernel_rfl) ?_
          repeat (go_big_quiet_step ((go_at_call 81; exact after_call (HC.out _))))
          refine wpQuiet_nil ?_
          rintro _ ⟨uq, rfl⟩
          go_wp2
          go_ret
          exact ⟨ret_bool (by simp [HX.out]), bnext HB.out uq.b⟩
        | true =>
          have HX := Lib.hid (show ls.take (k + 1) = ms.take (k + 1) from by
            simp only [Bool.and_eq_true, decide_eq_true_eq] at hq
            rw [take_ls ls k hlt, take_ls ms k (by have := HN.out; omega), hx.out, hq.1, hq.2])
          rw [hq] at HC
          go_wp2_with fail
          refine wp_region_after (by kernel_rfl) (by kernel_rfl) ?_
          repeat (go_big_quiet_step ((go_at_call 81; exact after_call (HC.out _))))
          refine wpQuiet_nil ?_
          rintro _ ⟨uq, rfl⟩
          go_wp2
          go_roundw
          case rel => exact ⟨k + 1, by omega, by go_num, HX.out, bnext HB.out uq.b⟩
          case measure => simp [intOf]; omega
      · have hall := hx.out
        rw [List.take_of_length_le (by omega), List.take_of_length_le (by have := HN.out; omega)] at hall
        have H := Lib.hid hall
        have HB := Lib.hid hbel
        clear hall hc hc' hbel
        go_wp2
        go_ret
        exact ⟨ret_bool (by simp [H.out]), HB.out⟩
  · have hne : ((ls.length : Int) != (ms.length : Int)) = true := by rw [bne_iff_ne]; omega
    have hx : ls ≠ ms := fun e => hn (by rw [e])
    clear hc hc'
    go_enter Try.func38, Try.ntmps38
    go_wp2
    go_ret
    exact ⟨ret_bool (by simp [hx]), bref _⟩

end Go.Proofs.Ytdchgbhhlocmdaa
