/- The walks of the laws' helpers on letters. -/
import Derived.Test.YtkdpfjaebhgnoaaIntS
import Derived.Test.YtkdpfjaebhgnoaaLettersFn
import Derived.Test.YtkdpfjaebhgnoaaAfter
namespace Go.Proofs.Ytkdpfjaebhgnoaa
open Go.ChangeShapes Go.WideShapes Go.ChangeAt Go.RowKit
theorem szLetter_any (nm : Int) (v : Value) (xs : List Int) (left : Int) (w : World) (h : Ints w v xs) (h0 : 0 ≤ left) (h1 : left ≤ 1048576) :
    Calls Try.prog 57 #[.agg #[.int .i64 nm, v], .int .i64 left] w fun e w' => e = .returned (.int .i64 (if left < xs.length then -1 else left - xs.length)) ∧ Below w.heap.size w w' := by
  have hI := h.alloc (.cells #[.int .i64 nm, v] 72)
  by_cases hlt : left < xs.length
  all_goals
    go_enter Try.func57, Try.ntmps57
    go_wp2_with (go_at_call 72; refine (szIntS_any _ _ _ _ hI h0 h1).mono ?_; rintro e w' ⟨rfl, rfl⟩)
    all_goals
      go_ret
      exact ⟨ret_int (by first | rfl | (split <;> omega)), balloc (bref _) _⟩

theorem toLetter_any (nm : Int) (v : Value) (xs : List Int) (w : World) (h : Ints w v xs) (h20 : xs.length ≤ 17592186043904) :
    Calls Try.prog 58 #[.agg #[.int .i64 nm, v]] w fun e w' => ∃ g : Nat, e = .returned (.agg #[.int .i64 nm, .slice (some ⟨g, 0, none⟩) xs.length xs.length]) ∧ w'.ownsRow w.heap.size 3 1 (.slice (some ⟨g, 0, none⟩) xs.length xs.length) xs.length (xs.map (Value.int .i64)) ∧ Below w.heap.size w w' := by
  go_enter Try.func58, Try.ntmps58
  go_wp2_with fail
  refine (toIntS_any _ _ _ (((h.alloc _).alloc _).alloc _) h20).mono ?_
  rintro e w1 ⟨rfl, hown, hb1⟩
  have c1 := below_cell hb1
  have f1 := below_frozen hb1
  have z1 := hb1.size
  simp at z1
  have HO := Lib.hid hown
  clear hown
  have HB := Lib.hid hb1
  clear hb1
  go_wp2
  refine bodyPost_ret (v := .agg #[.int .i64 nm, .slice (some ⟨w.heap.size + 1 + 1 + 1, 0, none⟩) xs.length xs.length]) (by simp [results, Try.results58, go_sem, c1]) rfl ?_
  have hO : w1.ownsRow w.heap.size 3 1 (.slice (some ⟨w.heap.size + 1 + 1 + 1, 0, none⟩) xs.length xs.length) xs.length (xs.map (Value.int .i64)) := by
    have := own_base (B' := w.heap.size) HO.out (by simp; omega)
    simpa using this
  refine ⟨_, rfl, own_set (own_set (own_set hO (ob_ne (by omega)) _) (ob_ne (by omega)) _) (ob_ne (by omega)) _, ?_⟩
  exact bset (bset (bset (bnext (balloc (balloc (balloc (bref _) _) _) _) HB.out) (by simp; omega) _) (by simp) _) (by simp) _

theorem eqLetter_any (n1 n2 : Int) (a b : Value) (xs ys : List Int) (w : World) (ha : Ints w a xs) (hb : Ints w b ys) :
    Calls Try.prog 59 #[.agg #[.int .i64 n1, a], .agg #[.int .i64 n2, b]] w fun e w' => e = .returned (.bool (decide (n1 = n2) && decide (xs = ys))) ∧ Below w.heap.size w w' := by
  have hA := (ha.alloc (.cells #[.int .i64 n1, a] 73)).alloc (.cells #[.int .i64 n2, b] 73)
  have hB := (hb.alloc (.cells #[.int .i64 n1, a] 73)).alloc (.cells #[.int .i64 n2, b] 73)
  by_cases hn : n1 = n2
  · have hq : (n1 != n2) = false := by simp [hn]
    have HN := Lib.hid hn
    clear hn
    cases hx : decide (xs = ys) with
    | false =>
      go_enter Try.func59, Try.ntmps59
      go_wp2_with (go_at_call 18; refine (eqIntS_any _ _ _ _ _ hA hB).mono ?_; rintro e w' ⟨rfl, m, rfl⟩)
      go_ret
      exact ⟨ret_bool (by simp [HN.out]), bdrewN (balloc (balloc (bref _) _) _) _⟩
    | true =>
      go_enter Try.func59, Try.ntmps59
      go_wp2_with (go_at_call 18; refine (eqIntS_any _ _ _ _ _ hA hB).mono ?_; rintro e w' ⟨rfl, m, rfl⟩)
      go_ret
      exact ⟨ret_bool (by simp [HN.out]), bdrewN (balloc (balloc (bref _) _) _) _⟩
  · have hq : (n1 != n2) = true := by simp [hn]
    go_enter Try.func59, Try.ntmps59
    go_wp2
    go_ret
    exact ⟨ret_bool (by simp [hn]), balloc (balloc (bref _) _) _⟩


theorem szLetterS_any (v : Value) (ls : List (Int × List Int)) (left : Int) (w : World) (h : Letters w v ls) (h0 : 0 ≤ left) (h1 : left ≤ 1048576) :
    Calls Try.prog 19 #[v, .int .i64 left] w fun e w' => e = .returned (.int .i64 (szRes left (bulk ls))) ∧ Below w.heap.size w w' := by
  obtain ⟨hl, ad, cap, rfl, hc⟩ := h
  by_cases hlt : left < ls.length
  · have H := Lib.hid (szRes_lt (left := left) (n := bulk ls) (by have := bulkTo_ge ls ls.length; unfold bulk; omega))
    clear hc
    go_enter Try.func19, Try.ntmps19
    go_wp2
    go_ret
    exact ⟨ret_int H.out.symm, bref _⟩
  · go_enter Try.func19, Try.ntmps19
    go_wp2_with fail
    go_loopw [1, 5] (fun s i wr => ∃ k : Nat, k ≤ ls.length ∧ i = .int .i64 k ∧ s = .int .i64 (left - bulkTo ls k) ∧ bulkTo ls k ≤ left ∧ Below w.heap.size w wr) (fun _ i _ => ls.length - (intOf i).toNat)
    case atStart => exact ⟨0, Nat.zero_le _, rfl, by unfold bulkTo; simp [sumTo], by unfold bulkTo; simp only [sumTo]; omega, bref _⟩
    case round =>
      obtain ⟨k, hk, rfl, rfl, hbk, hbel⟩ := hrel
      have hge := bulkTo_ge ls k
      by_cases hlk : k < ls.length
      · obtain ⟨b, o, u, rfl, e0, e1, hi⟩ := hc k hlk
        clear hc
        have g0 := (hbel.cell (p := ⟨b, o + k * 2, none⟩) (World.block_lt_of_cell? w _ e0)).trans e0
        have g1 := (hbel.cell (p := ⟨b, o + k * 2 + 1, none⟩) (World.block_lt_of_cell? w _ e1)).trans e1
        have hs := bulkTo_succ ls k
        have hle := bulkTo_le ls (k + 1) hlk
        have HS := Lib.hid hs
        by_cases hq : left - bulkTo ls k < ((lCopies ls k).length : Int)
        · have H := Lib.hid (szRes_lt (left := left) (n := bulk ls) (by omega))
          clear e0 e1 hs
          go_wp2_with fail
          refine (szLetter_any _ _ _ _ _ (hi.below hbel) (by omega) (by omega)).mono ?_
          rintro e w1 ⟨rfl, hb1⟩
          rw [if_pos (by omega)]
          have HB := Lib.hid (bnext hbel hb1)
          clear hbel hb1
          go_wp2
          go_ret
          exact ⟨ret_int H.out.symm, HB.out⟩
        · clear e0 e1 hs
          go_wp2_with fail
          refine (szLetter_any _ _ _ _ _ (hi.below hbel) (by omega) (by omega)).mono ?_
          rintro e w1 ⟨rfl, hb1⟩
          rw [if_neg (by omega)]
          have HB := Lib.hid (bnext hbel hb1)
          clear hbel hb1
          go_wp2
          go_roundw
          case rel => exact ⟨k + 1, by omega, by go_num, by rw [HS.out]; exact congrArg _ (by omega), by have := HS.out; omega, HB.out⟩
          case measure => simp [intOf]; omega
      · obtain rfl : k = ls.length := by omega
        have H := Lib.hid (show szRes left (bulk ls) = left - bulkTo ls ls.length from szRes_ge (by unfold bulk; omega))
        have HB := Lib.hid hbel
        clear hc hbel
        go_wp2
        go_ret
        exact ⟨ret_int H.out.symm, HB.out⟩

theorem Try.infoLetter : (Try.prog.info? 73).map (fun i => (i.zero, i.size, i.bytes)) = some (some (.agg #[.int .i64 0, .slice none 0 0]), 2, 32) := by kernel_rfl

/-- the first k pairs of cells of the row at block B are the letters' -/
def Filled (w : World) (B : Nat) (ls : List (Int × List Int)) (k : Nat) : Prop :=
  ∀ i, i < k → ∃ u, w.cell? ⟨B, i * 2, none⟩ = some (.int .i64 (lOwner ls i)) ∧ w.cell? ⟨B, i * 2 + 1, none⟩ = some u ∧ Ints w u (lCopies ls i) ∧ ∀ b, u.ownBlock = some b → B < b
theorem Filled.below {w w' : World} {B : Nat} {ls : List (Int × List Int)} {k : Nat} (h : Filled w B ls k) (hb : Below w.heap.size w w') : Filled w' B ls k := fun i hi => by
  obtain ⟨u, h0, h1, h2, h3⟩ := h i hi
  exact ⟨u, (hb.cell (p := ⟨B, i * 2, none⟩) (World.block_lt_of_cell? w _ h0)).trans h0, (hb.cell (p := ⟨B, i * 2 + 1, none⟩) (World.block_lt_of_cell? w _ h1)).trans h1, h2.below hb, h3⟩
theorem cell_set_same {w : World} {a : Addr} {u x : Value} (h : w.cell? a = some u) : (w.setCell a x).cell? a = some x := World.cell?_setCell_same w a x h
theorem Filled.step {w : World} {B g c : Nat} {ls : List (Int × List Int)} {k : Nat} (h : Filled w B ls k) {x y : Value} (hx : w.cell? ⟨B, k * 2, none⟩ = some x) (hy : w.cell? ⟨B, k * 2 + 1, none⟩ = some y) (hg : B < g)
    (hi : Ints w (.slice (some ⟨g, 0, none⟩) (lCopies ls k).length c) (lCopies ls k)) :
    Filled ((w.setCell ⟨B, k * 2, none⟩ (.int .i64 (lOwner ls k))).setCell ⟨B, k * 2 + 1, none⟩ (.slice (some ⟨g, 0, none⟩) (lCopies ls k).length c)) B ls (k + 1) := fun i hik => by
  have e1 : ∀ j, j ≠ k * 2 → j ≠ k * 2 + 1 → ((w.setCell ⟨B, k * 2, none⟩ (.int .i64 (lOwner ls k))).setCell ⟨B, k * 2 + 1, none⟩ (.slice (some ⟨g, 0, none⟩) (lCopies ls k).length c)).cell? ⟨B, j, none⟩ = w.cell? ⟨B, j, none⟩ := fun j h1 h2 => by
    rw [World.cell?_setCell_other _ _ _ _ (by first | (simp; done) | (simp; omega)), World.cell?_setCell_other _ _ _ _ (by first | (simp; done) | (simp; omega))]
  have hI : ∀ u ys, Ints w u ys → (∀ b, u.ownBlock = some b → B < b) → Ints ((w.setCell ⟨B, k * 2, none⟩ (.int .i64 (lOwner ls k))).setCell ⟨B, k * 2 + 1, none⟩ (.slice (some ⟨g, 0, none⟩) (lCopies ls k).length c)) u ys := fun u ys hu hb =>
    (hu.setCell (fun b e => by have := hb b e; omega) _ _).setCell (fun b e => by have := hb b e; omega) _ _
  rcases Nat.lt_succ_iff_lt_or_eq.1 hik with hlt | rfl
  · obtain ⟨u, h0, h1, h2, h3⟩ := h i hlt
    exact ⟨u, by rw [e1 _ (by omega) (by omega)]; exact h0, by rw [e1 _ (by omega) (by omega)]; exact h1, hI u _ h2 h3, h3⟩
  · refine ⟨_, ?_, ?_, hI _ _ hi (fun b e => by simp [Value.ownBlock] at e; omega), fun b e => by simp [Value.ownBlock] at e; omega⟩
    · rw [World.cell?_setCell_other _ _ _ _ (by simp)]; exact cell_set_same hx
    · exact cell_set_same (by rw [World.cell?_setCell_other _ _ _ _ (by simp)]; exact hy)

theorem toLetterS_any (v : Value) (ls : List (Int × List Int)) (w : World) (h : Letters w v ls) (hbk : bulk ls ≤ 1048576) :
    Calls Try.prog 21 #[v] w fun e w' => e = .returned (.slice (some ⟨w.heap.size, 0, none⟩) ls.length ls.length) ∧
      Letters w' (.slice (some ⟨w.heap.size, 0, none⟩) ls.length ls.length) ls ∧ Below w.heap.size w w' := by
  obtain ⟨i0, hi, hz0, hz1, hz2⟩ := info_parts Try.infoLetter
  have hn20 := bulkTo_ge ls ls.length
  have hcl := fun k hk => bulk_len ls k hk
  have HCL := Lib.hid hcl
  have hbk0 := hbk
  unfold bulk at hbk
  have hn : ls.length ≤ 1048576 := by omega
  clear hn20 hcl
  obtain ⟨hl, ad, cap, rfl, hc⟩ := h
  go_enter Try.func21, Try.ntmps21
  go_wp2_with (at_make; refine wpList_make_full _ rfl _ _ 30 rfl w.heap.size 73 i0 (.agg #[.int .i64 0, .slice none 0 0]) 2 Try.underlying30 hi hz0 hz1 _ _ _ _ ls.length rfl rfl rfl rfl ?c1 ?c2 ?c3 ?_)
  case c1 => rw [hz2]; omega
  case c2 => unfold maxLen; omega
  case c3 => exact Nat.le_refl _
  intro w1 hown hgrow
  have hbel : Below w.heap.size w w1 := (Below.refl _ _).grown hgrow (Nat.le_refl _) (fun _ h => by cases h)
  clear hgrow hi hz0 hz1 hz2
  go_wp2
  go_loopw [4] (fun i wr => ∃ (k : Nat) (cs : List Value), k ≤ ls.length ∧ i = .int .i64 k ∧
      wr.ownsRow w.heap.size 73 2 (.slice (some ⟨w.heap.size, 0, none⟩) ls.length ls.length) ls.length cs ∧ Filled wr w.heap.size ls k ∧ Below w.heap.size w wr) (fun i _ => ls.length - (intOf i).toNat)
  case atStart => exact ⟨0, _, Nat.zero_le _, rfl, hown, fun i hi => by omega, hbel⟩
  case round =>
    clear hown hbel
    obtain ⟨k, cs, hk, rfl, hown, hfill, hbel⟩ := hrel
    by_cases hlt : k < ls.length
    · obtain ⟨b, o, u, rfl, e0, e1, hi⟩ := hc k hlt
      have hlen := HCL.out k hlt
      clear hc
      have g0 := (hbel.cell (p := ⟨b, o + k * 2, none⟩) (World.block_lt_of_cell? w _ e0)).trans e0
      have g1 := (hbel.cell (p := ⟨b, o + k * 2 + 1, none⟩) (World.block_lt_of_cell? w _ e1)).trans e1
      clear e0 e1
      have lB : w.heap.size < wr.heap.size := (hown.lt w.heap.size rfl).2
      go_wp2_with fail
      refine (toLetter_any _ _ _ _ (hi.below hbel) (by omega)).mono ?_
      rintro e w2 ⟨g, rfl, hog, hb2⟩
      have hown2 := own_below hown hb2
      have lg : wr.heap.size ≤ g := (hog.lt g rfl).1
      obtain ⟨⟨x, hx⟩, ⟨y, hy⟩, f0, f1⟩ := own_pair hown2 k hlt
      have HF := Lib.hid ((hfill.below hb2).step hx hy (by omega) (Ints.of_own hog (by omega)))
      have HS := Lib.hid ((hown2.stored (k * 2) (.int .i64 (lOwner ls k))).1.stored (k * 2 + 1) (.slice (some ⟨g, 0, none⟩) (lCopies ls k).length (lCopies ls k).length)).1
      have HB := Lib.hid (bnext hbel hb2)
      clear hown hown2 hog hfill hbel hb2 g0 g1 hi
      go_wp2
      go_roundw
      case rel => exact ⟨k + 1, _, by omega, by go_num, HS.out, HF.out, bset (bset HB.out (Nat.le_refl _) _) (Nat.le_refl _) _⟩
      case measure => simp [intOf]; omega
    · obtain rfl : k = ls.length := by omega
      have HF := Lib.hid hfill
      have HB := Lib.hid hbel
      clear hown hc hfill hbel
      go_wp2
      go_ret
      refine ⟨rfl, ⟨hl, _, _, rfl, fun i hi => ?_⟩, HB.out⟩
      obtain ⟨u, h0, h1, h2, _⟩ := HF.out i hi
      exact ⟨w.heap.size, 0, u, rfl, by rw [Nat.zero_add]; exact h0, by rw [Nat.zero_add]; exact h1, h2⟩

theorem eqLetterS_any (a b : Value) (ls ms : List (Int × List Int)) (w : World) (ha : Letters w a ls) (hb : Letters w b ms) :
    Calls Try.prog 23 #[a, b] w fun e w' => e = .returned (.bool (decide (ls = ms))) ∧ Below w.heap.size w w' := by
  obtain ⟨hl, ad, cap, rfl, hc⟩ := ha
  obtain ⟨hl', ad', cap', rfl, hc'⟩ := hb
  by_cases hn : ls.length = ms.length
  · have hne : ((ls.length : Int) != (ms.length : Int)) = false := by simp [hn]
    have HN := Lib.hid hn
    clear hn
    go_enter Try.func23, Try.ntmps23
    go_wp2
    go_loopw [5] (fun i wr => ∃ k : Nat, k ≤ ls.length ∧ i = .int .i64 k ∧ Hid (ls.take k = ms.take k) ∧ Below w.heap.size w wr) (fun i _ => ls.length - (intOf i).toNat)
    case atStart => exact ⟨0, Nat.zero_le _, rfl, rfl, bref _⟩
    case round =>
      obtain ⟨k, hk, rfl, hx, hbel⟩ := hrel
      by_cases hlt : k < ls.length
      · obtain ⟨b, o, u, rfl, e0, e1, hi⟩ := hc k hlt
        obtain ⟨b', o', u', rfl, g0, g1, hi'⟩ := hc' k (by have := HN.out; omega)
        clear hc hc'
        have q0 := (hbel.cell (p := ⟨b, o + k * 2, none⟩) (World.block_lt_of_cell? w _ e0)).trans e0
        have q1 := (hbel.cell (p := ⟨b, o + k * 2 + 1, none⟩) (World.block_lt_of_cell? w _ e1)).trans e1
        have r0 := (hbel.cell (p := ⟨b', o' + k * 2, none⟩) (World.block_lt_of_cell? w _ g0)).trans g0
        have r1 := (hbel.cell (p := ⟨b', o' + k * 2 + 1, none⟩) (World.block_lt_of_cell? w _ g1)).trans g1
        have hu0 := fun x : After wr => x.cell q0
        have hu1 := fun x : After wr => x.cell q1
        have hu2 := fun x : After wr => x.cell r0
        have hu3 := fun x : After wr => x.cell r1
        have j0 := hi.below hbel
        have j1 := hi'.below hbel
        clear e0 e1 g0 g1 q0 q1 r0 r1 hi hi'
        have i0 : (0 : Int) ≤ (k : Int) := by omega
        have i1 : (k : Int) < (ls.length : Int) := by omega
        have i2 : (k : Int) < (ms.length : Int) := by have := HN.out; omega
        have HB := Lib.hid hbel
        clear hbel
        have HC : Hid (∀ x : After wr, Calls Try.prog 59 #[.agg #[.int .i64 (lOwner ls k), u], .agg #[.int .i64 (lOwner ms k), u']] x.w fun e w' => e = .returned (.bool (decide (lOwner ls k = lOwner ms k) && decide (lCopies ls k = lCopies ms k))) ∧ Below x.w.heap.size x.w w') :=
          fun x => eqLetter_any _ _ _ _ _ _ _ (j0.below x.b) (j1.below x.b)
        cases hq : (decide (lOwner ls k = lOwner ms k) && decide (lCopies ls k = lCopies ms k)) with
        | false =>
          have HX := Lib.hid (show ls ≠ ms from fun e => by rw [e] at hq; simp at hq)
          rw [hq] at HC
          go_wp2_with fail
          refine wp_region_after (by kernel_rfl) (by kernel_rfl) ?_
          repeat (go_big_quiet_step ((go_at_call 59; exact after_call (HC.out _))))
          refine wpQuiet_nil ?_
          rintro _ ⟨uq, rfl⟩
          go_wp2
          go_ret
          exact ⟨ret_bool (by simp [HX.out]), bnext HB.out uq.b⟩
        | true =>
          have HX := Lib.hid (show ls.take (k + 1) = ms.take (k + 1) from by
            simp only [Bool.and_eq_true, decide_eq_true_eq] at hq
            rw [take_ls ls k hlt, take_ls ms k (by have := HN.out; omega), hx.out, hq.1, hq.2])
          rw [hq] at HC
          go_wp2_with fail
          refine wp_region_after (by kernel_rfl) (by kernel_rfl) ?_
          repeat (go_big_quiet_step ((go_at_call 59; exact after_call (HC.out _))))
          refine wpQuiet_nil ?_
          rintro _ ⟨uq, rfl⟩
          go_wp2
          go_roundw
          case rel => exact ⟨k + 1, by omega, by go_num, HX.out, bnext HB.out uq.b⟩
          case measure => simp [intOf]; omega
      · have hall := hx.out
        rw [List.take_of_length_le (by omega), List.take_of_length_le (by have := HN.out; omega)] at hall
        have H := Lib.hid hall
        have HB := Lib.hid hbel
        clear hall hc hc' hbel
        go_wp2
        go_ret
        exact ⟨ret_bool (by simp [H.out]), HB.out⟩
  · have hne : ((ls.length : Int) != (ms.length : Int)) = true := by rw [bne_iff_ne]; omega
    have hx : ls ≠ ms := fun e => hn (by rw [e])
    clear hc hc'
    go_enter Try.func23, Try.ntmps23
    go_wp2
    go_ret
    exact ⟨ret_bool (by simp [hx]), bref _⟩

end Go.Proofs.Ytkdpfjaebhgnoaa
