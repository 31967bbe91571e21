/- The walks of DueOrder, in the program and in the reference. -/
import Derived.Test.YtdchgbhhlocmdaaDueS
import Derived.Test.YtdchgbhhlocmdaaSortW
namespace Go.Proofs.Ytdchgbhhlocmdaa
open Go.ChangeShapes Go.WideShapes Go.ChangeAt Go.RowKit

theorem dueP_small {n : Nat} {xs : List Int} (h : n ≤ 1) : rangeI n = dueP n xs := by
  refine dueP_of (List.Perm.refl _) ?_
  rcases Nat.eq_zero_or_pos n with q | q
  · subst q; exact List.Pairwise.nil
  · obtain rfl : n = 1 := by omega
    exact List.pairwise_singleton _ _
theorem dueOrder_f {n : Nat} {xs : List Int} (h : visitsOk n xs = false) : dueOrder n xs = [] := if_neg (by simp [h])
theorem dueOrder_t {n : Nat} {xs : List Int} (h : visitsOk n xs = true) : dueOrder n xs = dueP n xs := if_pos h
theorem recs_cells {w : World} {ad : Option Addr} {n cap : Nat} {xs : List Int} (h : Recs 2 w (.slice ad n cap) n xs) (h0 : 0 < n) : ∃ b o, ad = some ⟨b, o, none⟩ ∧ ∀ k, k < n → w.cell? ⟨b, o + k * 2, none⟩ = some (.int .i64 (dueV xs k)) := by
  obtain ⟨_, he, ad', cap', hv, hc⟩ := h
  cases hv
  obtain ⟨b, o, rfl, _⟩ := hc 0 (by omega)
  refine ⟨b, o, rfl, fun k hk => ?_⟩
  obtain ⟨b', o', h1, h2⟩ := hc (k * 2) (by omega)
  cases h1
  exact h2
set_option maxRecDepth 100000 in
set_option maxHeartbeats 1000000 in
theorem implDueOrder (v : Value) (n : Nat) (xs : List Int) (w : World) (h : Recs 2 w v n xs) : Calls Try.prog 15 #[v] w (Gives w (dueOrder n xs)) := by
  obtain ⟨i0, hi0, hz0, hz1, hz2⟩ := info_parts infoInt'
  obtain ⟨adv, capv, rfl⟩ : ∃ ad cap, v = .slice ad n cap := by obtain ⟨_, _, ad, cap, hh, _⟩ := h; exact ⟨ad, cap, hh⟩
  cases h1 : visitsOk n xs with
  | false =>
    have HX := Lib.hid (dueOrder_f h1)
    go_enter Try.func15, Try.ntmps15
    go_wp2_with (first | (go_at_call 30; refine (implVisitsOk _ n xs _ (h.alloc _)).mono ?_; rw [h1]; rintro e w1 ⟨rfl, hb1⟩))
    go_ret
    exact ⟨_, rfl, by rw [HX.out]; exact World.ownsRow_nil _ _ _ _, bnext (balloc (bref _) _) hb1⟩
  | true =>
    have h12 := visitsOk_n h1
    have HX := Lib.hid (dueOrder_t h1)
    go_enter Try.func15, Try.ntmps15
    go_wp2_with (first | (go_at_call 30; refine (implVisitsOk _ n xs _ (h.alloc _)).mono ?_; rw [h1]; rintro e w1 ⟨rfl, hb1⟩; have D1 := Lib.hid (bnext (balloc (bref w) _) hb1); have b0 : w1.cell? ⟨w.heap.size, 0, none⟩ = some (.slice adv n capv) := (hb1.cell (p := ⟨w.heap.size, 0, none⟩) (by simp)).trans (by go_simp); have z1 : w.heap.size < w1.heap.size := (by have q := hb1.size; simp at q; omega); clear hb1))
    have T1 := Lib.hid (h.below D1.out)
    go_loopw [10] (fun i wr => ∃ (k : Nat) (u : Value), k ≤ n ∧ i = .int .i64 k ∧ wr.cell? ⟨w1.heap.size, 0, none⟩ = some u ∧ wr.frozen? ⟨w1.heap.size, 0, none⟩ = false ∧ w1.heap.size + 1 ≤ wr.heap.size ∧
      wr.ownsRow (w1.heap.size + 1) 3 1 u k ((rangeI k).map (Value.int .i64)) ∧ Hid (Below w1.heap.size w1 wr)) (fun i _ => n - (intOf i).toNat)
    case atStart => exact ⟨0, .slice none 0 0, Nat.zero_le _, rfl, by go_simp, by go_simp, by simp, World.ownsRow_nil _ _ _ _, balloc (bref _) _⟩
    case round =>
      obtain ⟨k, u, hk, rfl, c0, f0, zr, hown, HB⟩ := hrel
      have bl : wr.cell? ⟨w.heap.size, 0, none⟩ = some (.slice adv n capv) := (HB.out.cell (p := ⟨w.heap.size, 0, none⟩) z1).trans b0
      obtain ⟨adu, capu, rfl⟩ := own_form hown
      have hX : (Value.slice adu k capu).ownBlock ≠ some w1.heap.size := fun e => absurd (hown.lt _ e).1 (by omega)
      by_cases hlt : k < n
      · have yx : w1.heap.size < wr.heap.size := by omega
        go_wp2_with (first | (at_builtin; refine wpList_append_own _ rfl _ _ 24 rfl (w1.heap.size + 1) 3 i0 (.int .i64 0) 1 8 Try.underlying24 hi0 hz0 hz1 hz2 rfl (by decide) _ _ _ rfl (hown.alloc _) ⟨wr.heap.size, 0, none⟩ 1 1 [.int .i64 k] rfl rfl (cell_one_new _ _ _) (ints_oneCell .i64 [(k : Int)]) (by unfold maxLen; omega) (by omega) (by simp; omega) ?_; intro v' w3 hown' hgrow hnil; obtain ⟨ad', cap', rfl⟩ := own_form hown'; have HO := Lib.hid hown'; have q3 : wr.heap.size + 1 ≤ w3.heap.size := (by have q := hgrow.size; simp at q; exact q); have c3 : w3.cell? ⟨w1.heap.size, 0, none⟩ = some (.slice adu k capu) := (World.cell?_of_block (hgrow.block w1.heap.size (by simp; omega) (fun e => hX e.symm))).trans (by go_simp); have f3 : w3.frozen? ⟨w1.heap.size, 0, none⟩ = false := (World.frozen?_of_block (hgrow.block w1.heap.size (by simp; omega) (fun e => hX e.symm))).trans (by go_simp); have HW := Lib.hid ((HB.out.alloc (by omega) (.cells #[.int .i64 k] 3)).grown hgrow (by simp; omega) (fun b e => by have := (hown.lt b e).1; omega)); clear hown' hgrow hnil))
        have hX3 : (Value.slice ad' (k + 1) cap').ownBlock ≠ some w1.heap.size := fun e => absurd (HO.out.lt _ e).1 (by omega)
        go_roundw
        case rel =>
          refine ⟨k + 1, .slice ad' (k + 1) cap', by omega, by go_num, by go_simp, by go_simp, by simp; omega, ?_, bset HW.out (Nat.le_refl _) _⟩
          have := own_set HO.out (a := ⟨w1.heap.size, 0, none⟩) hX3 (.slice ad' (k + 1) cap')
          simpa [rangeI_succ] using this
        case measure => simp [intOf]; omega
      · obtain rfl : k = n := by omega
        by_cases hk1 : k ≤ 1
        · have HO := Lib.hid hown
          clear hown
          go_wp2_with (first | (go_at_call 63; refine (sortTiny adu k capu hk1 _ _).mono ?_; rintro e w4 ⟨rfl, hb4⟩; have c4 := (hb4.cell (p := ⟨w1.heap.size, 0, none⟩) zr).trans c0))
          go_ret
          refine ⟨_, rfl, ?_, bnext (bnext D1.out HB.out) hb4⟩
          rw [HX.out, dueP_len, ← dueP_small hk1]
          exact own_base (own_below HO.out hb4) (by omega)
        · obtain ⟨m, rfl⟩ : ∃ m, k = m + 1 := ⟨k - 1, by omega⟩
          obtain ⟨lb, lo, rfl, hx⟩ := recs_cells T1.out (by omega)
          obtain ⟨g, rfl, hg⟩ : ∃ g, adu = some ⟨g, 0, none⟩ ∧ w1.heap.size + 1 ≤ g := by
            rcases hown.2 with ⟨q, _⟩ | ⟨g, c, cur, hv, hb, _⟩
            · cases q
            · cases hv; exact ⟨g, rfl, hb⟩
          have hlb : lb < w1.heap.size := World.block_lt_of_cell? w1 _ (hx 0 (by omega))
          have hsort := sortDue w.heap.size w1.heap.size lb lo g capv capu (w1.heap.size + 1) m xs wr bl c0 (fun k hk => (HB.out.cell (p := ⟨lb, lo + k * 2, none⟩) hlb).trans (hx k hk)) hown (by omega) (by omega) (by omega) (by omega) (by omega)
          clear hx
          have HO := Lib.hid hown
          clear hown
          go_wp2_with (first | (go_at_call 63; refine hsort.mono ?_; rintro e w4 ⟨rfl, hown4, hg4⟩; have c4 := (World.cell?_of_block (hg4.block w1.heap.size (by omega) (by simp; omega))).trans c0; have HO4 := Lib.hid hown4; have HG4 := Lib.hid hg4; clear hown4 hg4))
          go_ret
          refine ⟨_, rfl, ?_, (bnext D1.out HB.out).grown HG4.out (by have := D1.out.size; omega) (fun b e => by cases e; omega)⟩
          rw [HX.out, dueP_len]
          exact own_base HO4.out (by omega)

theorem dueV_cell {w : World} {ad : Option Addr} {n cap : Nat} {xs : List Int} (h : Recs 2 w (.slice ad n cap) n xs) {k : Nat} (hk : k < n) : ∃ b o, ad = some ⟨b, o, none⟩ ∧ ∀ k, k < n → w.cell? ⟨b, o + k * 2, none⟩ = some (.int .i64 (dueV xs k)) := recs_cells h (by omega)
theorem due_low {xs R : List Int} {i k : Nat} (hs : (R.take i).Pairwise (dueLt xs)) (hi : i < R.length) (hki : k ≤ i) (hc : k = 0 ∨ ¬ dueV xs (nth R i).toNat < dueV xs (nth R (k - 1)).toNat) (hall : ∀ j, j < i → nth R j < nth R i) : ∀ j, j < k → dueLt xs (nth R j) (nth R i) := by
  intro j hj
  have hjk : nth R j = nth R (k - 1) ∨ dueLt xs (nth R j) (nth R (k - 1)) := by
    rcases Nat.lt_or_ge j (k - 1) with q | q
    · right
      have := (List.pairwise_iff_getElem.1 hs) j (k - 1) (by simp; omega) (by simp; omega) q
      simpa [nth, show j < R.length by omega, show k - 1 < R.length by omega] using this
    · left; rw [show j = k - 1 by omega]
  have h1 := hall j (by omega)
  have h2 := hall (k - 1) (by omega)
  rcases hc with q | q
  · omega
  · rcases hjk with e | e
    · rw [e]; unfold dueLt; omega
    · unfold dueLt at e ⊢; omega
set_option maxRecDepth 100000 in
set_option maxHeartbeats 2000000 in
theorem specDueOrder (v : Value) (n : Nat) (xs : List Int) (w : World) (h : Recs 2 w v n xs) : Calls Try.prog 13 #[v] w (Gives w (dueOrder n xs)) := by
  obtain ⟨i0, hi0, hz0, hz1, hz2⟩ := info_parts infoInt'
  obtain ⟨adv, capv, rfl⟩ : ∃ ad cap, v = .slice ad n cap := by obtain ⟨_, _, ad, cap, hh, _⟩ := h; exact ⟨ad, cap, hh⟩
  have hl := h.len
  have R0 := Lib.hid (World.ownsRow_lit (e := 3) (size := 1) w #[] 0 (Nat.le_refl _) (by decide) rfl)
  go_enter Try.func13, Try.ntmps13
  go_wp2
  cases h1 : visitsOk n xs with
  | false =>
    have HX := Lib.hid (dueOrder_f h1)
    go_loopw [3, 4] (fun u i wr => u = .slice (some ⟨w.heap.size, 0, none⟩) 0 0 ∧ i = .int .i64 0 ∧ wr = w.alloc (.cells #[] 3)) (fun _ _ _ => 0)
    case atStart => exact ⟨rfl, rfl, rfl⟩
    case round =>
      obtain ⟨rfl, rfl, rfl⟩ := hrel
      by_cases hlt : 0 < n
      · go_wp2_with (first | (go_at_call 61; refine (specVisitsOk _ n xs _ (h.alloc _)).mono ?_; rw [h1]; rintro e w1 ⟨rfl, hb1⟩; have HB1 := Lib.hid hb1; clear hb1))
        go_ret
        exact ⟨_, rfl, by rw [HX.out]; exact own_below R0.out HB1.out, bnext (balloc (bref _) _) HB1.out⟩
      · go_wp2
        go_ret
        exact ⟨_, rfl, by rw [HX.out]; exact R0.out, balloc (bref _) _⟩
  | true =>
    have h12 := visitsOk_n h1
    have HX := Lib.hid (dueOrder_t h1)
    go_loopw [3, 4] (fun u i wr => ∃ (k : Nat) (R : List Int), k ≤ n ∧ i = .int .i64 k ∧ R.length = k ∧ Hid (R.Perm (rangeI k)) ∧ Hid (R.Pairwise (dueLt xs)) ∧ wr.ownsRow w.heap.size 3 1 u k (R.map (Value.int .i64)) ∧ Hid (Below w.heap.size w wr)) (fun _ i _ => n - (intOf i).toNat)
    case atStart => exact ⟨0, [], Nat.zero_le _, rfl, rfl, List.Perm.refl _, List.Pairwise.nil, R0.out, balloc (bref _) _⟩
    case round =>
      obtain ⟨k, R, hk, rfl, hRl, HP, HS, hown, HB⟩ := hrel
      obtain ⟨adu, capu, rfl⟩ := own_form hown
      have hv := h.below HB.out
      by_cases hlt : k < n
      · have zr := HB.out.size
        go_wp2_with (first | (go_at_call 61; refine (specVisitsOk _ n xs _ hv).mono ?_; rw [h1]; rintro e w1 ⟨rfl, hb1⟩; have hown1 := own_below hown hb1; have q1 := hb1.size; have HB1 := Lib.hid (bnext HB.out hb1); clear hb1) | (at_builtin; refine wpList_append_own _ rfl _ _ 24 rfl w.heap.size 3 i0 (.int .i64 0) 1 8 Try.underlying24 hi0 hz0 hz1 hz2 rfl (by decide) _ _ _ rfl (hown1.alloc _) ⟨w1.heap.size, 0, none⟩ 1 1 [.int .i64 k] rfl rfl (cell_one_new _ _ _) (ints_oneCell .i64 [(k : Int)]) (by unfold maxLen; omega) (by omega) (by simp; omega) ?_; intro v' w3 hown' hgrow hnil; have HO := Lib.hid hown'; have HW := Lib.hid ((HB1.out.alloc (by omega) (.cells #[.int .i64 k] 3)).grown hgrow (by simp; omega) (fun b e => (hown1.lt b e).1)); clear hown' hgrow hnil hown1))
        obtain ⟨g, c2, rfl, hg⟩ : ∃ g c, v' = .slice (some ⟨g, 0, none⟩) (k + 1) c ∧ w.heap.size ≤ g := by
          rcases HO.out.2 with ⟨_, q⟩ | ⟨g, c, cur, hv, hb, _⟩
          · omega
          · exact ⟨g, c, hv, hb⟩
        have hRk : (R ++ [(k : Int)]).length = k + 1 := by simp [hRl]
        have hnk : nth (R ++ [(k : Int)]) k = k := by simp [nth, ← hRl]
        have HM := Lib.hid (show ∀ j, j < k → 0 ≤ nth (R ++ [(k : Int)]) j ∧ nth (R ++ [(k : Int)]) j < k from fun j hj => by
          have e : nth (R ++ [(k : Int)]) j = nth R j := by simp [nth, List.getElem?_append, show j < R.length by omega]
          rw [e]
          exact rangeI_mem.1 (HP.out.mem_iff.1 (nth_in (by omega))))
        have HTk := Lib.hid (show ((R ++ [(k : Int)]).take k).Pairwise (dueLt xs) from by rw [List.take_append_of_le_length (by omega), List.take_of_length_le (by omega)]; exact HS.out)
        have HPk := Lib.hid (show (R ++ [(k : Int)]).Perm (rangeI (k + 1)) from by rw [rangeI_succ]; exact HP.out.append_right _)
        have HO2 := Lib.hid (show w3.ownsRow w.heap.size 3 1 (.slice (some ⟨g, 0, none⟩) (k + 1) c2) (k + 1) ((R ++ [(k : Int)]).map (Value.int .i64)) from by simpa using HO.out)
        clear HO hown
        generalize R ++ [(k : Int)] = S at *
        obtain ⟨lb, lo, rfl, hx⟩ := recs_cells hv (by omega)
        have hlb : lb < wr.heap.size := World.block_lt_of_cell? wr _ (hx 0 (by omega))
        have HXC := Lib.hid (show ∀ wq, Below w.heap.size w wq → ∀ k, k < n → wq.cell? ⟨lb, lo + k * 2, none⟩ = some (.int .i64 (dueV xs k)) from fun wq hq => by
          obtain ⟨_, _, e, hx⟩ := recs_cells (h.below hq) (by omega)
          cases e
          exact hx)
        clear hx
        go_wp2
        go_loopw [5] (fun a wr => ∃ (j : Nat) (q : Int), a = .int .i64 j ∧ j ≤ k ∧ Hid (∀ i, j ≤ i → i < k → dueLt xs (nth S k) (nth S i)) ∧ wr.ownsRow w.heap.size 3 1 (.slice (some ⟨g, 0, none⟩) (k + 1) c2) (k + 1) ((shiftRow S k j q).map (Value.int .i64)) ∧ Hid (Below w.heap.size w wr)) (fun a _ => (intOf a).toNat)
        case atStart => exact ⟨k, nth S k, rfl, Nat.le_refl _, fun i a b => absurd a (by omega), by rw [shiftRow_start (by omega)]; exact HO2.out, HW.out⟩
        case round =>
          obtain ⟨j, q, rfl, hj, HH, hown, HV⟩ := hrel
          have hsl := shiftRow_len q hj (show k < S.length by omega)
          have f0 := hown.frozenAt j
          obtain ⟨u0, c0⟩ := own_cell hown j (by omega)
          by_cases hj0 : j = 0
          · subst hj0
            have HOW := Lib.hid hown
            clear hown
            go_wp2_with fail
            go_quiet (fail)
            go_wp2
            go_roundw
            case rel =>
              have hpw := shiftRow_pw hj (show k < S.length by omega) HTk.out (fun j hj => absurd hj (by omega)) HH.out
              rw [List.take_of_length_le (by rw [shiftRow_len _ hj (by omega)]; omega)] at hpw
              refine ⟨k + 1, shiftRow S k 0 (nth S k), by omega, by go_num, by rw [shiftRow_len _ hj (by omega)]; exact hRk, (shiftRow_perm hj (by omega)).trans HPk.out, hpw, ?_, bset (bdrewN HV.out nq) hg _⟩
              have h1 := own_store (own_below HOW.out (bdrewN (bref wr) nq)) 0 (nth S k)
              rw [shiftRow_set _ _ hj (by omega), hnk] at h1
              rw [hnk]
              exact h1
            case measure => simp [intOf]; omega
          · have e1 := own_at hown (k := j - 1) (by omega)
            rw [shiftRow_nth q hj (by omega) (show j - 1 < j by omega)] at e1
            have tn : ((j : Int) - 1).toNat = j - 1 := by omega
            have ge1 : (0 : Int) ≤ (j : Int) - 1 := by omega
            have gk : (0 : Int) < (j : Int) := by omega
            obtain ⟨hm1, hm2⟩ := HM.out (j - 1) (by omega)
            have hm3 : nth S (j - 1) < (n : Int) := by omega
            have lt1 : (j : Int) - 1 < (k : Int) + 1 := by omega
            have lt2 : (j : Int) - 1 < ((k + 1 : Nat) : Int) := by omega
            have lt3 : j - 1 < k + 1 := by omega
            have gk2 : 0 < j := by omega
            have lt4 : (nth S (j - 1)).toNat < n := by omega
            have hxc := HXC.out wr HV.out
            have xk := hxc k hlt
            have xm := hxc (nth S (j - 1)).toNat (by omega)
            clear hxc
            have HOW := Lib.hid hown
            clear hown
            by_cases hc : dueV xs k < dueV xs (nth S (j - 1)).toNat
            · go_wp2_with fail
              go_quiet (fail)
              go_wp2
              go_roundw
              case rel =>
                refine ⟨j - 1, nth S (j - 1), by go_num, by omega, fun i h1 h2 => ?_, ?_, bset (bdrewN HV.out nq) hg _⟩
                · rcases Nat.eq_or_lt_of_le h1 with z | z
                  · rw [← z, hnk]; exact .inl hc
                  · exact HH.out i (by omega) h2
                · have h1 := own_store (own_below HOW.out (bdrewN (bref wr) nq)) j (nth S (j - 1))
                  rw [shiftRow_step _ (by omega) hj (by omega)] at h1
                  exact h1
              case measure => simp [intOf]; omega
            · go_wp2_with fail
              go_quiet (fail)
              go_wp2
              go_roundw
              case rel =>
                have hpw := shiftRow_pw hj (show k < S.length by omega) HTk.out (due_low HTk.out (by omega) hj (.inr (by rw [hnk, Int.toNat_natCast]; omega)) (fun i hi => by rw [hnk]; exact (HM.out i hi).2)) HH.out
                rw [List.take_of_length_le (by rw [shiftRow_len _ hj (by omega)]; omega)] at hpw
                refine ⟨k + 1, shiftRow S k j (nth S k), by omega, by go_num, by rw [shiftRow_len _ hj (by omega)]; exact hRk, (shiftRow_perm hj (by omega)).trans HPk.out, hpw, ?_, bset (bdrewN HV.out nq) hg _⟩
                have h1 := own_store (own_below HOW.out (bdrewN (bref wr) nq)) j (nth S k)
                rw [shiftRow_set _ _ hj (by omega), hnk] at h1
                rw [hnk]
                exact h1
              case measure => simp [intOf]; omega
      · obtain rfl : k = n := by omega
        have HO := Lib.hid (show wr.ownsRow w.heap.size 3 1 (.slice adu k capu) (dueP k xs).length ((dueP k xs).map (Value.int .i64)) from by rw [dueP_len, ← dueP_of HP.out HS.out]; exact hown)
        clear hown
        go_wp2
        go_ret
        exact ⟨_, rfl, by rw [HX.out]; exact HO.out, HB.out⟩
end Go.Proofs.Ytdchgbhhlocmdaa
