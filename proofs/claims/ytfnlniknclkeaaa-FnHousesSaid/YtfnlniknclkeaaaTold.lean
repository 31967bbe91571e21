/- The walks of IsToldOnce, in the program and in the reference. -/
import Derived.Test.YtfnlniknclkeaaaToldFn
import Derived.Test.YtfnlniknclkeaaaGB
import Derived.Test.YtfnlniknclkeaaaGA
import Derived.Deep.QuietTactic
namespace Go.Proofs.Ytfnlniknclkeaaa
open Go.ChangeShapes Go.WideShapes Go.ChangeAt Go.RowKit

theorem infoIntT : (Try.prog.info? 3).map (fun i => (i.zero, i.size, i.bytes)) = some (some (.int .i64 0), 1, 8) := by kernel_rfl
theorem keyInt : Maps.Keyed Try.prog 3 := Maps.int_keyed Try.underlying3
theorem zeroInt (w : World) : (zeroValue 3).run Try.prog w = .ok (.int .i64 0) w := by kernel_rfl
theorem key_at (x : Int) (h : (Lit.int .i64 x).wf = true) : keyOf Try.prog 3 (.int .i64 x) = some (.int .i64 x) := Maps.keyOf_int_mk Try.underlying3 h
theorem key_lit (x : Int) (h : (Lit.int .i64 x).wf = true) : WideAt.IsKeyLit (.int .i64 x) := keyInt.key (key_at x h)

set_option maxRecDepth 100000 in
theorem implIsToldOnce (v : Value) (ls : List (Int × List Int)) (w : World) (h : Letters w v ls) (hwf : ∀ k, k < ls.length → (Lit.int .i64 (lOwner ls k)).wf = true ∧ ∀ x ∈ lCopies ls k, (Lit.int .i64 x).wf = true) (hbk : bulk ls ≤ 1048576) :
    Calls Try.prog 12 #[v] w fun e w' => e = .returned (.bool (toldOnce ls)) ∧ Below w.heap.size w w' := by
  have hmm := @run_makeMap Try.prog
  obtain ⟨hl, ad, cap, rfl, hc⟩ := h
  have hn : (ls.length : Int) ≤ 1048576 := by have := bulkTo_ge ls ls.length; unfold bulk at hbk; omega
  go_enter Try.func12, Try.ntmps12
  go_wp2_with fail
  go_loopw [13] (fun i wr => ∃ k : Nat, k ≤ ls.length ∧ i = .int .i64 k ∧ wr.ownsMap Try.prog 3 (plainElem (H := Unit) Try.prog 3) w.heap.size k (mapOf (ownersTo ls k)) ∧ wr.ownsMap Try.prog 3 (plainElem (H := Unit) Try.prog 3) (w.heap.size + 1) (copiesTo ls k).length (mapOf (copiesTo ls k)) ∧ Hid ((ownersTo ls k).Nodup ∧ (copiesTo ls k).Nodup) ∧ Below w.heap.size w wr) (fun i _ => ls.length - (intOf i).toNat)
  case atStart => exact ⟨0, Nat.zero_le _, rfl, (World.ownsMap_made w _ _ _).alloc _, by simpa [copiesTo, mapOf] using World.ownsMap_made (H := Unit) (w.alloc _) _ _ _, ⟨List.nodup_nil, List.nodup_nil⟩, balloc (balloc (bref w) _) _⟩
  case round =>
    obtain ⟨k, hk, rfl, hm1, hm2, hnd, hbel⟩ := hrel
    by_cases hlt : k < ls.length
    · obtain ⟨b, o, u, rfl, e0, e1, hi⟩ := hc k hlt
      have g0 := (hbel.cell (p := ⟨b, o + k * 2, none⟩) (World.block_lt_of_cell? w _ e0)).trans e0
      have g1 := (hbel.cell (p := ⟨b, o + k * 2 + 1, none⟩) (World.block_lt_of_cell? w _ e1)).trans e1
      obtain ⟨hlu, adu, capu, rfl, hcu⟩ := hi
      have wo := (hwf k hlt).1
      have HW := Lib.hid (hwf k hlt).2
      have hcb := copiesTo_bd ls k hk
      have hcb1 := copiesTo_bd ls (k + 1) hlt
      have HCL : Hid ((copiesTo ls (k + 1)).length = (copiesTo ls k).length + (lCopies ls k).length) := List.length_append
      have a1 := hm1.alloc (.cells #[.int .i64 (lOwner ls k), .slice adu (lCopies ls k).length capu] 76)
      have a2 := Lib.hid (hm2.alloc (.cells #[.int .i64 (lOwner ls k), .slice adu (lCopies ls k).length capu] 76))
      have hs2 := Lib.hid (And.intro hm1.lt hm2.lt)
      have HB := Lib.hid hbel
      clear hc e0 e1 hm1 hm2 hbel
      by_cases hin : lOwner ls k ∈ ownersTo ls k
      · have H := Lib.hid (told_owner hlt hin)
        go_wp2_with (at_lookup; refine wpList_lookup_own_int _ rfl _ _ 74 rfl 3 3 .i64 keyInt Try.underlying74 Try.underlying3 (zeroInt _) w.heap.size k _ rfl a1 _ _ rfl (key_at _ wo) ?_; intro c hat hwc; obtain rfl := mapOf_c1 (key_lit _ wo) hin hat)
        go_ret
        exact ⟨ret_bool H.out.symm, balloc HB.out _⟩
      · have HN := Lib.hid (nodup_snoc hnd.out.1 hin)
        have a1' := a1
        go_wp2_with (first | (at_lookup; refine wpList_lookup_own_int _ rfl _ _ 74 rfl 3 3 .i64 keyInt Try.underlying74 Try.underlying3 (zeroInt _) w.heap.size k _ rfl a1 _ _ rfl (key_at _ wo) ?_; intro c hat hwc; obtain rfl := mapOf_c0 hin hat; clear hat) | (at_mapUpdate; refine wpList_mapUpdate_own _ rfl _ _ _ 74 rfl 3 3 keyInt Try.underlying74 _ w.heap.size k _ rfl a1' (by unfold maxLen; omega) _ _ _ rfl rfl (key_at _ wo) _ [] (plainElem_int Try.underlying3 (by decide)) ?_; intro w1 hown1 hgrow1; have M1 := Lib.hid hown1; have G1 := Lib.hid hgrow1; have q0 := hgrow1.cell (a := ⟨wr.heap.size, 1, none⟩) (v := .slice adu (lCopies ls k).length capu) (by simp) (by have := hs2.out.1; simp; omega); clear hown1 hgrow1))
        have M2 := Lib.hid (a2.out.kept G1.out (by simp))
        have HB1 := Lib.hid ((balloc HB.out _).grown G1.out (by have := (balloc HB.out (.cells #[.int .i64 (lOwner ls k), .slice adu (lCopies ls k).length capu] 76)).size; exact this) (fun j hj => by cases hj; exact Nat.le_refl _))
        rw [← mapOf_snoc] at M1
        have hol : Hid (ownersTo ls (k + 1) = ownersTo ls k ++ [lOwner ls k]) := rfl
        go_loopw [28] (fun i wq => ∃ j : Nat, j ≤ (lCopies ls k).length ∧ i = .int .i64 j ∧ wq.ownsMap Try.prog 3 (plainElem (H := Unit) Try.prog 3) w.heap.size (k + 1) (mapOf (ownersTo ls k ++ [lOwner ls k])) ∧ wq.ownsMap Try.prog 3 (plainElem (H := Unit) Try.prog 3) (w.heap.size + 1) ((copiesTo ls k).length + j) (mapOf (copiesTo ls k ++ (lCopies ls k).take j)) ∧ Hid ((copiesTo ls k ++ (lCopies ls k).take j).Nodup) ∧ Hid (Below w.heap.size w wq)) (fun i _ => (lCopies ls k).length - (intOf i).toNat)
        case atStart => exact ⟨0, Nat.zero_le _, rfl, M1.out, by simpa using M2.out, by simpa [Hid] using hnd.out.2, HB1⟩
        case round =>
          obtain ⟨j, hj, rfl, hm1, hm2, HND, HBq⟩ := hrel
          by_cases hlj : j < (lCopies ls k).length
          · obtain ⟨b2, o2, rfl, e2⟩ := hcu j hlj
            have g2 := (HBq.out.cell (p := ⟨b2, o2 + j, none⟩) (World.block_lt_of_cell? w _ e2)).trans e2
            have wx := HW.out (nth (lCopies ls k) j) (nth_mem _ _ hlj)
            have hs3 := Lib.hid (And.intro hm1.lt hm2.lt)
            have M1q := Lib.hid hm1
            have m2' := hm2
            have hj20 : (copiesTo ls k).length + j ≤ 1048576 := by have q := HCL.out; omega
            clear hm1 hcu e2
            by_cases hin2 : nth (lCopies ls k) j ∈ copiesTo ls k ++ (lCopies ls k).take j
            · have H := Lib.hid (told_copy hlt hlj hin2)
              go_wp2_with (at_lookup; refine wpList_lookup_own_int _ rfl _ _ 74 rfl 3 3 .i64 keyInt Try.underlying74 Try.underlying3 (zeroInt _) (w.heap.size + 1) _ _ rfl hm2 _ _ rfl (key_at _ wx) ?_; intro c hat hwc; obtain rfl := mapOf_c1 (key_lit _ wx) hin2 hat)
              go_ret
              exact ⟨ret_bool H.out.symm, HBq.out⟩
            · have HN2 := Lib.hid (nodup_snoc HND.out hin2)
              have HCS := Lib.hid (copies_step hlj)
              go_wp2_with (first | (at_lookup; refine wpList_lookup_own_int _ rfl _ _ 74 rfl 3 3 .i64 keyInt Try.underlying74 Try.underlying3 (zeroInt _) (w.heap.size + 1) _ _ rfl hm2 _ _ rfl (key_at _ wx) ?_; intro c hat hwc; obtain rfl := mapOf_c0 hin2 hat; clear hat) | (at_mapUpdate; refine wpList_mapUpdate_own _ rfl _ _ _ 74 rfl 3 3 keyInt Try.underlying74 _ (w.heap.size + 1) ((copiesTo ls k).length + j) _ rfl m2' (by unfold maxLen; omega) _ _ _ rfl rfl (key_at _ wx) _ [] (plainElem_int Try.underlying3 (by decide)) ?_; intro w2 hown1 hgrow1; have M2q := Lib.hid hown1; have G2 := Lib.hid hgrow1; clear hown1 hgrow1))
              go_roundw
              case rel =>
                refine ⟨j + 1, by omega, by go_num, M1q.out.kept G2.out (by simp), ?_, by rw [HCS.out]; exact HN2, HBq.out.grown G2.out (by have := HBq.out.size; exact this) (fun q hq => by cases hq; omega)⟩
                rw [HCS.out, mapOf_snoc]
                exact M2q.out
              case measure => simp [intOf]; omega
          · obtain rfl : j = (lCopies ls k).length := by omega
            rw [copies_end] at hm2 HND
            have M1q := Lib.hid hm1
            have M2q := Lib.hid hm2
            clear hm1 hm2 hcu
            go_wp2
            go_roundw
            case rel => exact ⟨k + 1, by omega, by go_num, by rw [hol.out]; exact M1q.out, by rw [HCL.out]; exact M2q.out, ⟨by rw [hol.out]; exact HN.out, HND.out⟩, HBq.out⟩
            case measure => simp [intOf]; omega
    · obtain rfl : k = ls.length := by omega
      have H := Lib.hid (told_yes hnd.out.1 hnd.out.2)
      clear hc hm1 hm2
      go_wp2
      go_ret
      exact ⟨ret_bool H.out.symm, hbel⟩

theorem letters_at {w : World} {ad : Option Addr} {cap : Nat} {ls : List (Int × List Int)} (h : Letters w (.slice ad ls.length cap) ls) {k : Nat} (hk : k < ls.length) : ∃ b o u, ad = some ⟨b, o, none⟩ ∧ (∀ i, i < ls.length → w.cell? ⟨b, o + i * 2, none⟩ = some (.int .i64 (lOwner ls i))) ∧ w.cell? ⟨b, o + k * 2 + 1, none⟩ = some u ∧ Ints w u (lCopies ls k) := by
  obtain ⟨_, ad', cap', hv, hc⟩ := h
  cases hv
  obtain ⟨b, o, u, rfl, e0, e1, hi⟩ := hc k hk
  refine ⟨b, o, u, rfl, fun i hi => ?_, e1, hi⟩
  obtain ⟨b', o', u', h1, h2, _⟩ := hc i hi
  cases h1
  exact h2
end Go.Proofs.Ytfnlniknclkeaaa
