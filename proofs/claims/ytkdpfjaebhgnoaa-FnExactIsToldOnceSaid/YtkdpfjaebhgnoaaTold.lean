/- The walks of IsToldOnce, in the program and in the reference. -/
import Derived.Test.YtkdpfjaebhgnoaaToldFn
import Derived.Test.YtkdpfjaebhgnoaaOwnL
import Derived.Test.YtkdpfjaebhgnoaaL31Has
import Derived.Test.YtkdpfjaebhgnoaaAfter
import Derived.Test.YtkdpfjaebhgnoaaOnly
import Derived.Deep.QuietTactic
namespace Go.Proofs.Ytkdpfjaebhgnoaa
open Go.ChangeShapes Go.WideShapes Go.ChangeAt Go.RowKit

theorem infoIntT : (Try.prog.info? 3).map (fun i => (i.zero, i.size, i.bytes)) = some (some (.int .i64 0), 1, 8) := by kernel_rfl
theorem keyInt : Maps.Keyed Try.prog 3 := Maps.int_keyed Try.underlying3
theorem zeroInt (w : World) : (zeroValue 3).run Try.prog w = .ok (.int .i64 0) w := by kernel_rfl
theorem key_at (x : Int) (h : (Lit.int .i64 x).wf = true) : keyOf Try.prog 3 (.int .i64 x) = some (.int .i64 x) := Maps.keyOf_int_mk Try.underlying3 h
theorem key_lit (x : Int) (h : (Lit.int .i64 x).wf = true) : WideAt.IsKeyLit (.int .i64 x) := keyInt.key (key_at x h)

set_option maxRecDepth 100000 in
theorem implIsToldOnce (v : Value) (ls : List (Int × List Int)) (w : World) (h : Letters w v ls) (hwf : ∀ k, k < ls.length → (Lit.int .i64 (lOwner ls k)).wf = true ∧ ∀ x ∈ lCopies ls k, (Lit.int .i64 x).wf = true) (hbk : bulk ls ≤ 1048576) :
    Calls Try.prog 47 #[v] w fun e w' => e = .returned (.bool (toldOnce ls)) ∧ Below w.heap.size w w' := by
  have hmm := @run_makeMap Try.prog
  obtain ⟨hl, ad, cap, rfl, hc⟩ := h
  have hn : (ls.length : Int) ≤ 1048576 := by have := bulkTo_ge ls ls.length; unfold bulk at hbk; omega
  go_enter Try.func47, Try.ntmps47
  go_wp2_with fail
  go_loopw [13] (fun i wr => ∃ k : Nat, k ≤ ls.length ∧ i = .int .i64 k ∧ wr.ownsMap Try.prog 3 (plainElem (H := Unit) Try.prog 3) w.heap.size k (mapOf (ownersTo ls k)) ∧ wr.ownsMap Try.prog 3 (plainElem (H := Unit) Try.prog 3) (w.heap.size + 1) (copiesTo ls k).length (mapOf (copiesTo ls k)) ∧ Hid ((ownersTo ls k).Nodup ∧ (copiesTo ls k).Nodup) ∧ Below w.heap.size w wr) (fun i _ => ls.length - (intOf i).toNat)
  case atStart => exact ⟨0, Nat.zero_le _, rfl, (World.ownsMap_made w _ _ _).alloc _, by simpa [copiesTo, mapOf] using World.ownsMap_made (H := Unit) (w.alloc _) _ _ _, ⟨List.nodup_nil, List.nodup_nil⟩, balloc (balloc (bref w) _) _⟩
  case round =>
    obtain ⟨k, hk, rfl, hm1, hm2, hnd, hbel⟩ := hrel
    by_cases hlt : k < ls.length
    · obtain ⟨b, o, u, rfl, e0, e1, hi⟩ := hc k hlt
      have g0 := (hbel.cell (p := ⟨b, o + k * 2, none⟩) (World.block_lt_of_cell? w _ e0)).trans e0
      have g1 := (hbel.cell (p := ⟨b, o + k * 2 + 1, none⟩) (World.block_lt_of_cell? w _ e1)).trans e1
      obtain ⟨hlu, adu, capu, rfl, hcu⟩ := hi
      have wo := (hwf k hlt).1
      have HW := Lib.hid (hwf k hlt).2
      have hcb := copiesTo_bd ls k hk
      have hcb1 := copiesTo_bd ls (k + 1) hlt
      have HCL : Hid ((copiesTo ls (k + 1)).length = (copiesTo ls k).length + (lCopies ls k).length) := List.length_append
      have a1 := hm1.alloc (.cells #[.int .i64 (lOwner ls k), .slice adu (lCopies ls k).length capu] 73)
      have a2 := Lib.hid (hm2.alloc (.cells #[.int .i64 (lOwner ls k), .slice adu (lCopies ls k).length capu] 73))
      have hs2 := Lib.hid (And.intro hm1.lt hm2.lt)
      have HB := Lib.hid hbel
      clear hc e0 e1 hm1 hm2 hbel
      by_cases hin : lOwner ls k ∈ ownersTo ls k
      · have H := Lib.hid (told_owner hlt hin)
        go_wp2_with (at_lookup; refine wpList_lookup_own_int _ rfl _ _ 88 rfl 3 3 .i64 keyInt Try.underlying88 Try.underlying3 (zeroInt _) w.heap.size k _ rfl a1 _ _ rfl (key_at _ wo) ?_; intro c hat hwc; obtain rfl := mapOf_c1 (key_lit _ wo) hin hat)
        go_ret
        exact ⟨ret_bool H.out.symm, balloc HB.out _⟩
      · have HN := Lib.hid (nodup_snoc hnd.out.1 hin)
        have a1' := a1
        go_wp2_with (first | (at_lookup; refine wpList_lookup_own_int _ rfl _ _ 88 rfl 3 3 .i64 keyInt Try.underlying88 Try.underlying3 (zeroInt _) w.heap.size k _ rfl a1 _ _ rfl (key_at _ wo) ?_; intro c hat hwc; obtain rfl := mapOf_c0 hin hat; clear hat) | (at_mapUpdate; refine wpList_mapUpdate_own _ rfl _ _ _ 88 rfl 3 3 keyInt Try.underlying88 _ w.heap.size k _ rfl a1' (by unfold maxLen; omega) _ _ _ rfl rfl (key_at _ wo) _ [] (plainElem_int Try.underlying3 (by decide)) ?_; intro w1 hown1 hgrow1; have M1 := Lib.hid hown1; have G1 := Lib.hid hgrow1; have q0 := hgrow1.cell (a := ⟨wr.heap.size, 1, none⟩) (v := .slice adu (lCopies ls k).length capu) (by simp) (by have := hs2.out.1; simp; omega); clear hown1 hgrow1))
        have M2 := Lib.hid (a2.out.kept G1.out (by simp))
        have HB1 := Lib.hid ((balloc HB.out _).grown G1.out (by have := (balloc HB.out (.cells #[.int .i64 (lOwner ls k), .slice adu (lCopies ls k).length capu] 73)).size; exact this) (fun j hj => by cases hj; exact Nat.le_refl _))
        rw [← mapOf_snoc] at M1
        have hol : Hid (ownersTo ls (k + 1) = ownersTo ls k ++ [lOwner ls k]) := rfl
        go_loopw [28] (fun i wq => ∃ j : Nat, j ≤ (lCopies ls k).length ∧ i = .int .i64 j ∧ wq.ownsMap Try.prog 3 (plainElem (H := Unit) Try.prog 3) w.heap.size (k + 1) (mapOf (ownersTo ls k ++ [lOwner ls k])) ∧ wq.ownsMap Try.prog 3 (plainElem (H := Unit) Try.prog 3) (w.heap.size + 1) ((copiesTo ls k).length + j) (mapOf (copiesTo ls k ++ (lCopies ls k).take j)) ∧ Hid ((copiesTo ls k ++ (lCopies ls k).take j).Nodup) ∧ Hid (Below w.heap.size w wq)) (fun i _ => (lCopies ls k).length - (intOf i).toNat)
        case atStart => exact ⟨0, Nat.zero_le _, rfl, M1.out, by simpa using M2.out, by simpa [Hid] using hnd.out.2, HB1⟩
        case round =>
          obtain ⟨j, hj, rfl, hm1, hm2, HND, HBq⟩ := hrel
          by_cases hlj : j < (lCopies ls k).length
          · obtain ⟨b2, o2, rfl, e2⟩ := hcu j hlj
            have g2 := (HBq.out.cell (p := ⟨b2, o2 + j, none⟩) (World.block_lt_of_cell? w _ e2)).trans e2
            have wx := HW.out (nth (lCopies ls k) j) (nth_mem _ _ hlj)
            have hs3 := Lib.hid (And.intro hm1.lt hm2.lt)
            have M1q := Lib.hid hm1
            have m2' := hm2
            have hj20 : (copiesTo ls k).length + j ≤ 1048576 := by have q := HCL.out; omega
            clear hm1 hcu e2
            by_cases hin2 : nth (lCopies ls k) j ∈ copiesTo ls k ++ (lCopies ls k).take j
            · have H := Lib.hid (told_copy hlt hlj hin2)
              go_wp2_with (at_lookup; refine wpList_lookup_own_int _ rfl _ _ 88 rfl 3 3 .i64 keyInt Try.underlying88 Try.underlying3 (zeroInt _) (w.heap.size + 1) _ _ rfl hm2 _ _ rfl (key_at _ wx) ?_; intro c hat hwc; obtain rfl := mapOf_c1 (key_lit _ wx) hin2 hat)
              go_ret
              exact ⟨ret_bool H.out.symm, HBq.out⟩
            · have HN2 := Lib.hid (nodup_snoc HND.out hin2)
              have HCS := Lib.hid (copies_step hlj)
              go_wp2_with (first | (at_lookup; refine wpList_lookup_own_int _ rfl _ _ 88 rfl 3 3 .i64 keyInt Try.underlying88 Try.underlying3 (zeroInt _) (w.heap.size + 1) _ _ rfl hm2 _ _ rfl (key_at _ wx) ?_; intro c hat hwc; obtain rfl := mapOf_c0 hin2 hat; clear hat) | (at_mapUpdate; refine wpList_mapUpdate_own _ rfl _ _ _ 88 rfl 3 3 keyInt Try.underlying88 _ (w.heap.size + 1) ((copiesTo ls k).length + j) _ rfl m2' (by unfold maxLen; omega) _ _ _ rfl rfl (key_at _ wx) _ [] (plainElem_int Try.underlying3 (by decide)) ?_; intro w2 hown1 hgrow1; have M2q := Lib.hid hown1; have G2 := Lib.hid hgrow1; clear hown1 hgrow1))
              go_roundw
              case rel =>
                refine ⟨j + 1, by omega, by go_num, M1q.out.kept G2.out (by simp), ?_, by rw [HCS.out]; exact HN2, HBq.out.grown G2.out (by have := HBq.out.size; exact this) (fun q hq => by cases hq; omega)⟩
                rw [HCS.out, mapOf_snoc]
                exact M2q.out
              case measure => simp [intOf]; omega
          · obtain rfl : j = (lCopies ls k).length := by omega
            rw [copies_end] at hm2 HND
            have M1q := Lib.hid hm1
            have M2q := Lib.hid hm2
            clear hm1 hm2 hcu
            go_wp2
            go_roundw
            case rel => exact ⟨k + 1, by omega, by go_num, by rw [hol.out]; exact M1q.out, by rw [HCL.out]; exact M2q.out, ⟨by rw [hol.out]; exact HN.out, HND.out⟩, HBq.out⟩
            case measure => simp [intOf]; omega
    · obtain rfl : k = ls.length := by omega
      have H := Lib.hid (told_yes hnd.out.1 hnd.out.2)
      clear hc hm1 hm2
      go_wp2
      go_ret
      exact ⟨ret_bool H.out.symm, hbel⟩

theorem letters_at {w : World} {ad : Option Addr} {cap : Nat} {ls : List (Int × List Int)} (h : Letters w (.slice ad ls.length cap) ls) {k : Nat} (hk : k < ls.length) : ∃ b o u, ad = some ⟨b, o, none⟩ ∧ (∀ i, i < ls.length → w.cell? ⟨b, o + i * 2, none⟩ = some (.int .i64 (lOwner ls i))) ∧ w.cell? ⟨b, o + k * 2 + 1, none⟩ = some u ∧ Ints w u (lCopies ls k) := by
  obtain ⟨_, ad', cap', hv, hc⟩ := h
  cases hv
  obtain ⟨b, o, u, rfl, e0, e1, hi⟩ := hc k hk
  refine ⟨b, o, u, rfl, fun i hi => ?_, e1, hi⟩
  obtain ⟨b', o', u', h1, h2, _⟩ := hc i hi
  cases h1
  exact h2
set_option maxRecDepth 100000 in
set_option maxHeartbeats 1000000 in
theorem specIsToldOnce (v : Value) (ls : List (Int × List Int)) (w : World) (h : Letters w v ls) (hbk : bulk ls ≤ 1048576) :
    Calls Try.prog 46 #[v] w fun e w' => e = .returned (.bool (toldOnce ls)) ∧ Below w.heap.size w w' := by
  obtain ⟨i0, hi0, hz0, hz1, hz2⟩ := info_parts infoIntT
  obtain ⟨ad, cap, rfl⟩ : ∃ ad cap, v = .slice ad ls.length cap := by obtain ⟨_, ad, cap, hh, _⟩ := h; exact ⟨ad, cap, hh⟩
  have hn : (ls.length : Int) ≤ 1048576 := by have := bulkTo_ge ls ls.length; unfold bulk at hbk; omega
  have R0 := Lib.hid (World.ownsRow_lit (e := 3) (size := 1) w #[] 0 (Nat.le_refl _) (by decide) rfl)
  go_enter Try.func46, Try.ntmps46
  go_wp2
  go_loopw [3, 4] (fun s i wr => ∃ k : Nat, k ≤ ls.length ∧ i = .int .i64 k ∧ wr.ownsRow w.heap.size 3 1 s (copiesTo ls k).length ((copiesTo ls k).map (Value.int .i64)) ∧ Hid ((ownersTo ls k).Nodup ∧ (copiesTo ls k).Nodup) ∧ Hid (Below w.heap.size w wr)) (fun _ i _ => ls.length - (intOf i).toNat)
  case atStart => exact ⟨0, Nat.zero_le _, rfl, by simpa [copiesTo] using R0.out, ⟨List.nodup_nil, List.nodup_nil⟩, balloc (bref _) _⟩
  case round =>
    obtain ⟨k, hk, rfl, hown, HND, HB⟩ := hrel
    by_cases hlt : k < ls.length
    · have hcb := copiesTo_bd ls k hk
      have hcb1 := copiesTo_bd ls (k + 1) hlt
      have HCL : Hid ((copiesTo ls (k + 1)).length = (copiesTo ls k).length + (lCopies ls k).length) := List.length_append
      have hlc : ((lCopies ls k).length : Int) ≤ 1048576 := by have := bulk_len ls k hlt; omega
      obtain ⟨adu, capu, rfl⟩ := own_form hown
      have HO := Lib.hid hown
      clear hown
      go_wp2
      go_loopw [5] (fun i wq => ∃ j : Nat, j ≤ k ∧ i = .int .i64 j ∧ Hid (allTo (otherOwner ls k) j = true) ∧ Hid (Below wr.heap.size wr wq)) (fun i _ => k - (intOf i).toNat)
      case atStart => exact ⟨0, Nat.zero_le _, rfl, rfl, bref _⟩
      case round =>
        obtain ⟨j, hj, rfl, HA, HQ⟩ := hrel
        have hl := (h.below HB.out).below HQ.out
        obtain ⟨b, o, u, rfl, e0, e1, hi⟩ := letters_at hl hlt
        by_cases hjk : j < k
        · have ej := e0 j (by omega)
          have ek := e0 k hlt
          have hj2 : j < ls.length := by omega
          clear e0
          by_cases hsame : lOwner ls j = lOwner ls k
          · have H := Lib.hid (told_owner hlt (hsame ▸ owner_mem hjk))
            have hbe : (lOwner ls j == lOwner ls k) = true := by simp [hsame]
            go_wp2_with fail
            go_quiet (fail)
            go_wp2
            go_ret
            exact ⟨ret_bool H.out.symm, bdrewN (bnext HB.out HQ.out) _⟩
          · have HX := Lib.hid (allTo_succ HA.out (show otherOwner ls k j = true by simp [otherOwner, hsame]))
            have hbe : (lOwner ls j == lOwner ls k) = false := by simp [hsame]
            go_wp2_with fail
            go_quiet (fail)
            go_wp2
            go_roundw
            case rel => exact ⟨j + 1, by omega, by go_num, HX.out, bdrewN HQ.out _⟩
            case measure => simp [intOf]; omega
        · obtain rfl : j = k := by omega
          have HNO := Lib.hid (nodup_snoc HND.out.1 (other_all HA.out))
          have HOQ := Lib.hid (own_below HO.out HQ.out)
          have HBQ := Lib.hid (bnext HB.out HQ.out)
          clear e0 e1 hi hl
          go_wp2
          go_loopw [3, 6] (fun s i wq => ∃ m : Nat, m ≤ (lCopies ls j).length ∧ i = .int .i64 m ∧ wq.ownsRow w.heap.size 3 1 s (copiesTo ls j ++ (lCopies ls j).take m).length ((copiesTo ls j ++ (lCopies ls j).take m).map (Value.int .i64)) ∧ Hid ((copiesTo ls j ++ (lCopies ls j).take m).Nodup) ∧ Hid (Below w.heap.size w wq)) (fun _ i _ => (lCopies ls j).length - (intOf i).toNat)
          case atStart => exact ⟨0, Nat.zero_le _, rfl, by simpa using HOQ.out, by simpa [Hid] using HND.out.2, HBQ⟩
          case round =>
            obtain ⟨m, hm, rfl, hown, HN3, HB3⟩ := hrel
            obtain ⟨_, _, u, he, e0, e1, hi⟩ := letters_at (h.below HB3.out) hlt
            cases he
            obtain ⟨_, adx, capx, rfl, hcx⟩ := hi
            have htl : (copiesTo ls j ++ (lCopies ls j).take m).length = (copiesTo ls j).length + m := by simp; omega
            have hsz := HB3.out.size
            have hm20 : (copiesTo ls j).length + m ≤ 1048576 := by have q := HCL.out; omega
            have HTL := Lib.hid htl
            clear e0
            by_cases hmt : m < (lCopies ls j).length
            · obtain ⟨bx, ox, rfl, ex⟩ := hcx m hmt
              clear hcx
              have HCS := Lib.hid (copies_step hmt)
              have HTC := Lib.hid (fun q => told_copy (ls := ls) hlt hmt q)
              generalize copiesTo ls j ++ (lCopies ls j).take m = S at *
              obtain ⟨ads, caps, rfl⟩ := own_form hown
              have hiS := Ints.of_own hown (by omega)
              clear htl
              by_cases hin : nth (lCopies ls j) m ∈ S
              · have H := Lib.hid (HTC.out hin)
                have hdi : decide (nth (lCopies ls j) m ∈ S) = true := decide_eq_true hin
                clear hown
                go_wp2_with (first | (go_at_call 66; refine (l31Has_any _ _ (nth (lCopies ls j) m) _ hiS).mono ?_; rw [hdi]; rintro e w' ⟨rfl, rfl⟩))
                go_ret
                exact ⟨ret_bool H.out.symm, HB3.out⟩
              · have HN4 := Lib.hid (nodup_snoc HN3.out hin)
                have hdi : decide (nth (lCopies ls j) m ∈ S) = false := decide_eq_false hin
                go_wp2_with (first | (go_at_call 66; refine (l31Has_any _ _ (nth (lCopies ls j) m) _ hiS).mono ?_; rw [hdi]; rintro e w' ⟨rfl, rfl⟩) | (at_builtin; refine wpList_append_own _ rfl _ _ 22 rfl w.heap.size 3 i0 (.int .i64 0) 1 8 Try.underlying22 hi0 hz0 hz1 hz2 rfl (by decide) _ _ _ rfl (hown.alloc _) ⟨wr.heap.size, 0, none⟩ 1 1 [.int .i64 (nth (lCopies ls j) m)] rfl rfl (cell_one_new _ _ _) (ints_oneCell .i64 [nth (lCopies ls j) m]) (by rw [HTL.out]; unfold maxLen; omega) (by rw [HTL.out]; omega) (by simp; omega) ?_; intro v' w4 hown' hgrow hnil; have HO4 := Lib.hid hown'; have HW := Lib.hid ((HB3.out.alloc (by omega) _).grown hgrow (by simp; omega) (fun b e => (hown.lt b e).1)); clear hown' hgrow hnil))
                go_roundw
                case rel =>
                  refine ⟨m + 1, by omega, by go_num, ?_, by rw [HCS.out]; exact HN4, HW⟩
                  rw [HCS.out]
                  simpa using HO4.out
                case measure => simp [intOf]; omega
            · obtain rfl : m = (lCopies ls j).length := by omega
              rw [copies_end] at hown HN3
              have HO5 := Lib.hid hown
              clear hown hcx
              go_wp2
              go_roundw
              case rel => exact ⟨j + 1, by omega, by go_num, HO5.out, ⟨HNO.out, HN3.out⟩, HB3⟩
              case measure => simp [intOf]; omega
    · obtain rfl : k = ls.length := by omega
      have H := Lib.hid (told_yes HND.out.1 HND.out.2)
      clear hown
      go_wp2
      go_ret
      exact ⟨ret_bool H.out.symm, HB.out⟩

theorem specToldW (v : Value) (ls : List (Int × List Int)) (w : World) (h : Letters w v ls) (_ : ∀ k, k < ls.length → (Lit.int .i64 (lOwner ls k)).wf = true ∧ ∀ x ∈ lCopies ls k, (Lit.int .i64 x).wf = true) (hbk : bulk ls ≤ 1048576) :
    Calls Try.prog 46 #[v] w fun e w' => e = .returned (.bool (toldOnce ls)) ∧ Below w.heap.size w w' := specIsToldOnce v ls w h hbk
end Go.Proofs.Ytkdpfjaebhgnoaa
