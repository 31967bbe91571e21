/- The walks of SplitFields, in the program and in the reference. -/
import Derived.Test.YtlipfkalehikkaaGreatDoorSplitFn
import Derived.Test.YtlipfkalehikkaaGreatDoorTextO
import Derived.Test.YtlipfkalehikkaaGreatDoorGB
namespace Go.Proofs.YtlipfkalehikkaaGreatDoor
open Go.ChangeShapes Go.WideShapes Go.ChangeAt Go.RowKit
theorem infoStrP : (Tryz.prog.info? 9).map (fun i => (i.zero, i.size, i.bytes)) = some (some (.string { data := #[] }), 1, 16) := by kernel_rfl
theorem app_belowP {B : Nat} {w wr w1 : World} {e : TypeId} {o : Obj} {v : Value} {n : Nat} {L : List Value} (hown : wr.ownsRow B e 1 v n L) (hgrow : (wr.alloc o).grownBy w1 v.ownBlock) (hbel : Below B w wr) (hB : B ≤ w.heap.size) : Below B w w1 :=
  (hbel.alloc (Nat.le_trans hB hbel.size) _).grown hgrow (by have := hbel.size; simp; omega) (fun k hk => (hown.lt k hk).1)
theorem str_oneCellP (a : ByteArray) : ∀ u ∈ [Value.string a], u.oneCell' = true := by intro u hu; simp at hu; subst hu; rfl

theorem own_formP {w : World} {B : Nat} {e : TypeId} {v : Value} {n : Nat} {L : List Value} (h : w.ownsRow B e 1 v n L) : ∃ ad cap, v = .slice ad n cap := by
  rcases h.2 with ⟨rfl, h0⟩ | ⟨g, cap, cur, rfl, _⟩
  · exact ⟨none, 0, by rw [h0]⟩
  · exact ⟨_, _, rfl⟩
set_option maxRecDepth 100000 in
set_option maxHeartbeats 4000000 in
theorem implSplitFields (l : List UInt8) (hl : l.length ≤ 1000000000) (w : World) : Calls Tryz.prog 23 #[.string (bstr l)] w fun e w' => ∃ v, e = .returned (.tuple #[v, .bool (splitFields l).isSome]) ∧ w'.ownsRow w.heap.size 9 1 v ((splitFields l).getD []).length (((splitFields l).getD []).map sv) ∧ Below w.heap.size w w' := by
  obtain ⟨i0, hi, hz0, hz1, hz2⟩ := info_parts infoStrP
  have hsz := bstr_size l
  by_cases h6 : 600 < l.length
  · have H := Lib.hid (split_long h6)
    have i6 : (600 : Int) < (l.length : Int) := by omega
    go_enter Tryz.func23, Tryz.ntmps23
    go_wp2
    refine bodyPost_ret (v := .tuple #[Value.slice none 0 0, .bool false]) (by simp [results, Tryz.results23, go_sem]) rfl ?_
    rw [H.out]
    exact ⟨_, rfl, World.ownsRow_nil _ _ _ _, bref _⟩
  · have i6 : ¬ (600 : Int) < (l.length : Int) := by omega
    go_enter Tryz.func23, Tryz.ntmps23
    go_wp2
    go_loopw [4, 5, 6] (fun v f i wr => ∃ (k : Nat) (A : List (List UInt8)) (z : Int), k ≤ l.length + 1 ∧ i = .int .i64 k ∧ f = .int .i64 z ∧ Hid (SpI l k A z) ∧ Hid (wr.ownsRow w.heap.size 9 1 v A.length (A.map sv)) ∧ Hid (Below w.heap.size w wr)) (fun _ _ i _ => l.length + 1 - (intOf i).toNat)
    case atStart => exact ⟨0, [], -1, Nat.zero_le _, rfl, rfl, SpI.start l, World.ownsRow_nil _ _ _ _, bref _⟩
    case round =>
      obtain ⟨k, A, z, hk, rfl, rfl, HS, HO, HB⟩ := hrel
      by_cases hend : k = l.length + 1
      · have HD := Lib.hid (HS.out.last hend)
        have HP := Lib.hid (show plainTo l (l.length + 1) = true by rw [← hend]; exact HS.out.plain)
        have hgt : ¬ (k : Int) ≤ (l.length : Int) := by omega
        obtain ⟨adv, capv, rfl⟩ := own_formP HO.out
        clear hend
        by_cases h24 : A.length ≤ 24
        · have H := Lib.hid (split_some (by omega) HP.out HD.out h24)
          have j24 : ¬ (24 : Int) < (A.length : Int) := by omega
          go_wp2
          refine bodyPost_ret (v := .tuple #[Value.slice adv A.length capv, .bool true]) (by simp [results, Tryz.results23, go_sem]) rfl ?_
          rw [H.out]
          exact ⟨_, rfl, HO.out, HB.out⟩
        · have H := Lib.hid (split_many (by omega) HP.out HD.out h24)
          have j24 : (24 : Int) < (A.length : Int) := by omega
          go_wp2
          refine bodyPost_ret (v := .tuple #[Value.slice none 0 0, .bool false]) (by simp [results, Tryz.results23, go_sem]) rfl ?_
          rw [H.out]
          exact ⟨_, rfl, World.ownsRow_nil _ _ _ _, HB.out⟩
      · have hle : (k : Int) ≤ (l.length : Int) := by omega
        have HAL := Lib.hid (fields_le (by omega) (by omega) (HS.out.here (by omega)).1)
        by_cases hkl : k = l.length
        · have hbl : k = l.length ∨ (bt l k).toNat = 32 := .inl hkl
          have heq : ((k : Int) == (l.length : Int)) = true := by rw [beq_iff_eq]; omega
          clear hkl
          rcases HS.out.blank (by omega) hbl with ⟨rfl, hn⟩ | ⟨b, c, rfl, hbk, hc, hn⟩
          · have HN := Lib.hid hn
            clear hbl
            go_wp2_with fail
            go_roundw
            case rel => exact ⟨k + 1, A, -1, by omega, by go_num, rfl, HN, HO, HB⟩
            case measure => simp [intOf]; omega
          · have HSn := Lib.hid hn
            have hsl := fun W => slice_bstr (P := Tryz.prog) Tryz.underlying9 hbk (by omega) hc W
            have hb0 : (0 : Int) ≤ (b : Int) := by omega
            clear hbl hc
            have hAl : A.length ≤ 600 := HAL.out
            have zr := HB.out.size
            go_wp2_with (first | (at_builtin; (refine wpList_append_own _ rfl _ _ 33 rfl w.heap.size 9 i0 (.string { data := #[] }) 1 16 Tryz.underlying33 hi hz0 hz1 hz2 rfl (by decide) _ _ _ rfl (HO.out.alloc _) ⟨wr.heap.size, 0, none⟩ 1 1 [.string (bstr c)] rfl rfl (cell_one_new _ _ _) (str_oneCellP _) (by unfold maxLen; omega) (by omega) (by simp; omega) ?_); intro v' w8 hown' hgrow hnil; have HN := Lib.hid (And.intro hown' (app_belowP HO.out hgrow HB.out (Nat.le_refl _))); clear hown' hgrow hnil))
            go_roundw
            case rel => exact ⟨k + 1, A ++ [c], -1, by omega, by go_num, rfl, HSn, Lib.hid (by simpa [sv] using HN.out.1), Lib.hid HN.out.2⟩
            case measure => simp [intOf]; omega
        · have heq : ((k : Int) == (l.length : Int)) = false := by rw [beq_eq_false_iff_ne]; omega
          have hix := fun W => index_bstr (P := Tryz.prog) Tryz.underlying9 (show k < l.length by omega) W
          by_cases h32 : (bt l k).toNat = 32
          · have hbl : k = l.length ∨ (bt l k).toNat = 32 := .inr h32
            have heq2 : (((bt l k).toNat : Int) == 32) = true := by rw [beq_iff_eq]; omega
            clear h32
            rcases HS.out.blank (by omega) hbl with ⟨rfl, hn⟩ | ⟨b, c, rfl, hbk, hc, hn⟩
            · have HN := Lib.hid hn
              clear hbl
              go_wp2_with fail
              go_roundw
              case rel => exact ⟨k + 1, A, -1, by omega, by go_num, rfl, HN, HO, HB⟩
              case measure => simp [intOf]; omega
            · have HSn := Lib.hid hn
              have hsl := fun W => slice_bstr (P := Tryz.prog) Tryz.underlying9 hbk (by omega) hc W
              have hb0 : (0 : Int) ≤ (b : Int) := by omega
              clear hbl hc
              have hAl : A.length ≤ 600 := HAL.out
              have zr := HB.out.size
              go_wp2_with (first | (at_builtin; (refine wpList_append_own _ rfl _ _ 33 rfl w.heap.size 9 i0 (.string { data := #[] }) 1 16 Tryz.underlying33 hi hz0 hz1 hz2 rfl (by decide) _ _ _ rfl (HO.out.alloc _) ⟨wr.heap.size, 0, none⟩ 1 1 [.string (bstr c)] rfl rfl (cell_one_new _ _ _) (str_oneCellP _) (by unfold maxLen; omega) (by omega) (by simp; omega) ?_); intro v' w8 hown' hgrow hnil; have HN := Lib.hid (And.intro hown' (app_belowP HO.out hgrow HB.out (Nat.le_refl _))); clear hown' hgrow hnil))
              go_roundw
              case rel => exact ⟨k + 1, A ++ [c], -1, by omega, by go_num, rfl, HSn, Lib.hid (by simpa [sv] using HN.out.1), Lib.hid HN.out.2⟩
              case measure => simp [intOf]; omega
          · have heq2 : (((bt l k).toNat : Int) == 32) = false := by rw [beq_eq_false_iff_ne]; omega
            by_cases hlo : (bt l k).toNat < 32
            · have H := Lib.hid (plain_bad (l := l) (k := k) (by omega) (by omega))
              have hlo' : ((bt l k).toNat : Int) < 32 := by omega
              go_wp2
              refine bodyPost_ret (v := .tuple #[Value.slice none 0 0, .bool false]) (by simp [results, Tryz.results23, go_sem]) rfl ?_
              rw [H.out]
              exact ⟨_, rfl, World.ownsRow_nil _ _ _ _, HB.out⟩
            · have hlo' : ¬ ((bt l k).toNat : Int) < 32 := by omega
              by_cases hhi : 126 < (bt l k).toNat
              · have H := Lib.hid (plain_bad (l := l) (k := k) (by omega) (by omega))
                have hhi' : (126 : Int) < ((bt l k).toNat : Int) := by omega
                go_wp2
                refine bodyPost_ret (v := .tuple #[Value.slice none 0 0, .bool false]) (by simp [results, Tryz.results23, go_sem]) rfl ?_
                rw [H.out]
                exact ⟨_, rfl, World.ownsRow_nil _ _ _ _, HB.out⟩
              · have hhi' : ¬ (126 : Int) < ((bt l k).toNat : Int) := by omega
                rcases HS.out.char (by omega) h32 (by omega) (by omega) with ⟨rfl, hn⟩ | ⟨b, rfl, hn⟩
                · have HN := Lib.hid hn
                  go_wp2
                  go_roundw
                  case rel => exact ⟨k + 1, A, k, by omega, by go_num, rfl, HN, HO, HB⟩
                  case measure => simp [intOf]; omega
                · have HN := Lib.hid hn
                  have hb0 : ¬ (b : Int) < 0 := by omega
                  go_wp2
                  go_roundw
                  case rel => exact ⟨k + 1, A, b, by omega, by go_num, rfl, HN, HO, HB⟩
                  case measure => simp [intOf]; omega

set_option maxRecDepth 100000 in
set_option maxHeartbeats 4000000 in
theorem specSplitFields (l : List UInt8) (hl : l.length ≤ 1000000000) (w : World) : Calls Tryz.prog 33 #[.string (bstr l)] w fun e w' => ∃ v, e = .returned (.tuple #[v, .bool (splitFields l).isSome]) ∧ w'.ownsRow w.heap.size 9 1 v ((splitFields l).getD []).length (((splitFields l).getD []).map sv) ∧ Below w.heap.size w w' := by
  obtain ⟨i0, hi, hz0, hz1, hz2⟩ := info_parts infoStrP
  have hsz := bstr_size l
  have HR0 := Lib.hid (World.ownsRow_lit (e := 9) (size := 1) w #[] 0 (Nat.le_refl _) (by decide) rfl)
  have HW0 := Lib.hid (balloc (bref w) (.cells #[] 9))
  by_cases h6 : 600 < l.length
  · have H := Lib.hid (split_long h6)
    have i6 : (600 : Int) < (l.length : Int) := by omega
    go_enter Tryz.func33, Tryz.ntmps33
    go_wp2
    refine bodyPost_ret (v := .tuple #[Value.slice (some ⟨w.heap.size, 0, none⟩) 0 0, .bool false]) (by simp [results, Tryz.results33, go_sem]) rfl ?_
    rw [H.out]
    exact ⟨_, rfl, HR0.out, HW0.out⟩
  · have i6 : ¬ (600 : Int) < (l.length : Int) := by omega
    go_enter Tryz.func33, Tryz.ntmps33
    go_wp2
    go_loopw [4, 5, 6] (fun v f i wr => ∃ (k : Nat) (A : List (List UInt8)) (z : Nat), k ≤ l.length + 1 ∧ i = .int .i64 k ∧ f = .int .i64 z ∧ Hid (SpS l k A z) ∧ Hid (wr.ownsRow w.heap.size 9 1 v A.length (A.map sv)) ∧ Hid (Below w.heap.size w wr)) (fun _ _ i _ => l.length + 1 - (intOf i).toNat)
    case atStart => exact ⟨0, [], 0, Nat.zero_le _, rfl, rfl, SpS.start l, HR0.out, HW0.out⟩
    case round =>
      obtain ⟨k, A, z, hk, rfl, rfl, HS, HO, HB⟩ := hrel
      by_cases hend : k = l.length + 1
      · have HD := Lib.hid (HS.out.last hend)
        have HP := Lib.hid (show plainTo l (l.length + 1) = true by rw [← hend]; exact HS.out.plain)
        have hgt : ¬ (k : Int) ≤ (l.length : Int) := by omega
        obtain ⟨adv, capv, rfl⟩ := own_formP HO.out
        clear hend
        by_cases h24 : A.length ≤ 24
        · have H := Lib.hid (split_some (by omega) HP.out HD.out h24)
          have j24 : ¬ (24 : Int) < (A.length : Int) := by omega
          go_wp2
          refine bodyPost_ret (v := .tuple #[Value.slice adv A.length capv, .bool true]) (by simp [results, Tryz.results33, go_sem]) rfl ?_
          rw [H.out]
          exact ⟨_, rfl, HO.out, HB.out⟩
        · have H := Lib.hid (split_many (by omega) HP.out HD.out h24)
          have j24 : (24 : Int) < (A.length : Int) := by omega
          have HZ := Lib.hid (own_base (B' := w.heap.size) (World.ownsRow_lit (e := 9) (size := 1) wr #[] 0 (Nat.le_refl _) (by decide) rfl) HB.out.size)
          have HBZ := Lib.hid (balloc HB.out (.cells #[] 9))
          go_wp2
          refine bodyPost_ret (v := .tuple #[Value.slice (some ⟨wr.heap.size, 0, none⟩) 0 0, .bool false]) (by simp [results, Tryz.results33, go_sem]) rfl ?_
          rw [H.out]
          exact ⟨_, rfl, HZ.out, HBZ.out⟩
      · have hle : (k : Int) ≤ (l.length : Int) := by omega
        have HAL := Lib.hid (fields_le (by omega) (by omega) (HS.out.here (by omega)).1)
        by_cases hkl : k = l.length
        · have hbl : k = l.length ∨ (bt l k).toNat = 32 := .inl hkl
          have hlt : ¬ (k : Int) < (l.length : Int) := by omega
          clear hkl
          rcases HS.out.blank (by omega) hbl with ⟨rfl, hn⟩ | ⟨c, hzk, hc, hn⟩
          · have HN := Lib.hid hn
            have hzz : ¬ (z : Int) < (z : Int) := by omega
            clear hbl
            go_wp2_with fail
            go_roundw
            case rel => exact ⟨z + 1, A, z + 1, by omega, by go_num, by go_num, HN, HO, HB⟩
            case measure => simp [intOf]; omega
          · have HSn := Lib.hid hn
            have hsl := fun W => slice_bstr (P := Tryz.prog) Tryz.underlying9 (Nat.le_of_lt hzk) (by omega) hc W
            have hzi : (z : Int) < (k : Int) := by omega
            clear hbl hc
            have hAl : A.length ≤ 600 := HAL.out
            have zr := HB.out.size
            go_wp2_with (first | (at_builtin; (refine wpList_append_own _ rfl _ _ 33 rfl w.heap.size 9 i0 (.string { data := #[] }) 1 16 Tryz.underlying33 hi hz0 hz1 hz2 rfl (by decide) _ _ _ rfl (HO.out.alloc _) ⟨wr.heap.size, 0, none⟩ 1 1 [.string (bstr c)] rfl rfl (cell_one_new _ _ _) (str_oneCellP _) (by unfold maxLen; omega) (by omega) (by simp; omega) ?_); intro v' w8 hown' hgrow hnil; have HN := Lib.hid (And.intro hown' (app_belowP HO.out hgrow HB.out (Nat.le_refl _))); clear hown' hgrow hnil))
            go_roundw
            case rel => exact ⟨k + 1, A ++ [c], k + 1, by omega, by go_num, by go_num, HSn, Lib.hid (by simpa [sv] using HN.out.1), Lib.hid HN.out.2⟩
            case measure => simp [intOf]; omega
        · have hlt : (k : Int) < (l.length : Int) := by omega
          have hix := fun W => index_bstr (P := Tryz.prog) Tryz.underlying9 (show k < l.length by omega) W
          by_cases h32 : (bt l k).toNat = 32
          · have hbl : k = l.length ∨ (bt l k).toNat = 32 := .inr h32
            have heq2 : (((bt l k).toNat : Int) == 32) = true := by rw [beq_iff_eq]; omega
            have hlo' : ¬ ((bt l k).toNat : Int) < 32 := by omega
            have hhi' : ¬ (126 : Int) < ((bt l k).toNat : Int) := by omega
            clear h32
            rcases HS.out.blank (by omega) hbl with ⟨rfl, hn⟩ | ⟨c, hzk, hc, hn⟩
            · have HN := Lib.hid hn
              have hzz : ¬ (z : Int) < (z : Int) := by omega
              clear hbl
              go_wp2_with fail
              go_roundw
              case rel => exact ⟨z + 1, A, z + 1, by omega, by go_num, by go_num, HN, HO, HB⟩
              case measure => simp [intOf]; omega
            · have HSn := Lib.hid hn
              have hsl := fun W => slice_bstr (P := Tryz.prog) Tryz.underlying9 (Nat.le_of_lt hzk) (by omega) hc W
              have hzi : (z : Int) < (k : Int) := by omega
              clear hbl hc
              have hAl : A.length ≤ 600 := HAL.out
              have zr := HB.out.size
              go_wp2_with (first | (at_builtin; (refine wpList_append_own _ rfl _ _ 33 rfl w.heap.size 9 i0 (.string { data := #[] }) 1 16 Tryz.underlying33 hi hz0 hz1 hz2 rfl (by decide) _ _ _ rfl (HO.out.alloc _) ⟨wr.heap.size, 0, none⟩ 1 1 [.string (bstr c)] rfl rfl (cell_one_new _ _ _) (str_oneCellP _) (by unfold maxLen; omega) (by omega) (by simp; omega) ?_); intro v' w8 hown' hgrow hnil; have HN := Lib.hid (And.intro hown' (app_belowP HO.out hgrow HB.out (Nat.le_refl _))); clear hown' hgrow hnil))
              go_roundw
              case rel => exact ⟨k + 1, A ++ [c], k + 1, by omega, by go_num, by go_num, HSn, Lib.hid (by simpa [sv] using HN.out.1), Lib.hid HN.out.2⟩
              case measure => simp [intOf]; omega
          · have heq2 : (((bt l k).toNat : Int) == 32) = false := by rw [beq_eq_false_iff_ne]; omega
            by_cases hlo : (bt l k).toNat < 32
            · have H := Lib.hid (plain_bad (l := l) (k := k) (by omega) (by omega))
              have hlo' : ((bt l k).toNat : Int) < 32 := by omega
              have HZ := Lib.hid (own_base (B' := w.heap.size) (World.ownsRow_lit (e := 9) (size := 1) wr #[] 0 (Nat.le_refl _) (by decide) rfl) HB.out.size)
              have HBZ := Lib.hid (balloc HB.out (.cells #[] 9))
              go_wp2
              refine bodyPost_ret (v := .tuple #[Value.slice (some ⟨wr.heap.size, 0, none⟩) 0 0, .bool false]) (by simp [results, Tryz.results33, go_sem]) rfl ?_
              rw [H.out]
              exact ⟨_, rfl, HZ.out, HBZ.out⟩
            · have hlo' : ¬ ((bt l k).toNat : Int) < 32 := by omega
              by_cases hhi : 126 < (bt l k).toNat
              · have H := Lib.hid (plain_bad (l := l) (k := k) (by omega) (by omega))
                have hhi' : (126 : Int) < ((bt l k).toNat : Int) := by omega
                have HZ := Lib.hid (own_base (B' := w.heap.size) (World.ownsRow_lit (e := 9) (size := 1) wr #[] 0 (Nat.le_refl _) (by decide) rfl) HB.out.size)
                have HBZ := Lib.hid (balloc HB.out (.cells #[] 9))
                go_wp2
                refine bodyPost_ret (v := .tuple #[Value.slice (some ⟨wr.heap.size, 0, none⟩) 0 0, .bool false]) (by simp [results, Tryz.results33, go_sem]) rfl ?_
                rw [H.out]
                exact ⟨_, rfl, HZ.out, HBZ.out⟩
              · have hhi' : ¬ (126 : Int) < ((bt l k).toNat : Int) := by omega
                have HN := Lib.hid (HS.out.char (by omega) h32 (by omega) (by omega))
                go_wp2
                go_roundw
                case rel => exact ⟨k + 1, A, z, by omega, by go_num, rfl, HN, HO, HB⟩
                case measure => simp [intOf]; omega
end Go.Proofs.YtlipfkalehikkaaGreatDoor
