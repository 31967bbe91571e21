/- Drawn places, walked. -/
import Derived.Test.YtfnlniknclkeaaaDoorGH
import Derived.Test.YtfnlniknclkeaaaDoorGB
import Derived.Test.YtfnlniknclkeaaaDoorDrawList
import Derived.Deep.RegionWith
namespace Go.Proofs.YtfnlniknclkeaaaDoor
open Go.ChangeShapes Go.WideShapes Go.ChangeAt Go.RowKit

set_option maxRecDepth 100000 in
set_option maxHeartbeats 4000000 in
theorem drawPlaces_any (v : Value) (bs : List Int) (w : World) (h : Bytes w v bs) : Calls Tryd.prog 9 #[v] w fun e w' => ∃ (ad : Option Addr) (cap : Nat) (ps : List Int), e = .returned (.slice ad 12 cap) ∧ ps.length = 12 ∧ (∀ x ∈ ps, 0 ≤ x ∧ x < 10000) ∧ w'.ownsRow w.heap.size 3 1 (.slice ad 12 cap) 12 (ps.map (Value.int .i64)) ∧ Below w.heap.size w w' := by
  obtain ⟨i0, hi, hz0, hz1, hz2⟩ := info_parts Tryd.infoInt
  go_enter Tryd.func9, Tryd.ntmps9
  go_wp2_with (first | (go_at_call 22; refine (l01New_any v bs _ h).mono ?_; rintro e w1 ⟨X, rfl, c1, hb1⟩; have hX := c1.xl; have lX := c1.lt; have HC1 := Lib.hid (c1.below (balloc (bref w1) (.cells #[] 3))); have HR1 := Lib.hid (World.ownsRow_lit (e := 3) (size := 1) w1 #[] 0 (Nat.le_refl _) (by decide) rfl); have D1 := Lib.hid (balloc hb1 (.cells #[] 3)); have y1 := hb1.size; clear c1 hb1))
  go_loopw [4, 5] (fun u i wr => ∃ (k : Nat) (ps : List Int), k ≤ 12 ∧ i = .int .i64 k ∧ ps.length = k ∧ Hid (∀ x ∈ ps, 0 ≤ x ∧ x < 10000) ∧ Hid (CurO w.heap.size X v bs wr) ∧ Hid (wr.ownsRow w1.heap.size 3 1 u k (ps.map (Value.int .i64))) ∧ Hid (Below w.heap.size w wr) ∧ w1.heap.size ≤ wr.heap.size) (fun _ i _ => 12 - (intOf i).toNat)
  case atStart => exact ⟨0, [], Nat.zero_le _, rfl, rfl, Lib.hid (fun x hx => by simp at hx), HC1.out, HR1.out, D1.out, by simp⟩
  case round =>
    clear HC1 HR1 D1
    obtain ⟨k, ps, hk, rfl, hl, HP, HC, HR, HB, hz⟩ := hrel
    by_cases hlt : k < 12
    · have hle : (k : Int) < 12 := by omega
      have HL := Lib.hid hl
      clear hl
      go_wp2_with (first | (go_at_call_of 25 (Value.int .i64 10000); refine (l01Below_any _ X v bs _ _ HC.out).mono ?_; rintro e w3 ⟨x3, rfl, p3, q3, _, c3, o3⟩; have q3 := q3 (by omega); have HR3 := Lib.hid (own_curP HR.out o3 hX); have HB3 := Lib.hid (Only.below HB.out o3 lX); have z3 : w1.heap.size ≤ w3.heap.size := Nat.le_trans hz o3.size; have HC3 := Lib.hid c3; clear o3 c3) | (at_builtin; refine wpList_append_own _ rfl _ _ 25 rfl w1.heap.size 3 i0 (.int .i64 0) 1 8 Tryd.underlying25 hi hz0 hz1 hz2 rfl (by decide) _ _ _ rfl (HR3.out.alloc _) ⟨w3.heap.size, 0, none⟩ 1 1 [.int .i64 x3] rfl rfl (cell_one_new _ _ _) (ints_oneCell .i64 [x3]) (by unfold maxLen; omega) (by omega) (by simp; omega) ?_; intro v' w7 hown hgrow hnil; have z7 : w1.heap.size ≤ w7.heap.size := (by have := hgrow.size; simp at this; omega); have HC7 := Lib.hid (cur_appP HC3.out HR3.out hgrow hX); have HB7 := Lib.hid (below_appP HB3.out HR3.out hgrow y1); have HR7 := Lib.hid hown; clear hown hgrow hnil))
      all_goals
        go_roundw
        case rel => exact ⟨k + 1, ps ++ [x3], by omega, by go_num, by simp [HL.out], Lib.hid (fun x hx => by
          rcases List.mem_append.1 hx with z | z
          · exact HP.out x z
          · rw [List.mem_singleton] at z; subst z; exact ⟨p3, q3⟩), HC7, Lib.hid (by simpa using HR7.out), HB7, z7⟩
        case measure => simp [intOf]; omega
    · obtain rfl : k = 12 := by omega
      obtain ⟨adu, capu, rfl⟩ := own_form HR.out
      have HL := Lib.hid hl
      clear hl
      go_wp2_with fail
      go_ret
      exact ⟨_, _, ps, rfl, HL.out, HP.out, own_base HR.out y1, HB.out⟩
end Go.Proofs.YtfnlniknclkeaaaDoor
