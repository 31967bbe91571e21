/- The greatest delay of visits in an order, in the program. -/
import Derived.Test.YtdchgbhhlocmdaaSwapFn
import Derived.Test.YtdchgbhhlocmdaaInTime
import Derived.Test.YtdchgbhhlocmdaaScalar
namespace Go.Proofs.Ytdchgbhhlocmdaa
open Go.ChangeShapes Go.WideShapes Go.ChangeAt Go.RowKit

theorem infoBool : (Try.prog.info? 4).map (fun i => (i.zero, i.size, i.bytes)) = some (some (.bool false), 1, 1) := by kernel_rfl
set_option maxRecDepth 100000 in
set_option maxHeartbeats 8000000 in
theorem implGreatestDelay (v : Value) (n : Nat) (xs : List Int) (u : Value) (L : List Int) (w : World) (h : Recs 2 w v n xs) (hL : Ints w u L) (hv : visitsOk n xs = true) (hP : L.Perm (rangeI n)) :
    Calls Try.prog 29 #[v, u] w fun e w' => e = .returned (.int .i64 (delayL xs L)) ∧ Below w.heap.size w w' := by
  obtain ⟨i0, hi, hz0, hz1, hz2⟩ := info_parts infoBool
  have hn := visitsOk_n hv
  obtain rfl : n = L.length := (perm_len hP).symm
  obtain ⟨adv, capv, rfl⟩ : ∃ ad cap, v = .slice ad L.length cap := by obtain ⟨_, _, ad, cap, hh, _⟩ := h; exact ⟨ad, cap, hh⟩
  obtain ⟨adu, capu, rfl⟩ : ∃ ad cap, u = .slice ad L.length cap := by obtain ⟨_, ad, cap, hh, _⟩ := hL; exact ⟨ad, cap, hh⟩
  have HV := Lib.hid h
  have HL := Lib.hid hL
  have HIN := Lib.hid (perm_in hP)
  have HF := Lib.hid (fun (k : Nat) (q : k < L.length) => perm_fresh hP q)
  clear h hL hP
  go_enter Try.func29, Try.ntmps29
  go_wp2_with (first | (go_at_call 30; refine (implVisitsOk _ L.length xs _ HV.out).mono ?_; rw [hv]; rintro e w1 ⟨rfl, hb1⟩; have D1 := Lib.hid hb1; clear hb1) | (at_make; refine wpList_make_full _ rfl _ _ 87 rfl w1.heap.size 4 i0 (.bool false) 1 Try.underlying87 hi hz0 hz1 _ _ _ _ L.length rfl rfl rfl rfl (by rw [hz2]; omega) (by unfold maxLen; omega) (Nat.le_refl _) ?_; intro w2 hown hgrow; have HR := Lib.hid hown; have D2 := Lib.hid (show Below w1.heap.size w1 w2 from (Below.refl _ _).grown hgrow (Nat.le_refl _) (fun _ h => by cases h)); clear hown hgrow))
  have HR2 : Hid (w2.ownsRow w1.heap.size 4 1 (.slice (some ⟨w1.heap.size, 0, none⟩) L.length L.length) L.length (seenV L.length (L.take 0))) := by
    rw [List.take_zero, seenV_nil]; simpa [toList_madeCells_one, Value.cells, Hid] using HR.out
  clear HR
  go_loopw [23] (fun i wr => ∃ k : Nat, k ≤ L.length ∧ i = .int .i64 k ∧ Hid (wr.ownsRow w1.heap.size 4 1 (.slice (some ⟨w1.heap.size, 0, none⟩) L.length L.length) L.length (seenV L.length (L.take k))) ∧ Hid (Below w1.heap.size w1 wr)) (fun i _ => L.length - (intOf i).toNat)
  case atStart => exact ⟨0, Nat.zero_le _, rfl, HR2, D2⟩
  case round =>
    clear HR2 D2
    obtain ⟨k, hk, rfl, HR, HB⟩ := hrel
    by_cases hlt : k < L.length
    · obtain ⟨_, _, _, hq, hc⟩ := (HL.out.below D1.out).below HB.out
      cases hq
      obtain ⟨b, o, rfl, e0⟩ := hc k hlt
      clear hc
      obtain ⟨c0, c1⟩ := HIN.out k hlt
      obtain ⟨γ, hγ⟩ := Int.eq_ofNat_of_zero_le c0
      rw [hγ] at e0 c0 c1
      have hfr := HF.out k hlt
      rw [hγ] at hfr
      have hgn : γ < L.length := by omega
      have s0 : wr.cell? ⟨w1.heap.size, γ, none⟩ = some (.bool false) := by
        have q := HR.out.cellAt γ (by omega)
        rw [q, seenV_get hgn]
        simp [hfr]
      have f0 := HR.out.frozenAt γ
      have HS := Lib.hid (HR.out.stored γ (.bool true)).1
      have HG := Lib.hid hγ
      have HD := Lib.hid (show Below w1.heap.size w1 (wr.setCell ⟨w1.heap.size, γ, none⟩ (.bool true)) from Only.below HB.out ((Only.refl w1.heap.size (w1.heap.size + 1) wr).set (p := ⟨w1.heap.size, γ, none⟩) (Nat.le_refl _) (Nat.lt_succ_self _) (.bool true)) (Nat.le_refl _))
      have hin : inB (γ : Int) 0 ((L.length : Int) - 1) = true := by simp [inB]; omega
      clear hfr hγ
      go_wp2_with (first | (go_at_call 72; refine (in_any _ _ _ _).mono ?_; rw [hin]; rintro e w' ⟨rfl, rfl⟩))
      go_roundw
      case rel =>
        refine ⟨k + 1, by omega, by go_num, ?_, HD⟩
        have q := HS.out
        rw [seenV_set hgn, ← HG.out, ← take_next hlt] at q
        exact q
      case measure => simp [intOf]; omega
    · obtain rfl : k = L.length := by omega
      have HV2 := Lib.hid ((HV.out.below D1.out).below HB.out)
      have HL2 := Lib.hid ((HL.out.below D1.out).below HB.out)
      go_wp2_with (first | (go_at_call 67; refine (delay_any _ L.length xs _ L _ HV2.out HL2.out hv HIN.out (by omega)).mono ?_; rintro e w3 ⟨rfl, rfl⟩))
      go_ret
      exact ⟨rfl, bnext D1.out HB.out⟩
end Go.Proofs.Ytdchgbhhlocmdaa
