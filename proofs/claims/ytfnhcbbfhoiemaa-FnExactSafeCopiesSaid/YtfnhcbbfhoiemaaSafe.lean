/- The walks of SafeCopies, in the program and in the reference. -/
import Derived.Test.YtfnhcbbfhoiemaaHouseOk
import Derived.Test.YtfnhcbbfhoiemaaOwnL
import Derived.Test.YtfnhcbbfhoiemaaHasInt
import Derived.Test.YtfnhcbbfhoiemaaL31Has
namespace Go.Proofs.Ytfnhcbbfhoiemaa
open Go.ChangeShapes Go.WideShapes Go.ChangeAt Go.RowKit

def safeTo (ts : List Int) : Nat → List Int
  | 0 => []
  | k + 1 => if (k : Int) ∈ ts then safeTo ts k else safeTo ts k ++ [(k : Int)]
def safeL (h : HD) : List Int := if houseOk h = true then safeTo h.ts h.n else []
theorem safeTo_yes {ts : List Int} {k : Nat} (h : (k : Int) ∈ ts) : safeTo ts (k + 1) = safeTo ts k := by simp only [safeTo]; rw [if_pos h]
theorem safeTo_no {ts : List Int} {k : Nat} (h : ¬ (k : Int) ∈ ts) : safeTo ts (k + 1) = safeTo ts k ++ [(k : Int)] := by simp only [safeTo]; rw [if_neg h]
theorem safeTo_len (ts : List Int) : ∀ k, (safeTo ts k).length ≤ k
  | 0 => by simp [safeTo]
  | k + 1 => by
    have := safeTo_len ts k
    simp only [safeTo]
    split
    · omega
    · simp; omega
theorem houseOk_n {h : HD} (e : houseOk h = true) : 1 ≤ h.n ∧ h.n ≤ 12 := chainOk_n (daysOk_chain (houseOk_facts e).days).1
theorem safeL_len (h : HD) : (safeL h).length ≤ 12 := by
  unfold safeL
  split
  · rename_i e
    have := safeTo_len h.ts h.n
    have := houseOk_n e
    omega
  · simp
theorem safeL_f {h : HD} (e : houseOk h = false) : safeL h = [] := if_neg (by simp [e])
theorem safeL_t {h : HD} (e : houseOk h = true) : safeL h = safeTo h.ts h.n := if_pos e

set_option maxRecDepth 100000 in
theorem implSafeCopies (vc vm vo vt : Value) (h : HD) (w : World) (hr : HouseR w vc vm vo vt h) : Calls Try.prog 53 #[.agg #[vc, vm, vo, vt, .int .i64 h.sent, .int .i64 h.day]] w (GivesN w (safeL h)) := by
  obtain ⟨i0, hi, hz0, hz1, hz2⟩ := info_parts Try.infoInt
  obtain ⟨adc, capc, rfl⟩ : ∃ ad cap, vc = .slice ad h.n cap := by obtain ⟨_, _, ad, cap, hh, _⟩ := hr.c; exact ⟨ad, cap, hh⟩
  obtain ⟨adm, capm, rfl⟩ : ∃ ad cap, vm = .slice ad h.ms.length cap := by obtain ⟨_, ad, cap, hh, _⟩ := hr.m; exact ⟨ad, cap, hh⟩
  obtain ⟨ado, capo, rfl⟩ : ∃ ad cap, vo = .slice ad h.os.length cap := by obtain ⟨_, ad, cap, hh, _⟩ := hr.o; exact ⟨ad, cap, hh⟩
  obtain ⟨adt, capt, rfl⟩ : ∃ ad cap, vt = .slice ad h.ts.length cap := by obtain ⟨_, ad, cap, hh, _⟩ := hr.t; exact ⟨ad, cap, hh⟩
  cases h1 : houseOk h with
  | false =>
    have H := Lib.hid (safeL_f h1)
    go_enter Try.func53, Try.ntmps53
    go_wp2_with fail
    refine (implHouseOk _ _ _ _ h _ (hr.alloc _)).mono ?_
    rintro e w1 ⟨rfl, hb1⟩
    rw [h1]
    have D1 := Lib.hid (bnext (balloc (bref w) _) hb1)
    clear hb1
    go_wp2
    go_ret
    rw [H.out]
    exact ⟨_, rfl, World.ownsRow_nil _ _ _ _, by simp, D1.out⟩
  | true =>
    have H := Lib.hid (safeL_t h1)
    have hn := houseOk_n h1
    go_enter Try.func53, Try.ntmps53
    go_wp2_with fail
    refine (implHouseOk _ _ _ _ h _ (hr.alloc _)).mono ?_
    rintro e w1 ⟨rfl, hb1⟩
    rw [h1]
    have D1 := Lib.hid (bnext (balloc (bref w) _) hb1)
    have b0 : w1.cell? ⟨w.heap.size, 0, none⟩ = some (.slice adc h.n capc) := (hb1.cell (p := ⟨w.heap.size, 0, none⟩) (by simp)).trans (by simp)
    have b3 : w1.cell? ⟨w.heap.size, 3, none⟩ = some (.slice adt h.ts.length capt) := (hb1.cell (p := ⟨w.heap.size, 3, none⟩) (by simp)).trans (by simp)
    have y1 : w.heap.size < w1.heap.size := by have := hb1.size; simp at this; omega
    have T1 := Lib.hid ((hr.alloc _).below hb1).t
    have DS := Lib.hid D1.out.size
    clear hb1
    go_wp2
    go_loopw [3, 11] (fun v i wr => ∃ k : Nat, k ≤ h.n ∧ i = .int .i64 k ∧ wr.ownsRow w1.heap.size 3 1 v (safeTo h.ts k).length ((safeTo h.ts k).map (Value.int .i64)) ∧ (v = .slice none 0 0 ↔ (safeTo h.ts k) = []) ∧ Below w1.heap.size w1 wr) (fun _ i _ => h.n - (intOf i).toNat)
    case atStart => exact ⟨0, Nat.zero_le _, rfl, World.ownsRow_nil _ _ _ _, by simp [safeTo], bref _⟩
    case round =>
      obtain ⟨k, hk, rfl, hown, hnl, hbel⟩ := hrel
      have HNL := Lib.hid hnl
      clear hnl
      have hlk := safeTo_len h.ts k
      have z1 := hbel.size
      by_cases hlt : k < h.n
      · have g3 := (hbel.cell (p := ⟨w.heap.size, 3, none⟩) y1).trans b3
        have HI := Lib.hid (T1.out.below hbel)
        by_cases hin : (k : Int) ∈ h.ts
        · have H1 := Lib.hid (safeTo_yes hin)
          have hd : decide ((k : Int) ∈ h.ts) = true := by simpa using hin
          have HO := Lib.hid hown
          have HB := Lib.hid hbel
          clear hin hown hbel
          go_wp2_with (go_at_call 63; refine (hasInt_any _ _ (k : Int) _ HI.out).mono ?_; rintro e w' ⟨rfl, rfl⟩)
          go_roundw
          case rel => exact ⟨k + 1, by omega, by go_num, by rw [H1.out]; exact HO.out, by rw [H1.out]; exact HNL.out, HB.out⟩
          case measure => simp [intOf]; omega
        · have H1 := Lib.hid (safeTo_no hin)
          have hd : decide ((k : Int) ∈ h.ts) = false := by simpa using hin
          clear hin
          go_wp2_with (first | (at_builtin; refine wpList_append_own _ rfl _ _ 25 rfl w1.heap.size 3 i0 (.int .i64 0) 1 8 Try.underlying25 hi hz0 hz1 hz2 rfl (by decide) _ _ _ rfl (hown.alloc _) ⟨wr.heap.size, 0, none⟩ 1 1 [.int .i64 k] rfl rfl (cell_one_new _ _ _) (ints_oneCell .i64 [(k : Int)]) (by unfold maxLen; omega) (by omega) (by simp; omega) ?_; intro v' w2 hown' hgrow hnil; have HR := Lib.hid (app_step hown hown' hgrow hbel (Nat.le_refl _)); have HN := Lib.hid (nil_step (L := safeTo h.ts k) (k := k) hnil); clear hown' hgrow hnil) | (go_at_call 63; refine (hasInt_any _ _ (k : Int) _ HI.out).mono ?_; rintro e w' ⟨rfl, rfl⟩))
          go_roundw
          case rel => exact ⟨k + 1, by omega, by go_num, by rw [H1.out]; exact HR.out.1, by rw [H1.out]; exact HN.out, HR.out.2⟩
          case measure => simp [intOf]; omega
      · obtain rfl : k = h.n := by omega
        have HO := Lib.hid (own_base (B' := w.heap.size) hown DS.out)
        have HB := Lib.hid hbel
        clear hown hbel
        go_wp2
        go_ret
        rw [H.out]
        exact ⟨_, rfl, HO.out, HNL.out, bnext D1.out HB.out⟩

set_option maxRecDepth 100000 in
theorem specSafeCopies (vc vm vo vt : Value) (h : HD) (w : World) (hr : HouseR w vc vm vo vt h) : Calls Try.prog 52 #[.agg #[vc, vm, vo, vt, .int .i64 h.sent, .int .i64 h.day]] w (Gives w (safeL h)) := by
  obtain ⟨i0, hi, hz0, hz1, hz2⟩ := info_parts Try.infoInt
  obtain ⟨adc, capc, rfl⟩ : ∃ ad cap, vc = .slice ad h.n cap := by obtain ⟨_, _, ad, cap, hh, _⟩ := hr.c; exact ⟨ad, cap, hh⟩
  obtain ⟨adm, capm, rfl⟩ : ∃ ad cap, vm = .slice ad h.ms.length cap := by obtain ⟨_, ad, cap, hh, _⟩ := hr.m; exact ⟨ad, cap, hh⟩
  obtain ⟨ado, capo, rfl⟩ : ∃ ad cap, vo = .slice ad h.os.length cap := by obtain ⟨_, ad, cap, hh, _⟩ := hr.o; exact ⟨ad, cap, hh⟩
  obtain ⟨adt, capt, rfl⟩ : ∃ ad cap, vt = .slice ad h.ts.length cap := by obtain ⟨_, ad, cap, hh, _⟩ := hr.t; exact ⟨ad, cap, hh⟩
  have hsz : (w.alloc (.cells #[.slice adc h.n capc, .slice adm h.ms.length capm, .slice ado h.os.length capo, .slice adt h.ts.length capt, .int .i64 h.sent, .int .i64 h.day] 64)).heap.size = w.heap.size + 1 := by simp
  have hle : w.heap.size + 1 ≤ (w.alloc (.cells #[.slice adc h.n capc, .slice adm h.ms.length capm, .slice ado h.os.length capo, .slice adt h.ts.length capt, .int .i64 h.sent, .int .i64 h.day] 64)).heap.size := by rw [hsz]; exact Nat.le_refl _
  have R0 : ((w.alloc (.cells #[.slice adc h.n capc, .slice adm h.ms.length capm, .slice ado h.os.length capo, .slice adt h.ts.length capt, .int .i64 h.sent, .int .i64 h.day] 64)).alloc (.cells #[] 3)).ownsRow (w.heap.size + 1) 3 1 (.slice (some ⟨w.heap.size + 1, 0, none⟩) 0 0) 0 [] := by
    have := World.ownsRow_lit (e := 3) (size := 1) (w.alloc (.cells #[.slice adc h.n capc, .slice adm h.ms.length capm, .slice ado h.os.length capo, .slice adt h.ts.length capt, .int .i64 h.sent, .int .i64 h.day] 64)) #[] 0 (Nat.le_refl _) (by decide) rfl
    rw [hsz] at this
    exact this
  have R0 := Lib.hid R0
  cases h1 : houseOk h with
  | false =>
    have H := Lib.hid (safeL_f h1)
    go_enter Try.func52, Try.ntmps52
    go_wp2_with fail
    go_loop [3, 4] (fun v i => v = .slice (some ⟨w.heap.size + 1, 0, none⟩) 0 0 ∧ i = .int .i64 0) (fun _ _ => 0)
    case atStart => exact ⟨rfl, rfl⟩
    case round =>
      obtain ⟨rfl, rfl⟩ := hrel
      by_cases hlt : 0 < h.n
      · go_wp2_with fail
        refine (specHouseOk _ _ _ _ h _ ((hr.alloc _).alloc _)).mono ?_
        rintro e w1 ⟨rfl, hb1⟩
        rw [h1]
        have D1 := Lib.hid (bnext (balloc (balloc (bref w) _) _) hb1)
        have HO := Lib.hid (own_base (B' := w.heap.size) (own_below R0.out hb1) (by omega))
        clear hb1
        go_wp2
        go_ret
        rw [H.out]
        exact ⟨_, rfl, HO.out, D1.out⟩
      · go_wp2
        go_ret
        rw [H.out]
        exact ⟨_, rfl, own_base (B' := w.heap.size) R0.out (by omega), balloc (balloc (bref w) _) _⟩
  | true =>
    have H := Lib.hid (safeL_t h1)
    have hn := houseOk_n h1
    have RH := Lib.hid (show HouseR (w.alloc (.cells #[.slice adc h.n capc, .slice adm h.ms.length capm, .slice ado h.os.length capo, .slice adt h.ts.length capt, .int .i64 h.sent, .int .i64 h.day] 64)) _ _ _ _ h from hr.alloc _)
    have D0 := Lib.hid (balloc (bref w) (.cells #[.slice adc h.n capc, .slice adm h.ms.length capm, .slice ado h.os.length capo, .slice adt h.ts.length capt, .int .i64 h.sent, .int .i64 h.day] 64))
    have B0 := Lib.hid (show Below (w.heap.size + 1) (w.alloc (.cells #[.slice adc h.n capc, .slice adm h.ms.length capm, .slice ado h.os.length capo, .slice adt h.ts.length capt, .int .i64 h.sent, .int .i64 h.day] 64)) ((w.alloc (.cells #[.slice adc h.n capc, .slice adm h.ms.length capm, .slice ado h.os.length capo, .slice adt h.ts.length capt, .int .i64 h.sent, .int .i64 h.day] 64)).alloc (.cells #[] 3)) from (Below.refl _ _).alloc (by rw [hsz]; exact Nat.le_refl _) _)
    go_enter Try.func52, Try.ntmps52
    go_wp2_with fail
    go_loopw [3, 4] (fun v i wr => ∃ k : Nat, k ≤ h.n ∧ i = .int .i64 k ∧ wr.ownsRow (w.heap.size + 1) 3 1 v (safeTo h.ts k).length ((safeTo h.ts k).map (Value.int .i64)) ∧ Below (w.heap.size + 1) (w.alloc (.cells #[.slice adc h.n capc, .slice adm h.ms.length capm, .slice ado h.os.length capo, .slice adt h.ts.length capt, .int .i64 h.sent, .int .i64 h.day] 64)) wr) (fun _ i _ => h.n - (intOf i).toNat)
    case atStart => exact ⟨0, Nat.zero_le _, rfl, by simpa [safeTo] using R0.out, B0.out⟩
    case round =>
      obtain ⟨k, hk, rfl, hown, hbel⟩ := hrel
      have hlk := safeTo_len h.ts k
      have z1 := hbel.size
      rw [hsz] at z1
      have g0 := (hbel.cell (p := ⟨w.heap.size, 0, none⟩) (Nat.lt_succ_self _)).trans (show _ = some (Value.slice adc h.n capc) by simp)
      have g1 := (hbel.cell (p := ⟨w.heap.size, 1, none⟩) (Nat.lt_succ_self _)).trans (show _ = some (Value.slice adm h.ms.length capm) by simp)
      have g2 := (hbel.cell (p := ⟨w.heap.size, 2, none⟩) (Nat.lt_succ_self _)).trans (show _ = some (Value.slice ado h.os.length capo) by simp)
      have g3 := (hbel.cell (p := ⟨w.heap.size, 3, none⟩) (Nat.lt_succ_self _)).trans (show _ = some (Value.slice adt h.ts.length capt) by simp)
      have g4 := (hbel.cell (p := ⟨w.heap.size, 4, none⟩) (Nat.lt_succ_self _)).trans (show _ = some (Value.int .i64 h.sent) by simp)
      have g5 := (hbel.cell (p := ⟨w.heap.size, 5, none⟩) (Nat.lt_succ_self _)).trans (show _ = some (Value.int .i64 h.day) by simp)
      have RB := RH.out.below (by rw [hsz]; exact hbel)
      by_cases hlt : k < h.n
      · go_wp2_with fail
        refine (specHouseOk _ _ _ _ h _ RB).mono ?_
        rintro e w2_ ⟨rfl, hb2⟩
        rw [h1]
        have hown2 := own_below hown hb2
        have hbel2 : Below (w.heap.size + 1) (w.alloc (.cells #[.slice adc h.n capc, .slice adm h.ms.length capm, .slice ado h.os.length capo, .slice adt h.ts.length capt, .int .i64 h.sent, .int .i64 h.day] 64)) w2_ := hbel.trans (hb2.mono (by omega))
        have g3' := (hb2.cell (p := ⟨w.heap.size, 3, none⟩) (by simp only []; omega)).trans g3
        have HI := Lib.hid (RB.below hb2).t
        have z2 : w.heap.size + 1 ≤ w2_.heap.size := by have := hb2.size; omega
        clear hown hbel hb2 g0 g1 g2 g3 g4 g5 RB
        by_cases hin : (k : Int) ∈ h.ts
        · have H1 := Lib.hid (safeTo_yes hin)
          have hd : decide ((k : Int) ∈ h.ts) = true := by simpa using hin
          have HO := Lib.hid hown2
          have HB := Lib.hid hbel2
          clear hin hown2 hbel2
          go_wp2_with (go_at_call 78; refine (l31Has_any _ _ (k : Int) _ HI.out).mono ?_; rintro e w' ⟨rfl, rfl⟩)
          go_roundw
          case rel => exact ⟨k + 1, by omega, by go_num, by rw [H1.out]; exact HO.out, HB.out⟩
          case measure => simp [intOf]; omega
        · have H1 := Lib.hid (safeTo_no hin)
          have hd : decide ((k : Int) ∈ h.ts) = false := by simpa using hin
          clear hin
          go_wp2_with (first | (at_builtin; refine wpList_append_own _ rfl _ _ 25 rfl (w.heap.size + 1) 3 i0 (.int .i64 0) 1 8 Try.underlying25 hi hz0 hz1 hz2 rfl (by decide) _ _ _ rfl (hown2.alloc _) ⟨w2_.heap.size, 0, none⟩ 1 1 [.int .i64 k] rfl rfl (cell_one_new _ _ _) (ints_oneCell .i64 [(k : Int)]) (by unfold maxLen; omega) (by omega) (by simp; omega) ?_; intro v' w2 hown' hgrow hnil; have HR := Lib.hid (app_step hown2 hown' hgrow hbel2 hle); clear hown2 hown' hgrow hnil) | (go_at_call 78; refine (l31Has_any _ _ (k : Int) _ HI.out).mono ?_; rintro e w' ⟨rfl, rfl⟩))
          go_roundw
          case rel => exact ⟨k + 1, by omega, by go_num, by rw [H1.out]; exact HR.out.1, HR.out.2⟩
          case measure => simp [intOf]; omega
      · obtain rfl : k = h.n := by omega
        have HO := Lib.hid (own_base (B' := w.heap.size) hown (by omega))
        have HB := Lib.hid hbel
        clear hown hbel RB
        go_wp2
        go_ret
        rw [H.out]
        exact ⟨_, rfl, HO.out, D0.out.trans (HB.out.mono (by omega))⟩
end Go.Proofs.Ytfnhcbbfhoiemaa
