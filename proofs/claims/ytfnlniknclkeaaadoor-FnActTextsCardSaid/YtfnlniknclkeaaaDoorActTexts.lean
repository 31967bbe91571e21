/- The law of acts' texts, walked. -/
import Derived.Test.YtfnlniknclkeaaaDoorParseI
import Derived.Test.YtfnlniknclkeaaaDoorDrawActs
import Derived.Test.YtfnlniknclkeaaaDoorGH
import Derived.Test.YtfnlniknclkeaaaDoorGI
import Derived.BigQuiet
namespace Go.Proofs.YtfnlniknclkeaaaDoor
open Go.ChangeShapes Go.WideShapes Go.ChangeAt Go.RowKit

set_option maxRecDepth 100000 in
set_option maxHeartbeats 8000000 in
theorem fnActTexts_any (v : Value) (bs : List Int) (w : World) (h : Bytes w v bs) (ht : ParT w) : Calls Tryd.prog 5 #[v] w fun e w' => e = .returned (.bool true) ∧ Below w.heap.size w w' := by
  by_cases hbig : (1048576 : Int) < bs.length
  · have hd : decide ((1048576 : Int) < bs.length) = true := by simp; omega
    go_enter Tryd.func5, Tryd.ntmps5
    go_wp2_with (first | (go_at_call 7; refine (big_any v bs w h).mono ?_; rw [hd]; rintro e w' ⟨rfl, rfl⟩))
    go_ret
    exact ⟨rfl, bref _⟩
  · have hd : decide ((1048576 : Int) < bs.length) = false := by simp; omega
    go_enter Tryd.func5, Tryd.ntmps5
    go_upto_region 4 with (first | (go_at_call 7; refine (big_any v bs w h).mono ?_; rw [hd]; rintro e w' ⟨rfl, rfl⟩) | (go_at_call 8; refine (drawActs_any v bs w h).mono ?_; rintro e w1 ⟨hx, ac0, am0, ao0, at0, cc0, cm0, co0, ct0, ada, n, capa, xs, rfl, ok, hO, hda, hn21, hra, hb1⟩; have HH := Lib.hid hO; have D := Lib.hid hb1; have BY := Lib.hid (h.below hb1); have HA := Lib.hid hra; have HAD := Lib.hid hda; clear hO hb1 hra hda))
    have X1 := Lib.hid (BoxH.first HH.out (Nat.le_refl _))
    have HA1 := Lib.hid (own_below HA.out (balloc (bref w1) (.cells #[.slice ac0 (hx).n cc0, .slice am0 (hx).ms.length cm0, .slice ao0 (hx).os.length co0, .slice at0 (hx).ts.length ct0, .int .i64 (hx).sent, .int .i64 (hx).day] 27)))
    have DX := Lib.hid (balloc D.out (.cells #[.slice ac0 (hx).n cc0, .slice am0 (hx).ms.length cm0, .slice ao0 (hx).os.length co0, .slice at0 (hx).ts.length ct0, .int .i64 (hx).sent, .int .i64 (hx).day] 27))
    have BY := Lib.hid (BY.out.below (balloc (bref w1) (.cells #[.slice ac0 (hx).n cc0, .slice am0 (hx).ms.length cm0, .slice ao0 (hx).os.length co0, .slice at0 (hx).ts.length ct0, .int .i64 (hx).sent, .int .i64 (hx).day] 27)))
    have TB := Lib.hid (ht.below DX.out)
    clear hbig hd h D HH HA ht
    generalize w1.alloc (.cells #[.slice ac0 (hx).n cc0, .slice am0 (hx).ms.length cm0, .slice ao0 (hx).os.length co0, .slice at0 (hx).ts.length ct0, .int .i64 (hx).sent, .int .i64 (hx).day] 27) = u1 at *
    clear X1 BY
    have HR := Lib.hid (Recs.of_own HA1.out (show n ≤ 9223372036854775807 by omega))
    go_wp2
    go_loopw [5] (fun i wr => ∃ k : Nat, k ≤ n ∧ i = .int .i64 k ∧ Hid (Below u1.heap.size u1 wr)) (fun i _ => n - (intOf i).toNat)
    case atStart => exact ⟨0, Nat.zero_le _, rfl, bref _⟩
    case round =>
      obtain ⟨k, hk, rfl, HB⟩ := hrel
      by_cases hlt : k < n
      · have hkn : (k : Int) < (n : Int) := by omega
        have k0 : (0 : Int) ≤ (k : Int) := by omega
        have k3 : ¬ (k : Int) < 0 := by omega
        have k4 : ¬ (n : Int) ≤ (k : Int) := by omega
        have hok := HAD.out.ok k hlt
        have hxl := HAD.out.len
        obtain ⟨_, _, _, _, hv2, hc2⟩ := HR.out.below HB.out
        cases hv2
        obtain ⟨b, o, rfl, f0, f1, f2, f3, f4, lb⟩ := atAct hxl hc2 k hlt
        clear hc2 hxl
        have hok2 : actOk (nth xs (k * 5)) (nth xs (k * 5 + 1)) (nth xs (k * 5 + 2)) (nth xs (k * 5 + 3)) (nth xs (k * 5 + 4)) = true := hok
        clear hok
        generalize nth xs (k * 5) = p0 at *
        generalize nth xs (k * 5 + 1) = p1 at *
        generalize nth xs (k * 5 + 2) = p2 at *
        generalize nth xs (k * 5 + 3) = p3 at *
        generalize nth xs (k * 5 + 4) = p4 at *
        have hb5 := actOk_bd hok2
        obtain ⟨κ, hκ⟩ : ∃ κ : Nat, p0 = (κ : Int) := ⟨p0.toNat, by omega⟩
        subst hκ
        obtain ⟨s, hs⟩ : ∃ s, s = actLine κ p1 p2 p3 p4 := ⟨_, rfl⟩
        have hsl : s.length ≤ 34 := by rw [hs]; exact actLine_size hok2
        have hfmt : formatAct κ p1 p2 p3 p4 = (s, true) := by rw [hs]; exact format_line hok2
        have HF := Lib.hid hfmt
        obtain ⟨q, hq⟩ : ∃ q, q = 32 :: 32 :: s := ⟨_, rfl⟩
        have ad1 : ∀ W : World, (Op.stringOp .add { data := #[32, 32] } (bstr s)).run Tryd.prog W = .ok (.string (bstr q)) W := by rw [hq]; exact add_at [32, 32] s _ rfl (by simp; omega)
        obtain ⟨r, hr⟩ : ∃ r, r = q ++ [32] := ⟨_, rfl⟩
        have ad2 : ∀ W : World, (Op.stringOp .add (bstr q) { data := #[32] }).run Tryd.prog W = .ok (.string (bstr r)) W := by rw [hr]; exact add_to q [32] _ rfl (by rw [hq]; simp; omega)
        have hrl : r.length ≤ 1000000000 := by rw [hr, hq]; simp; omega
        have HP : Hid (parseAct (splitFields r) = (⟨κ, p1, p2, p3, p4⟩, true)) := Lib.hid (by rw [hr, hq, hs, split_line hok2]; exact parse_line hok2)
        clear hs hfmt hq hr hok2 hb5
        go_wp2_with (first
          | (go_at_call 17; refine (implFormatAct κ p1 p2 p3 p4 _ (TB.out.below HB.out).act).mono ?_; rw [HF.out]; rintro e w3 ⟨rfl, hb3⟩; have HB3 := Lib.hid (bnext HB.out hb3); have HW3 := Lib.hid hb3; clear hb3)
          | (go_at_call 15; refine (implParseAct r hrl _ (TB.out.below HB3.out)).mono ?_; rw [HP.out]; simp only [PP, PV]; rintro e w4 ⟨rfl, hb4⟩; have HW4 := balloc (bnext HW3.out hb4) (.cells #[.int .i64 κ, .int .i64 p1, .int .i64 p2, .int .i64 p3, .int .i64 p4] 39); have F4 := five_new w4 (.int .i64 κ) (.int .i64 p1) (.int .i64 p2) (.int .i64 p3) (.int .i64 p4); have e0 := (HW4.cell (p := ⟨b, o + k * 5, none⟩) lb).trans f0; have e1 := (HW4.cell (p := ⟨b, o + k * 5 + 1, none⟩) lb).trans f1; have e2 := (HW4.cell (p := ⟨b, o + k * 5 + 2, none⟩) lb).trans f2; have e3 := (HW4.cell (p := ⟨b, o + k * 5 + 3, none⟩) lb).trans f3; have e4 := (HW4.cell (p := ⟨b, o + k * 5 + 4, none⟩) lb).trans f4; have HB4 := Lib.hid (bnext HB.out HW4); obtain ⟨d0, d1, d2, d3, d4, -, -, -, -, -⟩ := F4; clear f0 f1 f2 f3 f4 HW4; clear hb4))
        go_quiet (fail)
        go_wp2
        go_roundw
        case rel => exact ⟨k + 1, by omega, by go_num, Lib.hid (bdrewN HB4.out _)⟩
        case measure => simp [intOf]; omega
      · obtain rfl : k = n := by omega
        go_wp2
        go_ret
        exact ⟨rfl, bnext DX.out HB.out⟩
end Go.Proofs.YtfnlniknclkeaaaDoor
