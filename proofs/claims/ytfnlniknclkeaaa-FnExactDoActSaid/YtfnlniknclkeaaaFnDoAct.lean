/- The law that compares DoAct with the reference, walked. -/
import Derived.Test.YtfnlniknclkeaaaDoActI
import Derived.Test.YtfnlniknclkeaaaDoActS
import Derived.Test.YtfnlniknclkeaaaDoLaw
import Derived.Test.YtfnlniknclkeaaaGI
import Derived.Test.YtfnlniknclkeaaaGJ
import Derived.Deep.RegionHeld3
namespace Go.Proofs.Ytfnlniknclkeaaa
open Go.ChangeShapes Go.WideShapes Go.ChangeAt Go.RowKit
set_option maxRecDepth 100000 in
set_option maxHeartbeats 4000000 in
theorem fnExactDoAct_any (vc0 vm0 vo0 vt0 : Value) (hd0 : HD) (aka aaa aba ac_a ad_a : Int) (w : World) (h0 : HouseR w vc0 vm0 vo0 vt0 hd0)  :
    Calls Try.prog 4 #[.agg #[vc0, vm0, vo0, vt0, .int .i64 (hd0).sent, .int .i64 (hd0).day], .agg #[.int .i64 aka, .int .i64 aaa, .int .i64 aba, .int .i64 ac_a, .int .i64 ad_a]] w fun e w' => e = .returned (.bool true) ∧ Below w.heap.size w w' := by
  obtain ⟨adc0, capc0, rfl⟩ : ∃ ad cap, vc0 = .slice ad hd0.n cap := by obtain ⟨_, _, ad, cap, hh, _⟩ := h0.c; exact ⟨ad, cap, hh⟩
  obtain ⟨adm0, capm0, rfl⟩ : ∃ ad cap, vm0 = .slice ad hd0.ms.length cap := by obtain ⟨_, ad, cap, hh, _⟩ := h0.m; exact ⟨ad, cap, hh⟩
  obtain ⟨ado0, capo0, rfl⟩ : ∃ ad cap, vo0 = .slice ad hd0.os.length cap := by obtain ⟨_, ad, cap, hh, _⟩ := h0.o; exact ⟨ad, cap, hh⟩
  obtain ⟨adt0, capt0, rfl⟩ : ∃ ad cap, vt0 = .slice ad hd0.ts.length cap := by obtain ⟨_, ad, cap, hh, _⟩ := h0.t; exact ⟨ad, cap, hh⟩
  by_cases q0 : (1048576 : Int) < ((hd0).size : Int)
  · skip
    go_enter Try.func4, Try.ntmps4
    go_wp2_with fail
    refine (szHouse_any _ _ _ _ (hd0) (1048576) _ (h0.below (balloc (balloc (bref _) _) _)) (by omega) (by omega)).mono ?_
    rintro e w1_ ⟨rfl, hb1⟩
    have T1 := bnext (balloc (balloc (bref _) _) _) hb1
    have Z1 : w.heap.size + 2 ≤ w1_.heap.size := by have h := hb1.size; simp at h; omega
    have yp0 : w.heap.size < w1_.heap.size := by omega
    have kp0_0 : w1_.cell? ⟨w.heap.size, 0, none⟩ = some ((.slice adc0 hd0.n capc0)) := (hb1.cell (p := ⟨w.heap.size, 0, none⟩) (by first | (simp; done) | (simp; omega))).trans (by go_simp)
    have kp0_1 : w1_.cell? ⟨w.heap.size, 1, none⟩ = some ((.slice adm0 hd0.ms.length capm0)) := (hb1.cell (p := ⟨w.heap.size, 1, none⟩) (by first | (simp; done) | (simp; omega))).trans (by go_simp)
    have kp0_2 : w1_.cell? ⟨w.heap.size, 2, none⟩ = some ((.slice ado0 hd0.os.length capo0)) := (hb1.cell (p := ⟨w.heap.size, 2, none⟩) (by first | (simp; done) | (simp; omega))).trans (by go_simp)
    have kp0_3 : w1_.cell? ⟨w.heap.size, 3, none⟩ = some ((.slice adt0 hd0.ts.length capt0)) := (hb1.cell (p := ⟨w.heap.size, 3, none⟩) (by first | (simp; done) | (simp; omega))).trans (by go_simp)
    have kp0_4 : w1_.cell? ⟨w.heap.size, 4, none⟩ = some (.int .i64 (hd0).sent) := (hb1.cell (p := ⟨w.heap.size, 4, none⟩) (by first | (simp; done) | (simp; omega))).trans (by go_simp)
    have kp0_5 : w1_.cell? ⟨w.heap.size, 5, none⟩ = some (.int .i64 (hd0).day) := (hb1.cell (p := ⟨w.heap.size, 5, none⟩) (by first | (simp; done) | (simp; omega))).trans (by go_simp)
    have ypa : w.heap.size + 1 < w1_.heap.size := by omega
    have kpa_0 : w1_.cell? ⟨w.heap.size + 1, 0, none⟩ = some (.int .i64 aka) := (hb1.cell (p := ⟨w.heap.size + 1, 0, none⟩) (by first | (simp; done) | (simp; omega))).trans (by go_simp)
    have kpa_1 : w1_.cell? ⟨w.heap.size + 1, 1, none⟩ = some (.int .i64 aaa) := (hb1.cell (p := ⟨w.heap.size + 1, 1, none⟩) (by first | (simp; done) | (simp; omega))).trans (by go_simp)
    have kpa_2 : w1_.cell? ⟨w.heap.size + 1, 2, none⟩ = some (.int .i64 aba) := (hb1.cell (p := ⟨w.heap.size + 1, 2, none⟩) (by first | (simp; done) | (simp; omega))).trans (by go_simp)
    have kpa_3 : w1_.cell? ⟨w.heap.size + 1, 3, none⟩ = some (.int .i64 ac_a) := (hb1.cell (p := ⟨w.heap.size + 1, 3, none⟩) (by first | (simp; done) | (simp; omega))).trans (by go_simp)
    have kpa_4 : w1_.cell? ⟨w.heap.size + 1, 4, none⟩ = some (.int .i64 ad_a) := (hb1.cell (p := ⟨w.heap.size + 1, 4, none⟩) (by first | (simp; done) | (simp; omega))).trans (by go_simp)
    have D1 := bnext (bref w) T1
    clear T1 hb1
    rw [szRes_lt (by omega)]
    go_wp2
    go_ret
    exact ⟨rfl, D1⟩
  have hB0 : HouseB hd0 1048576 := ⟨by unfold HD.size at q0; omega, by unfold HD.size at q0; omega, by unfold HD.size at q0; omega, by unfold HD.size at q0; omega⟩
  have hN := doAct_b hB0 aka aaa aba ac_a ad_a
  have hK := bulk_le hN
  have hK0 := bulk_le hB0
  go_enter Try.func4, Try.ntmps4
  go_wp2_with fail
  refine (szHouse_any _ _ _ _ (hd0) (1048576) _ (h0.below (balloc (balloc (bref _) _) _)) (by omega) (by omega)).mono ?_
  rintro e w1_ ⟨rfl, hb1⟩
  have T1 := bnext (balloc (balloc (bref _) _) _) hb1
  have Z1 : w.heap.size + 2 ≤ w1_.heap.size := by have h := hb1.size; simp at h; omega
  have yp0 : w.heap.size < w1_.heap.size := by omega
  have kp0_0 : w1_.cell? ⟨w.heap.size, 0, none⟩ = some ((.slice adc0 hd0.n capc0)) := (hb1.cell (p := ⟨w.heap.size, 0, none⟩) (by first | (simp; done) | (simp; omega))).trans (by go_simp)
  have kp0_1 : w1_.cell? ⟨w.heap.size, 1, none⟩ = some ((.slice adm0 hd0.ms.length capm0)) := (hb1.cell (p := ⟨w.heap.size, 1, none⟩) (by first | (simp; done) | (simp; omega))).trans (by go_simp)
  have kp0_2 : w1_.cell? ⟨w.heap.size, 2, none⟩ = some ((.slice ado0 hd0.os.length capo0)) := (hb1.cell (p := ⟨w.heap.size, 2, none⟩) (by first | (simp; done) | (simp; omega))).trans (by go_simp)
  have kp0_3 : w1_.cell? ⟨w.heap.size, 3, none⟩ = some ((.slice adt0 hd0.ts.length capt0)) := (hb1.cell (p := ⟨w.heap.size, 3, none⟩) (by first | (simp; done) | (simp; omega))).trans (by go_simp)
  have kp0_4 : w1_.cell? ⟨w.heap.size, 4, none⟩ = some (.int .i64 (hd0).sent) := (hb1.cell (p := ⟨w.heap.size, 4, none⟩) (by first | (simp; done) | (simp; omega))).trans (by go_simp)
  have kp0_5 : w1_.cell? ⟨w.heap.size, 5, none⟩ = some (.int .i64 (hd0).day) := (hb1.cell (p := ⟨w.heap.size, 5, none⟩) (by first | (simp; done) | (simp; omega))).trans (by go_simp)
  have ypa : w.heap.size + 1 < w1_.heap.size := by omega
  have kpa_0 : w1_.cell? ⟨w.heap.size + 1, 0, none⟩ = some (.int .i64 aka) := (hb1.cell (p := ⟨w.heap.size + 1, 0, none⟩) (by first | (simp; done) | (simp; omega))).trans (by go_simp)
  have kpa_1 : w1_.cell? ⟨w.heap.size + 1, 1, none⟩ = some (.int .i64 aaa) := (hb1.cell (p := ⟨w.heap.size + 1, 1, none⟩) (by first | (simp; done) | (simp; omega))).trans (by go_simp)
  have kpa_2 : w1_.cell? ⟨w.heap.size + 1, 2, none⟩ = some (.int .i64 aba) := (hb1.cell (p := ⟨w.heap.size + 1, 2, none⟩) (by first | (simp; done) | (simp; omega))).trans (by go_simp)
  have kpa_3 : w1_.cell? ⟨w.heap.size + 1, 3, none⟩ = some (.int .i64 ac_a) := (hb1.cell (p := ⟨w.heap.size + 1, 3, none⟩) (by first | (simp; done) | (simp; omega))).trans (by go_simp)
  have kpa_4 : w1_.cell? ⟨w.heap.size + 1, 4, none⟩ = some (.int .i64 ad_a) := (hb1.cell (p := ⟨w.heap.size + 1, 4, none⟩) (by first | (simp; done) | (simp; omega))).trans (by go_simp)
  have D1 := bnext (bref w) T1
  clear T1 hb1
  rw [szRes_ge (by omega)]
  go_wp2_with fail
  have SS : Hid (∀ w' : World, Below w1_.heap.size w1_ w' → w'.cell? ⟨w.heap.size, 0, none⟩ = some ((.slice adc0 hd0.n capc0)) ∧ w'.cell? ⟨w.heap.size, 1, none⟩ = some ((.slice adm0 hd0.ms.length capm0)) ∧ w'.cell? ⟨w.heap.size, 2, none⟩ = some ((.slice ado0 hd0.os.length capo0)) ∧ w'.cell? ⟨w.heap.size, 3, none⟩ = some ((.slice adt0 hd0.ts.length capt0)) ∧ w'.cell? ⟨w.heap.size, 4, none⟩ = some (.int .i64 (hd0).sent) ∧ w'.cell? ⟨w.heap.size, 5, none⟩ = some (.int .i64 (hd0).day) ∧ w'.cell? ⟨w.heap.size + 1, 0, none⟩ = some (.int .i64 aka) ∧ w'.cell? ⟨w.heap.size + 1, 1, none⟩ = some (.int .i64 aaa) ∧ w'.cell? ⟨w.heap.size + 1, 2, none⟩ = some (.int .i64 aba) ∧ w'.cell? ⟨w.heap.size + 1, 3, none⟩ = some (.int .i64 ac_a) ∧ w'.cell? ⟨w.heap.size + 1, 4, none⟩ = some (.int .i64 ad_a) ∧ Below w1_.heap.size w1_ w') := fun w' hb => ⟨(hb.cell (p := ⟨w.heap.size, 0, none⟩) yp0).trans kp0_0, (hb.cell (p := ⟨w.heap.size, 1, none⟩) yp0).trans kp0_1, (hb.cell (p := ⟨w.heap.size, 2, none⟩) yp0).trans kp0_2, (hb.cell (p := ⟨w.heap.size, 3, none⟩) yp0).trans kp0_3, (hb.cell (p := ⟨w.heap.size, 4, none⟩) yp0).trans kp0_4, (hb.cell (p := ⟨w.heap.size, 5, none⟩) yp0).trans kp0_5, (hb.cell (p := ⟨w.heap.size + 1, 0, none⟩) ypa).trans kpa_0, (hb.cell (p := ⟨w.heap.size + 1, 1, none⟩) ypa).trans kpa_1, (hb.cell (p := ⟨w.heap.size + 1, 2, none⟩) ypa).trans kpa_2, (hb.cell (p := ⟨w.heap.size + 1, 3, none⟩) ypa).trans kpa_3, (hb.cell (p := ⟨w.heap.size + 1, 4, none⟩) ypa).trans kpa_4, hb⟩
  have PR := Lib.hid (fun (W : World) (q : Below w1_.heap.size w1_ W) => ((h0.below D1)).below q)
  have hDr : Below w1_.heap.size w1_ w1_.drew := bdrew (bref _)
  have hDa : Below w1_.heap.size w1_ (w1_.alloc (.cells #[.slice none 0 0, .slice none 0 0, .slice none 0 0, .slice none 0 0, .int .i64 0, .int .i64 0] 27)).drew := bdrew (balloc (bref _) _)
  have SZ := Lib.hid (show Six w1_.heap.size ((w1_.alloc (.cells #[.slice none 0 0, .slice none 0 0, .slice none 0 0, .slice none 0 0, .int .i64 0, .int .i64 0] 27)).drew) (.slice none 0 0) (.slice none 0 0) (.slice none 0 0) (.slice none 0 0) (.int .i64 0) (.int .i64 0) from ⟨by go_simp, by go_simp, by go_simp, by go_simp, by go_simp, by go_simp, by go_simp, by go_simp, by go_simp, by go_simp, by go_simp, by go_simp⟩)
  go_upto_region 5 with fail
  go_cut [6, 7] (fun p q wx => ∃ (X lo hi : Nat) (ac_2 : Option Addr) (cc_2 : Nat) (am_2 : Option Addr) (cm_2 : Nat) (ao_2 : Option Addr) (co_2 : Nat) (at_2 : Option Addr) (ct_2 : Nat), p = .pointer (some ⟨X, 0, none⟩) ∧ q = .int .i64 ((doAct hd0 aka aaa aba ac_a ad_a).2) ∧ Hid (Six X wx (.slice ac_2 ((doAct hd0 aka aaa aba ac_a ad_a).1).n cc_2) (.slice am_2 ((doAct hd0 aka aaa aba ac_a ad_a).1).ms.length cm_2) (.slice ao_2 ((doAct hd0 aka aaa aba ac_a ad_a).1).os.length co_2) (.slice at_2 ((doAct hd0 aka aaa aba ac_a ad_a).1).ts.length ct_2) (.int .i64 ((doAct hd0 aka aaa aba ac_a ad_a).1).sent) (.int .i64 ((doAct hd0 aka aaa aba ac_a ad_a).1).day)) ∧ Hid (HouseO lo hi wx (.slice ac_2 ((doAct hd0 aka aaa aba ac_a ad_a).1).n cc_2) (.slice am_2 ((doAct hd0 aka aaa aba ac_a ad_a).1).ms.length cm_2) (.slice ao_2 ((doAct hd0 aka aaa aba ac_a ad_a).1).os.length co_2) (.slice at_2 ((doAct hd0 aka aaa aba ac_a ad_a).1).ts.length ct_2) ((doAct hd0 aka aaa aba ac_a ad_a).1)) ∧ (X < lo ∨ hi ≤ X) ∧ w1_.heap.size ≤ X ∧ w1_.heap.size ≤ lo ∧ hi ≤ wx.heap.size ∧ Hid (Below w1_.heap.size w1_ wx))
  case first =>
    go_region_held3 (fun w' => w'.cell? ⟨w.heap.size, 0, none⟩ = some ((.slice adc0 hd0.n capc0)) ∧ w'.cell? ⟨w.heap.size, 1, none⟩ = some ((.slice adm0 hd0.ms.length capm0)) ∧ w'.cell? ⟨w.heap.size, 2, none⟩ = some ((.slice ado0 hd0.os.length capo0)) ∧ w'.cell? ⟨w.heap.size, 3, none⟩ = some ((.slice adt0 hd0.ts.length capt0)) ∧ w'.cell? ⟨w.heap.size, 4, none⟩ = some (.int .i64 (hd0).sent) ∧ w'.cell? ⟨w.heap.size, 5, none⟩ = some (.int .i64 (hd0).day) ∧ w'.cell? ⟨w.heap.size + 1, 0, none⟩ = some (.int .i64 aka) ∧ w'.cell? ⟨w.heap.size + 1, 1, none⟩ = some (.int .i64 aaa) ∧ w'.cell? ⟨w.heap.size + 1, 2, none⟩ = some (.int .i64 aba) ∧ w'.cell? ⟨w.heap.size + 1, 3, none⟩ = some (.int .i64 ac_a) ∧ w'.cell? ⟨w.heap.size + 1, 4, none⟩ = some (.int .i64 ad_a) ∧ Below w1_.heap.size w1_ w')
      (first | with_reducible exact SS.out _ hDr | with_reducible exact SS.out _ hDa | with_reducible exact SS.out _ qa | with_reducible exact SS.out _ qaA | with_reducible exact SS.out _ qb | with_reducible exact SS.out _ qbA | with_reducible exact SS.out _ qc | with_reducible exact SS.out _ qcA | with_reducible exact SS.out _ qcV | with_reducible exact SS.out _ qP0 | with_reducible exact SS.out _ qP1 | with_reducible exact SS.out _ qP2 | fail "keep")
      (first | (go_at_call 21; go_split_ands; refine (toHouse_any _ _ _ _ hd0 _ (PR.out _ (by assumption)) hB0).mono ?_; rintro e wqa ⟨gc_, gm_, go_, gt_, rfl, HOa, hba⟩; have qa : Below w1_.heap.size w1_ wqa := (by first | with_reducible exact bnext hDr hba | with_reducible exact bnext hDa hba); have qaA : Below w1_.heap.size w1_ (wqa.alloc (.cells #[.slice none 0 0, .slice none 0 0, .slice none 0 0, .slice none 0 0, .int .i64 0, .int .i64 0] 27)) := balloc qa _; have hp1 := qa.size; (try (have SX := Lib.hid (SZ.out.below hba)))) | (go_at_call 22; go_split_ands; refine (toAct_any aka aaa aba ac_a ad_a _).mono ?_; rintro e wqb ⟨rfl, hbb⟩; have qb : Below w1_.heap.size w1_ wqb := (by first | with_reducible exact bnext qa hbb | with_reducible exact bnext qaA hbb); have qbA : Below w1_.heap.size w1_ (wqb.alloc (.cells #[.slice none 0 0, .slice none 0 0, .slice none 0 0, .slice none 0 0, .int .i64 0, .int .i64 0] 27)) := balloc qb _; have hp2 := qb.size; have HOb := (by first | with_reducible exact HOa.below hbb | exact (HOa.below (balloc (bref wqa) _)).below hbb); (try (first | have SX := Lib.hid (SX.out.below hbb) | have SX := Lib.hid ((six_new wqa).below hbb)))) | (go_at_call 20; go_split_ands; refine (specDoAct _ _ _ _ hd0 aka aaa aba ac_a ad_a _ (by first | with_reducible exact HOb.read hB0 | exact (HOb.below (balloc (bref wqb) _)).read hB0) HOb.nils hB0).mono ?_; rintro e wqc ⟨ac_2, cc_2, am_2, cm_2, ao_2, co_2, at_2, ct_2, rfl, HOc, hbc⟩; have qc : Below w1_.heap.size w1_ wqc := (by first | with_reducible exact bnext qb hbc | with_reducible exact bnext qbA hbc); have qcA : Below w1_.heap.size w1_ (wqc.alloc (.cells #[.slice none 0 0, .slice none 0 0, .slice none 0 0, .slice none 0 0, .int .i64 0, .int .i64 0] 27)) := balloc qc _; have qcV : Below w1_.heap.size w1_ (wqc.alloc (.cells #[.slice ac_2 ((doAct hd0 aka aaa aba ac_a ad_a).1).n cc_2, .slice am_2 ((doAct hd0 aka aaa aba ac_a ad_a).1).ms.length cm_2, .slice ao_2 ((doAct hd0 aka aaa aba ac_a ad_a).1).os.length co_2, .slice at_2 ((doAct hd0 aka aaa aba ac_a ad_a).1).ts.length ct_2, .int .i64 ((doAct hd0 aka aaa aba ac_a ad_a).1).sent, .int .i64 ((doAct hd0 aka aaa aba ac_a ad_a).1).day] 27)) := balloc qc _; have qP0 : Below w1_.heap.size w1_ (put6 wqc w1_.heap.size (.slice ac_2 ((doAct hd0 aka aaa aba ac_a ad_a).1).n cc_2) (.slice am_2 ((doAct hd0 aka aaa aba ac_a ad_a).1).ms.length cm_2) (.slice ao_2 ((doAct hd0 aka aaa aba ac_a ad_a).1).os.length co_2) (.slice at_2 ((doAct hd0 aka aaa aba ac_a ad_a).1).ts.length ct_2) (.int .i64 ((doAct hd0 aka aaa aba ac_a ad_a).1).sent) (.int .i64 ((doAct hd0 aka aaa aba ac_a ad_a).1).day)) := Only.below qc (only_put6 wqc w1_.heap.size _ _ _ _ _ _) (by omega); have qP1 : Below w1_.heap.size w1_ (put6 wqc wqa.heap.size (.slice ac_2 ((doAct hd0 aka aaa aba ac_a ad_a).1).n cc_2) (.slice am_2 ((doAct hd0 aka aaa aba ac_a ad_a).1).ms.length cm_2) (.slice ao_2 ((doAct hd0 aka aaa aba ac_a ad_a).1).os.length co_2) (.slice at_2 ((doAct hd0 aka aaa aba ac_a ad_a).1).ts.length ct_2) (.int .i64 ((doAct hd0 aka aaa aba ac_a ad_a).1).sent) (.int .i64 ((doAct hd0 aka aaa aba ac_a ad_a).1).day)) := Only.below qc (only_put6 wqc wqa.heap.size _ _ _ _ _ _) (by omega); have qP2 : Below w1_.heap.size w1_ (put6 wqc wqb.heap.size (.slice ac_2 ((doAct hd0 aka aaa aba ac_a ad_a).1).n cc_2) (.slice am_2 ((doAct hd0 aka aaa aba ac_a ad_a).1).ms.length cm_2) (.slice ao_2 ((doAct hd0 aka aaa aba ac_a ad_a).1).os.length co_2) (.slice at_2 ((doAct hd0 aka aaa aba ac_a ad_a).1).ts.length ct_2) (.int .i64 ((doAct hd0 aka aaa aba ac_a ad_a).1).sent) (.int .i64 ((doAct hd0 aka aaa aba ac_a ad_a).1).day)) := Only.below qc (only_put6 wqc wqb.heap.size _ _ _ _ _ _) (by omega); (try (first | have SX := Lib.hid (SX.out.below hbc) | have SX := Lib.hid ((six_new wqb).below hbc))); (try (have SX_ := SX.out; obtain ⟨e0_, e1_, e2_, e3_, e4_, e5_, f0_, f1_, f2_, f3_, f4_, f5_⟩ := SX_))))
    all_goals
      go_wp2_with fail
      go_meet
      have z0_ := hba.size; (try simp at z0_); have z1_ := hbb.size; (try simp at z1_); have z2_ := hbc.size; (try simp at z2_)
      first
      | (with_reducible refine ⟨w1_.heap.size, wqb.heap.size, wqc.heap.size, ac_2, cc_2, am_2, cm_2, ao_2, co_2, at_2, ct_2, rfl, rfl, ?_, ?_, ?_, ?_, ?_, ?_, ?_⟩; exact Lib.hid SX.out.put; exact Lib.hid (HOc.only (only_put6 wqc w1_.heap.size (.slice ac_2 ((doAct hd0 aka aaa aba ac_a ad_a).1).n cc_2) (.slice am_2 ((doAct hd0 aka aaa aba ac_a ad_a).1).ms.length cm_2) (.slice ao_2 ((doAct hd0 aka aaa aba ac_a ad_a).1).os.length co_2) (.slice at_2 ((doAct hd0 aka aaa aba ac_a ad_a).1).ts.length ct_2) (.int .i64 ((doAct hd0 aka aaa aba ac_a ad_a).1).sent) (.int .i64 ((doAct hd0 aka aaa aba ac_a ad_a).1).day)) (off_r (by first | omega | (simp; omega) | (simp; done)))); all_goals (first | with_reducible exact Lib.hid qP0 | (first | omega | with_reducible exact (balloc (bref wqc) _).size | with_reducible exact (only_put6 wqc _ _ _ _ _ _ _).size | (simp; done) | (simp; omega) | (right; simp; done) | (left; simp; omega) | (left; simp; done) | trivial)))
      | (with_reducible refine ⟨wqa.heap.size, wqb.heap.size, wqc.heap.size, ac_2, cc_2, am_2, cm_2, ao_2, co_2, at_2, ct_2, rfl, rfl, ?_, ?_, ?_, ?_, ?_, ?_, ?_⟩; exact Lib.hid SX.out.put; exact Lib.hid (HOc.only (only_put6 wqc wqa.heap.size (.slice ac_2 ((doAct hd0 aka aaa aba ac_a ad_a).1).n cc_2) (.slice am_2 ((doAct hd0 aka aaa aba ac_a ad_a).1).ms.length cm_2) (.slice ao_2 ((doAct hd0 aka aaa aba ac_a ad_a).1).os.length co_2) (.slice at_2 ((doAct hd0 aka aaa aba ac_a ad_a).1).ts.length ct_2) (.int .i64 ((doAct hd0 aka aaa aba ac_a ad_a).1).sent) (.int .i64 ((doAct hd0 aka aaa aba ac_a ad_a).1).day)) (off_r (by first | omega | (simp; omega) | (simp; done)))); all_goals (first | with_reducible exact Lib.hid qP1 | (first | omega | with_reducible exact (balloc (bref wqc) _).size | with_reducible exact (only_put6 wqc _ _ _ _ _ _ _).size | (simp; done) | (simp; omega) | (right; simp; done) | (left; simp; omega) | (left; simp; done) | trivial)))
      | (with_reducible refine ⟨wqb.heap.size, (wqb.alloc (.cells #[.slice none 0 0, .slice none 0 0, .slice none 0 0, .slice none 0 0, .int .i64 0, .int .i64 0] 27)).heap.size, wqc.heap.size, ac_2, cc_2, am_2, cm_2, ao_2, co_2, at_2, ct_2, rfl, rfl, ?_, ?_, ?_, ?_, ?_, ?_, ?_⟩; exact Lib.hid SX.out.put; exact Lib.hid (HOc.only (only_put6 wqc wqb.heap.size (.slice ac_2 ((doAct hd0 aka aaa aba ac_a ad_a).1).n cc_2) (.slice am_2 ((doAct hd0 aka aaa aba ac_a ad_a).1).ms.length cm_2) (.slice ao_2 ((doAct hd0 aka aaa aba ac_a ad_a).1).os.length co_2) (.slice at_2 ((doAct hd0 aka aaa aba ac_a ad_a).1).ts.length ct_2) (.int .i64 ((doAct hd0 aka aaa aba ac_a ad_a).1).sent) (.int .i64 ((doAct hd0 aka aaa aba ac_a ad_a).1).day)) (off_r (by first | omega | (simp; omega) | (simp; done)))); all_goals (first | with_reducible exact Lib.hid qP2 | (first | omega | with_reducible exact (balloc (bref wqc) _).size | with_reducible exact (only_put6 wqc _ _ _ _ _ _ _).size | (simp; done) | (simp; omega) | (right; simp; done) | (left; simp; omega) | (left; simp; done) | trivial)))
      | (with_reducible refine ⟨wqc.heap.size, wqb.heap.size, wqc.heap.size, ac_2, cc_2, am_2, cm_2, ao_2, co_2, at_2, ct_2, rfl, rfl, ?_, ?_, ?_, ?_, ?_, ?_, ?_⟩; exact Lib.hid (BoxH.first HOc (Nat.le_refl _)).six; exact Lib.hid (HOc.below (balloc (bref _) _)); all_goals (first | with_reducible exact Lib.hid qcV | (first | omega | with_reducible exact (balloc (bref wqc) _).size | with_reducible exact (only_put6 wqc _ _ _ _ _ _ _).size | (simp; done) | (simp; omega) | (right; simp; done) | (left; simp; omega) | (left; simp; done) | trivial)))
  obtain ⟨X_2, lo_2, hi_2, ac_2, cc_2, am_2, cm_2, ao_2, co_2, at_2, ct_2, rfl, rfl, H6_2, HO_2, hX_2, hl_2, hm_2, hh_2, HB_2⟩ := hcut
  obtain ⟨w2_, rfl⟩ : ∃ y, y = wc := ⟨_, rfl⟩
  clear SS PR SZ hDr hDa
  have hb2 := HB_2.out
  have T2 := hb2
  have Z2 := hb2.size
  replace kp0_0 := (T2.cell (p := ⟨w.heap.size, 0, none⟩) (by simp only []; omega)).trans kp0_0
  replace kp0_1 := (T2.cell (p := ⟨w.heap.size, 1, none⟩) (by simp only []; omega)).trans kp0_1
  replace kp0_2 := (T2.cell (p := ⟨w.heap.size, 2, none⟩) (by simp only []; omega)).trans kp0_2
  replace kp0_3 := (T2.cell (p := ⟨w.heap.size, 3, none⟩) (by simp only []; omega)).trans kp0_3
  replace kp0_4 := (T2.cell (p := ⟨w.heap.size, 4, none⟩) (by simp only []; omega)).trans kp0_4
  replace kp0_5 := (T2.cell (p := ⟨w.heap.size, 5, none⟩) (by simp only []; omega)).trans kp0_5
  replace yp0 : w.heap.size < w2_.heap.size := by omega
  replace kpa_0 := (T2.cell (p := ⟨w.heap.size + 1, 0, none⟩) (by simp only []; omega)).trans kpa_0
  replace kpa_1 := (T2.cell (p := ⟨w.heap.size + 1, 1, none⟩) (by simp only []; omega)).trans kpa_1
  replace kpa_2 := (T2.cell (p := ⟨w.heap.size + 1, 2, none⟩) (by simp only []; omega)).trans kpa_2
  replace kpa_3 := (T2.cell (p := ⟨w.heap.size + 1, 3, none⟩) (by simp only []; omega)).trans kpa_3
  replace kpa_4 := (T2.cell (p := ⟨w.heap.size + 1, 4, none⟩) (by simp only []; omega)).trans kpa_4
  replace ypa : w.heap.size + 1 < w2_.heap.size := by omega
  have D2 := bnext D1 T2
  have O_w0 := HO_2.out
  have yw0 : X_2 < w2_.heap.size := H6_2.out.lt
  have yX_2 := yw0
  have kw0_0 := H6_2.out.c0
  have kw0_1 := H6_2.out.c1
  have kw0_2 := H6_2.out.c2
  have kw0_3 := H6_2.out.c3
  have kw0_4 := H6_2.out.c4
  have kw0_5 := H6_2.out.c5
  clear H6_2 HO_2 HB_2
  clear T2 hb2
  go_wp2_with fail
  refine (toHouse_any _ _ _ _ (hd0) _ (h0.below D2) hB0).mono ?_
  rintro e w3_ ⟨gc_3, gm_3, go_3, gt_3, rfl, hO3, hb3⟩
  have T3 := hb3
  have Z3 := hb3.size
  replace kp0_0 := (T3.cell (p := ⟨w.heap.size, 0, none⟩) (by simp only []; omega)).trans kp0_0
  replace kp0_1 := (T3.cell (p := ⟨w.heap.size, 1, none⟩) (by simp only []; omega)).trans kp0_1
  replace kp0_2 := (T3.cell (p := ⟨w.heap.size, 2, none⟩) (by simp only []; omega)).trans kp0_2
  replace kp0_3 := (T3.cell (p := ⟨w.heap.size, 3, none⟩) (by simp only []; omega)).trans kp0_3
  replace kp0_4 := (T3.cell (p := ⟨w.heap.size, 4, none⟩) (by simp only []; omega)).trans kp0_4
  replace kp0_5 := (T3.cell (p := ⟨w.heap.size, 5, none⟩) (by simp only []; omega)).trans kp0_5
  replace yp0 : w.heap.size < w3_.heap.size := by omega
  replace kpa_0 := (T3.cell (p := ⟨w.heap.size + 1, 0, none⟩) (by simp only []; omega)).trans kpa_0
  replace kpa_1 := (T3.cell (p := ⟨w.heap.size + 1, 1, none⟩) (by simp only []; omega)).trans kpa_1
  replace kpa_2 := (T3.cell (p := ⟨w.heap.size + 1, 2, none⟩) (by simp only []; omega)).trans kpa_2
  replace kpa_3 := (T3.cell (p := ⟨w.heap.size + 1, 3, none⟩) (by simp only []; omega)).trans kpa_3
  replace kpa_4 := (T3.cell (p := ⟨w.heap.size + 1, 4, none⟩) (by simp only []; omega)).trans kpa_4
  replace ypa : w.heap.size + 1 < w3_.heap.size := by omega
  replace kw0_0 := (T3.cell (p := ⟨X_2, 0, none⟩) (by simp only []; omega)).trans kw0_0
  replace kw0_1 := (T3.cell (p := ⟨X_2, 1, none⟩) (by simp only []; omega)).trans kw0_1
  replace kw0_2 := (T3.cell (p := ⟨X_2, 2, none⟩) (by simp only []; omega)).trans kw0_2
  replace kw0_3 := (T3.cell (p := ⟨X_2, 3, none⟩) (by simp only []; omega)).trans kw0_3
  replace kw0_4 := (T3.cell (p := ⟨X_2, 4, none⟩) (by simp only []; omega)).trans kw0_4
  replace kw0_5 := (T3.cell (p := ⟨X_2, 5, none⟩) (by simp only []; omega)).trans kw0_5
  replace yw0 : X_2 < w3_.heap.size := by omega
  replace O_w0 := O_w0.below T3
  have D3 := bnext D2 T3
  have O_x0 := hO3
  clear hO3
  clear T3 hb3
  go_wp2_with fail
  go_upto_region 7 with fail
  have hb4 : Below w3_.heap.size w3_ (w3_.alloc (.cells #[(.slice (some ⟨gc_3, 0, none⟩) hd0.n hd0.n), (.slice (some ⟨gm_3, 0, none⟩) hd0.ms.length hd0.ms.length), (.slice (some ⟨go_3, 0, none⟩) hd0.os.length hd0.os.length), (.slice (some ⟨gt_3, 0, none⟩) hd0.ts.length hd0.ts.length), .int .i64 (hd0).sent, .int .i64 (hd0).day] 27)) := balloc (bref _) _
  have kx0_0 : (w3_.alloc (.cells #[(.slice (some ⟨gc_3, 0, none⟩) hd0.n hd0.n), (.slice (some ⟨gm_3, 0, none⟩) hd0.ms.length hd0.ms.length), (.slice (some ⟨go_3, 0, none⟩) hd0.os.length hd0.os.length), (.slice (some ⟨gt_3, 0, none⟩) hd0.ts.length hd0.ts.length), .int .i64 (hd0).sent, .int .i64 (hd0).day] 27)).cell? ⟨w3_.heap.size, 0, none⟩ = some ((.slice (some ⟨gc_3, 0, none⟩) hd0.n hd0.n)) := by go_simp
  have kx0_1 : (w3_.alloc (.cells #[(.slice (some ⟨gc_3, 0, none⟩) hd0.n hd0.n), (.slice (some ⟨gm_3, 0, none⟩) hd0.ms.length hd0.ms.length), (.slice (some ⟨go_3, 0, none⟩) hd0.os.length hd0.os.length), (.slice (some ⟨gt_3, 0, none⟩) hd0.ts.length hd0.ts.length), .int .i64 (hd0).sent, .int .i64 (hd0).day] 27)).cell? ⟨w3_.heap.size, 1, none⟩ = some ((.slice (some ⟨gm_3, 0, none⟩) hd0.ms.length hd0.ms.length)) := by go_simp
  have kx0_2 : (w3_.alloc (.cells #[(.slice (some ⟨gc_3, 0, none⟩) hd0.n hd0.n), (.slice (some ⟨gm_3, 0, none⟩) hd0.ms.length hd0.ms.length), (.slice (some ⟨go_3, 0, none⟩) hd0.os.length hd0.os.length), (.slice (some ⟨gt_3, 0, none⟩) hd0.ts.length hd0.ts.length), .int .i64 (hd0).sent, .int .i64 (hd0).day] 27)).cell? ⟨w3_.heap.size, 2, none⟩ = some ((.slice (some ⟨go_3, 0, none⟩) hd0.os.length hd0.os.length)) := by go_simp
  have kx0_3 : (w3_.alloc (.cells #[(.slice (some ⟨gc_3, 0, none⟩) hd0.n hd0.n), (.slice (some ⟨gm_3, 0, none⟩) hd0.ms.length hd0.ms.length), (.slice (some ⟨go_3, 0, none⟩) hd0.os.length hd0.os.length), (.slice (some ⟨gt_3, 0, none⟩) hd0.ts.length hd0.ts.length), .int .i64 (hd0).sent, .int .i64 (hd0).day] 27)).cell? ⟨w3_.heap.size, 3, none⟩ = some ((.slice (some ⟨gt_3, 0, none⟩) hd0.ts.length hd0.ts.length)) := by go_simp
  have kx0_4 : (w3_.alloc (.cells #[(.slice (some ⟨gc_3, 0, none⟩) hd0.n hd0.n), (.slice (some ⟨gm_3, 0, none⟩) hd0.ms.length hd0.ms.length), (.slice (some ⟨go_3, 0, none⟩) hd0.os.length hd0.os.length), (.slice (some ⟨gt_3, 0, none⟩) hd0.ts.length hd0.ts.length), .int .i64 (hd0).sent, .int .i64 (hd0).day] 27)).cell? ⟨w3_.heap.size, 4, none⟩ = some (.int .i64 (hd0).sent) := by go_simp
  have kx0_5 : (w3_.alloc (.cells #[(.slice (some ⟨gc_3, 0, none⟩) hd0.n hd0.n), (.slice (some ⟨gm_3, 0, none⟩) hd0.ms.length hd0.ms.length), (.slice (some ⟨go_3, 0, none⟩) hd0.os.length hd0.os.length), (.slice (some ⟨gt_3, 0, none⟩) hd0.ts.length hd0.ts.length), .int .i64 (hd0).sent, .int .i64 (hd0).day] 27)).cell? ⟨w3_.heap.size, 5, none⟩ = some (.int .i64 (hd0).day) := by go_simp
  have yx0 : w3_.heap.size < (w3_.alloc (.cells #[(.slice (some ⟨gc_3, 0, none⟩) hd0.n hd0.n), (.slice (some ⟨gm_3, 0, none⟩) hd0.ms.length hd0.ms.length), (.slice (some ⟨go_3, 0, none⟩) hd0.os.length hd0.os.length), (.slice (some ⟨gt_3, 0, none⟩) hd0.ts.length hd0.ts.length), .int .i64 (hd0).sent, .int .i64 (hd0).day] 27)).heap.size := by simp
  generalize w3_.alloc (.cells #[(.slice (some ⟨gc_3, 0, none⟩) hd0.n hd0.n), (.slice (some ⟨gm_3, 0, none⟩) hd0.ms.length hd0.ms.length), (.slice (some ⟨go_3, 0, none⟩) hd0.os.length hd0.os.length), (.slice (some ⟨gt_3, 0, none⟩) hd0.ts.length hd0.ts.length), .int .i64 (hd0).sent, .int .i64 (hd0).day] 27) = w4_ at *
  have T4 := hb4
  have Z4 := hb4.size
  replace kp0_0 := (T4.cell (p := ⟨w.heap.size, 0, none⟩) (by simp only []; omega)).trans kp0_0
  replace kp0_1 := (T4.cell (p := ⟨w.heap.size, 1, none⟩) (by simp only []; omega)).trans kp0_1
  replace kp0_2 := (T4.cell (p := ⟨w.heap.size, 2, none⟩) (by simp only []; omega)).trans kp0_2
  replace kp0_3 := (T4.cell (p := ⟨w.heap.size, 3, none⟩) (by simp only []; omega)).trans kp0_3
  replace kp0_4 := (T4.cell (p := ⟨w.heap.size, 4, none⟩) (by simp only []; omega)).trans kp0_4
  replace kp0_5 := (T4.cell (p := ⟨w.heap.size, 5, none⟩) (by simp only []; omega)).trans kp0_5
  replace yp0 : w.heap.size < w4_.heap.size := by omega
  replace kpa_0 := (T4.cell (p := ⟨w.heap.size + 1, 0, none⟩) (by simp only []; omega)).trans kpa_0
  replace kpa_1 := (T4.cell (p := ⟨w.heap.size + 1, 1, none⟩) (by simp only []; omega)).trans kpa_1
  replace kpa_2 := (T4.cell (p := ⟨w.heap.size + 1, 2, none⟩) (by simp only []; omega)).trans kpa_2
  replace kpa_3 := (T4.cell (p := ⟨w.heap.size + 1, 3, none⟩) (by simp only []; omega)).trans kpa_3
  replace kpa_4 := (T4.cell (p := ⟨w.heap.size + 1, 4, none⟩) (by simp only []; omega)).trans kpa_4
  replace ypa : w.heap.size + 1 < w4_.heap.size := by omega
  replace kw0_0 := (T4.cell (p := ⟨X_2, 0, none⟩) (by simp only []; omega)).trans kw0_0
  replace kw0_1 := (T4.cell (p := ⟨X_2, 1, none⟩) (by simp only []; omega)).trans kw0_1
  replace kw0_2 := (T4.cell (p := ⟨X_2, 2, none⟩) (by simp only []; omega)).trans kw0_2
  replace kw0_3 := (T4.cell (p := ⟨X_2, 3, none⟩) (by simp only []; omega)).trans kw0_3
  replace kw0_4 := (T4.cell (p := ⟨X_2, 4, none⟩) (by simp only []; omega)).trans kw0_4
  replace kw0_5 := (T4.cell (p := ⟨X_2, 5, none⟩) (by simp only []; omega)).trans kw0_5
  replace yw0 : X_2 < w4_.heap.size := by omega
  replace O_w0 := O_w0.below T4
  replace O_x0 := O_x0.below T4
  have D4 := bnext D3 T4
  clear T4 hb4
  have SS : Hid (∀ w' : World, Below w4_.heap.size w4_ w' → w'.cell? ⟨w.heap.size + 1, 0, none⟩ = some (.int .i64 aka) ∧ w'.cell? ⟨w.heap.size + 1, 1, none⟩ = some (.int .i64 aaa) ∧ w'.cell? ⟨w.heap.size + 1, 2, none⟩ = some (.int .i64 aba) ∧ w'.cell? ⟨w.heap.size + 1, 3, none⟩ = some (.int .i64 ac_a) ∧ w'.cell? ⟨w.heap.size + 1, 4, none⟩ = some (.int .i64 ad_a) ∧ w'.cell? ⟨w3_.heap.size, 0, none⟩ = some ((.slice (some ⟨gc_3, 0, none⟩) hd0.n hd0.n)) ∧ w'.cell? ⟨w3_.heap.size, 1, none⟩ = some ((.slice (some ⟨gm_3, 0, none⟩) hd0.ms.length hd0.ms.length)) ∧ w'.cell? ⟨w3_.heap.size, 2, none⟩ = some ((.slice (some ⟨go_3, 0, none⟩) hd0.os.length hd0.os.length)) ∧ w'.cell? ⟨w3_.heap.size, 3, none⟩ = some ((.slice (some ⟨gt_3, 0, none⟩) hd0.ts.length hd0.ts.length)) ∧ w'.cell? ⟨w3_.heap.size, 4, none⟩ = some (.int .i64 (hd0).sent) ∧ w'.cell? ⟨w3_.heap.size, 5, none⟩ = some (.int .i64 (hd0).day) ∧ Below w4_.heap.size w4_ w') := fun w' hb => ⟨(hb.cell (p := ⟨w.heap.size + 1, 0, none⟩) ypa).trans kpa_0, (hb.cell (p := ⟨w.heap.size + 1, 1, none⟩) ypa).trans kpa_1, (hb.cell (p := ⟨w.heap.size + 1, 2, none⟩) ypa).trans kpa_2, (hb.cell (p := ⟨w.heap.size + 1, 3, none⟩) ypa).trans kpa_3, (hb.cell (p := ⟨w.heap.size + 1, 4, none⟩) ypa).trans kpa_4, (hb.cell (p := ⟨w3_.heap.size, 0, none⟩) yx0).trans kx0_0, (hb.cell (p := ⟨w3_.heap.size, 1, none⟩) yx0).trans kx0_1, (hb.cell (p := ⟨w3_.heap.size, 2, none⟩) yx0).trans kx0_2, (hb.cell (p := ⟨w3_.heap.size, 3, none⟩) yx0).trans kx0_3, (hb.cell (p := ⟨w3_.heap.size, 4, none⟩) yx0).trans kx0_4, (hb.cell (p := ⟨w3_.heap.size, 5, none⟩) yx0).trans kx0_5, hb⟩
  have PR := Lib.hid (fun (W : World) (q : Below w4_.heap.size w4_ W) => ((h0.below D4)).below q)
  have XR := Lib.hid (fun (W : World) (q : Below w4_.heap.size w4_ W) => (O_x0.below q))
  have hDr : Below w4_.heap.size w4_ w4_.drew := bdrew (bref _)
  have hDa : Below w4_.heap.size w4_ (w4_.alloc (.cells #[.slice none 0 0, .slice none 0 0, .slice none 0 0, .slice none 0 0, .int .i64 0, .int .i64 0] 27)).drew := bdrew (balloc (bref _) _)
  have SZ := Lib.hid (show Six w4_.heap.size ((w4_.alloc (.cells #[.slice none 0 0, .slice none 0 0, .slice none 0 0, .slice none 0 0, .int .i64 0, .int .i64 0] 27)).drew) (.slice none 0 0) (.slice none 0 0) (.slice none 0 0) (.slice none 0 0) (.int .i64 0) (.int .i64 0) from ⟨by go_simp, by go_simp, by go_simp, by go_simp, by go_simp, by go_simp, by go_simp, by go_simp, by go_simp, by go_simp, by go_simp, by go_simp⟩)
  go_cut [9, 10] (fun p q wx => ∃ (X lo hi : Nat) (ac_5 : Option Addr) (cc_5 : Nat) (am_5 : Option Addr) (cm_5 : Nat) (ao_5 : Option Addr) (co_5 : Nat) (at_5 : Option Addr) (ct_5 : Nat), p = .pointer (some ⟨X, 0, none⟩) ∧ q = .int .i64 ((doAct hd0 aka aaa aba ac_a ad_a).2) ∧ Hid (Six X wx (.slice ac_5 ((doAct hd0 aka aaa aba ac_a ad_a).1).n cc_5) (.slice am_5 ((doAct hd0 aka aaa aba ac_a ad_a).1).ms.length cm_5) (.slice ao_5 ((doAct hd0 aka aaa aba ac_a ad_a).1).os.length co_5) (.slice at_5 ((doAct hd0 aka aaa aba ac_a ad_a).1).ts.length ct_5) (.int .i64 ((doAct hd0 aka aaa aba ac_a ad_a).1).sent) (.int .i64 ((doAct hd0 aka aaa aba ac_a ad_a).1).day)) ∧ Hid (HouseO lo hi wx (.slice ac_5 ((doAct hd0 aka aaa aba ac_a ad_a).1).n cc_5) (.slice am_5 ((doAct hd0 aka aaa aba ac_a ad_a).1).ms.length cm_5) (.slice ao_5 ((doAct hd0 aka aaa aba ac_a ad_a).1).os.length co_5) (.slice at_5 ((doAct hd0 aka aaa aba ac_a ad_a).1).ts.length ct_5) ((doAct hd0 aka aaa aba ac_a ad_a).1)) ∧ (X < lo ∨ hi ≤ X) ∧ w4_.heap.size ≤ X ∧ w4_.heap.size ≤ lo ∧ hi ≤ wx.heap.size ∧ Hid (Below w4_.heap.size w4_ wx))
  case first =>
    go_region_held3 (fun w' => w'.cell? ⟨w.heap.size + 1, 0, none⟩ = some (.int .i64 aka) ∧ w'.cell? ⟨w.heap.size + 1, 1, none⟩ = some (.int .i64 aaa) ∧ w'.cell? ⟨w.heap.size + 1, 2, none⟩ = some (.int .i64 aba) ∧ w'.cell? ⟨w.heap.size + 1, 3, none⟩ = some (.int .i64 ac_a) ∧ w'.cell? ⟨w.heap.size + 1, 4, none⟩ = some (.int .i64 ad_a) ∧ w'.cell? ⟨w3_.heap.size, 0, none⟩ = some ((.slice (some ⟨gc_3, 0, none⟩) hd0.n hd0.n)) ∧ w'.cell? ⟨w3_.heap.size, 1, none⟩ = some ((.slice (some ⟨gm_3, 0, none⟩) hd0.ms.length hd0.ms.length)) ∧ w'.cell? ⟨w3_.heap.size, 2, none⟩ = some ((.slice (some ⟨go_3, 0, none⟩) hd0.os.length hd0.os.length)) ∧ w'.cell? ⟨w3_.heap.size, 3, none⟩ = some ((.slice (some ⟨gt_3, 0, none⟩) hd0.ts.length hd0.ts.length)) ∧ w'.cell? ⟨w3_.heap.size, 4, none⟩ = some (.int .i64 (hd0).sent) ∧ w'.cell? ⟨w3_.heap.size, 5, none⟩ = some (.int .i64 (hd0).day) ∧ Below w4_.heap.size w4_ w')
      (first | with_reducible exact SS.out _ hDr | with_reducible exact SS.out _ hDa | with_reducible exact SS.out _ qb | with_reducible exact SS.out _ qbA | with_reducible exact SS.out _ qc | with_reducible exact SS.out _ qcA | with_reducible exact SS.out _ qcV | with_reducible exact SS.out _ qP0 | with_reducible exact SS.out _ qP1 | fail "keep")
      (first | (go_at_call 22; go_split_ands; refine (toAct_any aka aaa aba ac_a ad_a _).mono ?_; rintro e wqb ⟨rfl, hbb⟩; have qb : Below w4_.heap.size w4_ wqb := (by first | with_reducible exact bnext hDr hbb | with_reducible exact bnext hDa hbb); have qbA : Below w4_.heap.size w4_ (wqb.alloc (.cells #[.slice none 0 0, .slice none 0 0, .slice none 0 0, .slice none 0 0, .int .i64 0, .int .i64 0] 27)) := balloc qb _; have hp2 := qb.size; (try (have SX := Lib.hid (SZ.out.below hbb)))) | (go_at_call 23; go_split_ands; refine (implDoAct _ _ _ _ hd0 aka aaa aba ac_a ad_a _ (((XR.out _ (by assumption))).read hB0) O_x0.nils hB0).mono ?_; rintro e wqc ⟨ac_5, cc_5, am_5, cm_5, ao_5, co_5, at_5, ct_5, rfl, HOc, hbc⟩; have qc : Below w4_.heap.size w4_ wqc := (by first | with_reducible exact bnext qb hbc | with_reducible exact bnext qbA hbc); have qcA : Below w4_.heap.size w4_ (wqc.alloc (.cells #[.slice none 0 0, .slice none 0 0, .slice none 0 0, .slice none 0 0, .int .i64 0, .int .i64 0] 27)) := balloc qc _; have qcV : Below w4_.heap.size w4_ (wqc.alloc (.cells #[.slice ac_5 ((doAct hd0 aka aaa aba ac_a ad_a).1).n cc_5, .slice am_5 ((doAct hd0 aka aaa aba ac_a ad_a).1).ms.length cm_5, .slice ao_5 ((doAct hd0 aka aaa aba ac_a ad_a).1).os.length co_5, .slice at_5 ((doAct hd0 aka aaa aba ac_a ad_a).1).ts.length ct_5, .int .i64 ((doAct hd0 aka aaa aba ac_a ad_a).1).sent, .int .i64 ((doAct hd0 aka aaa aba ac_a ad_a).1).day] 27)) := balloc qc _; have qP0 : Below w4_.heap.size w4_ (put6 wqc w4_.heap.size (.slice ac_5 ((doAct hd0 aka aaa aba ac_a ad_a).1).n cc_5) (.slice am_5 ((doAct hd0 aka aaa aba ac_a ad_a).1).ms.length cm_5) (.slice ao_5 ((doAct hd0 aka aaa aba ac_a ad_a).1).os.length co_5) (.slice at_5 ((doAct hd0 aka aaa aba ac_a ad_a).1).ts.length ct_5) (.int .i64 ((doAct hd0 aka aaa aba ac_a ad_a).1).sent) (.int .i64 ((doAct hd0 aka aaa aba ac_a ad_a).1).day)) := Only.below qc (only_put6 wqc w4_.heap.size _ _ _ _ _ _) (by omega); have qP1 : Below w4_.heap.size w4_ (put6 wqc wqb.heap.size (.slice ac_5 ((doAct hd0 aka aaa aba ac_a ad_a).1).n cc_5) (.slice am_5 ((doAct hd0 aka aaa aba ac_a ad_a).1).ms.length cm_5) (.slice ao_5 ((doAct hd0 aka aaa aba ac_a ad_a).1).os.length co_5) (.slice at_5 ((doAct hd0 aka aaa aba ac_a ad_a).1).ts.length ct_5) (.int .i64 ((doAct hd0 aka aaa aba ac_a ad_a).1).sent) (.int .i64 ((doAct hd0 aka aaa aba ac_a ad_a).1).day)) := Only.below qc (only_put6 wqc wqb.heap.size _ _ _ _ _ _) (by omega); (try (first | have SX := Lib.hid (SX.out.below hbc) | have SX := Lib.hid ((six_new wqb).below hbc))); (try (have SX_ := SX.out; obtain ⟨e0_, e1_, e2_, e3_, e4_, e5_, f0_, f1_, f2_, f3_, f4_, f5_⟩ := SX_))))
    all_goals
      go_wp2_with fail
      go_meet
      have z0_ := hbb.size; (try simp at z0_); have z1_ := hbc.size; (try simp at z1_)
      first
      | (with_reducible refine ⟨w4_.heap.size, wqb.heap.size, wqc.heap.size, ac_5, cc_5, am_5, cm_5, ao_5, co_5, at_5, ct_5, rfl, rfl, ?_, ?_, ?_, ?_, ?_, ?_, ?_⟩; exact Lib.hid SX.out.put; exact Lib.hid (HOc.only (only_put6 wqc w4_.heap.size (.slice ac_5 ((doAct hd0 aka aaa aba ac_a ad_a).1).n cc_5) (.slice am_5 ((doAct hd0 aka aaa aba ac_a ad_a).1).ms.length cm_5) (.slice ao_5 ((doAct hd0 aka aaa aba ac_a ad_a).1).os.length co_5) (.slice at_5 ((doAct hd0 aka aaa aba ac_a ad_a).1).ts.length ct_5) (.int .i64 ((doAct hd0 aka aaa aba ac_a ad_a).1).sent) (.int .i64 ((doAct hd0 aka aaa aba ac_a ad_a).1).day)) (off_r (by first | omega | (simp; omega) | (simp; done)))); all_goals (first | with_reducible exact Lib.hid qP0 | (first | omega | with_reducible exact (balloc (bref wqc) _).size | with_reducible exact (only_put6 wqc _ _ _ _ _ _ _).size | (simp; done) | (simp; omega) | (right; simp; done) | (left; simp; omega) | (left; simp; done) | trivial)))
      | (with_reducible refine ⟨wqb.heap.size, (wqb.alloc (.cells #[.slice none 0 0, .slice none 0 0, .slice none 0 0, .slice none 0 0, .int .i64 0, .int .i64 0] 27)).heap.size, wqc.heap.size, ac_5, cc_5, am_5, cm_5, ao_5, co_5, at_5, ct_5, rfl, rfl, ?_, ?_, ?_, ?_, ?_, ?_, ?_⟩; exact Lib.hid SX.out.put; exact Lib.hid (HOc.only (only_put6 wqc wqb.heap.size (.slice ac_5 ((doAct hd0 aka aaa aba ac_a ad_a).1).n cc_5) (.slice am_5 ((doAct hd0 aka aaa aba ac_a ad_a).1).ms.length cm_5) (.slice ao_5 ((doAct hd0 aka aaa aba ac_a ad_a).1).os.length co_5) (.slice at_5 ((doAct hd0 aka aaa aba ac_a ad_a).1).ts.length ct_5) (.int .i64 ((doAct hd0 aka aaa aba ac_a ad_a).1).sent) (.int .i64 ((doAct hd0 aka aaa aba ac_a ad_a).1).day)) (off_r (by first | omega | (simp; omega) | (simp; done)))); all_goals (first | with_reducible exact Lib.hid qP1 | (first | omega | with_reducible exact (balloc (bref wqc) _).size | with_reducible exact (only_put6 wqc _ _ _ _ _ _ _).size | (simp; done) | (simp; omega) | (right; simp; done) | (left; simp; omega) | (left; simp; done) | trivial)))
      | (with_reducible refine ⟨wqc.heap.size, wqb.heap.size, wqc.heap.size, ac_5, cc_5, am_5, cm_5, ao_5, co_5, at_5, ct_5, rfl, rfl, ?_, ?_, ?_, ?_, ?_, ?_, ?_⟩; exact Lib.hid (BoxH.first HOc (Nat.le_refl _)).six; exact Lib.hid (HOc.below (balloc (bref _) _)); all_goals (first | with_reducible exact Lib.hid qcV | (first | omega | with_reducible exact (balloc (bref wqc) _).size | with_reducible exact (only_put6 wqc _ _ _ _ _ _ _).size | (simp; done) | (simp; omega) | (right; simp; done) | (left; simp; omega) | (left; simp; done) | trivial)))
  obtain ⟨X_5, lo_5, hi_5, ac_5, cc_5, am_5, cm_5, ao_5, co_5, at_5, ct_5, rfl, rfl, H6_5, HO_5, hX_5, hl_5, hm_5, hh_5, HB_5⟩ := hcut
  obtain ⟨w5_, rfl⟩ : ∃ y, y = wc := ⟨_, rfl⟩
  clear SS PR SZ hDr hDa XR
  have hb5 := HB_5.out
  have T5 := hb5
  have Z5 := hb5.size
  replace kp0_0 := (T5.cell (p := ⟨w.heap.size, 0, none⟩) (by simp only []; omega)).trans kp0_0
  replace kp0_1 := (T5.cell (p := ⟨w.heap.size, 1, none⟩) (by simp only []; omega)).trans kp0_1
  replace kp0_2 := (T5.cell (p := ⟨w.heap.size, 2, none⟩) (by simp only []; omega)).trans kp0_2
  replace kp0_3 := (T5.cell (p := ⟨w.heap.size, 3, none⟩) (by simp only []; omega)).trans kp0_3
  replace kp0_4 := (T5.cell (p := ⟨w.heap.size, 4, none⟩) (by simp only []; omega)).trans kp0_4
  replace kp0_5 := (T5.cell (p := ⟨w.heap.size, 5, none⟩) (by simp only []; omega)).trans kp0_5
  replace yp0 : w.heap.size < w5_.heap.size := by omega
  replace kpa_0 := (T5.cell (p := ⟨w.heap.size + 1, 0, none⟩) (by simp only []; omega)).trans kpa_0
  replace kpa_1 := (T5.cell (p := ⟨w.heap.size + 1, 1, none⟩) (by simp only []; omega)).trans kpa_1
  replace kpa_2 := (T5.cell (p := ⟨w.heap.size + 1, 2, none⟩) (by simp only []; omega)).trans kpa_2
  replace kpa_3 := (T5.cell (p := ⟨w.heap.size + 1, 3, none⟩) (by simp only []; omega)).trans kpa_3
  replace kpa_4 := (T5.cell (p := ⟨w.heap.size + 1, 4, none⟩) (by simp only []; omega)).trans kpa_4
  replace ypa : w.heap.size + 1 < w5_.heap.size := by omega
  replace kw0_0 := (T5.cell (p := ⟨X_2, 0, none⟩) (by simp only []; omega)).trans kw0_0
  replace kw0_1 := (T5.cell (p := ⟨X_2, 1, none⟩) (by simp only []; omega)).trans kw0_1
  replace kw0_2 := (T5.cell (p := ⟨X_2, 2, none⟩) (by simp only []; omega)).trans kw0_2
  replace kw0_3 := (T5.cell (p := ⟨X_2, 3, none⟩) (by simp only []; omega)).trans kw0_3
  replace kw0_4 := (T5.cell (p := ⟨X_2, 4, none⟩) (by simp only []; omega)).trans kw0_4
  replace kw0_5 := (T5.cell (p := ⟨X_2, 5, none⟩) (by simp only []; omega)).trans kw0_5
  replace yw0 : X_2 < w5_.heap.size := by omega
  replace kx0_0 := (T5.cell (p := ⟨w3_.heap.size, 0, none⟩) (by simp only []; omega)).trans kx0_0
  replace kx0_1 := (T5.cell (p := ⟨w3_.heap.size, 1, none⟩) (by simp only []; omega)).trans kx0_1
  replace kx0_2 := (T5.cell (p := ⟨w3_.heap.size, 2, none⟩) (by simp only []; omega)).trans kx0_2
  replace kx0_3 := (T5.cell (p := ⟨w3_.heap.size, 3, none⟩) (by simp only []; omega)).trans kx0_3
  replace kx0_4 := (T5.cell (p := ⟨w3_.heap.size, 4, none⟩) (by simp only []; omega)).trans kx0_4
  replace kx0_5 := (T5.cell (p := ⟨w3_.heap.size, 5, none⟩) (by simp only []; omega)).trans kx0_5
  replace yx0 : w3_.heap.size < w5_.heap.size := by omega
  replace O_w0 := O_w0.below T5
  replace O_x0 := O_x0.below T5
  have D5 := bnext D4 T5
  have O_g0 := HO_5.out
  have yg0 : X_5 < w5_.heap.size := H6_5.out.lt
  have yX_5 := yg0
  have kg0_0 := H6_5.out.c0
  have kg0_1 := H6_5.out.c1
  have kg0_2 := H6_5.out.c2
  have kg0_3 := H6_5.out.c3
  have kg0_4 := H6_5.out.c4
  have kg0_5 := H6_5.out.c5
  clear H6_5 HO_5 HB_5
  clear T5 hb5
  go_wp2_with fail
  refine (eqHouse_same _ _ _ _ _ _ _ _ ((doAct hd0 aka aaa aba ac_a ad_a).1) _ (O_g0.read hN) (O_w0.read hN)).mono ?_
  rintro e w6_ ⟨rfl, hb6⟩
  have T6 := hb6
  have Z6 := hb6.size
  replace kp0_0 := (T6.cell (p := ⟨w.heap.size, 0, none⟩) (by simp only []; omega)).trans kp0_0
  replace kp0_1 := (T6.cell (p := ⟨w.heap.size, 1, none⟩) (by simp only []; omega)).trans kp0_1
  replace kp0_2 := (T6.cell (p := ⟨w.heap.size, 2, none⟩) (by simp only []; omega)).trans kp0_2
  replace kp0_3 := (T6.cell (p := ⟨w.heap.size, 3, none⟩) (by simp only []; omega)).trans kp0_3
  replace kp0_4 := (T6.cell (p := ⟨w.heap.size, 4, none⟩) (by simp only []; omega)).trans kp0_4
  replace kp0_5 := (T6.cell (p := ⟨w.heap.size, 5, none⟩) (by simp only []; omega)).trans kp0_5
  replace yp0 : w.heap.size < w6_.heap.size := by omega
  replace kpa_0 := (T6.cell (p := ⟨w.heap.size + 1, 0, none⟩) (by simp only []; omega)).trans kpa_0
  replace kpa_1 := (T6.cell (p := ⟨w.heap.size + 1, 1, none⟩) (by simp only []; omega)).trans kpa_1
  replace kpa_2 := (T6.cell (p := ⟨w.heap.size + 1, 2, none⟩) (by simp only []; omega)).trans kpa_2
  replace kpa_3 := (T6.cell (p := ⟨w.heap.size + 1, 3, none⟩) (by simp only []; omega)).trans kpa_3
  replace kpa_4 := (T6.cell (p := ⟨w.heap.size + 1, 4, none⟩) (by simp only []; omega)).trans kpa_4
  replace ypa : w.heap.size + 1 < w6_.heap.size := by omega
  replace kw0_0 := (T6.cell (p := ⟨X_2, 0, none⟩) (by simp only []; omega)).trans kw0_0
  replace kw0_1 := (T6.cell (p := ⟨X_2, 1, none⟩) (by simp only []; omega)).trans kw0_1
  replace kw0_2 := (T6.cell (p := ⟨X_2, 2, none⟩) (by simp only []; omega)).trans kw0_2
  replace kw0_3 := (T6.cell (p := ⟨X_2, 3, none⟩) (by simp only []; omega)).trans kw0_3
  replace kw0_4 := (T6.cell (p := ⟨X_2, 4, none⟩) (by simp only []; omega)).trans kw0_4
  replace kw0_5 := (T6.cell (p := ⟨X_2, 5, none⟩) (by simp only []; omega)).trans kw0_5
  replace yw0 : X_2 < w6_.heap.size := by omega
  replace kx0_0 := (T6.cell (p := ⟨w3_.heap.size, 0, none⟩) (by simp only []; omega)).trans kx0_0
  replace kx0_1 := (T6.cell (p := ⟨w3_.heap.size, 1, none⟩) (by simp only []; omega)).trans kx0_1
  replace kx0_2 := (T6.cell (p := ⟨w3_.heap.size, 2, none⟩) (by simp only []; omega)).trans kx0_2
  replace kx0_3 := (T6.cell (p := ⟨w3_.heap.size, 3, none⟩) (by simp only []; omega)).trans kx0_3
  replace kx0_4 := (T6.cell (p := ⟨w3_.heap.size, 4, none⟩) (by simp only []; omega)).trans kx0_4
  replace kx0_5 := (T6.cell (p := ⟨w3_.heap.size, 5, none⟩) (by simp only []; omega)).trans kx0_5
  replace yx0 : w3_.heap.size < w6_.heap.size := by omega
  replace kg0_0 := (T6.cell (p := ⟨X_5, 0, none⟩) (by simp only []; omega)).trans kg0_0
  replace kg0_1 := (T6.cell (p := ⟨X_5, 1, none⟩) (by simp only []; omega)).trans kg0_1
  replace kg0_2 := (T6.cell (p := ⟨X_5, 2, none⟩) (by simp only []; omega)).trans kg0_2
  replace kg0_3 := (T6.cell (p := ⟨X_5, 3, none⟩) (by simp only []; omega)).trans kg0_3
  replace kg0_4 := (T6.cell (p := ⟨X_5, 4, none⟩) (by simp only []; omega)).trans kg0_4
  replace kg0_5 := (T6.cell (p := ⟨X_5, 5, none⟩) (by simp only []; omega)).trans kg0_5
  replace yg0 : X_5 < w6_.heap.size := by omega
  replace O_w0 := O_w0.below T6
  replace O_x0 := O_x0.below T6
  replace O_g0 := O_g0.below T6
  have D6 := bnext D5 T6
  clear T6 hb6
  go_wp2_with fail
  have RP_ := (h0.below D6)
  have RX_ := (O_x0.read hB0)
  have MK : Hid (∀ w', Below w6_.heap.size w6_ w' → w'.cell? ⟨w3_.heap.size, 0, none⟩ = some ((.slice (some ⟨gc_3, 0, none⟩) hd0.n hd0.n)) ∧ w'.cell? ⟨w3_.heap.size, 1, none⟩ = some ((.slice (some ⟨gm_3, 0, none⟩) hd0.ms.length hd0.ms.length)) ∧ w'.cell? ⟨w3_.heap.size, 2, none⟩ = some ((.slice (some ⟨go_3, 0, none⟩) hd0.os.length hd0.os.length)) ∧ w'.cell? ⟨w3_.heap.size, 3, none⟩ = some ((.slice (some ⟨gt_3, 0, none⟩) hd0.ts.length hd0.ts.length)) ∧ w'.cell? ⟨w3_.heap.size, 4, none⟩ = some (.int .i64 (hd0).sent) ∧ w'.cell? ⟨w3_.heap.size, 5, none⟩ = some (.int .i64 (hd0).day) ∧ w'.cell? ⟨w.heap.size, 0, none⟩ = some ((.slice adc0 hd0.n capc0)) ∧ w'.cell? ⟨w.heap.size, 1, none⟩ = some ((.slice adm0 hd0.ms.length capm0)) ∧ w'.cell? ⟨w.heap.size, 2, none⟩ = some ((.slice ado0 hd0.os.length capo0)) ∧ w'.cell? ⟨w.heap.size, 3, none⟩ = some ((.slice adt0 hd0.ts.length capt0)) ∧ w'.cell? ⟨w.heap.size, 4, none⟩ = some (.int .i64 (hd0).sent) ∧ w'.cell? ⟨w.heap.size, 5, none⟩ = some (.int .i64 (hd0).day) ∧ HouseR w' (.slice adc0 hd0.n capc0) (.slice adm0 hd0.ms.length capm0) (.slice ado0 hd0.os.length capo0) (.slice adt0 hd0.ts.length capt0) (hd0) ∧ HouseR w' (.slice (some ⟨gc_3, 0, none⟩) hd0.n hd0.n) (.slice (some ⟨gm_3, 0, none⟩) hd0.ms.length hd0.ms.length) (.slice (some ⟨go_3, 0, none⟩) hd0.os.length hd0.os.length) (.slice (some ⟨gt_3, 0, none⟩) hd0.ts.length hd0.ts.length) (hd0) ∧ Below w6_.heap.size w6_ w') :=
    fun w' hb => ⟨(hb.cell (p := ⟨w3_.heap.size, 0, none⟩) (by simp only []; omega)).trans kx0_0, (hb.cell (p := ⟨w3_.heap.size, 1, none⟩) (by simp only []; omega)).trans kx0_1, (hb.cell (p := ⟨w3_.heap.size, 2, none⟩) (by simp only []; omega)).trans kx0_2, (hb.cell (p := ⟨w3_.heap.size, 3, none⟩) (by simp only []; omega)).trans kx0_3, (hb.cell (p := ⟨w3_.heap.size, 4, none⟩) (by simp only []; omega)).trans kx0_4, (hb.cell (p := ⟨w3_.heap.size, 5, none⟩) (by simp only []; omega)).trans kx0_5, (hb.cell (p := ⟨w.heap.size, 0, none⟩) (by simp only []; omega)).trans kp0_0, (hb.cell (p := ⟨w.heap.size, 1, none⟩) (by simp only []; omega)).trans kp0_1, (hb.cell (p := ⟨w.heap.size, 2, none⟩) (by simp only []; omega)).trans kp0_2, (hb.cell (p := ⟨w.heap.size, 3, none⟩) (by simp only []; omega)).trans kp0_3, (hb.cell (p := ⟨w.heap.size, 4, none⟩) (by simp only []; omega)).trans kp0_4, (hb.cell (p := ⟨w.heap.size, 5, none⟩) (by simp only []; omega)).trans kp0_5, RP_.below hb, RX_.below hb, hb⟩
  clear RP_ RX_
  go_wp2_with fail
  go_region_held3 (fun w' => w'.cell? ⟨w3_.heap.size, 0, none⟩ = some ((.slice (some ⟨gc_3, 0, none⟩) hd0.n hd0.n)) ∧ w'.cell? ⟨w3_.heap.size, 1, none⟩ = some ((.slice (some ⟨gm_3, 0, none⟩) hd0.ms.length hd0.ms.length)) ∧ w'.cell? ⟨w3_.heap.size, 2, none⟩ = some ((.slice (some ⟨go_3, 0, none⟩) hd0.os.length hd0.os.length)) ∧ w'.cell? ⟨w3_.heap.size, 3, none⟩ = some ((.slice (some ⟨gt_3, 0, none⟩) hd0.ts.length hd0.ts.length)) ∧ w'.cell? ⟨w3_.heap.size, 4, none⟩ = some (.int .i64 (hd0).sent) ∧ w'.cell? ⟨w3_.heap.size, 5, none⟩ = some (.int .i64 (hd0).day) ∧ w'.cell? ⟨w.heap.size, 0, none⟩ = some ((.slice adc0 hd0.n capc0)) ∧ w'.cell? ⟨w.heap.size, 1, none⟩ = some ((.slice adm0 hd0.ms.length capm0)) ∧ w'.cell? ⟨w.heap.size, 2, none⟩ = some ((.slice ado0 hd0.os.length capo0)) ∧ w'.cell? ⟨w.heap.size, 3, none⟩ = some ((.slice adt0 hd0.ts.length capt0)) ∧ w'.cell? ⟨w.heap.size, 4, none⟩ = some (.int .i64 (hd0).sent) ∧ w'.cell? ⟨w.heap.size, 5, none⟩ = some (.int .i64 (hd0).day) ∧ HouseR w' (.slice adc0 hd0.n capc0) (.slice adm0 hd0.ms.length capm0) (.slice ado0 hd0.os.length capo0) (.slice adt0 hd0.ts.length capt0) (hd0) ∧ HouseR w' (.slice (some ⟨gc_3, 0, none⟩) hd0.n hd0.n) (.slice (some ⟨gm_3, 0, none⟩) hd0.ms.length hd0.ms.length) (.slice (some ⟨go_3, 0, none⟩) hd0.os.length hd0.os.length) (.slice (some ⟨gt_3, 0, none⟩) hd0.ts.length hd0.ts.length) (hd0) ∧ Below w6_.heap.size w6_ w')
    (first | exact MK.out _ (bdrew (bref _)) | (go_split_ands; exact MK.out _ (bnext (by assumption) hb7)) | (go_split_ands; exact MK.out _ (bnext (by assumption) hb8)))
    (first | (go_at_call 21; go_split_ands; refine (toHouse_any _ _ _ _ (hd0) _ (by assumption) hB0).mono ?_; rintro e w7_ ⟨gc_7, gm_7, go_7, gt_7, rfl, hO7, hb7⟩)
           | (go_at_call 24; go_split_ands; refine (eqHouse_same _ _ _ _ _ _ _ _ (hd0) _ (by assumption) ((hO7).read hB0)).mono ?_; rintro e w8_ ⟨rfl, hb8⟩))
  go_split_ands
  have hbq : Below w6_.heap.size w6_ w8_ := by assumption
  clear hb8
  have hb8 := hbq
  clear hbq MK
  have T8 := hb8
  have Z8 := hb8.size
  replace kp0_0 := (T8.cell (p := ⟨w.heap.size, 0, none⟩) (by simp only []; omega)).trans kp0_0
  replace kp0_1 := (T8.cell (p := ⟨w.heap.size, 1, none⟩) (by simp only []; omega)).trans kp0_1
  replace kp0_2 := (T8.cell (p := ⟨w.heap.size, 2, none⟩) (by simp only []; omega)).trans kp0_2
  replace kp0_3 := (T8.cell (p := ⟨w.heap.size, 3, none⟩) (by simp only []; omega)).trans kp0_3
  replace kp0_4 := (T8.cell (p := ⟨w.heap.size, 4, none⟩) (by simp only []; omega)).trans kp0_4
  replace kp0_5 := (T8.cell (p := ⟨w.heap.size, 5, none⟩) (by simp only []; omega)).trans kp0_5
  replace yp0 : w.heap.size < w8_.heap.size := by omega
  replace kpa_0 := (T8.cell (p := ⟨w.heap.size + 1, 0, none⟩) (by simp only []; omega)).trans kpa_0
  replace kpa_1 := (T8.cell (p := ⟨w.heap.size + 1, 1, none⟩) (by simp only []; omega)).trans kpa_1
  replace kpa_2 := (T8.cell (p := ⟨w.heap.size + 1, 2, none⟩) (by simp only []; omega)).trans kpa_2
  replace kpa_3 := (T8.cell (p := ⟨w.heap.size + 1, 3, none⟩) (by simp only []; omega)).trans kpa_3
  replace kpa_4 := (T8.cell (p := ⟨w.heap.size + 1, 4, none⟩) (by simp only []; omega)).trans kpa_4
  replace ypa : w.heap.size + 1 < w8_.heap.size := by omega
  replace kw0_0 := (T8.cell (p := ⟨X_2, 0, none⟩) (by simp only []; omega)).trans kw0_0
  replace kw0_1 := (T8.cell (p := ⟨X_2, 1, none⟩) (by simp only []; omega)).trans kw0_1
  replace kw0_2 := (T8.cell (p := ⟨X_2, 2, none⟩) (by simp only []; omega)).trans kw0_2
  replace kw0_3 := (T8.cell (p := ⟨X_2, 3, none⟩) (by simp only []; omega)).trans kw0_3
  replace kw0_4 := (T8.cell (p := ⟨X_2, 4, none⟩) (by simp only []; omega)).trans kw0_4
  replace kw0_5 := (T8.cell (p := ⟨X_2, 5, none⟩) (by simp only []; omega)).trans kw0_5
  replace yw0 : X_2 < w8_.heap.size := by omega
  replace kx0_0 := (T8.cell (p := ⟨w3_.heap.size, 0, none⟩) (by simp only []; omega)).trans kx0_0
  replace kx0_1 := (T8.cell (p := ⟨w3_.heap.size, 1, none⟩) (by simp only []; omega)).trans kx0_1
  replace kx0_2 := (T8.cell (p := ⟨w3_.heap.size, 2, none⟩) (by simp only []; omega)).trans kx0_2
  replace kx0_3 := (T8.cell (p := ⟨w3_.heap.size, 3, none⟩) (by simp only []; omega)).trans kx0_3
  replace kx0_4 := (T8.cell (p := ⟨w3_.heap.size, 4, none⟩) (by simp only []; omega)).trans kx0_4
  replace kx0_5 := (T8.cell (p := ⟨w3_.heap.size, 5, none⟩) (by simp only []; omega)).trans kx0_5
  replace yx0 : w3_.heap.size < w8_.heap.size := by omega
  replace kg0_0 := (T8.cell (p := ⟨X_5, 0, none⟩) (by simp only []; omega)).trans kg0_0
  replace kg0_1 := (T8.cell (p := ⟨X_5, 1, none⟩) (by simp only []; omega)).trans kg0_1
  replace kg0_2 := (T8.cell (p := ⟨X_5, 2, none⟩) (by simp only []; omega)).trans kg0_2
  replace kg0_3 := (T8.cell (p := ⟨X_5, 3, none⟩) (by simp only []; omega)).trans kg0_3
  replace kg0_4 := (T8.cell (p := ⟨X_5, 4, none⟩) (by simp only []; omega)).trans kg0_4
  replace kg0_5 := (T8.cell (p := ⟨X_5, 5, none⟩) (by simp only []; omega)).trans kg0_5
  replace yg0 : X_5 < w8_.heap.size := by omega
  replace O_w0 := O_w0.below T8
  replace O_x0 := O_x0.below T8
  replace O_g0 := O_g0.below T8
  have D8 := bnext D6 T8
  clear T8 hb8
  go_wp2_with fail
  refine (markHouse_any _ _ _ _ (hd0) (1) _ _ _ O_x0 hB0 (by omega) (by omega)).mono ?_
  rintro e w9_ ⟨rfl, hO9, hb9⟩
  have T9 := hb9
  have Z9 := T9.size
  replace kp0_0 := (World.cell?_of_block (T9.block (w.heap.size) (by omega) (by omega))).trans kp0_0
  replace kp0_1 := (World.cell?_of_block (T9.block (w.heap.size) (by omega) (by omega))).trans kp0_1
  replace kp0_2 := (World.cell?_of_block (T9.block (w.heap.size) (by omega) (by omega))).trans kp0_2
  replace kp0_3 := (World.cell?_of_block (T9.block (w.heap.size) (by omega) (by omega))).trans kp0_3
  replace kp0_4 := (World.cell?_of_block (T9.block (w.heap.size) (by omega) (by omega))).trans kp0_4
  replace kp0_5 := (World.cell?_of_block (T9.block (w.heap.size) (by omega) (by omega))).trans kp0_5
  replace yp0 : w.heap.size < w9_.heap.size := by omega
  replace kpa_0 := (World.cell?_of_block (T9.block (w.heap.size + 1) (by omega) (by omega))).trans kpa_0
  replace kpa_1 := (World.cell?_of_block (T9.block (w.heap.size + 1) (by omega) (by omega))).trans kpa_1
  replace kpa_2 := (World.cell?_of_block (T9.block (w.heap.size + 1) (by omega) (by omega))).trans kpa_2
  replace kpa_3 := (World.cell?_of_block (T9.block (w.heap.size + 1) (by omega) (by omega))).trans kpa_3
  replace kpa_4 := (World.cell?_of_block (T9.block (w.heap.size + 1) (by omega) (by omega))).trans kpa_4
  replace ypa : w.heap.size + 1 < w9_.heap.size := by omega
  replace kw0_0 := (World.cell?_of_block (T9.block (X_2) (by omega) (by omega))).trans kw0_0
  replace kw0_1 := (World.cell?_of_block (T9.block (X_2) (by omega) (by omega))).trans kw0_1
  replace kw0_2 := (World.cell?_of_block (T9.block (X_2) (by omega) (by omega))).trans kw0_2
  replace kw0_3 := (World.cell?_of_block (T9.block (X_2) (by omega) (by omega))).trans kw0_3
  replace kw0_4 := (World.cell?_of_block (T9.block (X_2) (by omega) (by omega))).trans kw0_4
  replace kw0_5 := (World.cell?_of_block (T9.block (X_2) (by omega) (by omega))).trans kw0_5
  replace yw0 : X_2 < w9_.heap.size := by omega
  replace kx0_0 := (World.cell?_of_block (T9.block (w3_.heap.size) (by omega) (by omega))).trans kx0_0
  replace kx0_1 := (World.cell?_of_block (T9.block (w3_.heap.size) (by omega) (by omega))).trans kx0_1
  replace kx0_2 := (World.cell?_of_block (T9.block (w3_.heap.size) (by omega) (by omega))).trans kx0_2
  replace kx0_3 := (World.cell?_of_block (T9.block (w3_.heap.size) (by omega) (by omega))).trans kx0_3
  replace kx0_4 := (World.cell?_of_block (T9.block (w3_.heap.size) (by omega) (by omega))).trans kx0_4
  replace kx0_5 := (World.cell?_of_block (T9.block (w3_.heap.size) (by omega) (by omega))).trans kx0_5
  replace yx0 : w3_.heap.size < w9_.heap.size := by omega
  replace kg0_0 := (World.cell?_of_block (T9.block (X_5) (by omega) (by omega))).trans kg0_0
  replace kg0_1 := (World.cell?_of_block (T9.block (X_5) (by omega) (by omega))).trans kg0_1
  replace kg0_2 := (World.cell?_of_block (T9.block (X_5) (by omega) (by omega))).trans kg0_2
  replace kg0_3 := (World.cell?_of_block (T9.block (X_5) (by omega) (by omega))).trans kg0_3
  replace kg0_4 := (World.cell?_of_block (T9.block (X_5) (by omega) (by omega))).trans kg0_4
  replace kg0_5 := (World.cell?_of_block (T9.block (X_5) (by omega) (by omega))).trans kg0_5
  replace yg0 : X_5 < w9_.heap.size := by omega
  replace O_w0 := O_w0.only T9 (by unfold Off; omega)
  replace O_g0 := O_g0.only T9 (by unfold Off; omega)
  have D9 := Only.below D8 T9 (by omega)
  replace O_x0 := hO9
  clear hO9
  clear T9 hb9
  go_wp2_with fail
  refine (eqHouse_same _ _ _ _ _ _ _ _ ((doAct hd0 aka aaa aba ac_a ad_a).1) _ (O_g0.read hN) (O_w0.read hN)).mono ?_
  rintro e w10_ ⟨rfl, hb10⟩
  have T10 := hb10
  have Z10 := hb10.size
  replace kp0_0 := (T10.cell (p := ⟨w.heap.size, 0, none⟩) (by simp only []; omega)).trans kp0_0
  replace kp0_1 := (T10.cell (p := ⟨w.heap.size, 1, none⟩) (by simp only []; omega)).trans kp0_1
  replace kp0_2 := (T10.cell (p := ⟨w.heap.size, 2, none⟩) (by simp only []; omega)).trans kp0_2
  replace kp0_3 := (T10.cell (p := ⟨w.heap.size, 3, none⟩) (by simp only []; omega)).trans kp0_3
  replace kp0_4 := (T10.cell (p := ⟨w.heap.size, 4, none⟩) (by simp only []; omega)).trans kp0_4
  replace kp0_5 := (T10.cell (p := ⟨w.heap.size, 5, none⟩) (by simp only []; omega)).trans kp0_5
  replace yp0 : w.heap.size < w10_.heap.size := by omega
  replace kpa_0 := (T10.cell (p := ⟨w.heap.size + 1, 0, none⟩) (by simp only []; omega)).trans kpa_0
  replace kpa_1 := (T10.cell (p := ⟨w.heap.size + 1, 1, none⟩) (by simp only []; omega)).trans kpa_1
  replace kpa_2 := (T10.cell (p := ⟨w.heap.size + 1, 2, none⟩) (by simp only []; omega)).trans kpa_2
  replace kpa_3 := (T10.cell (p := ⟨w.heap.size + 1, 3, none⟩) (by simp only []; omega)).trans kpa_3
  replace kpa_4 := (T10.cell (p := ⟨w.heap.size + 1, 4, none⟩) (by simp only []; omega)).trans kpa_4
  replace ypa : w.heap.size + 1 < w10_.heap.size := by omega
  replace kw0_0 := (T10.cell (p := ⟨X_2, 0, none⟩) (by simp only []; omega)).trans kw0_0
  replace kw0_1 := (T10.cell (p := ⟨X_2, 1, none⟩) (by simp only []; omega)).trans kw0_1
  replace kw0_2 := (T10.cell (p := ⟨X_2, 2, none⟩) (by simp only []; omega)).trans kw0_2
  replace kw0_3 := (T10.cell (p := ⟨X_2, 3, none⟩) (by simp only []; omega)).trans kw0_3
  replace kw0_4 := (T10.cell (p := ⟨X_2, 4, none⟩) (by simp only []; omega)).trans kw0_4
  replace kw0_5 := (T10.cell (p := ⟨X_2, 5, none⟩) (by simp only []; omega)).trans kw0_5
  replace yw0 : X_2 < w10_.heap.size := by omega
  replace kx0_0 := (T10.cell (p := ⟨w3_.heap.size, 0, none⟩) (by simp only []; omega)).trans kx0_0
  replace kx0_1 := (T10.cell (p := ⟨w3_.heap.size, 1, none⟩) (by simp only []; omega)).trans kx0_1
  replace kx0_2 := (T10.cell (p := ⟨w3_.heap.size, 2, none⟩) (by simp only []; omega)).trans kx0_2
  replace kx0_3 := (T10.cell (p := ⟨w3_.heap.size, 3, none⟩) (by simp only []; omega)).trans kx0_3
  replace kx0_4 := (T10.cell (p := ⟨w3_.heap.size, 4, none⟩) (by simp only []; omega)).trans kx0_4
  replace kx0_5 := (T10.cell (p := ⟨w3_.heap.size, 5, none⟩) (by simp only []; omega)).trans kx0_5
  replace yx0 : w3_.heap.size < w10_.heap.size := by omega
  replace kg0_0 := (T10.cell (p := ⟨X_5, 0, none⟩) (by simp only []; omega)).trans kg0_0
  replace kg0_1 := (T10.cell (p := ⟨X_5, 1, none⟩) (by simp only []; omega)).trans kg0_1
  replace kg0_2 := (T10.cell (p := ⟨X_5, 2, none⟩) (by simp only []; omega)).trans kg0_2
  replace kg0_3 := (T10.cell (p := ⟨X_5, 3, none⟩) (by simp only []; omega)).trans kg0_3
  replace kg0_4 := (T10.cell (p := ⟨X_5, 4, none⟩) (by simp only []; omega)).trans kg0_4
  replace kg0_5 := (T10.cell (p := ⟨X_5, 5, none⟩) (by simp only []; omega)).trans kg0_5
  replace yg0 : X_5 < w10_.heap.size := by omega
  replace O_w0 := O_w0.below T10
  replace O_x0 := O_x0.below T10
  replace O_g0 := O_g0.below T10
  have D10 := bnext D9 T10
  clear T10 hb10
  go_wp2_with fail
  clear O_x0
  clear kx0_0 kx0_1 kx0_2 kx0_3 kx0_4 kx0_5 yx0
  refine (markHouse_any _ _ _ _ ((doAct hd0 aka aaa aba ac_a ad_a).1) (1) _ _ _ O_g0 hN (by omega) (by omega)).mono ?_
  rintro e w11_ ⟨rfl, hO11, hb11⟩
  have T11 := hb11
  have Z11 := T11.size
  replace kp0_0 := (World.cell?_of_block (T11.block (w.heap.size) (by omega) (by omega))).trans kp0_0
  replace kp0_1 := (World.cell?_of_block (T11.block (w.heap.size) (by omega) (by omega))).trans kp0_1
  replace kp0_2 := (World.cell?_of_block (T11.block (w.heap.size) (by omega) (by omega))).trans kp0_2
  replace kp0_3 := (World.cell?_of_block (T11.block (w.heap.size) (by omega) (by omega))).trans kp0_3
  replace kp0_4 := (World.cell?_of_block (T11.block (w.heap.size) (by omega) (by omega))).trans kp0_4
  replace kp0_5 := (World.cell?_of_block (T11.block (w.heap.size) (by omega) (by omega))).trans kp0_5
  replace yp0 : w.heap.size < w11_.heap.size := by omega
  replace kpa_0 := (World.cell?_of_block (T11.block (w.heap.size + 1) (by omega) (by omega))).trans kpa_0
  replace kpa_1 := (World.cell?_of_block (T11.block (w.heap.size + 1) (by omega) (by omega))).trans kpa_1
  replace kpa_2 := (World.cell?_of_block (T11.block (w.heap.size + 1) (by omega) (by omega))).trans kpa_2
  replace kpa_3 := (World.cell?_of_block (T11.block (w.heap.size + 1) (by omega) (by omega))).trans kpa_3
  replace kpa_4 := (World.cell?_of_block (T11.block (w.heap.size + 1) (by omega) (by omega))).trans kpa_4
  replace ypa : w.heap.size + 1 < w11_.heap.size := by omega
  replace kw0_0 := (World.cell?_of_block (T11.block (X_2) (by omega) (by omega))).trans kw0_0
  replace kw0_1 := (World.cell?_of_block (T11.block (X_2) (by omega) (by omega))).trans kw0_1
  replace kw0_2 := (World.cell?_of_block (T11.block (X_2) (by omega) (by omega))).trans kw0_2
  replace kw0_3 := (World.cell?_of_block (T11.block (X_2) (by omega) (by omega))).trans kw0_3
  replace kw0_4 := (World.cell?_of_block (T11.block (X_2) (by omega) (by omega))).trans kw0_4
  replace kw0_5 := (World.cell?_of_block (T11.block (X_2) (by omega) (by omega))).trans kw0_5
  replace yw0 : X_2 < w11_.heap.size := by omega
  replace kg0_0 := (World.cell?_of_block (T11.block (X_5) (by omega) (by omega))).trans kg0_0
  replace kg0_1 := (World.cell?_of_block (T11.block (X_5) (by omega) (by omega))).trans kg0_1
  replace kg0_2 := (World.cell?_of_block (T11.block (X_5) (by omega) (by omega))).trans kg0_2
  replace kg0_3 := (World.cell?_of_block (T11.block (X_5) (by omega) (by omega))).trans kg0_3
  replace kg0_4 := (World.cell?_of_block (T11.block (X_5) (by omega) (by omega))).trans kg0_4
  replace kg0_5 := (World.cell?_of_block (T11.block (X_5) (by omega) (by omega))).trans kg0_5
  replace yg0 : X_5 < w11_.heap.size := by omega
  replace O_w0 := O_w0.only T11 (by unfold Off; omega)
  have D11 := Only.below D10 T11 (by omega)
  replace O_g0 := hO11
  clear hO11
  clear T11 hb11
  go_wp2_with fail
  refine (heldHouse_any _ _ _ _ ((doAct hd0 aka aaa aba ac_a ad_a).1) (1) _ _ _ O_g0 hN (by omega) (by omega)).mono ?_
  rintro e w12_ ⟨rfl, hb12⟩
  have T12 := hb12
  have Z12 := hb12.size
  replace kp0_0 := (T12.cell (p := ⟨w.heap.size, 0, none⟩) (by simp only []; omega)).trans kp0_0
  replace kp0_1 := (T12.cell (p := ⟨w.heap.size, 1, none⟩) (by simp only []; omega)).trans kp0_1
  replace kp0_2 := (T12.cell (p := ⟨w.heap.size, 2, none⟩) (by simp only []; omega)).trans kp0_2
  replace kp0_3 := (T12.cell (p := ⟨w.heap.size, 3, none⟩) (by simp only []; omega)).trans kp0_3
  replace kp0_4 := (T12.cell (p := ⟨w.heap.size, 4, none⟩) (by simp only []; omega)).trans kp0_4
  replace kp0_5 := (T12.cell (p := ⟨w.heap.size, 5, none⟩) (by simp only []; omega)).trans kp0_5
  replace yp0 : w.heap.size < w12_.heap.size := by omega
  replace kpa_0 := (T12.cell (p := ⟨w.heap.size + 1, 0, none⟩) (by simp only []; omega)).trans kpa_0
  replace kpa_1 := (T12.cell (p := ⟨w.heap.size + 1, 1, none⟩) (by simp only []; omega)).trans kpa_1
  replace kpa_2 := (T12.cell (p := ⟨w.heap.size + 1, 2, none⟩) (by simp only []; omega)).trans kpa_2
  replace kpa_3 := (T12.cell (p := ⟨w.heap.size + 1, 3, none⟩) (by simp only []; omega)).trans kpa_3
  replace kpa_4 := (T12.cell (p := ⟨w.heap.size + 1, 4, none⟩) (by simp only []; omega)).trans kpa_4
  replace ypa : w.heap.size + 1 < w12_.heap.size := by omega
  replace kw0_0 := (T12.cell (p := ⟨X_2, 0, none⟩) (by simp only []; omega)).trans kw0_0
  replace kw0_1 := (T12.cell (p := ⟨X_2, 1, none⟩) (by simp only []; omega)).trans kw0_1
  replace kw0_2 := (T12.cell (p := ⟨X_2, 2, none⟩) (by simp only []; omega)).trans kw0_2
  replace kw0_3 := (T12.cell (p := ⟨X_2, 3, none⟩) (by simp only []; omega)).trans kw0_3
  replace kw0_4 := (T12.cell (p := ⟨X_2, 4, none⟩) (by simp only []; omega)).trans kw0_4
  replace kw0_5 := (T12.cell (p := ⟨X_2, 5, none⟩) (by simp only []; omega)).trans kw0_5
  replace yw0 : X_2 < w12_.heap.size := by omega
  replace kg0_0 := (T12.cell (p := ⟨X_5, 0, none⟩) (by simp only []; omega)).trans kg0_0
  replace kg0_1 := (T12.cell (p := ⟨X_5, 1, none⟩) (by simp only []; omega)).trans kg0_1
  replace kg0_2 := (T12.cell (p := ⟨X_5, 2, none⟩) (by simp only []; omega)).trans kg0_2
  replace kg0_3 := (T12.cell (p := ⟨X_5, 3, none⟩) (by simp only []; omega)).trans kg0_3
  replace kg0_4 := (T12.cell (p := ⟨X_5, 4, none⟩) (by simp only []; omega)).trans kg0_4
  replace kg0_5 := (T12.cell (p := ⟨X_5, 5, none⟩) (by simp only []; omega)).trans kg0_5
  replace yg0 : X_5 < w12_.heap.size := by omega
  replace O_w0 := O_w0.below T12
  replace O_g0 := O_g0.below T12
  have D12 := bnext D11 T12
  clear T12 hb12
  go_wp2_with fail
  have SS : Hid (∀ w' : World, Below w12_.heap.size w12_ w' → w'.cell? ⟨w.heap.size, 0, none⟩ = some ((.slice adc0 hd0.n capc0)) ∧ w'.cell? ⟨w.heap.size, 1, none⟩ = some ((.slice adm0 hd0.ms.length capm0)) ∧ w'.cell? ⟨w.heap.size, 2, none⟩ = some ((.slice ado0 hd0.os.length capo0)) ∧ w'.cell? ⟨w.heap.size, 3, none⟩ = some ((.slice adt0 hd0.ts.length capt0)) ∧ w'.cell? ⟨w.heap.size, 4, none⟩ = some (.int .i64 (hd0).sent) ∧ w'.cell? ⟨w.heap.size, 5, none⟩ = some (.int .i64 (hd0).day) ∧ w'.cell? ⟨w.heap.size + 1, 0, none⟩ = some (.int .i64 aka) ∧ w'.cell? ⟨w.heap.size + 1, 1, none⟩ = some (.int .i64 aaa) ∧ w'.cell? ⟨w.heap.size + 1, 2, none⟩ = some (.int .i64 aba) ∧ w'.cell? ⟨w.heap.size + 1, 3, none⟩ = some (.int .i64 ac_a) ∧ w'.cell? ⟨w.heap.size + 1, 4, none⟩ = some (.int .i64 ad_a) ∧ Below w12_.heap.size w12_ w') := fun w' hb => ⟨(hb.cell (p := ⟨w.heap.size, 0, none⟩) yp0).trans kp0_0, (hb.cell (p := ⟨w.heap.size, 1, none⟩) yp0).trans kp0_1, (hb.cell (p := ⟨w.heap.size, 2, none⟩) yp0).trans kp0_2, (hb.cell (p := ⟨w.heap.size, 3, none⟩) yp0).trans kp0_3, (hb.cell (p := ⟨w.heap.size, 4, none⟩) yp0).trans kp0_4, (hb.cell (p := ⟨w.heap.size, 5, none⟩) yp0).trans kp0_5, (hb.cell (p := ⟨w.heap.size + 1, 0, none⟩) ypa).trans kpa_0, (hb.cell (p := ⟨w.heap.size + 1, 1, none⟩) ypa).trans kpa_1, (hb.cell (p := ⟨w.heap.size + 1, 2, none⟩) ypa).trans kpa_2, (hb.cell (p := ⟨w.heap.size + 1, 3, none⟩) ypa).trans kpa_3, (hb.cell (p := ⟨w.heap.size + 1, 4, none⟩) ypa).trans kpa_4, hb⟩
  have PR := Lib.hid (fun (W : World) (q : Below w12_.heap.size w12_ W) => ((h0.below D12)).below q)
  have hDr : Below w12_.heap.size w12_ w12_.drew := bdrew (bref _)
  have hDa : Below w12_.heap.size w12_ (w12_.alloc (.cells #[.slice none 0 0, .slice none 0 0, .slice none 0 0, .slice none 0 0, .int .i64 0, .int .i64 0] 27)).drew := bdrew (balloc (bref _) _)
  have SZ := Lib.hid (show Six w12_.heap.size ((w12_.alloc (.cells #[.slice none 0 0, .slice none 0 0, .slice none 0 0, .slice none 0 0, .int .i64 0, .int .i64 0] 27)).drew) (.slice none 0 0) (.slice none 0 0) (.slice none 0 0) (.slice none 0 0) (.int .i64 0) (.int .i64 0) from ⟨by go_simp, by go_simp, by go_simp, by go_simp, by go_simp, by go_simp, by go_simp, by go_simp, by go_simp, by go_simp, by go_simp, by go_simp⟩)
  go_upto_region 24 with fail
  go_cut [14, 15] (fun p q wx => ∃ (X lo hi : Nat) (ac_13 : Option Addr) (cc_13 : Nat) (am_13 : Option Addr) (cm_13 : Nat) (ao_13 : Option Addr) (co_13 : Nat) (at_13 : Option Addr) (ct_13 : Nat), p = .pointer (some ⟨X, 0, none⟩) ∧ q = .int .i64 ((doAct hd0 aka aaa aba ac_a ad_a).2) ∧ Hid (Six X wx (.slice ac_13 ((doAct hd0 aka aaa aba ac_a ad_a).1).n cc_13) (.slice am_13 ((doAct hd0 aka aaa aba ac_a ad_a).1).ms.length cm_13) (.slice ao_13 ((doAct hd0 aka aaa aba ac_a ad_a).1).os.length co_13) (.slice at_13 ((doAct hd0 aka aaa aba ac_a ad_a).1).ts.length ct_13) (.int .i64 ((doAct hd0 aka aaa aba ac_a ad_a).1).sent) (.int .i64 ((doAct hd0 aka aaa aba ac_a ad_a).1).day)) ∧ Hid (HouseO lo hi wx (.slice ac_13 ((doAct hd0 aka aaa aba ac_a ad_a).1).n cc_13) (.slice am_13 ((doAct hd0 aka aaa aba ac_a ad_a).1).ms.length cm_13) (.slice ao_13 ((doAct hd0 aka aaa aba ac_a ad_a).1).os.length co_13) (.slice at_13 ((doAct hd0 aka aaa aba ac_a ad_a).1).ts.length ct_13) ((doAct hd0 aka aaa aba ac_a ad_a).1)) ∧ (X < lo ∨ hi ≤ X) ∧ w12_.heap.size ≤ X ∧ w12_.heap.size ≤ lo ∧ hi ≤ wx.heap.size ∧ Hid (Below w12_.heap.size w12_ wx))
  case first =>
    go_region_held3 (fun w' => w'.cell? ⟨w.heap.size, 0, none⟩ = some ((.slice adc0 hd0.n capc0)) ∧ w'.cell? ⟨w.heap.size, 1, none⟩ = some ((.slice adm0 hd0.ms.length capm0)) ∧ w'.cell? ⟨w.heap.size, 2, none⟩ = some ((.slice ado0 hd0.os.length capo0)) ∧ w'.cell? ⟨w.heap.size, 3, none⟩ = some ((.slice adt0 hd0.ts.length capt0)) ∧ w'.cell? ⟨w.heap.size, 4, none⟩ = some (.int .i64 (hd0).sent) ∧ w'.cell? ⟨w.heap.size, 5, none⟩ = some (.int .i64 (hd0).day) ∧ w'.cell? ⟨w.heap.size + 1, 0, none⟩ = some (.int .i64 aka) ∧ w'.cell? ⟨w.heap.size + 1, 1, none⟩ = some (.int .i64 aaa) ∧ w'.cell? ⟨w.heap.size + 1, 2, none⟩ = some (.int .i64 aba) ∧ w'.cell? ⟨w.heap.size + 1, 3, none⟩ = some (.int .i64 ac_a) ∧ w'.cell? ⟨w.heap.size + 1, 4, none⟩ = some (.int .i64 ad_a) ∧ Below w12_.heap.size w12_ w')
      (first | with_reducible exact SS.out _ hDr | with_reducible exact SS.out _ hDa | with_reducible exact SS.out _ qa | with_reducible exact SS.out _ qaA | with_reducible exact SS.out _ qb | with_reducible exact SS.out _ qbA | with_reducible exact SS.out _ qc | with_reducible exact SS.out _ qcA | with_reducible exact SS.out _ qcV | with_reducible exact SS.out _ qP0 | with_reducible exact SS.out _ qP1 | with_reducible exact SS.out _ qP2 | fail "keep")
      (first | (go_at_call 21; go_split_ands; refine (toHouse_any _ _ _ _ hd0 _ (PR.out _ (by assumption)) hB0).mono ?_; rintro e wqa ⟨gc_, gm_, go_, gt_, rfl, HOa, hba⟩; have qa : Below w12_.heap.size w12_ wqa := (by first | with_reducible exact bnext hDr hba | with_reducible exact bnext hDa hba); have qaA : Below w12_.heap.size w12_ (wqa.alloc (.cells #[.slice none 0 0, .slice none 0 0, .slice none 0 0, .slice none 0 0, .int .i64 0, .int .i64 0] 27)) := balloc qa _; have hp1 := qa.size; (try (have SX := Lib.hid (SZ.out.below hba)))) | (go_at_call 22; go_split_ands; refine (toAct_any aka aaa aba ac_a ad_a _).mono ?_; rintro e wqb ⟨rfl, hbb⟩; have qb : Below w12_.heap.size w12_ wqb := (by first | with_reducible exact bnext qa hbb | with_reducible exact bnext qaA hbb); have qbA : Below w12_.heap.size w12_ (wqb.alloc (.cells #[.slice none 0 0, .slice none 0 0, .slice none 0 0, .slice none 0 0, .int .i64 0, .int .i64 0] 27)) := balloc qb _; have hp2 := qb.size; have HOb := (by first | with_reducible exact HOa.below hbb | exact (HOa.below (balloc (bref wqa) _)).below hbb); (try (first | have SX := Lib.hid (SX.out.below hbb) | have SX := Lib.hid ((six_new wqa).below hbb)))) | (go_at_call 23; go_split_ands; refine (implDoAct _ _ _ _ hd0 aka aaa aba ac_a ad_a _ (by first | with_reducible exact HOb.read hB0 | exact (HOb.below (balloc (bref wqb) _)).read hB0) HOb.nils hB0).mono ?_; rintro e wqc ⟨ac_13, cc_13, am_13, cm_13, ao_13, co_13, at_13, ct_13, rfl, HOc, hbc⟩; have qc : Below w12_.heap.size w12_ wqc := (by first | with_reducible exact bnext qb hbc | with_reducible exact bnext qbA hbc); have qcA : Below w12_.heap.size w12_ (wqc.alloc (.cells #[.slice none 0 0, .slice none 0 0, .slice none 0 0, .slice none 0 0, .int .i64 0, .int .i64 0] 27)) := balloc qc _; have qcV : Below w12_.heap.size w12_ (wqc.alloc (.cells #[.slice ac_13 ((doAct hd0 aka aaa aba ac_a ad_a).1).n cc_13, .slice am_13 ((doAct hd0 aka aaa aba ac_a ad_a).1).ms.length cm_13, .slice ao_13 ((doAct hd0 aka aaa aba ac_a ad_a).1).os.length co_13, .slice at_13 ((doAct hd0 aka aaa aba ac_a ad_a).1).ts.length ct_13, .int .i64 ((doAct hd0 aka aaa aba ac_a ad_a).1).sent, .int .i64 ((doAct hd0 aka aaa aba ac_a ad_a).1).day] 27)) := balloc qc _; have qP0 : Below w12_.heap.size w12_ (put6 wqc w12_.heap.size (.slice ac_13 ((doAct hd0 aka aaa aba ac_a ad_a).1).n cc_13) (.slice am_13 ((doAct hd0 aka aaa aba ac_a ad_a).1).ms.length cm_13) (.slice ao_13 ((doAct hd0 aka aaa aba ac_a ad_a).1).os.length co_13) (.slice at_13 ((doAct hd0 aka aaa aba ac_a ad_a).1).ts.length ct_13) (.int .i64 ((doAct hd0 aka aaa aba ac_a ad_a).1).sent) (.int .i64 ((doAct hd0 aka aaa aba ac_a ad_a).1).day)) := Only.below qc (only_put6 wqc w12_.heap.size _ _ _ _ _ _) (by omega); have qP1 : Below w12_.heap.size w12_ (put6 wqc wqa.heap.size (.slice ac_13 ((doAct hd0 aka aaa aba ac_a ad_a).1).n cc_13) (.slice am_13 ((doAct hd0 aka aaa aba ac_a ad_a).1).ms.length cm_13) (.slice ao_13 ((doAct hd0 aka aaa aba ac_a ad_a).1).os.length co_13) (.slice at_13 ((doAct hd0 aka aaa aba ac_a ad_a).1).ts.length ct_13) (.int .i64 ((doAct hd0 aka aaa aba ac_a ad_a).1).sent) (.int .i64 ((doAct hd0 aka aaa aba ac_a ad_a).1).day)) := Only.below qc (only_put6 wqc wqa.heap.size _ _ _ _ _ _) (by omega); have qP2 : Below w12_.heap.size w12_ (put6 wqc wqb.heap.size (.slice ac_13 ((doAct hd0 aka aaa aba ac_a ad_a).1).n cc_13) (.slice am_13 ((doAct hd0 aka aaa aba ac_a ad_a).1).ms.length cm_13) (.slice ao_13 ((doAct hd0 aka aaa aba ac_a ad_a).1).os.length co_13) (.slice at_13 ((doAct hd0 aka aaa aba ac_a ad_a).1).ts.length ct_13) (.int .i64 ((doAct hd0 aka aaa aba ac_a ad_a).1).sent) (.int .i64 ((doAct hd0 aka aaa aba ac_a ad_a).1).day)) := Only.below qc (only_put6 wqc wqb.heap.size _ _ _ _ _ _) (by omega); (try (first | have SX := Lib.hid (SX.out.below hbc) | have SX := Lib.hid ((six_new wqb).below hbc))); (try (have SX_ := SX.out; obtain ⟨e0_, e1_, e2_, e3_, e4_, e5_, f0_, f1_, f2_, f3_, f4_, f5_⟩ := SX_))))
    all_goals
      go_wp2_with fail
      go_meet
      have z0_ := hba.size; (try simp at z0_); have z1_ := hbb.size; (try simp at z1_); have z2_ := hbc.size; (try simp at z2_)
      first
      | (with_reducible refine ⟨w12_.heap.size, wqb.heap.size, wqc.heap.size, ac_13, cc_13, am_13, cm_13, ao_13, co_13, at_13, ct_13, rfl, rfl, ?_, ?_, ?_, ?_, ?_, ?_, ?_⟩; exact Lib.hid SX.out.put; exact Lib.hid (HOc.only (only_put6 wqc w12_.heap.size (.slice ac_13 ((doAct hd0 aka aaa aba ac_a ad_a).1).n cc_13) (.slice am_13 ((doAct hd0 aka aaa aba ac_a ad_a).1).ms.length cm_13) (.slice ao_13 ((doAct hd0 aka aaa aba ac_a ad_a).1).os.length co_13) (.slice at_13 ((doAct hd0 aka aaa aba ac_a ad_a).1).ts.length ct_13) (.int .i64 ((doAct hd0 aka aaa aba ac_a ad_a).1).sent) (.int .i64 ((doAct hd0 aka aaa aba ac_a ad_a).1).day)) (off_r (by first | omega | (simp; omega) | (simp; done)))); all_goals (first | with_reducible exact Lib.hid qP0 | (first | omega | with_reducible exact (balloc (bref wqc) _).size | with_reducible exact (only_put6 wqc _ _ _ _ _ _ _).size | (simp; done) | (simp; omega) | (right; simp; done) | (left; simp; omega) | (left; simp; done) | trivial)))
      | (with_reducible refine ⟨wqa.heap.size, wqb.heap.size, wqc.heap.size, ac_13, cc_13, am_13, cm_13, ao_13, co_13, at_13, ct_13, rfl, rfl, ?_, ?_, ?_, ?_, ?_, ?_, ?_⟩; exact Lib.hid SX.out.put; exact Lib.hid (HOc.only (only_put6 wqc wqa.heap.size (.slice ac_13 ((doAct hd0 aka aaa aba ac_a ad_a).1).n cc_13) (.slice am_13 ((doAct hd0 aka aaa aba ac_a ad_a).1).ms.length cm_13) (.slice ao_13 ((doAct hd0 aka aaa aba ac_a ad_a).1).os.length co_13) (.slice at_13 ((doAct hd0 aka aaa aba ac_a ad_a).1).ts.length ct_13) (.int .i64 ((doAct hd0 aka aaa aba ac_a ad_a).1).sent) (.int .i64 ((doAct hd0 aka aaa aba ac_a ad_a).1).day)) (off_r (by first | omega | (simp; omega) | (simp; done)))); all_goals (first | with_reducible exact Lib.hid qP1 | (first | omega | with_reducible exact (balloc (bref wqc) _).size | with_reducible exact (only_put6 wqc _ _ _ _ _ _ _).size | (simp; done) | (simp; omega) | (right; simp; done) | (left; simp; omega) | (left; simp; done) | trivial)))
      | (with_reducible refine ⟨wqb.heap.size, (wqb.alloc (.cells #[.slice none 0 0, .slice none 0 0, .slice none 0 0, .slice none 0 0, .int .i64 0, .int .i64 0] 27)).heap.size, wqc.heap.size, ac_13, cc_13, am_13, cm_13, ao_13, co_13, at_13, ct_13, rfl, rfl, ?_, ?_, ?_, ?_, ?_, ?_, ?_⟩; exact Lib.hid SX.out.put; exact Lib.hid (HOc.only (only_put6 wqc wqb.heap.size (.slice ac_13 ((doAct hd0 aka aaa aba ac_a ad_a).1).n cc_13) (.slice am_13 ((doAct hd0 aka aaa aba ac_a ad_a).1).ms.length cm_13) (.slice ao_13 ((doAct hd0 aka aaa aba ac_a ad_a).1).os.length co_13) (.slice at_13 ((doAct hd0 aka aaa aba ac_a ad_a).1).ts.length ct_13) (.int .i64 ((doAct hd0 aka aaa aba ac_a ad_a).1).sent) (.int .i64 ((doAct hd0 aka aaa aba ac_a ad_a).1).day)) (off_r (by first | omega | (simp; omega) | (simp; done)))); all_goals (first | with_reducible exact Lib.hid qP2 | (first | omega | with_reducible exact (balloc (bref wqc) _).size | with_reducible exact (only_put6 wqc _ _ _ _ _ _ _).size | (simp; done) | (simp; omega) | (right; simp; done) | (left; simp; omega) | (left; simp; done) | trivial)))
      | (with_reducible refine ⟨wqc.heap.size, wqb.heap.size, wqc.heap.size, ac_13, cc_13, am_13, cm_13, ao_13, co_13, at_13, ct_13, rfl, rfl, ?_, ?_, ?_, ?_, ?_, ?_, ?_⟩; exact Lib.hid (BoxH.first HOc (Nat.le_refl _)).six; exact Lib.hid (HOc.below (balloc (bref _) _)); all_goals (first | with_reducible exact Lib.hid qcV | (first | omega | with_reducible exact (balloc (bref wqc) _).size | with_reducible exact (only_put6 wqc _ _ _ _ _ _ _).size | (simp; done) | (simp; omega) | (right; simp; done) | (left; simp; omega) | (left; simp; done) | trivial)))
  obtain ⟨X_13, lo_13, hi_13, ac_13, cc_13, am_13, cm_13, ao_13, co_13, at_13, ct_13, rfl, rfl, H6_13, HO_13, hX_13, hl_13, hm_13, hh_13, HB_13⟩ := hcut
  obtain ⟨w13_, rfl⟩ : ∃ y, y = wc := ⟨_, rfl⟩
  clear SS PR SZ hDr hDa
  have hb13 := HB_13.out
  have T13 := hb13
  have Z13 := hb13.size
  replace kp0_0 := (T13.cell (p := ⟨w.heap.size, 0, none⟩) (by simp only []; omega)).trans kp0_0
  replace kp0_1 := (T13.cell (p := ⟨w.heap.size, 1, none⟩) (by simp only []; omega)).trans kp0_1
  replace kp0_2 := (T13.cell (p := ⟨w.heap.size, 2, none⟩) (by simp only []; omega)).trans kp0_2
  replace kp0_3 := (T13.cell (p := ⟨w.heap.size, 3, none⟩) (by simp only []; omega)).trans kp0_3
  replace kp0_4 := (T13.cell (p := ⟨w.heap.size, 4, none⟩) (by simp only []; omega)).trans kp0_4
  replace kp0_5 := (T13.cell (p := ⟨w.heap.size, 5, none⟩) (by simp only []; omega)).trans kp0_5
  replace yp0 : w.heap.size < w13_.heap.size := by omega
  replace kpa_0 := (T13.cell (p := ⟨w.heap.size + 1, 0, none⟩) (by simp only []; omega)).trans kpa_0
  replace kpa_1 := (T13.cell (p := ⟨w.heap.size + 1, 1, none⟩) (by simp only []; omega)).trans kpa_1
  replace kpa_2 := (T13.cell (p := ⟨w.heap.size + 1, 2, none⟩) (by simp only []; omega)).trans kpa_2
  replace kpa_3 := (T13.cell (p := ⟨w.heap.size + 1, 3, none⟩) (by simp only []; omega)).trans kpa_3
  replace kpa_4 := (T13.cell (p := ⟨w.heap.size + 1, 4, none⟩) (by simp only []; omega)).trans kpa_4
  replace ypa : w.heap.size + 1 < w13_.heap.size := by omega
  replace kw0_0 := (T13.cell (p := ⟨X_2, 0, none⟩) (by simp only []; omega)).trans kw0_0
  replace kw0_1 := (T13.cell (p := ⟨X_2, 1, none⟩) (by simp only []; omega)).trans kw0_1
  replace kw0_2 := (T13.cell (p := ⟨X_2, 2, none⟩) (by simp only []; omega)).trans kw0_2
  replace kw0_3 := (T13.cell (p := ⟨X_2, 3, none⟩) (by simp only []; omega)).trans kw0_3
  replace kw0_4 := (T13.cell (p := ⟨X_2, 4, none⟩) (by simp only []; omega)).trans kw0_4
  replace kw0_5 := (T13.cell (p := ⟨X_2, 5, none⟩) (by simp only []; omega)).trans kw0_5
  replace yw0 : X_2 < w13_.heap.size := by omega
  replace kg0_0 := (T13.cell (p := ⟨X_5, 0, none⟩) (by simp only []; omega)).trans kg0_0
  replace kg0_1 := (T13.cell (p := ⟨X_5, 1, none⟩) (by simp only []; omega)).trans kg0_1
  replace kg0_2 := (T13.cell (p := ⟨X_5, 2, none⟩) (by simp only []; omega)).trans kg0_2
  replace kg0_3 := (T13.cell (p := ⟨X_5, 3, none⟩) (by simp only []; omega)).trans kg0_3
  replace kg0_4 := (T13.cell (p := ⟨X_5, 4, none⟩) (by simp only []; omega)).trans kg0_4
  replace kg0_5 := (T13.cell (p := ⟨X_5, 5, none⟩) (by simp only []; omega)).trans kg0_5
  replace yg0 : X_5 < w13_.heap.size := by omega
  replace O_w0 := O_w0.below T13
  replace O_g0 := O_g0.below T13
  have D13 := bnext D12 T13
  have O_h0 := HO_13.out
  have yh0 : X_13 < w13_.heap.size := H6_13.out.lt
  have yX_13 := yh0
  have kh0_0 := H6_13.out.c0
  have kh0_1 := H6_13.out.c1
  have kh0_2 := H6_13.out.c2
  have kh0_3 := H6_13.out.c3
  have kh0_4 := H6_13.out.c4
  have kh0_5 := H6_13.out.c5
  clear H6_13 HO_13 HB_13
  clear T13 hb13
  go_wp2_with fail
  refine (eqHouse_same _ _ _ _ _ _ _ _ ((doAct hd0 aka aaa aba ac_a ad_a).1) _ (O_h0.read hN) (O_w0.read hN)).mono ?_
  rintro e w14_ ⟨rfl, hb14⟩
  have T14 := hb14
  have Z14 := hb14.size
  replace kp0_0 := (T14.cell (p := ⟨w.heap.size, 0, none⟩) (by simp only []; omega)).trans kp0_0
  replace kp0_1 := (T14.cell (p := ⟨w.heap.size, 1, none⟩) (by simp only []; omega)).trans kp0_1
  replace kp0_2 := (T14.cell (p := ⟨w.heap.size, 2, none⟩) (by simp only []; omega)).trans kp0_2
  replace kp0_3 := (T14.cell (p := ⟨w.heap.size, 3, none⟩) (by simp only []; omega)).trans kp0_3
  replace kp0_4 := (T14.cell (p := ⟨w.heap.size, 4, none⟩) (by simp only []; omega)).trans kp0_4
  replace kp0_5 := (T14.cell (p := ⟨w.heap.size, 5, none⟩) (by simp only []; omega)).trans kp0_5
  replace yp0 : w.heap.size < w14_.heap.size := by omega
  replace kpa_0 := (T14.cell (p := ⟨w.heap.size + 1, 0, none⟩) (by simp only []; omega)).trans kpa_0
  replace kpa_1 := (T14.cell (p := ⟨w.heap.size + 1, 1, none⟩) (by simp only []; omega)).trans kpa_1
  replace kpa_2 := (T14.cell (p := ⟨w.heap.size + 1, 2, none⟩) (by simp only []; omega)).trans kpa_2
  replace kpa_3 := (T14.cell (p := ⟨w.heap.size + 1, 3, none⟩) (by simp only []; omega)).trans kpa_3
  replace kpa_4 := (T14.cell (p := ⟨w.heap.size + 1, 4, none⟩) (by simp only []; omega)).trans kpa_4
  replace ypa : w.heap.size + 1 < w14_.heap.size := by omega
  replace kw0_0 := (T14.cell (p := ⟨X_2, 0, none⟩) (by simp only []; omega)).trans kw0_0
  replace kw0_1 := (T14.cell (p := ⟨X_2, 1, none⟩) (by simp only []; omega)).trans kw0_1
  replace kw0_2 := (T14.cell (p := ⟨X_2, 2, none⟩) (by simp only []; omega)).trans kw0_2
  replace kw0_3 := (T14.cell (p := ⟨X_2, 3, none⟩) (by simp only []; omega)).trans kw0_3
  replace kw0_4 := (T14.cell (p := ⟨X_2, 4, none⟩) (by simp only []; omega)).trans kw0_4
  replace kw0_5 := (T14.cell (p := ⟨X_2, 5, none⟩) (by simp only []; omega)).trans kw0_5
  replace yw0 : X_2 < w14_.heap.size := by omega
  replace kg0_0 := (T14.cell (p := ⟨X_5, 0, none⟩) (by simp only []; omega)).trans kg0_0
  replace kg0_1 := (T14.cell (p := ⟨X_5, 1, none⟩) (by simp only []; omega)).trans kg0_1
  replace kg0_2 := (T14.cell (p := ⟨X_5, 2, none⟩) (by simp only []; omega)).trans kg0_2
  replace kg0_3 := (T14.cell (p := ⟨X_5, 3, none⟩) (by simp only []; omega)).trans kg0_3
  replace kg0_4 := (T14.cell (p := ⟨X_5, 4, none⟩) (by simp only []; omega)).trans kg0_4
  replace kg0_5 := (T14.cell (p := ⟨X_5, 5, none⟩) (by simp only []; omega)).trans kg0_5
  replace yg0 : X_5 < w14_.heap.size := by omega
  replace kh0_0 := (T14.cell (p := ⟨X_13, 0, none⟩) (by simp only []; omega)).trans kh0_0
  replace kh0_1 := (T14.cell (p := ⟨X_13, 1, none⟩) (by simp only []; omega)).trans kh0_1
  replace kh0_2 := (T14.cell (p := ⟨X_13, 2, none⟩) (by simp only []; omega)).trans kh0_2
  replace kh0_3 := (T14.cell (p := ⟨X_13, 3, none⟩) (by simp only []; omega)).trans kh0_3
  replace kh0_4 := (T14.cell (p := ⟨X_13, 4, none⟩) (by simp only []; omega)).trans kh0_4
  replace kh0_5 := (T14.cell (p := ⟨X_13, 5, none⟩) (by simp only []; omega)).trans kh0_5
  replace yh0 : X_13 < w14_.heap.size := by omega
  replace O_w0 := O_w0.below T14
  replace O_g0 := O_g0.below T14
  replace O_h0 := O_h0.below T14
  have D14 := bnext D13 T14
  clear T14 hb14
  go_wp2_with fail
  refine (heldHouse_any _ _ _ _ ((doAct hd0 aka aaa aba ac_a ad_a).1) (1) _ _ _ O_g0 hN (by omega) (by omega)).mono ?_
  rintro e w15_ ⟨rfl, hb15⟩
  have T15 := hb15
  have Z15 := hb15.size
  replace kp0_0 := (T15.cell (p := ⟨w.heap.size, 0, none⟩) (by simp only []; omega)).trans kp0_0
  replace kp0_1 := (T15.cell (p := ⟨w.heap.size, 1, none⟩) (by simp only []; omega)).trans kp0_1
  replace kp0_2 := (T15.cell (p := ⟨w.heap.size, 2, none⟩) (by simp only []; omega)).trans kp0_2
  replace kp0_3 := (T15.cell (p := ⟨w.heap.size, 3, none⟩) (by simp only []; omega)).trans kp0_3
  replace kp0_4 := (T15.cell (p := ⟨w.heap.size, 4, none⟩) (by simp only []; omega)).trans kp0_4
  replace kp0_5 := (T15.cell (p := ⟨w.heap.size, 5, none⟩) (by simp only []; omega)).trans kp0_5
  replace yp0 : w.heap.size < w15_.heap.size := by omega
  replace kpa_0 := (T15.cell (p := ⟨w.heap.size + 1, 0, none⟩) (by simp only []; omega)).trans kpa_0
  replace kpa_1 := (T15.cell (p := ⟨w.heap.size + 1, 1, none⟩) (by simp only []; omega)).trans kpa_1
  replace kpa_2 := (T15.cell (p := ⟨w.heap.size + 1, 2, none⟩) (by simp only []; omega)).trans kpa_2
  replace kpa_3 := (T15.cell (p := ⟨w.heap.size + 1, 3, none⟩) (by simp only []; omega)).trans kpa_3
  replace kpa_4 := (T15.cell (p := ⟨w.heap.size + 1, 4, none⟩) (by simp only []; omega)).trans kpa_4
  replace ypa : w.heap.size + 1 < w15_.heap.size := by omega
  replace kw0_0 := (T15.cell (p := ⟨X_2, 0, none⟩) (by simp only []; omega)).trans kw0_0
  replace kw0_1 := (T15.cell (p := ⟨X_2, 1, none⟩) (by simp only []; omega)).trans kw0_1
  replace kw0_2 := (T15.cell (p := ⟨X_2, 2, none⟩) (by simp only []; omega)).trans kw0_2
  replace kw0_3 := (T15.cell (p := ⟨X_2, 3, none⟩) (by simp only []; omega)).trans kw0_3
  replace kw0_4 := (T15.cell (p := ⟨X_2, 4, none⟩) (by simp only []; omega)).trans kw0_4
  replace kw0_5 := (T15.cell (p := ⟨X_2, 5, none⟩) (by simp only []; omega)).trans kw0_5
  replace yw0 : X_2 < w15_.heap.size := by omega
  replace kg0_0 := (T15.cell (p := ⟨X_5, 0, none⟩) (by simp only []; omega)).trans kg0_0
  replace kg0_1 := (T15.cell (p := ⟨X_5, 1, none⟩) (by simp only []; omega)).trans kg0_1
  replace kg0_2 := (T15.cell (p := ⟨X_5, 2, none⟩) (by simp only []; omega)).trans kg0_2
  replace kg0_3 := (T15.cell (p := ⟨X_5, 3, none⟩) (by simp only []; omega)).trans kg0_3
  replace kg0_4 := (T15.cell (p := ⟨X_5, 4, none⟩) (by simp only []; omega)).trans kg0_4
  replace kg0_5 := (T15.cell (p := ⟨X_5, 5, none⟩) (by simp only []; omega)).trans kg0_5
  replace yg0 : X_5 < w15_.heap.size := by omega
  replace kh0_0 := (T15.cell (p := ⟨X_13, 0, none⟩) (by simp only []; omega)).trans kh0_0
  replace kh0_1 := (T15.cell (p := ⟨X_13, 1, none⟩) (by simp only []; omega)).trans kh0_1
  replace kh0_2 := (T15.cell (p := ⟨X_13, 2, none⟩) (by simp only []; omega)).trans kh0_2
  replace kh0_3 := (T15.cell (p := ⟨X_13, 3, none⟩) (by simp only []; omega)).trans kh0_3
  replace kh0_4 := (T15.cell (p := ⟨X_13, 4, none⟩) (by simp only []; omega)).trans kh0_4
  replace kh0_5 := (T15.cell (p := ⟨X_13, 5, none⟩) (by simp only []; omega)).trans kh0_5
  replace yh0 : X_13 < w15_.heap.size := by omega
  replace O_w0 := O_w0.below T15
  replace O_g0 := O_g0.below T15
  replace O_h0 := O_h0.below T15
  have D15 := bnext D14 T15
  clear T15 hb15
  go_wp2
  go_ret
  exact ⟨rfl, D15⟩
end Go.Proofs.Ytfnlniknclkeaaa
