/- The walks of FormatHouse, in the program and in the reference. -/
import Derived.Test.YtlipfkalehikkaaGreatDoorLineFn
import Derived.Test.YtlipfkalehikkaaGreatDoorTextO
import Derived.Test.YtlipfkalehikkaaGreatDoorGF
import Derived.Test.YtlipfkalehikkaaGreatDoorGA
import Derived.Test.YtlipfkalehikkaaGreatDoorGB
import Derived.Deep.AppendLies
import Derived.Deep.RegionWith
import Derived.Deep.DeepCutAuto
import Derived.Deep.RegionHeld3
namespace Go.Proofs.YtlipfkalehikkaaGreatDoor
open Go.ChangeShapes Go.WideShapes Go.ChangeAt Go.RowKit

def Adds (P : Program) (x y : ByteArray) (s : List UInt8) : Prop := ∀ W : World, (Op.stringOp .add x y).run P W = .ok (.string (bstr s)) W
theorem line_steps {P : Program} (h : HD) (k : Nat) (hk : k ≤ 1000) (o0 : 0 ≤ nth h.os k) (o1 : nth h.os k ≤ 1000) : ∃ a0 a1 a2 a3 s1 s2 s3 s4 s5 s6 s7 : List UInt8,
    a0 = Lib.itoa (k : Int) ∧ a1 = Lib.itoa (weightIn h.n h.xs k) ∧ a2 = Lib.itoa (errorIn h.n h.xs k) ∧ a3 = Lib.itoa (nth h.os k) ∧
    Adds P (bstr a0) { data := #[58, 32] } s1 ∧ Adds P (bstr s1) (bstr a1) s2 ∧ Adds P (bstr s2) { data := #[32] } s3 ∧ Adds P (bstr s3) (bstr a2) s4 ∧ Adds P (bstr s4) { data := #[32] } s5 ∧ Adds P (bstr s5) (bstr a3) s6 ∧
    Adds P (bstr s6) { data := #[32, 116, 111, 108, 100] } s7 ∧ s6 = houseLine0 h k ∧ s7 = houseLine0 h k ++ [32, 116, 111, 108, 100] := by
  have e0 := itoa_len (n := (k : Int)) (by omega) (by omega)
  have b := weightIn_bd h.n h.xs k
  have c := errorIn_bd h.n h.xs k
  have e1 := itoa_len (n := weightIn h.n h.xs k) (by omega) (by omega)
  have e2 := itoa_len (n := errorIn h.n h.xs k) (by omega) (by omega)
  have e3 := itoa_len (n := nth h.os k) (by omega) (by omega)
  refine ⟨_, _, _, _, _, _, _, _, _, _, _, rfl, rfl, rfl, rfl, add_to _ [58, 32] _ rfl ?_, add_at _ _ _ rfl ?_, add_to _ [32] _ rfl ?_, add_at _ _ _ rfl ?_, add_to _ [32] _ rfl ?_, add_at _ _ _ rfl ?_, add_to _ [32, 116, 111, 108, 100] _ rfl ?_, rfl, rfl⟩
  all_goals
    simp only [List.length_append, List.length_cons, List.length_nil]
    omega
theorem end_steps {P : Program} (h : HD) (d0 : 0 ≤ h.day) (d1 : h.day ≤ 10000) (t0 : 0 ≤ h.sent) (t1 : h.sent ≤ 1000) : ∃ a0 a1 s0 s1 : List UInt8, a0 = Lib.itoa h.day ∧ a1 = Lib.itoa h.sent ∧
    Adds P { data := #[100, 97, 121, 32] } (bstr a0) s0 ∧ Adds P { data := #[108, 101, 116, 116, 101, 114, 115, 32] } (bstr a1) s1 ∧ s0 = dayLine h ∧ s1 = sentLine h := by
  have e0 := itoa_len (n := h.day) (by omega) (by omega)
  have e1 := itoa_len (n := h.sent) (by omega) (by omega)
  refine ⟨_, _, _, _, rfl, rfl, add_at [100, 97, 121, 32] _ _ rfl ?_, add_at [108, 101, 116, 116, 101, 114, 115, 32] _ _ rfl ?_, rfl, rfl⟩
  all_goals
    simp only [List.length_cons, List.length_nil]
    omega
theorem lines_next (h : HD) (k : Nat) : (linesTo h (k + 1)).map sv = (linesTo h k).map sv ++ [sv (houseLine h k)] := by rw [linesTo_succ, List.map_append]; rfl
theorem line_in {h : HD} {k : Nat} {s : List UInt8} (hin : (k : Int) ∈ h.ts) (e : s = houseLine0 h k ++ [32, 116, 111, 108, 100]) : sv (houseLine h k) = .string (bstr s) := by subst e; unfold houseLine; rw [if_pos hin]; rfl
theorem line_out {h : HD} {k : Nat} {s : List UInt8} (hin : ¬ (k : Int) ∈ h.ts) (e : s = houseLine0 h k) : sv (houseLine h k) = .string (bstr s) := by subst e; unfold houseLine; rw [if_neg hin]; rfl
theorem formatHouse_len (h : HD) : (formatHouse h).length ≤ 14 := by
  unfold formatHouse
  split
  next q =>
    have := (chainOk_n (daysOk_chain (houseOk_facts q).days).1).2
    rw [List.length_append, linesTo_len]
    simp; omega
  · simp
theorem infoStr : (Tryz.prog.info? 9).map (fun i => (i.zero, i.size, i.bytes)) = some (some (.string { data := #[] }), 1, 16) := by kernel_rfl
theorem app_below {B : Nat} {w wr w1 : World} {e : TypeId} {o : Obj} {v : Value} {n : Nat} {L : List Value} (hown : wr.ownsRow B e 1 v n L) (hgrow : (wr.alloc o).grownBy w1 v.ownBlock) (hbel : Below B w wr) (hB : B ≤ w.heap.size) : Below B w w1 :=
  (hbel.alloc (Nat.le_trans hB hbel.size) _).grown hgrow (by have := hbel.size; simp; omega) (fun k hk => (hown.lt k hk).1)
theorem cell_two_newT (w : World) (x y : Value) (t : TypeId) : ∀ j u, [x, y][j]? = some u → (w.alloc (.cells #[x, y] t)).cell? ((⟨w.heap.size, 0, none⟩ : Addr).add j) = some u := by
  intro j u hj
  rw [Addr.add_lit, Nat.zero_add]
  rw [World.cell?_alloc_new]
  simpa using hj
theorem strs_oneCell (a b : ByteArray) : ∀ u ∈ [Value.string a, Value.string b], u.oneCell' = true := by intro u hu; simp at hu; rcases hu with rfl | rfl <;> rfl
theorem str_oneCell (a : ByteArray) : ∀ u ∈ [Value.string a], u.oneCell' = true := by intro u hu; simp at hu; subst hu; rfl

set_option maxRecDepth 100000 in
set_option maxHeartbeats 4000000 in
theorem implFormatHouse (vc vm vo vt : Value) (h : HD) (w : World) (hr : HouseR w vc vm vo vt h) (ht : Tab w) : Calls Tryz.prog 12 #[.agg #[vc, vm, vo, vt, .int .i64 h.sent, .int .i64 h.day]] w fun e w' =>
    ∃ v, e = .returned v ∧ w'.ownsRow w.heap.size 9 1 v (formatHouse h).length ((formatHouse h).map sv) ∧ Below w.heap.size w w' := by
  obtain ⟨i0, hi, hz0, hz1, hz2⟩ := info_parts infoStr
  obtain ⟨adc, capc, rfl⟩ : ∃ ad cap, vc = .slice ad h.n cap := by obtain ⟨_, _, ad, cap, hh, _⟩ := hr.c; exact ⟨ad, cap, hh⟩
  obtain ⟨adm, capm, rfl⟩ : ∃ ad cap, vm = .slice ad h.ms.length cap := by obtain ⟨_, ad, cap, hh, _⟩ := hr.m; exact ⟨ad, cap, hh⟩
  obtain ⟨ado, capo, rfl⟩ : ∃ ad cap, vo = .slice ad h.os.length cap := by obtain ⟨_, ad, cap, hh, _⟩ := hr.o; exact ⟨ad, cap, hh⟩
  obtain ⟨adt, capt, rfl⟩ : ∃ ad cap, vt = .slice ad h.ts.length cap := by obtain ⟨_, ad, cap, hh, _⟩ := hr.t; exact ⟨ad, cap, hh⟩
  cases h1 : houseOk h with
  | false =>
    have H := Lib.hid (formatHouse_f h1)
    go_enter Tryz.func12, Tryz.ntmps12
    go_wp2_with fail
    refine (implHouseOk _ _ _ _ h _ (hr.alloc _)).mono ?_
    rintro e w1 ⟨rfl, hb1⟩
    rw [h1]
    have D1 := Lib.hid (bnext (balloc (bref w) _) hb1)
    clear hb1
    go_wp2
    go_ret
    rw [H.out]
    exact ⟨_, rfl, World.ownsRow_nil _ _ _ _, D1.out⟩
  | true =>
    go_enter Tryz.func12, Tryz.ntmps12
    go_wp2_with fail
    refine (implHouseOk _ _ _ _ h _ (hr.alloc _)).mono ?_
    rintro e wb ⟨rfl, hb1⟩
    rw [h1]
    have D1 := Lib.hid (bnext (balloc (bref w) _) hb1)
    have b0 : wb.cell? ⟨w.heap.size, 0, none⟩ = some (.slice adc h.n capc) := (hb1.cell (p := ⟨w.heap.size, 0, none⟩) (by simp)).trans (by simp)
    have b1 : wb.cell? ⟨w.heap.size, 1, none⟩ = some (.slice adm h.ms.length capm) := (hb1.cell (p := ⟨w.heap.size, 1, none⟩) (by simp)).trans (by simp)
    have b2 : wb.cell? ⟨w.heap.size, 2, none⟩ = some (.slice ado h.os.length capo) := (hb1.cell (p := ⟨w.heap.size, 2, none⟩) (by simp)).trans (by simp)
    have b3 : wb.cell? ⟨w.heap.size, 3, none⟩ = some (.slice adt h.ts.length capt) := (hb1.cell (p := ⟨w.heap.size, 3, none⟩) (by simp)).trans (by simp)
    have b4 : wb.cell? ⟨w.heap.size, 4, none⟩ = some (.int .i64 h.sent) := (hb1.cell (p := ⟨w.heap.size, 4, none⟩) (by simp)).trans (by simp)
    have b5 : wb.cell? ⟨w.heap.size, 5, none⟩ = some (.int .i64 h.day) := (hb1.cell (p := ⟨w.heap.size, 5, none⟩) (by simp)).trans (by simp)
    have zb : w.heap.size < wb.heap.size := by have := hb1.size; simp at this; omega
    have HR := Lib.hid ((hr.alloc _).below hb1)
    replace ht := ht.below D1.out
    have DS := Lib.hid D1.out.size
    clear hb1 hr
    have HF := houseOk_facts h1
    have hn := chainOk_n (daysOk_chain HF.days).1
    have hlo := (ownersOk_chain HF.owners).2
    have HFO := Lib.hid (fun (k : Nat) (q : k < h.n) => ownersOk_at' HF.owners q)
    obtain ⟨d0, d1⟩ := HF.day
    obtain ⟨t0, t1⟩ := HF.sent
    have H := Lib.hid (formatHouse_t h1)
    have CB := Lib.hid (And.intro b0 (And.intro b2 (And.intro b3 (And.intro b4 b5))))
    clear HF h1 b0 b1 b2 b3 b4 b5
    have HB0 := Lib.hid (bref wb)
    have b2 := CB.out.2.1
    go_wp2_with fail
    go_loopw [3, 13] (fun v i wr => ∃ k : Nat, k ≤ h.os.length ∧ i = .int .i64 k ∧ wr.ownsRow wb.heap.size 9 1 v k ((linesTo h k).map sv) ∧ Below wb.heap.size wb wr) (fun _ i _ => h.os.length - (intOf i).toNat)
    case atStart => exact ⟨0, Nat.zero_le _, rfl, World.ownsRow_nil _ _ _ _, bref _⟩
    case round =>
      obtain ⟨k, hk, rfl, hown, hbel⟩ := hrel
      have g0 := (hbel.cell (p := ⟨w.heap.size, 0, none⟩) zb).trans CB.out.1
      have g2 := (hbel.cell (p := ⟨w.heap.size, 2, none⟩) zb).trans CB.out.2.1
      have zr := hbel.size
      by_cases hlt : k < h.os.length
      · have hko : k < h.os.length := by omega
        obtain ⟨_, _, _, hv, hc⟩ := (HR.out.below hbel).o
        cases hv
        obtain ⟨b, o, rfl, e0⟩ := hc k hko
        clear hc
        have zo := World.block_lt_of_cell? wr _ e0
        simp only at zo
        have i1 : (0 : Int) ≤ (k : Int) := by omega
        have i2 : (k : Int) < (h.os.length : Int) := by omega
        obtain ⟨o0, o1⟩ := HFO.out k (by omega)
        have wbd := weightIn_bd h.n h.xs k
        have ebd := errorIn_bd h.n h.xs k
        obtain ⟨a0, a1, a2, a3, s1, s2, s3, s4, s5, s6, s7, E0, E1, E2, E3, ad1, ad2, ad3, ad4, ad5, ad6, ad7, L6, L7⟩ := line_steps (P := Tryz.prog) h k (by omega) (by omega) (by omega)
        unfold Adds at ad1 ad2 ad3 ad4 ad5 ad6 ad7
        have hf0 : ∀ W : World, Tab W → Calls Tryz.prog 11 #[.int .i64 (k : Int)] W fun e w' => e = .returned (.string (bstr a0)) ∧ Below W.heap.size W w' := fun W t => by rw [E0]; exact implFormatInt _ (by omega) (by omega) W t
        have hf1 : ∀ W : World, Tab W → Calls Tryz.prog 11 #[.int .i64 (weightIn h.n h.xs (k : Int))] W fun e w' => e = .returned (.string (bstr a1)) ∧ Below W.heap.size W w' := fun W t => by rw [E1]; exact implFormatInt _ (by omega) (by omega) W t
        have hf2 : ∀ W : World, Tab W → Calls Tryz.prog 11 #[.int .i64 (errorIn h.n h.xs (k : Int))] W fun e w' => e = .returned (.string (bstr a2)) ∧ Below W.heap.size W w' := fun W t => by rw [E2]; exact implFormatInt _ (by omega) (by omega) W t
        have hf3 : ∀ W : World, Tab W → Calls Tryz.prog 11 #[.int .i64 (nth h.os k)] W fun e w' => e = .returned (.string (bstr a3)) ∧ Below W.heap.size W w' := fun W t => by rw [E3]; exact implFormatInt _ (by omega) (by omega) W t
        replace L6 := Lib.hid L6
        replace L7 := Lib.hid L7
        clear E0 E1 E2 E3 wbd ebd o0 o1
        have RW := Lib.hid (fun (W : World) (q : Below wr.heap.size wr W) => (HR.out.below (bnext hbel q)).c)
        have TW := Lib.hid (fun (W : World) (q : Below wr.heap.size wr W) => ht.below (bnext hbel q))
        have MK : Hid (∀ w', Below wr.heap.size wr w' → w'.cell? ⟨w.heap.size, 0, none⟩ = some (.slice adc h.n capc) ∧ Below wr.heap.size wr w') := fun w' hb => ⟨(hb.cell (p := ⟨w.heap.size, 0, none⟩) (by simp only []; omega)).trans g0, hb⟩
        go_upto_region 7 with fail
        go_region_held3 (fun w' => w'.cell? ⟨w.heap.size, 0, none⟩ = some (.slice adc h.n capc) ∧ Below wr.heap.size wr w')
          (first | exact MK.out _ (bdrew (bref _)) | (go_split_ands; exact MK.out _ (bnext (by assumption) hb2)) | (go_split_ands; exact MK.out _ (bnext (by assumption) hb3)) | (go_split_ands; exact MK.out _ (bnext (by assumption) hb4)) | (go_split_ands; exact MK.out _ (bnext (by assumption) hb5)) | (go_split_ands; exact MK.out _ (bnext (by assumption) hb6)) | (go_split_ands; exact MK.out _ (bnext (by assumption) hb7)))
          (first | (go_at_call_of 11 (Value.int .i64 (k : Int)); go_split_ands; refine (hf0 _ (TW.out _ (by assumption))).mono ?_; rintro e w2_ ⟨rfl, hb2⟩) | (go_at_call 30; go_split_ands; refine (implWeightIn _ h.n h.xs (k : Int) _ (RW.out _ (by assumption))).mono ?_; rintro e w3_ ⟨rfl, hb3⟩) | (go_at_call_of 11 (Value.int .i64 (weightIn h.n h.xs (k : Int))); go_split_ands; refine (hf1 _ (TW.out _ (by assumption))).mono ?_; rintro e w4_ ⟨rfl, hb4⟩) | (go_at_call 31; go_split_ands; refine (implErrorIn _ h.n h.xs (k : Int) _ (RW.out _ (by assumption))).mono ?_; rintro e w5_ ⟨rfl, hb5⟩) | (go_at_call_of 11 (Value.int .i64 (errorIn h.n h.xs (k : Int))); go_split_ands; refine (hf2 _ (TW.out _ (by assumption))).mono ?_; rintro e w6_ ⟨rfl, hb6⟩) | (go_at_call_of 11 (Value.int .i64 (nth h.os k)); go_split_ands; refine (hf3 _ (TW.out _ (by assumption))).mono ?_; rintro e w7_ ⟨rfl, hb7⟩))
        go_split_ands
        have HB7 : Below wr.heap.size wr w7_ := by assumption
        have hown7 := own_below hown HB7
        have hbel7 := bnext hbel HB7
        have g3 := (hbel7.cell (p := ⟨w.heap.size, 3, none⟩) zb).trans CB.out.2.2.1
        have HI := Lib.hid (HR.out.below hbel7).t
        have z7 := hbel7.size
        clear hb2 hb3 hb4 hb5 hb6 hb7 hf0 hf1 hf2 hf3 ad1 ad2 ad3 ad4 ad5 ad6 HB7 hown hbel RW MK TW
        by_cases hin : (k : Int) ∈ h.ts
        · skip
          have H1 := Lib.hid (line_in hin L7.out)
          have hd : decide ((k : Int) ∈ h.ts) = true := by simpa using hin
          clear hin
          go_wp2_with (first | (go_at_call 32; refine (hasInt_any _ _ (k : Int) _ HI.out).mono ?_; rintro e w' ⟨rfl, rfl⟩) | (at_builtin; (refine wpList_append_own _ rfl _ _ 33 rfl wb.heap.size 9 i0 (.string { data := #[] }) 1 16 Tryz.underlying33 hi hz0 hz1 hz2 rfl (by decide) _ _ _ rfl (hown7.alloc _) ⟨w7_.heap.size, 0, none⟩ 1 1 [.string (bstr s7)] rfl rfl (cell_one_new _ _ _) (str_oneCell _) (by unfold maxLen; omega) (by omega) (by simp; omega) ?_); intro v' w8 hown' hgrow hnil; have HN := Lib.hid (And.intro hown' (app_below hown7 hgrow hbel7 (Nat.le_refl _))); clear hown' hgrow hnil hown7 hbel7))
          go_roundw
          case rel => exact ⟨k + 1, by omega, by go_num, by rw [lines_next, H1.out]; exact HN.out.1, HN.out.2⟩
          case measure => simp [intOf]; omega
        · skip
          have H1 := Lib.hid (line_out hin L6.out)
          have hd : decide ((k : Int) ∈ h.ts) = false := by simpa using hin
          clear hin
          go_wp2_with (first | (go_at_call 32; refine (hasInt_any _ _ (k : Int) _ HI.out).mono ?_; rintro e w' ⟨rfl, rfl⟩) | (at_builtin; (refine wpList_append_own _ rfl _ _ 33 rfl wb.heap.size 9 i0 (.string { data := #[] }) 1 16 Tryz.underlying33 hi hz0 hz1 hz2 rfl (by decide) _ _ _ rfl (hown7.alloc _) ⟨w7_.heap.size, 0, none⟩ 1 1 [.string (bstr s6)] rfl rfl (cell_one_new _ _ _) (str_oneCell _) (by unfold maxLen; omega) (by omega) (by simp; omega) ?_); intro v' w8 hown' hgrow hnil; have HN := Lib.hid (And.intro hown' (app_below hown7 hgrow hbel7 (Nat.le_refl _))); clear hown' hgrow hnil hown7 hbel7))
          go_roundw
          case rel => exact ⟨k + 1, by omega, by go_num, by rw [lines_next, H1.out]; exact HN.out.1, HN.out.2⟩
          case measure => simp [intOf]; omega
      · obtain rfl : k = h.os.length := by omega
        have g5 := (hbel.cell (p := ⟨w.heap.size, 5, none⟩) zb).trans CB.out.2.2.2.2
        have g4 := (hbel.cell (p := ⟨w.heap.size, 4, none⟩) zb).trans CB.out.2.2.2.1
        obtain ⟨a0, a1, s0, s1, E0, E1, ad1, ad2, L0, L1⟩ := end_steps (P := Tryz.prog) h d0 d1 t0 t1
        unfold Adds at ad1 ad2
        have hf0 : ∀ W : World, Tab W → Calls Tryz.prog 11 #[.int .i64 h.day] W fun e w' => e = .returned (.string (bstr a0)) ∧ Below W.heap.size W w' := fun W t => by rw [E0]; exact implFormatInt _ (by omega) (by omega) W t
        have hf1 : ∀ W : World, Tab W → Calls Tryz.prog 11 #[.int .i64 h.sent] W fun e w' => e = .returned (.string (bstr a1)) ∧ Below W.heap.size W w' := fun W t => by rw [E1]; exact implFormatInt _ (by omega) (by omega) W t
        replace L0 := Lib.hid L0
        replace L1 := Lib.hid L1
        clear E0 E1
        have MK : Hid (∀ w', Below wb.heap.size wb w' → w'.cell? ⟨w.heap.size, 5, none⟩ = some (.int .i64 h.day) ∧ w'.cell? ⟨w.heap.size, 4, none⟩ = some (.int .i64 h.sent) ∧ Below wb.heap.size wb w') := fun w' hb => ⟨(hb.cell (p := ⟨w.heap.size, 5, none⟩) zb).trans CB.out.2.2.2.2, (hb.cell (p := ⟨w.heap.size, 4, none⟩) zb).trans CB.out.2.2.2.1, hb⟩
        have HO1 := Lib.hid (own_below hown (bdrew (bref _)))
        go_wp2_with fail
        go_region_held3 (fun w' => w'.cell? ⟨w.heap.size, 5, none⟩ = some (.int .i64 h.day) ∧ w'.cell? ⟨w.heap.size, 4, none⟩ = some (.int .i64 h.sent) ∧ Below wb.heap.size wb w')
          (first | exact MK.out _ (bdrew hbel) | (go_split_ands; exact MK.out _ (bnext (by assumption) hb2)) | (go_split_ands; exact MK.out _ (bnext (by assumption) hb3)) | (go_split_ands; exact MK.out _ (balloc (by assumption) _)) | exact MK.out _ hbA)
          (first | (go_at_call_of 11 (Value.int .i64 h.day); go_split_ands; refine (hf0 _ (ht.below (by assumption))).mono ?_; rintro e w2_ ⟨rfl, hb2⟩; have HO2 := Lib.hid (own_below HO1.out hb2)) | (go_at_call_of 11 (Value.int .i64 h.sent); go_split_ands; refine (hf1 _ (ht.below (by assumption))).mono ?_; rintro e w3_ ⟨rfl, hb3⟩; have HO3 := Lib.hid (own_below HO2.out hb3); have hq3 : Below wb.heap.size wb w2_ := (by assumption); have HB3 := Lib.hid (bnext hq3 hb3); have z3 := HB3.out.size; clear hq3) | (go_split_ands; (refine step_append_lies _ rfl _ _ 33 rfl wb.heap.size 9 i0 (.string { data := #[] }) 1 16 Tryz.underlying33 hi hz0 hz1 hz2 rfl (by decide) _ _ _ rfl (HO3.out.alloc _) ⟨w3_.heap.size, 0, none⟩ 2 2 [.string (bstr s0), .string (bstr s1)] rfl rfl (cell_two_newT _ _ _ _) (strs_oneCell _ _) (by decide) (by unfold maxLen; omega) (by omega) (by simp; omega) _ rfl ?_); intro g cg w4_ hown4 hgrow4 _ _; have hbA := app_below HO3.out hgrow4 HB3.out (Nat.le_refl _); clear hgrow4))
        have HO4 := Lib.hid hown4
        have HBA := Lib.hid hbA
        have HLL := Lib.hid hlo
        clear hown4 hbA hlo
        go_split_ands
        go_wp2
        go_ret
        refine ⟨_, rfl, ?_, bnext D1.out HBA.out⟩
        have q := own_base (B' := w.heap.size) HO4.out DS.out
        rw [H.out, List.map_append, List.length_append, linesTo_len]
        rw [HLL.out] at q
        simpa [sv, L0.out, L1.out] using q

set_option maxRecDepth 100000 in
set_option maxHeartbeats 4000000 in
theorem specFormatHouse (vc vm vo vt : Value) (h : HD) (w : World) (hr : HouseR w vc vm vo vt h) : Calls Tryz.prog 38 #[.agg #[vc, vm, vo, vt, .int .i64 h.sent, .int .i64 h.day]] w fun e w' =>
    ∃ v, e = .returned v ∧ w'.ownsRow w.heap.size 9 1 v (formatHouse h).length ((formatHouse h).map sv) ∧ Below w.heap.size w w' := by
  obtain ⟨i0, hi, hz0, hz1, hz2⟩ := info_parts infoStr
  obtain ⟨adc, capc, rfl⟩ : ∃ ad cap, vc = .slice ad h.n cap := by obtain ⟨_, _, ad, cap, hh, _⟩ := hr.c; exact ⟨ad, cap, hh⟩
  obtain ⟨adm, capm, rfl⟩ : ∃ ad cap, vm = .slice ad h.ms.length cap := by obtain ⟨_, ad, cap, hh, _⟩ := hr.m; exact ⟨ad, cap, hh⟩
  obtain ⟨ado, capo, rfl⟩ : ∃ ad cap, vo = .slice ad h.os.length cap := by obtain ⟨_, ad, cap, hh, _⟩ := hr.o; exact ⟨ad, cap, hh⟩
  obtain ⟨adt, capt, rfl⟩ : ∃ ad cap, vt = .slice ad h.ts.length cap := by obtain ⟨_, ad, cap, hh, _⟩ := hr.t; exact ⟨ad, cap, hh⟩
  have R0 : ((w.alloc (.cells #[.slice adc h.n capc, .slice adm h.ms.length capm, .slice ado h.os.length capo, .slice adt h.ts.length capt, .int .i64 h.sent, .int .i64 h.day] 27)).alloc (.cells #[] 9)).ownsRow (w.alloc (.cells #[.slice adc h.n capc, .slice adm h.ms.length capm, .slice ado h.os.length capo, .slice adt h.ts.length capt, .int .i64 h.sent, .int .i64 h.day] 27)).heap.size 9 1 (.slice (some ⟨w.heap.size + 1, 0, none⟩) 0 0) 0 [] := by
    have := World.ownsRow_lit (e := 9) (size := 1) (w.alloc (.cells #[.slice adc h.n capc, .slice adm h.ms.length capm, .slice ado h.os.length capo, .slice adt h.ts.length capt, .int .i64 h.sent, .int .i64 h.day] 27)) #[] 0 (Nat.le_refl _) (by decide) rfl
    rw [show (w.alloc (.cells #[.slice adc h.n capc, .slice adm h.ms.length capm, .slice ado h.os.length capo, .slice adt h.ts.length capt, .int .i64 h.sent, .int .i64 h.day] 27)).heap.size = w.heap.size + 1 by simp] at this ⊢
    exact this
  have R0 := Lib.hid R0
  have W0 := Lib.hid (balloc (bref w) (.cells #[.slice adc h.n capc, .slice adm h.ms.length capm, .slice ado h.os.length capo, .slice adt h.ts.length capt, .int .i64 h.sent, .int .i64 h.day] 27))
  cases h1 : houseOk h with
  | false =>
    have H := Lib.hid (formatHouse_f h1)
    go_enter Tryz.func38, Tryz.ntmps38
    go_wp2_with fail
    refine (specHouseOk _ _ _ _ h _ ((hr.alloc _).alloc _)).mono ?_
    rintro e w1 ⟨rfl, hb1⟩
    rw [h1]
    have HO := Lib.hid (own_base (B' := w.heap.size) (own_below R0.out hb1) W0.out.size)
    have D1 := Lib.hid (bnext (balloc W0.out _) hb1)
    clear hb1
    go_wp2
    go_ret
    rw [H.out]
    exact ⟨_, rfl, HO.out, D1.out⟩
  | true =>
    go_enter Tryz.func38, Tryz.ntmps38
    go_wp2_with fail
    refine (specHouseOk _ _ _ _ h _ ((hr.alloc _).alloc _)).mono ?_
    rintro e w1 ⟨rfl, hb1⟩
    rw [h1]
    have HO := Lib.hid (own_below R0.out hb1)
    have HB0 := Lib.hid (bnext (balloc (bref (w.alloc (.cells #[.slice adc h.n capc, .slice adm h.ms.length capm, .slice ado h.os.length capo, .slice adt h.ts.length capt, .int .i64 h.sent, .int .i64 h.day] 27))) _) hb1)
    have D1 := W0
    have b0 : (w.alloc (.cells #[.slice adc h.n capc, .slice adm h.ms.length capm, .slice ado h.os.length capo, .slice adt h.ts.length capt, .int .i64 h.sent, .int .i64 h.day] 27)).cell? ⟨w.heap.size, 0, none⟩ = some (.slice adc h.n capc) := by simp
    have b1 : (w.alloc (.cells #[.slice adc h.n capc, .slice adm h.ms.length capm, .slice ado h.os.length capo, .slice adt h.ts.length capt, .int .i64 h.sent, .int .i64 h.day] 27)).cell? ⟨w.heap.size, 1, none⟩ = some (.slice adm h.ms.length capm) := by simp
    have b2 : (w.alloc (.cells #[.slice adc h.n capc, .slice adm h.ms.length capm, .slice ado h.os.length capo, .slice adt h.ts.length capt, .int .i64 h.sent, .int .i64 h.day] 27)).cell? ⟨w.heap.size, 2, none⟩ = some (.slice ado h.os.length capo) := by simp
    have b3 : (w.alloc (.cells #[.slice adc h.n capc, .slice adm h.ms.length capm, .slice ado h.os.length capo, .slice adt h.ts.length capt, .int .i64 h.sent, .int .i64 h.day] 27)).cell? ⟨w.heap.size, 3, none⟩ = some (.slice adt h.ts.length capt) := by simp
    have b4 : (w.alloc (.cells #[.slice adc h.n capc, .slice adm h.ms.length capm, .slice ado h.os.length capo, .slice adt h.ts.length capt, .int .i64 h.sent, .int .i64 h.day] 27)).cell? ⟨w.heap.size, 4, none⟩ = some (.int .i64 h.sent) := by simp
    have b5 : (w.alloc (.cells #[.slice adc h.n capc, .slice adm h.ms.length capm, .slice ado h.os.length capo, .slice adt h.ts.length capt, .int .i64 h.sent, .int .i64 h.day] 27)).cell? ⟨w.heap.size, 5, none⟩ = some (.int .i64 h.day) := by simp
    have zb : w.heap.size < (w.alloc (.cells #[.slice adc h.n capc, .slice adm h.ms.length capm, .slice ado h.os.length capo, .slice adt h.ts.length capt, .int .i64 h.sent, .int .i64 h.day] 27)).heap.size := by simp
    have HR := Lib.hid (hr.alloc (.cells #[.slice adc h.n capc, .slice adm h.ms.length capm, .slice ado h.os.length capo, .slice adt h.ts.length capt, .int .i64 h.sent, .int .i64 h.day] 27))
    have DS := Lib.hid D1.out.size
    clear hb1 hr R0 W0
    generalize w.alloc (.cells #[.slice adc h.n capc, .slice adm h.ms.length capm, .slice ado h.os.length capo, .slice adt h.ts.length capt, .int .i64 h.sent, .int .i64 h.day] 27) = wb at *
    have HF := houseOk_facts h1
    have hn := chainOk_n (daysOk_chain HF.days).1
    have hlo := (ownersOk_chain HF.owners).2
    have HFO := Lib.hid (fun (k : Nat) (q : k < h.n) => ownersOk_at' HF.owners q)
    obtain ⟨d0, d1⟩ := HF.day
    obtain ⟨t0, t1⟩ := HF.sent
    have H := Lib.hid (formatHouse_t h1)
    have CB := Lib.hid (And.intro b0 (And.intro b2 (And.intro b3 (And.intro b4 b5))))
    clear HF h1 b0 b1 b2 b3 b4 b5
    skip
    have b0 := (HB0.out.cell (p := ⟨w.heap.size, 0, none⟩) zb).trans CB.out.1
    go_wp2_with fail
    go_loopw [3, 4] (fun v i wr => ∃ k : Nat, k ≤ h.n ∧ i = .int .i64 k ∧ wr.ownsRow wb.heap.size 9 1 v k ((linesTo h k).map sv) ∧ Below wb.heap.size wb wr) (fun _ i _ => h.n - (intOf i).toNat)
    case atStart => exact ⟨0, Nat.zero_le _, rfl, HO.out, HB0.out⟩
    case round =>
      obtain ⟨k, hk, rfl, hown, hbel⟩ := hrel
      have g0 := (hbel.cell (p := ⟨w.heap.size, 0, none⟩) zb).trans CB.out.1
      have g2 := (hbel.cell (p := ⟨w.heap.size, 2, none⟩) zb).trans CB.out.2.1
      have zr := hbel.size
      by_cases hlt : k < h.n
      · have hko : k < h.os.length := by omega
        obtain ⟨_, _, _, hv, hc⟩ := (HR.out.below hbel).o
        cases hv
        obtain ⟨b, o, rfl, e0⟩ := hc k hko
        clear hc
        have zo := World.block_lt_of_cell? wr _ e0
        simp only at zo
        have i1 : (0 : Int) ≤ (k : Int) := by omega
        have i2 : (k : Int) < (h.os.length : Int) := by omega
        obtain ⟨o0, o1⟩ := HFO.out k (by omega)
        have wbd := weightIn_bd h.n h.xs k
        have ebd := errorIn_bd h.n h.xs k
        obtain ⟨a0, a1, a2, a3, s1, s2, s3, s4, s5, s6, s7, E0, E1, E2, E3, ad1, ad2, ad3, ad4, ad5, ad6, ad7, L6, L7⟩ := line_steps (P := Tryz.prog) h k (by omega) (by omega) (by omega)
        unfold Adds at ad1 ad2 ad3 ad4 ad5 ad6 ad7
        have hf0 : ∀ W : World, Calls Tryz.prog 37 #[.int .i64 (k : Int)] W fun e w' => e = .returned (.string (bstr a0)) ∧ Below W.heap.size W w' := fun W => by rw [E0]; exact specFormatInt _ (by omega) (by omega) W
        have hf1 : ∀ W : World, Calls Tryz.prog 37 #[.int .i64 (weightIn h.n h.xs (k : Int))] W fun e w' => e = .returned (.string (bstr a1)) ∧ Below W.heap.size W w' := fun W => by rw [E1]; exact specFormatInt _ (by omega) (by omega) W
        have hf2 : ∀ W : World, Calls Tryz.prog 37 #[.int .i64 (errorIn h.n h.xs (k : Int))] W fun e w' => e = .returned (.string (bstr a2)) ∧ Below W.heap.size W w' := fun W => by rw [E2]; exact specFormatInt _ (by omega) (by omega) W
        have hf3 : ∀ W : World, Calls Tryz.prog 37 #[.int .i64 (nth h.os k)] W fun e w' => e = .returned (.string (bstr a3)) ∧ Below W.heap.size W w' := fun W => by rw [E3]; exact specFormatInt _ (by omega) (by omega) W
        replace L6 := Lib.hid L6
        replace L7 := Lib.hid L7
        clear E0 E1 E2 E3 wbd ebd o0 o1
        have RW := Lib.hid (fun (W : World) (q : Below wr.heap.size wr W) => (HR.out.below (bnext hbel q)).c)
        skip
        have MK : Hid (∀ w', Below wr.heap.size wr w' → w'.cell? ⟨w.heap.size, 0, none⟩ = some (.slice adc h.n capc) ∧ w'.cell? ⟨w.heap.size, 2, none⟩ = some (.slice (some ⟨b, o, none⟩) h.os.length capo) ∧ w'.cell? ⟨b, o + k, none⟩ = some (.int .i64 (nth h.os k)) ∧ Below wr.heap.size wr w') := fun w' hb => ⟨(hb.cell (p := ⟨w.heap.size, 0, none⟩) (by simp only []; omega)).trans g0, (hb.cell (p := ⟨w.heap.size, 2, none⟩) (by simp only []; omega)).trans g2, (hb.cell (p := ⟨b, o + k, none⟩) zo).trans e0, hb⟩
        go_upto_region 7 with fail
        go_region_held3 (fun w' => w'.cell? ⟨w.heap.size, 0, none⟩ = some (.slice adc h.n capc) ∧ w'.cell? ⟨w.heap.size, 2, none⟩ = some (.slice (some ⟨b, o, none⟩) h.os.length capo) ∧ w'.cell? ⟨b, o + k, none⟩ = some (.int .i64 (nth h.os k)) ∧ Below wr.heap.size wr w')
          (first | exact MK.out _ (bdrew (bref _)) | (go_split_ands; exact MK.out _ (bnext (by assumption) hb2)) | (go_split_ands; exact MK.out _ (bnext (by assumption) hb3)) | (go_split_ands; exact MK.out _ (bnext (by assumption) hb4)) | (go_split_ands; exact MK.out _ (bnext (by assumption) hb5)) | (go_split_ands; exact MK.out _ (bnext (by assumption) hb6)) | (go_split_ands; exact MK.out _ (bnext (by assumption) hb7)))
          (first | (go_at_call_of 37 (Value.int .i64 (k : Int)); go_split_ands; refine (hf0 _).mono ?_; rintro e w2_ ⟨rfl, hb2⟩) | (go_at_call 70; go_split_ands; refine (specWeightIn _ h.n h.xs (k : Int) _ (RW.out _ (by assumption))).mono ?_; rintro e w3_ ⟨rfl, hb3⟩) | (go_at_call_of 37 (Value.int .i64 (weightIn h.n h.xs (k : Int))); go_split_ands; refine (hf1 _).mono ?_; rintro e w4_ ⟨rfl, hb4⟩) | (go_at_call 71; go_split_ands; refine (specErrorIn _ h.n h.xs (k : Int) _ (RW.out _ (by assumption))).mono ?_; rintro e w5_ ⟨rfl, hb5⟩) | (go_at_call_of 37 (Value.int .i64 (errorIn h.n h.xs (k : Int))); go_split_ands; refine (hf2 _).mono ?_; rintro e w6_ ⟨rfl, hb6⟩) | (go_at_call_of 37 (Value.int .i64 (nth h.os k)); go_split_ands; refine (hf3 _).mono ?_; rintro e w7_ ⟨rfl, hb7⟩))
        go_split_ands
        have HB7 : Below wr.heap.size wr w7_ := by assumption
        have hown7 := own_below hown HB7
        have hbel7 := bnext hbel HB7
        have g3 := (hbel7.cell (p := ⟨w.heap.size, 3, none⟩) zb).trans CB.out.2.2.1
        have HI := Lib.hid (HR.out.below hbel7).t
        have z7 := hbel7.size
        clear hb2 hb3 hb4 hb5 hb6 hb7 hf0 hf1 hf2 hf3 ad1 ad2 ad3 ad4 ad5 ad6 HB7 hown hbel RW MK 
        by_cases hin : (k : Int) ∈ h.ts
        · skip
          have H1 := Lib.hid (line_in hin L7.out)
          have hd : decide ((k : Int) ∈ h.ts) = true := by simpa using hin
          clear hin
          go_wp2_with (first | (go_at_call 72; refine (l31Has_any _ _ (k : Int) _ HI.out).mono ?_; rintro e w' ⟨rfl, rfl⟩) | (at_builtin; (refine wpList_append_own _ rfl _ _ 33 rfl wb.heap.size 9 i0 (.string { data := #[] }) 1 16 Tryz.underlying33 hi hz0 hz1 hz2 rfl (by decide) _ _ _ rfl (hown7.alloc _) ⟨w7_.heap.size, 0, none⟩ 1 1 [.string (bstr s7)] rfl rfl (cell_one_new _ _ _) (str_oneCell _) (by unfold maxLen; omega) (by omega) (by simp; omega) ?_); intro v' w8 hown' hgrow hnil; have HN := Lib.hid (And.intro hown' (app_below hown7 hgrow hbel7 (Nat.le_refl _))); clear hown' hgrow hnil hown7 hbel7))
          go_roundw
          case rel => exact ⟨k + 1, by omega, by go_num, by rw [lines_next, H1.out]; exact HN.out.1, HN.out.2⟩
          case measure => simp [intOf]; omega
        · skip
          have H1 := Lib.hid (line_out hin L6.out)
          have hd : decide ((k : Int) ∈ h.ts) = false := by simpa using hin
          clear hin
          go_wp2_with (first | (go_at_call 72; refine (l31Has_any _ _ (k : Int) _ HI.out).mono ?_; rintro e w' ⟨rfl, rfl⟩) | (at_builtin; (refine wpList_append_own _ rfl _ _ 33 rfl wb.heap.size 9 i0 (.string { data := #[] }) 1 16 Tryz.underlying33 hi hz0 hz1 hz2 rfl (by decide) _ _ _ rfl (hown7.alloc _) ⟨w7_.heap.size, 0, none⟩ 1 1 [.string (bstr s6)] rfl rfl (cell_one_new _ _ _) (str_oneCell _) (by unfold maxLen; omega) (by omega) (by simp; omega) ?_); intro v' w8 hown' hgrow hnil; have HN := Lib.hid (And.intro hown' (app_below hown7 hgrow hbel7 (Nat.le_refl _))); clear hown' hgrow hnil hown7 hbel7))
          go_roundw
          case rel => exact ⟨k + 1, by omega, by go_num, by rw [lines_next, H1.out]; exact HN.out.1, HN.out.2⟩
          case measure => simp [intOf]; omega
      · obtain rfl : k = h.n := by omega
        have g5 := (hbel.cell (p := ⟨w.heap.size, 5, none⟩) zb).trans CB.out.2.2.2.2
        have g4 := (hbel.cell (p := ⟨w.heap.size, 4, none⟩) zb).trans CB.out.2.2.2.1
        obtain ⟨a0, a1, s0, s1, E0, E1, ad1, ad2, L0, L1⟩ := end_steps (P := Tryz.prog) h d0 d1 t0 t1
        unfold Adds at ad1 ad2
        have hf0 : ∀ W : World, Calls Tryz.prog 37 #[.int .i64 h.day] W fun e w' => e = .returned (.string (bstr a0)) ∧ Below W.heap.size W w' := fun W => by rw [E0]; exact specFormatInt _ (by omega) (by omega) W
        have hf1 : ∀ W : World, Calls Tryz.prog 37 #[.int .i64 h.sent] W fun e w' => e = .returned (.string (bstr a1)) ∧ Below W.heap.size W w' := fun W => by rw [E1]; exact specFormatInt _ (by omega) (by omega) W
        replace L0 := Lib.hid L0
        replace L1 := Lib.hid L1
        clear E0 E1
        have MK : Hid (∀ w', Below wb.heap.size wb w' → w'.cell? ⟨w.heap.size, 5, none⟩ = some (.int .i64 h.day) ∧ w'.cell? ⟨w.heap.size, 4, none⟩ = some (.int .i64 h.sent) ∧ Below wb.heap.size wb w') := fun w' hb => ⟨(hb.cell (p := ⟨w.heap.size, 5, none⟩) zb).trans CB.out.2.2.2.2, (hb.cell (p := ⟨w.heap.size, 4, none⟩) zb).trans CB.out.2.2.2.1, hb⟩
        have HO1 := Lib.hid (own_below hown (bdrew (bref _)))
        go_wp2_with fail
        go_region_held3 (fun w' => w'.cell? ⟨w.heap.size, 5, none⟩ = some (.int .i64 h.day) ∧ w'.cell? ⟨w.heap.size, 4, none⟩ = some (.int .i64 h.sent) ∧ Below wb.heap.size wb w')
          (first | exact MK.out _ (bdrew hbel) | (go_split_ands; exact MK.out _ (bnext (by assumption) hb2)) | (go_split_ands; exact MK.out _ (bnext (by assumption) hb3)) | (go_split_ands; exact MK.out _ (balloc (by assumption) _)) | exact MK.out _ hbA)
          (first | (go_at_call_of 37 (Value.int .i64 h.day); go_split_ands; refine (hf0 _).mono ?_; rintro e w2_ ⟨rfl, hb2⟩; have HO2 := Lib.hid (own_below HO1.out hb2)) | (go_at_call_of 37 (Value.int .i64 h.sent); go_split_ands; refine (hf1 _).mono ?_; rintro e w3_ ⟨rfl, hb3⟩; have HO3 := Lib.hid (own_below HO2.out hb3); have hq3 : Below wb.heap.size wb w2_ := (by assumption); have HB3 := Lib.hid (bnext hq3 hb3); have z3 := HB3.out.size; clear hq3) | (go_split_ands; (refine step_append_lies _ rfl _ _ 33 rfl wb.heap.size 9 i0 (.string { data := #[] }) 1 16 Tryz.underlying33 hi hz0 hz1 hz2 rfl (by decide) _ _ _ rfl (HO3.out.alloc _) ⟨w3_.heap.size, 0, none⟩ 2 2 [.string (bstr s0), .string (bstr s1)] rfl rfl (cell_two_newT _ _ _ _) (strs_oneCell _ _) (by decide) (by unfold maxLen; omega) (by omega) (by simp; omega) _ rfl ?_); intro g cg w4_ hown4 hgrow4 _ _; have hbA := app_below HO3.out hgrow4 HB3.out (Nat.le_refl _); clear hgrow4))
        have HO4 := Lib.hid hown4
        have HBA := Lib.hid hbA
        have HLL := Lib.hid hlo
        clear hown4 hbA hlo
        go_split_ands
        go_wp2
        go_ret
        refine ⟨_, rfl, ?_, bnext D1.out HBA.out⟩
        have q := own_base (B' := w.heap.size) HO4.out DS.out
        rw [H.out, List.map_append, List.length_append, linesTo_len]
        skip
        simpa [sv, L0.out, L1.out] using q
end Go.Proofs.YtlipfkalehikkaaGreatDoor
