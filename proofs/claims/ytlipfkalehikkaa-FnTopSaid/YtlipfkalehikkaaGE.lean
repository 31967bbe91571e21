/- Texts laid together: CopyHouse, L38Copy. -/
import Derived.Deep.RegionLaw
import Derived.Deep.RegionHeld3
import Derived.BigRegion
import Derived.Test.YtlipfkalehikkaaGA
import Derived.Test.YtlipfkalehikkaaGB
/- The walks of the copying of a house, in the program and in the reference. -/
namespace Go.Proofs.Ytlipfkalehikkaa
open Go.ChangeShapes Go.WideShapes Go.ChangeAt Go.RowKit

/-- the four slices are nil where they have no memory -/
structure HouseN (vc vm vo vt : Value) : Prop where
  c : NilOk vc
  m : NilOk vm
  o : NilOk vo
  t : NilOk vt
theorem HouseO.nils {lo hi : Nat} {w : World} {vc vm vo vt : Value} {h : HD} (r : HouseO lo hi w vc vm vo vt h) : HouseN vc vm vo vt := ⟨nilOk_own r.c.own, nilOk_own r.m.own, nilOk_own r.o.own, nilOk_own r.t.own⟩

set_option maxRecDepth 100000 in
set_option maxHeartbeats 8000000 in
theorem copyHouse_any (vc vm vo vt : Value) (h : HD) (w : World) (hr : HouseR w vc vm vo vt h) (hn : HouseN vc vm vo vt) (hB : HouseB h 1048576) : Calls Try.prog 21 #[.agg #[vc, vm, vo, vt, .int .i64 h.sent, .int .i64 h.day]] w (fun e w' => ∃ ac cc am cm ao co at_ ct, e = .returned (.agg #[.slice ac (h).n cc, .slice am (h).ms.length cm, .slice ao (h).os.length co, .slice at_ (h).ts.length ct, .int .i64 (h).sent, .int .i64 (h).day]) ∧ HouseO w.heap.size w'.heap.size w' (.slice ac (h).n cc) (.slice am (h).ms.length cm) (.slice ao (h).os.length co) (.slice at_ (h).ts.length ct) (h) ∧ Below w.heap.size w w') := by
  obtain ⟨i0, hi, hz0, hz1, hz2⟩ := info_parts infoCopy'
  obtain ⟨adc, capc, rfl⟩ : ∃ ad cap, vc = .slice ad h.n cap := by obtain ⟨_, _, ad, cap, hh, _⟩ := hr.c; exact ⟨ad, cap, hh⟩
  obtain ⟨adm, capm, rfl⟩ : ∃ ad cap, vm = .slice ad h.ms.length cap := by obtain ⟨_, ad, cap, hh, _⟩ := hr.m; exact ⟨ad, cap, hh⟩
  obtain ⟨ado, capo, rfl⟩ : ∃ ad cap, vo = .slice ad h.os.length cap := by obtain ⟨_, ad, cap, hh, _⟩ := hr.o; exact ⟨ad, cap, hh⟩
  obtain ⟨adt, capt, rfl⟩ : ∃ ad cap, vt = .slice ad h.ts.length cap := by obtain ⟨_, ad, cap, hh, _⟩ := hr.t; exact ⟨ad, cap, hh⟩
  have hrc := (hr.c.alloc (.cells #[.slice adc h.n capc, .slice adm h.ms.length capm, .slice ado h.os.length capo, .slice adt h.ts.length capt, .int .i64 h.sent, .int .i64 h.day] 27)).alloc (.cells #[.slice none 0 0, .slice none 0 0, .slice none 0 0, .slice none 0 0, .int .i64 0, .int .i64 0] 27)
  have hbc := hB.n
  have zw : ((w.alloc (.cells #[.slice adc h.n capc, .slice adm h.ms.length capm, .slice ado h.os.length capo, .slice adt h.ts.length capt, .int .i64 h.sent, .int .i64 h.day] 27)).alloc (.cells #[.slice none 0 0, .slice none 0 0, .slice none 0 0, .slice none 0 0, .int .i64 0, .int .i64 0] 27)).heap.size = w.heap.size + 2 := by simp
  have u0 : w.heap.size < ((w.alloc (.cells #[.slice adc h.n capc, .slice adm h.ms.length capm, .slice ado h.os.length capo, .slice adt h.ts.length capt, .int .i64 h.sent, .int .i64 h.day] 27)).alloc (.cells #[.slice none 0 0, .slice none 0 0, .slice none 0 0, .slice none 0 0, .int .i64 0, .int .i64 0] 27)).heap.size := by omega
  have u1 : w.heap.size + 1 < ((w.alloc (.cells #[.slice adc h.n capc, .slice adm h.ms.length capm, .slice ado h.os.length capo, .slice adt h.ts.length capt, .int .i64 h.sent, .int .i64 h.day] 27)).alloc (.cells #[.slice none 0 0, .slice none 0 0, .slice none 0 0, .slice none 0 0, .int .i64 0, .int .i64 0] 27)).heap.size := by omega
  go_enter Try.func21, Try.ntmps21
  go_wp2_with (at_builtin; refine wpList_append_src _ rfl _ _ 24 rfl (w.heap.size + 2) 40 i0 (.agg #[.int .i64 0, .int .i64 0, .int .i64 0]) 3 24 Try.underlying24 hi hz0 hz1 hz2 rfl (by decide) (.slice none 0 0) 0 [] rfl (World.ownsRow_nil _ _ _ _) _ h.n h.xs rfl hrc hn.c (by omega) (by decide) (by simp) ?_; intro v' w1 hown hgrow hat; rw [Nat.zero_add, List.nil_append] at hown; obtain ⟨ac, cc, rfl⟩ := own_form hown; have HB := below_grown' hgrow; have b0 : w1.cell? ⟨w.heap.size, 0, none⟩ = some (Value.slice adc h.n capc) := (HB.cell (p := ⟨w.heap.size, 0, none⟩) u0).trans (by go_simp); have fb0 : w1.frozen? ⟨w.heap.size, 0, none⟩ = false := (HB.frozen (p := ⟨w.heap.size, 0, none⟩) u0).trans (by go_simp); have r0 : w1.cell? ⟨w.heap.size + 1, 0, none⟩ = some (Value.slice none 0 0) := (HB.cell (p := ⟨w.heap.size + 1, 0, none⟩) u1).trans (by go_simp); have fr0 : w1.frozen? ⟨w.heap.size + 1, 0, none⟩ = false := (HB.frozen (p := ⟨w.heap.size + 1, 0, none⟩) u1).trans (by go_simp); have b1 : w1.cell? ⟨w.heap.size, 1, none⟩ = some (Value.slice adm h.ms.length capm) := (HB.cell (p := ⟨w.heap.size, 1, none⟩) u0).trans (by go_simp); have fb1 : w1.frozen? ⟨w.heap.size, 1, none⟩ = false := (HB.frozen (p := ⟨w.heap.size, 1, none⟩) u0).trans (by go_simp); have r1 : w1.cell? ⟨w.heap.size + 1, 1, none⟩ = some (Value.slice none 0 0) := (HB.cell (p := ⟨w.heap.size + 1, 1, none⟩) u1).trans (by go_simp); have fr1 : w1.frozen? ⟨w.heap.size + 1, 1, none⟩ = false := (HB.frozen (p := ⟨w.heap.size + 1, 1, none⟩) u1).trans (by go_simp); have b2 : w1.cell? ⟨w.heap.size, 2, none⟩ = some (Value.slice ado h.os.length capo) := (HB.cell (p := ⟨w.heap.size, 2, none⟩) u0).trans (by go_simp); have fb2 : w1.frozen? ⟨w.heap.size, 2, none⟩ = false := (HB.frozen (p := ⟨w.heap.size, 2, none⟩) u0).trans (by go_simp); have r2 : w1.cell? ⟨w.heap.size + 1, 2, none⟩ = some (Value.slice none 0 0) := (HB.cell (p := ⟨w.heap.size + 1, 2, none⟩) u1).trans (by go_simp); have fr2 : w1.frozen? ⟨w.heap.size + 1, 2, none⟩ = false := (HB.frozen (p := ⟨w.heap.size + 1, 2, none⟩) u1).trans (by go_simp); have b3 : w1.cell? ⟨w.heap.size, 3, none⟩ = some (Value.slice adt h.ts.length capt) := (HB.cell (p := ⟨w.heap.size, 3, none⟩) u0).trans (by go_simp); have fb3 : w1.frozen? ⟨w.heap.size, 3, none⟩ = false := (HB.frozen (p := ⟨w.heap.size, 3, none⟩) u0).trans (by go_simp); have r3 : w1.cell? ⟨w.heap.size + 1, 3, none⟩ = some (Value.slice none 0 0) := (HB.cell (p := ⟨w.heap.size + 1, 3, none⟩) u1).trans (by go_simp); have fr3 : w1.frozen? ⟨w.heap.size + 1, 3, none⟩ = false := (HB.frozen (p := ⟨w.heap.size + 1, 3, none⟩) u1).trans (by go_simp); have b4 : w1.cell? ⟨w.heap.size, 4, none⟩ = some (Value.int .i64 h.sent) := (HB.cell (p := ⟨w.heap.size, 4, none⟩) u0).trans (by go_simp); have fb4 : w1.frozen? ⟨w.heap.size, 4, none⟩ = false := (HB.frozen (p := ⟨w.heap.size, 4, none⟩) u0).trans (by go_simp); have r4 : w1.cell? ⟨w.heap.size + 1, 4, none⟩ = some (Value.int .i64 0) := (HB.cell (p := ⟨w.heap.size + 1, 4, none⟩) u1).trans (by go_simp); have fr4 : w1.frozen? ⟨w.heap.size + 1, 4, none⟩ = false := (HB.frozen (p := ⟨w.heap.size + 1, 4, none⟩) u1).trans (by go_simp); have b5 : w1.cell? ⟨w.heap.size, 5, none⟩ = some (Value.int .i64 h.day) := (HB.cell (p := ⟨w.heap.size, 5, none⟩) u0).trans (by go_simp); have fb5 : w1.frozen? ⟨w.heap.size, 5, none⟩ = false := (HB.frozen (p := ⟨w.heap.size, 5, none⟩) u0).trans (by go_simp); have r5 : w1.cell? ⟨w.heap.size + 1, 5, none⟩ = some (Value.int .i64 0) := (HB.cell (p := ⟨w.heap.size + 1, 5, none⟩) u1).trans (by go_simp); have fr5 : w1.frozen? ⟨w.heap.size + 1, 5, none⟩ = false := (HB.frozen (p := ⟨w.heap.size + 1, 5, none⟩) u1).trans (by go_simp); have z1 : w.heap.size + 2 ≤ w1.heap.size := zw ▸ HB.size; have RC := RowO.of hown; have D1 := bnext (balloc (balloc (bref w) _) _) HB; clear hown hgrow hat HB)
  have zs : w1.heap.size = (w1.setCell ⟨w.heap.size, 0, none⟩ (Value.slice ac h.n cc)).heap.size := by simp
  replace b0 : (w1.setCell ⟨w.heap.size, 0, none⟩ (Value.slice ac h.n cc)).cell? ⟨w.heap.size, 0, none⟩ = some (Value.slice ac h.n cc) := by go_simp
  replace r0 : (w1.setCell ⟨w.heap.size, 0, none⟩ (Value.slice ac h.n cc)).cell? ⟨w.heap.size + 1, 0, none⟩ = some (Value.slice none 0 0) := by go_simp
  replace fb0 : (w1.setCell ⟨w.heap.size, 0, none⟩ (Value.slice ac h.n cc)).frozen? ⟨w.heap.size, 0, none⟩ = false := by go_simp
  replace fr0 : (w1.setCell ⟨w.heap.size, 0, none⟩ (Value.slice ac h.n cc)).frozen? ⟨w.heap.size + 1, 0, none⟩ = false := by go_simp
  replace b1 : (w1.setCell ⟨w.heap.size, 0, none⟩ (Value.slice ac h.n cc)).cell? ⟨w.heap.size, 1, none⟩ = some (Value.slice adm h.ms.length capm) := by go_simp
  replace r1 : (w1.setCell ⟨w.heap.size, 0, none⟩ (Value.slice ac h.n cc)).cell? ⟨w.heap.size + 1, 1, none⟩ = some (Value.slice none 0 0) := by go_simp
  replace fb1 : (w1.setCell ⟨w.heap.size, 0, none⟩ (Value.slice ac h.n cc)).frozen? ⟨w.heap.size, 1, none⟩ = false := by go_simp
  replace fr1 : (w1.setCell ⟨w.heap.size, 0, none⟩ (Value.slice ac h.n cc)).frozen? ⟨w.heap.size + 1, 1, none⟩ = false := by go_simp
  replace b2 : (w1.setCell ⟨w.heap.size, 0, none⟩ (Value.slice ac h.n cc)).cell? ⟨w.heap.size, 2, none⟩ = some (Value.slice ado h.os.length capo) := by go_simp
  replace r2 : (w1.setCell ⟨w.heap.size, 0, none⟩ (Value.slice ac h.n cc)).cell? ⟨w.heap.size + 1, 2, none⟩ = some (Value.slice none 0 0) := by go_simp
  replace fb2 : (w1.setCell ⟨w.heap.size, 0, none⟩ (Value.slice ac h.n cc)).frozen? ⟨w.heap.size, 2, none⟩ = false := by go_simp
  replace fr2 : (w1.setCell ⟨w.heap.size, 0, none⟩ (Value.slice ac h.n cc)).frozen? ⟨w.heap.size + 1, 2, none⟩ = false := by go_simp
  replace b3 : (w1.setCell ⟨w.heap.size, 0, none⟩ (Value.slice ac h.n cc)).cell? ⟨w.heap.size, 3, none⟩ = some (Value.slice adt h.ts.length capt) := by go_simp
  replace r3 : (w1.setCell ⟨w.heap.size, 0, none⟩ (Value.slice ac h.n cc)).cell? ⟨w.heap.size + 1, 3, none⟩ = some (Value.slice none 0 0) := by go_simp
  replace fb3 : (w1.setCell ⟨w.heap.size, 0, none⟩ (Value.slice ac h.n cc)).frozen? ⟨w.heap.size, 3, none⟩ = false := by go_simp
  replace fr3 : (w1.setCell ⟨w.heap.size, 0, none⟩ (Value.slice ac h.n cc)).frozen? ⟨w.heap.size + 1, 3, none⟩ = false := by go_simp
  replace b4 : (w1.setCell ⟨w.heap.size, 0, none⟩ (Value.slice ac h.n cc)).cell? ⟨w.heap.size, 4, none⟩ = some (Value.int .i64 h.sent) := by go_simp
  replace r4 : (w1.setCell ⟨w.heap.size, 0, none⟩ (Value.slice ac h.n cc)).cell? ⟨w.heap.size + 1, 4, none⟩ = some (Value.int .i64 0) := by go_simp
  replace fb4 : (w1.setCell ⟨w.heap.size, 0, none⟩ (Value.slice ac h.n cc)).frozen? ⟨w.heap.size, 4, none⟩ = false := by go_simp
  replace fr4 : (w1.setCell ⟨w.heap.size, 0, none⟩ (Value.slice ac h.n cc)).frozen? ⟨w.heap.size + 1, 4, none⟩ = false := by go_simp
  replace b5 : (w1.setCell ⟨w.heap.size, 0, none⟩ (Value.slice ac h.n cc)).cell? ⟨w.heap.size, 5, none⟩ = some (Value.int .i64 h.day) := by go_simp
  replace r5 : (w1.setCell ⟨w.heap.size, 0, none⟩ (Value.slice ac h.n cc)).cell? ⟨w.heap.size + 1, 5, none⟩ = some (Value.int .i64 0) := by go_simp
  replace fb5 : (w1.setCell ⟨w.heap.size, 0, none⟩ (Value.slice ac h.n cc)).frozen? ⟨w.heap.size, 5, none⟩ = false := by go_simp
  replace fr5 : (w1.setCell ⟨w.heap.size, 0, none⟩ (Value.slice ac h.n cc)).frozen? ⟨w.heap.size + 1, 5, none⟩ = false := by go_simp
  have O1 : Only w.heap.size (w.heap.size + 1) w1 (w1.setCell ⟨w.heap.size, 0, none⟩ (Value.slice ac h.n cc)) := (Only.refl _ _ _).set (by simp only []; omega) (by simp only []; omega) _
  have Pc := Lib.hid (RC.only O1 (off_r (Nat.le_succ _)))
  have Dq := Lib.hid (Only.below D1 O1 (Nat.le_refl _))
  clear RC O1 D1
  generalize (w1.setCell ⟨w.heap.size, 0, none⟩ (Value.slice ac h.n cc)) = w2 at *
  replace Dq := Lib.hid (bdrew Dq.out)
  replace Pc := Lib.hid (Pc.out.below (bdrew (bref w2)))
  have Rq := hr.below Dq.out
  have yq : w.heap.size + 2 ≤ w2.drew.heap.size := by show _ ≤ w2.heap.size; omega
  have zq : w2.drew.heap.size = w1.heap.size := zs.symm
  have cq : ∀ (b o : Nat), b < w.heap.size + 2 → w2.drew.cell? ⟨b, o, none⟩ = w2.cell? ⟨b, o, none⟩ := fun _ _ _ => rfl
  have fq : ∀ (b o : Nat), b < w.heap.size + 2 → w2.drew.frozen? ⟨b, o, none⟩ = w2.frozen? ⟨b, o, none⟩ := fun _ _ _ => rfl
  go_region_with (first | (go_at_call_of 48 (Value.slice adm h.ms.length capm); refine (copyInts_any _ h.ms _ Rq.m hn.m hB.ms).mono ?_; rintro e wm ⟨am, cm, rfl, hOm, hbm⟩; have Pc := Lib.hid (Pc.out.below hbm); have Pm := Lib.hid (RowO.of hOm); have Dq := Lib.hid (bnext Dq.out hbm); have zqm := hbm.size; have cq := fun (b o : Nat) (q : b < w.heap.size + 2) => (hbm.cell (p := ⟨b, o, none⟩) (Nat.lt_of_lt_of_le q yq)).trans (cq b o q); have fq := fun (b o : Nat) (q : b < w.heap.size + 2) => (hbm.frozen (p := ⟨b, o, none⟩) (Nat.lt_of_lt_of_le q yq)).trans (fq b o q); have yq := Nat.le_trans yq hbm.size; have Rq := Rq.below hbm; clear hOm hbm) | (go_at_call_of 48 (Value.slice ado h.os.length capo); refine (copyInts_any _ h.os _ Rq.o hn.o hB.os).mono ?_; rintro e wo ⟨ao, co, rfl, hOo, hbo⟩; have Pc := Lib.hid (Pc.out.below hbo); have Pm := Lib.hid (Pm.out.below hbo); have Po := Lib.hid (RowO.of hOo); have Dq := Lib.hid (bnext Dq.out hbo); have zqo := hbo.size; have cq := fun (b o : Nat) (q : b < w.heap.size + 2) => (hbo.cell (p := ⟨b, o, none⟩) (Nat.lt_of_lt_of_le q yq)).trans (cq b o q); have fq := fun (b o : Nat) (q : b < w.heap.size + 2) => (hbo.frozen (p := ⟨b, o, none⟩) (Nat.lt_of_lt_of_le q yq)).trans (fq b o q); have yq := Nat.le_trans yq hbo.size; have Rq := Rq.below hbo; clear hOo hbo) | (go_at_call_of 48 (Value.slice adt h.ts.length capt); refine (copyInts_any _ h.ts _ Rq.t hn.t hB.ts).mono ?_; rintro e wt ⟨at_, ct, rfl, hOt, hbt⟩; have Pc := Lib.hid (Pc.out.below hbt); have Pm := Lib.hid (Pm.out.below hbt); have Po := Lib.hid (Po.out.below hbt); have Pt := Lib.hid (RowO.of hOt); have Dq := Lib.hid (bnext Dq.out hbt); have zqt := hbt.size; have cq := fun (b o : Nat) (q : b < w.heap.size + 2) => (hbt.cell (p := ⟨b, o, none⟩) (Nat.lt_of_lt_of_le q yq)).trans (cq b o q); have fq := fun (b o : Nat) (q : b < w.heap.size + 2) => (hbt.frozen (p := ⟨b, o, none⟩) (Nat.lt_of_lt_of_le q yq)).trans (fq b o q); have yq := Nat.le_trans yq hbt.size; have Rq := Rq.below hbt; clear hOt hbt))
  all_goals
    go_wp2
    refine bodyPost_ret (v := .agg #[.slice ac h.n cc, .slice am h.ms.length cm, .slice ao h.os.length co, .slice at_ h.ts.length ct, .int .i64 h.sent, .int .i64 h.day]) (by simp [results, Try.results21, go_sem, cq, r0, r1, r2, r3, r4, r5]) rfl ?_
    have fin : ∀ WF : World, Only w.heap.size (w.heap.size + 2) wt WF → HouseO w.heap.size WF.heap.size WF (.slice ac h.n cc) (.slice am h.ms.length cm) (.slice ao h.os.length co) (.slice at_ h.ts.length ct) h ∧ Below w.heap.size w WF := fun WF oF => by
      have rc := Pc.out.only oF (off_r (Nat.le_refl _))
      have rm := Pm.out.only oF (off_r (by omega))
      have ro := Po.out.only oF (off_r (by omega))
      have rt := Pt.out.only oF (off_r (by omega))
      have sF := oF.size
      exact ⟨⟨rc.wide (by omega) (by omega), rm.wide (by omega) (by omega), ro.wide (by omega) (by omega), rt.wide (by omega) (by omega),
        rc.sep rm (off_l (by omega)), rc.sep ro (off_l (by omega)), rc.sep rt (off_l (by omega)), rm.sep ro (off_l (by omega)), rm.sep rt (off_l (by omega)), ro.sep rt (off_l (by omega))⟩, Only.below Dq.out oF (Nat.le_refl _)⟩
    refine ⟨_, _, _, _, _, _, _, _, rfl, fin _ ?_⟩
    repeat (first | with_reducible exact Only.refl _ _ _ | with_reducible refine Only.alloc ?_ _ | with_reducible refine Only.set ?_ (by simp only []; omega) (by simp only []; omega) _)
end Go.Proofs.Ytlipfkalehikkaa

/- The walk of the copying of a house in the reference. -/
namespace Go.Proofs.Ytlipfkalehikkaa
open Go.ChangeShapes Go.WideShapes Go.ChangeAt Go.RowKit

set_option maxRecDepth 100000 in
set_option maxHeartbeats 8000000 in
theorem l38Copy_any (vc vm vo vt : Value) (h : HD) (w : World) (hr : HouseR w vc vm vo vt h) (hn : HouseN vc vm vo vt) (hB : HouseB h 1048576) : Calls Try.prog 26 #[.agg #[vc, vm, vo, vt, .int .i64 h.sent, .int .i64 h.day]] w (fun e w' => ∃ ac cc am cm ao co at_ ct, e = .returned (.agg #[.slice ac (h).n cc, .slice am (h).ms.length cm, .slice ao (h).os.length co, .slice at_ (h).ts.length ct, .int .i64 (h).sent, .int .i64 (h).day]) ∧ HouseO w.heap.size w'.heap.size w' (.slice ac (h).n cc) (.slice am (h).ms.length cm) (.slice ao (h).os.length co) (.slice at_ (h).ts.length ct) (h) ∧ Below w.heap.size w w') := by
  obtain ⟨i0, hi, hz0, hz1, hz2⟩ := info_parts infoCopy'
  obtain ⟨adc, capc, rfl⟩ : ∃ ad cap, vc = .slice ad h.n cap := by obtain ⟨_, _, ad, cap, hh, _⟩ := hr.c; exact ⟨ad, cap, hh⟩
  obtain ⟨adm, capm, rfl⟩ : ∃ ad cap, vm = .slice ad h.ms.length cap := by obtain ⟨_, ad, cap, hh, _⟩ := hr.m; exact ⟨ad, cap, hh⟩
  obtain ⟨ado, capo, rfl⟩ : ∃ ad cap, vo = .slice ad h.os.length cap := by obtain ⟨_, ad, cap, hh, _⟩ := hr.o; exact ⟨ad, cap, hh⟩
  obtain ⟨adt, capt, rfl⟩ : ∃ ad cap, vt = .slice ad h.ts.length cap := by obtain ⟨_, ad, cap, hh, _⟩ := hr.t; exact ⟨ad, cap, hh⟩
  have hbc := hB.n
  have zw : ((w.alloc (.cells #[.slice adc h.n capc, .slice adm h.ms.length capm, .slice ado h.os.length capo, .slice adt h.ts.length capt, .int .i64 h.sent, .int .i64 h.day] 27)).alloc (.cells #[.slice none 0 0, .slice none 0 0, .slice none 0 0, .slice none 0 0, .int .i64 0, .int .i64 0] 27)).heap.size = w.heap.size + 2 := by simp
  have Dq := Lib.hid (balloc (balloc (bref w) (.cells #[.slice adc h.n capc, .slice adm h.ms.length capm, .slice ado h.os.length capo, .slice adt h.ts.length capt, .int .i64 h.sent, .int .i64 h.day] 27)) (.cells #[.slice none 0 0, .slice none 0 0, .slice none 0 0, .slice none 0 0, .int .i64 0, .int .i64 0] 27))
  have b0 : ((w.alloc (.cells #[.slice adc h.n capc, .slice adm h.ms.length capm, .slice ado h.os.length capo, .slice adt h.ts.length capt, .int .i64 h.sent, .int .i64 h.day] 27)).alloc (.cells #[.slice none 0 0, .slice none 0 0, .slice none 0 0, .slice none 0 0, .int .i64 0, .int .i64 0] 27)).cell? ⟨w.heap.size, 0, none⟩ = some (Value.slice adc h.n capc) := by go_simp
  have r0 : ((w.alloc (.cells #[.slice adc h.n capc, .slice adm h.ms.length capm, .slice ado h.os.length capo, .slice adt h.ts.length capt, .int .i64 h.sent, .int .i64 h.day] 27)).alloc (.cells #[.slice none 0 0, .slice none 0 0, .slice none 0 0, .slice none 0 0, .int .i64 0, .int .i64 0] 27)).cell? ⟨w.heap.size + 1, 0, none⟩ = some (Value.slice none 0 0) := by go_simp
  have fr0 : ((w.alloc (.cells #[.slice adc h.n capc, .slice adm h.ms.length capm, .slice ado h.os.length capo, .slice adt h.ts.length capt, .int .i64 h.sent, .int .i64 h.day] 27)).alloc (.cells #[.slice none 0 0, .slice none 0 0, .slice none 0 0, .slice none 0 0, .int .i64 0, .int .i64 0] 27)).frozen? ⟨w.heap.size + 1, 0, none⟩ = false := by go_simp
  have b1 : ((w.alloc (.cells #[.slice adc h.n capc, .slice adm h.ms.length capm, .slice ado h.os.length capo, .slice adt h.ts.length capt, .int .i64 h.sent, .int .i64 h.day] 27)).alloc (.cells #[.slice none 0 0, .slice none 0 0, .slice none 0 0, .slice none 0 0, .int .i64 0, .int .i64 0] 27)).cell? ⟨w.heap.size, 1, none⟩ = some (Value.slice adm h.ms.length capm) := by go_simp
  have r1 : ((w.alloc (.cells #[.slice adc h.n capc, .slice adm h.ms.length capm, .slice ado h.os.length capo, .slice adt h.ts.length capt, .int .i64 h.sent, .int .i64 h.day] 27)).alloc (.cells #[.slice none 0 0, .slice none 0 0, .slice none 0 0, .slice none 0 0, .int .i64 0, .int .i64 0] 27)).cell? ⟨w.heap.size + 1, 1, none⟩ = some (Value.slice none 0 0) := by go_simp
  have fr1 : ((w.alloc (.cells #[.slice adc h.n capc, .slice adm h.ms.length capm, .slice ado h.os.length capo, .slice adt h.ts.length capt, .int .i64 h.sent, .int .i64 h.day] 27)).alloc (.cells #[.slice none 0 0, .slice none 0 0, .slice none 0 0, .slice none 0 0, .int .i64 0, .int .i64 0] 27)).frozen? ⟨w.heap.size + 1, 1, none⟩ = false := by go_simp
  have b2 : ((w.alloc (.cells #[.slice adc h.n capc, .slice adm h.ms.length capm, .slice ado h.os.length capo, .slice adt h.ts.length capt, .int .i64 h.sent, .int .i64 h.day] 27)).alloc (.cells #[.slice none 0 0, .slice none 0 0, .slice none 0 0, .slice none 0 0, .int .i64 0, .int .i64 0] 27)).cell? ⟨w.heap.size, 2, none⟩ = some (Value.slice ado h.os.length capo) := by go_simp
  have r2 : ((w.alloc (.cells #[.slice adc h.n capc, .slice adm h.ms.length capm, .slice ado h.os.length capo, .slice adt h.ts.length capt, .int .i64 h.sent, .int .i64 h.day] 27)).alloc (.cells #[.slice none 0 0, .slice none 0 0, .slice none 0 0, .slice none 0 0, .int .i64 0, .int .i64 0] 27)).cell? ⟨w.heap.size + 1, 2, none⟩ = some (Value.slice none 0 0) := by go_simp
  have fr2 : ((w.alloc (.cells #[.slice adc h.n capc, .slice adm h.ms.length capm, .slice ado h.os.length capo, .slice adt h.ts.length capt, .int .i64 h.sent, .int .i64 h.day] 27)).alloc (.cells #[.slice none 0 0, .slice none 0 0, .slice none 0 0, .slice none 0 0, .int .i64 0, .int .i64 0] 27)).frozen? ⟨w.heap.size + 1, 2, none⟩ = false := by go_simp
  have b3 : ((w.alloc (.cells #[.slice adc h.n capc, .slice adm h.ms.length capm, .slice ado h.os.length capo, .slice adt h.ts.length capt, .int .i64 h.sent, .int .i64 h.day] 27)).alloc (.cells #[.slice none 0 0, .slice none 0 0, .slice none 0 0, .slice none 0 0, .int .i64 0, .int .i64 0] 27)).cell? ⟨w.heap.size, 3, none⟩ = some (Value.slice adt h.ts.length capt) := by go_simp
  have r3 : ((w.alloc (.cells #[.slice adc h.n capc, .slice adm h.ms.length capm, .slice ado h.os.length capo, .slice adt h.ts.length capt, .int .i64 h.sent, .int .i64 h.day] 27)).alloc (.cells #[.slice none 0 0, .slice none 0 0, .slice none 0 0, .slice none 0 0, .int .i64 0, .int .i64 0] 27)).cell? ⟨w.heap.size + 1, 3, none⟩ = some (Value.slice none 0 0) := by go_simp
  have fr3 : ((w.alloc (.cells #[.slice adc h.n capc, .slice adm h.ms.length capm, .slice ado h.os.length capo, .slice adt h.ts.length capt, .int .i64 h.sent, .int .i64 h.day] 27)).alloc (.cells #[.slice none 0 0, .slice none 0 0, .slice none 0 0, .slice none 0 0, .int .i64 0, .int .i64 0] 27)).frozen? ⟨w.heap.size + 1, 3, none⟩ = false := by go_simp
  have b4 : ((w.alloc (.cells #[.slice adc h.n capc, .slice adm h.ms.length capm, .slice ado h.os.length capo, .slice adt h.ts.length capt, .int .i64 h.sent, .int .i64 h.day] 27)).alloc (.cells #[.slice none 0 0, .slice none 0 0, .slice none 0 0, .slice none 0 0, .int .i64 0, .int .i64 0] 27)).cell? ⟨w.heap.size, 4, none⟩ = some (Value.int .i64 h.sent) := by go_simp
  have r4 : ((w.alloc (.cells #[.slice adc h.n capc, .slice adm h.ms.length capm, .slice ado h.os.length capo, .slice adt h.ts.length capt, .int .i64 h.sent, .int .i64 h.day] 27)).alloc (.cells #[.slice none 0 0, .slice none 0 0, .slice none 0 0, .slice none 0 0, .int .i64 0, .int .i64 0] 27)).cell? ⟨w.heap.size + 1, 4, none⟩ = some (Value.int .i64 0) := by go_simp
  have fr4 : ((w.alloc (.cells #[.slice adc h.n capc, .slice adm h.ms.length capm, .slice ado h.os.length capo, .slice adt h.ts.length capt, .int .i64 h.sent, .int .i64 h.day] 27)).alloc (.cells #[.slice none 0 0, .slice none 0 0, .slice none 0 0, .slice none 0 0, .int .i64 0, .int .i64 0] 27)).frozen? ⟨w.heap.size + 1, 4, none⟩ = false := by go_simp
  have b5 : ((w.alloc (.cells #[.slice adc h.n capc, .slice adm h.ms.length capm, .slice ado h.os.length capo, .slice adt h.ts.length capt, .int .i64 h.sent, .int .i64 h.day] 27)).alloc (.cells #[.slice none 0 0, .slice none 0 0, .slice none 0 0, .slice none 0 0, .int .i64 0, .int .i64 0] 27)).cell? ⟨w.heap.size, 5, none⟩ = some (Value.int .i64 h.day) := by go_simp
  have r5 : ((w.alloc (.cells #[.slice adc h.n capc, .slice adm h.ms.length capm, .slice ado h.os.length capo, .slice adt h.ts.length capt, .int .i64 h.sent, .int .i64 h.day] 27)).alloc (.cells #[.slice none 0 0, .slice none 0 0, .slice none 0 0, .slice none 0 0, .int .i64 0, .int .i64 0] 27)).cell? ⟨w.heap.size + 1, 5, none⟩ = some (Value.int .i64 0) := by go_simp
  have fr5 : ((w.alloc (.cells #[.slice adc h.n capc, .slice adm h.ms.length capm, .slice ado h.os.length capo, .slice adt h.ts.length capt, .int .i64 h.sent, .int .i64 h.day] 27)).alloc (.cells #[.slice none 0 0, .slice none 0 0, .slice none 0 0, .slice none 0 0, .int .i64 0, .int .i64 0] 27)).frozen? ⟨w.heap.size + 1, 5, none⟩ = false := by go_simp
  go_enter Try.func26, Try.ntmps26
  go_wp2_with fail
  generalize ((w.alloc (.cells #[.slice adc h.n capc, .slice adm h.ms.length capm, .slice ado h.os.length capo, .slice adt h.ts.length capt, .int .i64 h.sent, .int .i64 h.day] 27)).alloc (.cells #[.slice none 0 0, .slice none 0 0, .slice none 0 0, .slice none 0 0, .int .i64 0, .int .i64 0] 27)) = w0 at *
  have u0 : w.heap.size < w0.heap.size := by omega
  have u1 : w.heap.size + 1 < w0.heap.size := by omega
  have ZW := Lib.hid zw
  clear zw
  have R0 : ((w0.alloc (.cells #[] 40)).drew).ownsRow w0.heap.size 40 3 (.slice (some ⟨w0.heap.size, 0, none⟩) 0 0) 0 [] := World.ownsRow_lit (e := 40) (size := 3) w0 #[] 0 (Nat.le_refl _) (by decide) rfl
  have R0 := Lib.hid R0
  have HA := Lib.hid (bdrew (balloc (bref w0) (.cells #[] 40)))
  have hrc := Lib.hid (hr.c.below (bnext Dq.out HA.out))
  have lem : ∀ w1 : World, Below w0.heap.size w0 w1 → ∀ (b o : Nat), b < w.heap.size + 2 → w1.cell? ⟨b, o, none⟩ = w0.cell? ⟨b, o, none⟩ := fun w1 hb b o q => hb.cell (p := ⟨b, o, none⟩) (by have := ZW.out; simp only []; omega)
  have lef : ∀ w1 : World, Below w0.heap.size w0 w1 → ∀ (b o : Nat), b < w.heap.size + 2 → w1.frozen? ⟨b, o, none⟩ = w0.frozen? ⟨b, o, none⟩ := fun w1 hb b o q => hb.frozen (p := ⟨b, o, none⟩) (by have := ZW.out; simp only []; omega)
  have lem := Lib.hid lem
  have lef := Lib.hid lef
  go_region_held3 (fun w' => w'.cell? ⟨w.heap.size, 0, none⟩ = some (Value.slice adc h.n capc) ∧ w'.cell? ⟨w.heap.size, 1, none⟩ = some (Value.slice adm h.ms.length capm) ∧ w'.cell? ⟨w.heap.size, 2, none⟩ = some (Value.slice ado h.os.length capo) ∧ w'.cell? ⟨w.heap.size, 3, none⟩ = some (Value.slice adt h.ts.length capt) ∧ w'.cell? ⟨w.heap.size, 4, none⟩ = some (Value.int .i64 h.sent) ∧ w'.cell? ⟨w.heap.size, 5, none⟩ = some (Value.int .i64 h.day))
    (refine ⟨?_, ?_, ?_, ?_, ?_, ?_⟩ <;> go_simp)
    (first | (go_at_call_of 52 (Value.slice adm h.ms.length capm); refine (l38Ints_any _ h.ms _ Rq.m hn.m hB.ms).mono ?_; rintro e wm ⟨am, cm, rfl, hOm, hbm⟩; have Pc := Lib.hid (Pc.out.below hbm); have Pm := Lib.hid (RowO.of hOm); have Dq := Lib.hid (bnext Dq.out hbm); have zqm := hbm.size; have cq := fun (b o : Nat) (q : b < w.heap.size + 2) => (hbm.cell (p := ⟨b, o, none⟩) (Nat.lt_of_lt_of_le q yq)).trans (cq b o q); have fq := fun (b o : Nat) (q : b < w.heap.size + 2) => (hbm.frozen (p := ⟨b, o, none⟩) (Nat.lt_of_lt_of_le q yq)).trans (fq b o q); have yq := Nat.le_trans yq hbm.size; have Rq := Rq.below hbm; clear hOm hbm) | (go_at_call_of 52 (Value.slice ado h.os.length capo); refine (l38Ints_any _ h.os _ Rq.o hn.o hB.os).mono ?_; rintro e wo ⟨ao, co, rfl, hOo, hbo⟩; have Pc := Lib.hid (Pc.out.below hbo); have Pm := Lib.hid (Pm.out.below hbo); have Po := Lib.hid (RowO.of hOo); have Dq := Lib.hid (bnext Dq.out hbo); have zqo := hbo.size; have cq := fun (b o : Nat) (q : b < w.heap.size + 2) => (hbo.cell (p := ⟨b, o, none⟩) (Nat.lt_of_lt_of_le q yq)).trans (cq b o q); have fq := fun (b o : Nat) (q : b < w.heap.size + 2) => (hbo.frozen (p := ⟨b, o, none⟩) (Nat.lt_of_lt_of_le q yq)).trans (fq b o q); have yq := Nat.le_trans yq hbo.size; have Rq := Rq.below hbo; clear hOo hbo) | (go_at_call_of 52 (Value.slice adt h.ts.length capt); refine (l38Ints_any _ h.ts _ Rq.t hn.t hB.ts).mono ?_; rintro e wt ⟨at_, ct, rfl, hOt, hbt⟩; have Pc := Lib.hid (Pc.out.below hbt); have Pm := Lib.hid (Pm.out.below hbt); have Po := Lib.hid (Po.out.below hbt); have Pt := Lib.hid (RowO.of hOt); have Dq := Lib.hid (bnext Dq.out hbt); have zqt := hbt.size; have cq := fun (b o : Nat) (q : b < w.heap.size + 2) => (hbt.cell (p := ⟨b, o, none⟩) (Nat.lt_of_lt_of_le q yq)).trans (cq b o q); have fq := fun (b o : Nat) (q : b < w.heap.size + 2) => (hbt.frozen (p := ⟨b, o, none⟩) (Nat.lt_of_lt_of_le q yq)).trans (fq b o q); have yq := Nat.le_trans yq hbt.size; have Rq := Rq.below hbt; clear hOt hbt) | (refine step_append_src rfl _ _ 24 rfl w0.heap.size 40 i0 (.agg #[.int .i64 0, .int .i64 0, .int .i64 0]) 3 24 Try.underlying24 hi hz0 hz1 hz2 rfl (by decide) (.slice (some ⟨w0.heap.size, 0, none⟩) 0 0) 0 [] rfl R0.out _ h.n h.xs rfl hrc.out hn.c (by omega) (by decide) HA.out.size ?_; intro v' w1 hown hgrow hat; rw [Nat.zero_add, List.nil_append] at hown; obtain ⟨ac, cc, rfl⟩ := own_form hown; have HB := HA.out.grown hgrow HA.out.size (fun k hk => by cases hk; exact Nat.le_refl _); have cq := lem.out _ HB; have fq := lef.out _ HB; have Pc := Lib.hid (RowO.of hown); have Dq := Lib.hid (bnext Dq.out HB); have zq := HB.size; have yq : w.heap.size + 2 ≤ w1.heap.size := ZW.out ▸ HB.size; have Rq := hr.below Dq.out; clear hown hgrow hat HB))
  all_goals
    go_wp2
    refine bodyPost_ret (v := .agg #[.slice ac h.n cc, .slice am h.ms.length cm, .slice ao h.os.length co, .slice at_ h.ts.length ct, .int .i64 h.sent, .int .i64 h.day]) (by simp [results, Try.results26, go_sem, cq, r0, r1, r2, r3, r4, r5]) rfl ?_
    have hZ := ZW.out
    have fin : ∀ WF : World, Only w.heap.size (w.heap.size + 2) wt WF → HouseO w.heap.size WF.heap.size WF (.slice ac h.n cc) (.slice am h.ms.length cm) (.slice ao h.os.length co) (.slice at_ h.ts.length ct) h ∧ Below w.heap.size w WF := fun WF oF => by
      have rc := Pc.out.only oF (off_r (by omega))
      have rm := Pm.out.only oF (off_r (by omega))
      have ro := Po.out.only oF (off_r (by omega))
      have rt := Pt.out.only oF (off_r (by omega))
      have sF := oF.size
      exact ⟨⟨rc.wide (by omega) (by omega), rm.wide (by omega) (by omega), ro.wide (by omega) (by omega), rt.wide (by omega) (by omega),
        rc.sep rm (off_l (by omega)), rc.sep ro (off_l (by omega)), rc.sep rt (off_l (by omega)), rm.sep ro (off_l (by omega)), rm.sep rt (off_l (by omega)), ro.sep rt (off_l (by omega))⟩, Only.below Dq.out oF (Nat.le_refl _)⟩
    refine ⟨_, _, _, _, _, _, _, _, rfl, fin _ ?_⟩
    repeat (first | with_reducible exact Only.refl _ _ _ | with_reducible refine Only.alloc ?_ _ | with_reducible refine Only.set ?_ (by simp only []; omega) (by simp only []; omega) _)
end Go.Proofs.Ytlipfkalehikkaa
