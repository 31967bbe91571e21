/- The walks of the laws' helpers on houses. -/
import Derived.Test.YtdchgbhhlocmdaaHouseO
import Derived.Test.YtdchgbhhlocmdaaIntS
import Derived.Test.YtdchgbhhlocmdaaLettersFn
import Derived.Test.YtdchgbhhlocmdaaCopyS
import Derived.Test.YtdchgbhhlocmdaaMarkIntS
import Derived.Test.YtdchgbhhlocmdaaMarkCopyS
namespace Go.Proofs.Ytdchgbhhlocmdaa
open Go.ChangeShapes Go.WideShapes Go.ChangeAt Go.RowKit

theorem toCopyS_g (v : Value) (n : Nat) (xs : List Int) (w : World) (h : Recs 3 w v n xs) (h20 : n ≤ 1048576) :
    Calls Try.prog 36 #[v] w fun e w' => ∃ g : Nat, w.heap.size ≤ g ∧ g < w'.heap.size ∧ e = .returned (.slice (some ⟨g, 0, none⟩) n n) ∧ w'.ownsRow w.heap.size 93 3 (.slice (some ⟨g, 0, none⟩) n n) n (xs.map (Value.int .i64)) ∧ Below w.heap.size w w' :=
  (toCopyS_any v n xs w h h20).mono fun _ _ ⟨he, ho, hb⟩ => ⟨_, Nat.le_refl _, (ho.lt _ rfl).2, he, ho, hb⟩
theorem toIntS_g (v : Value) (xs : List Int) (w : World) (h : Ints w v xs) (h20 : xs.length ≤ 1048576) :
    Calls Try.prog 32 #[v] w fun e w' => ∃ g : Nat, w.heap.size ≤ g ∧ g < w'.heap.size ∧ e = .returned (.slice (some ⟨g, 0, none⟩) xs.length xs.length) ∧ w'.ownsRow w.heap.size 3 1 (.slice (some ⟨g, 0, none⟩) xs.length xs.length) xs.length (xs.map (Value.int .i64)) ∧ Below w.heap.size w w' :=
  (toIntS_any v xs w h (by omega)).mono fun _ _ ⟨he, ho, hb⟩ => ⟨_, Nat.le_refl _, (ho.lt _ rfl).2, he, ho, hb⟩

set_option maxRecDepth 100000 in
set_option maxHeartbeats 1000000 in
theorem toHouse_any (vc vm vo vt : Value) (h : HD) (w : World) (hr : HouseR w vc vm vo vt h) (hB : HouseB h 1048576) : Calls Try.prog 45 #[.agg #[vc, vm, vo, vt, .int .i64 h.sent, .int .i64 h.day]] w fun e w' =>
    ∃ gc gm go gt : Nat, e = .returned (.agg #[.slice (some ⟨gc, 0, none⟩) h.n h.n, .slice (some ⟨gm, 0, none⟩) h.ms.length h.ms.length, .slice (some ⟨go, 0, none⟩) h.os.length h.os.length, .slice (some ⟨gt, 0, none⟩) h.ts.length h.ts.length, .int .i64 h.sent, .int .i64 h.day]) ∧ HouseO w.heap.size w'.heap.size w' (.slice (some ⟨gc, 0, none⟩) h.n h.n) (.slice (some ⟨gm, 0, none⟩) h.ms.length h.ms.length) (.slice (some ⟨go, 0, none⟩) h.os.length h.os.length) (.slice (some ⟨gt, 0, none⟩) h.ts.length h.ts.length) h ∧ Below w.heap.size w w' := by
  obtain ⟨adc, capc, rfl⟩ : ∃ ad cap, vc = .slice ad h.n cap := by obtain ⟨_, _, ad, cap, hh, _⟩ := hr.c; exact ⟨ad, cap, hh⟩
  obtain ⟨adm, capm, rfl⟩ : ∃ ad cap, vm = .slice ad h.ms.length cap := by obtain ⟨_, ad, cap, hh, _⟩ := hr.m; exact ⟨ad, cap, hh⟩
  obtain ⟨ado, capo, rfl⟩ : ∃ ad cap, vo = .slice ad h.os.length cap := by obtain ⟨_, ad, cap, hh, _⟩ := hr.o; exact ⟨ad, cap, hh⟩
  obtain ⟨adt, capt, rfl⟩ : ∃ ad cap, vt = .slice ad h.ts.length cap := by obtain ⟨_, ad, cap, hh, _⟩ := hr.t; exact ⟨ad, cap, hh⟩
  have D0 := Lib.hid (fun o1 o2 o3 => balloc (balloc (balloc (bref w) o1) o2) o3)
  go_enter Try.func45, Try.ntmps45
  go_wp2_with fail
  refine (toCopyS_g _ h.n h.xs _ (hr.c.below (D0.out _ _ _)) hB.n).mono ?_
  rintro e w1 ⟨gc, lc, tc, rfl, hOc, hb1⟩
  have c1 := below_cell hb1
  have f1 := below_frozen hb1
  have z1 := hb1.size
  have D1 := Lib.hid (bnext (D0.out _ _ _) hb1)
  have Pc := Lib.hid hOc
  have B1 := Lib.hid hb1
  clear hOc hb1
  simp at z1 lc
  have ya1 : w.heap.size < w1.heap.size := by omega
  have yb1 : w.heap.size + 1 < w1.heap.size := by omega
  have yc1 : w.heap.size + 1 + 1 < w1.heap.size := by omega
  go_wp2_with fail
  refine (toIntS_g _ h.ms _ (hr.m.below (bset D1.out (by simp; omega) _)) hB.ms).mono ?_
  rintro e w2 ⟨gm, lm, tm, rfl, hOm, hb2⟩
  have c2 := below_cell hb2
  have f2 := below_frozen hb2
  have z2 := hb2.size
  have D2 := Lib.hid (bnext (bset D1.out (by simp; omega) _) hb2)
  have Pm := Lib.hid hOm
  have B2 := Lib.hid hb2
  clear hOm hb2
  simp at z2 lm
  have ya2 : w.heap.size < w2.heap.size := by omega
  have yb2 : w.heap.size + 1 < w2.heap.size := by omega
  have yc2 : w.heap.size + 1 + 1 < w2.heap.size := by omega
  go_wp2_with fail
  refine (toIntS_g _ h.os _ (hr.o.below (bset D2.out (by simp; omega) _)) hB.os).mono ?_
  rintro e w3 ⟨go, lo, to, rfl, hOo, hb3⟩
  have c3 := below_cell hb3
  have f3 := below_frozen hb3
  have z3 := hb3.size
  have D3 := Lib.hid (bnext (bset D2.out (by simp; omega) _) hb3)
  have Po := Lib.hid hOo
  have B3 := Lib.hid hb3
  clear hOo hb3
  simp at z3 lo
  have ya3 : w.heap.size < w3.heap.size := by omega
  have yb3 : w.heap.size + 1 < w3.heap.size := by omega
  have yc3 : w.heap.size + 1 + 1 < w3.heap.size := by omega
  go_wp2_with fail
  refine (toIntS_g _ h.ts _ (hr.t.below (bset D3.out (by simp; omega) _)) hB.ts).mono ?_
  rintro e w4 ⟨gt, lt, tt, rfl, hOt, hb4⟩
  have c4 := below_cell hb4
  have f4 := below_frozen hb4
  have z4 := hb4.size
  have D4 := Lib.hid (bnext (bset D3.out (by simp; omega) _) hb4)
  have Pt := Lib.hid hOt
  have B4 := Lib.hid hb4
  clear hOt hb4
  simp at z4 lt
  have ya4 : w.heap.size < w4.heap.size := by omega
  have yb4 : w.heap.size + 1 < w4.heap.size := by omega
  have yc4 : w.heap.size + 1 + 1 < w4.heap.size := by omega
  go_wp2
  refine bodyPost_ret (v := .agg #[.slice (some ⟨gc, 0, none⟩) h.n h.n, .slice (some ⟨gm, 0, none⟩) h.ms.length h.ms.length, .slice (some ⟨go, 0, none⟩) h.os.length h.os.length, .slice (some ⟨gt, 0, none⟩) h.ts.length h.ts.length, .int .i64 h.sent, .int .i64 h.day]) (by simp [results, Try.results45, go_sem, c1, yb1, c2, yb2, c3, yb3, c4]) rfl ?_
  have fin : ∀ WF : World, Only w.heap.size (w.heap.size + 3) w4 WF → HouseO w.heap.size WF.heap.size WF (.slice (some ⟨gc, 0, none⟩) h.n h.n) (.slice (some ⟨gm, 0, none⟩) h.ms.length h.ms.length) (.slice (some ⟨go, 0, none⟩) h.os.length h.os.length) (.slice (some ⟨gt, 0, none⟩) h.ts.length h.ts.length) h ∧ Below w.heap.size w WF := fun WF oF => by
    have o1 : Only w.heap.size (w.heap.size + 3) w1 w2 := ((Only.refl _ _ w1).set (by simp only []; omega) (by simp only []; omega) _).step B2.out
    have o2 : Only w.heap.size (w.heap.size + 3) w2 w3 := ((Only.refl _ _ w2).set (by simp only []; omega) (by simp only []; omega) _).step B3.out
    have o3 : Only w.heap.size (w.heap.size + 3) w3 w4 := ((Only.refl _ _ w3).set (by simp only []; omega) (by simp only []; omega) _).step B4.out
    have rc := RowO.of Pc.out
    have rm := RowO.of Pm.out
    have ro := RowO.of Po.out
    have rt := RowO.of Pt.out
    have s2 := o1.size
    have s3 := o2.size
    have s4 := o3.size
    have sF := oF.size
    have L1 : ∀ (o1 o2 o3 : Obj), (((w.alloc o1).alloc o2).alloc o3).heap.size = w.heap.size + 3 := fun _ _ _ => by simp
    have L2 : ∀ (u : World) (p : Addr) (x : Value), (u.setCell p x).heap.size = u.heap.size := fun u p x => by simp
    rw [L1] at rc
    rw [L2] at rm ro rt
    have rc' := (((rc.only o1 (off_r (Nat.le_refl _))).only o2 (off_r (Nat.le_refl _))).only o3 (off_r (Nat.le_refl _))).only oF (off_r (Nat.le_refl _))
    have rm' := ((rm.only o2 (off_r (by omega))).only o3 (off_r (by omega))).only oF (off_r (by omega))
    have ro' := (ro.only o3 (off_r (by omega))).only oF (off_r (by omega))
    have rt' := rt.only oF (off_r (by omega))
    exact ⟨⟨rc'.wide (by omega) (by omega), rm'.wide (by omega) (by omega), ro'.wide (by omega) (by omega), rt'.wide (by omega) (by omega),
      rc'.sep rm' (off_l (by omega)), rc'.sep ro' (off_l (by omega)), rc'.sep rt' (off_l (by omega)), rm'.sep ro' (off_l (by omega)), rm'.sep rt' (off_l (by omega)), ro'.sep rt' (off_l (by omega))⟩, Only.below D4.out oF (Nat.le_refl _)⟩
  refine ⟨gc, gm, go, gt, rfl, fin _ ?_⟩
  repeat (first | with_reducible exact Only.refl _ _ _ | refine Only.set ?_ (by simp only []; omega) (by simp only []; omega) _)

set_option maxRecDepth 100000 in
theorem szHouse_any (vc vm vo vt : Value) (h : HD) (left : Int) (w : World) (hr : HouseR w vc vm vo vt h) (h0 : 0 ≤ left) (h1 : left ≤ 1048576) :
    Calls Try.prog 43 #[.agg #[vc, vm, vo, vt, .int .i64 h.sent, .int .i64 h.day], .int .i64 left] w fun e w' => e = .returned (.int .i64 (szRes left h.size)) ∧ Below w.heap.size w w' := by
  obtain ⟨adc, capc, rfl⟩ : ∃ ad cap, vc = .slice ad h.n cap := by obtain ⟨_, _, ad, cap, hh, _⟩ := hr.c; exact ⟨ad, cap, hh⟩
  obtain ⟨adm, capm, rfl⟩ : ∃ ad cap, vm = .slice ad h.ms.length cap := by obtain ⟨_, ad, cap, hh, _⟩ := hr.m; exact ⟨ad, cap, hh⟩
  obtain ⟨ado, capo, rfl⟩ : ∃ ad cap, vo = .slice ad h.os.length cap := by obtain ⟨_, ad, cap, hh, _⟩ := hr.o; exact ⟨ad, cap, hh⟩
  obtain ⟨adt, capt, rfl⟩ : ∃ ad cap, vt = .slice ad h.ts.length cap := by obtain ⟨_, ad, cap, hh, _⟩ := hr.t; exact ⟨ad, cap, hh⟩
  by_cases q0 : left < (h.n : Int)
  · have H := Lib.hid (szRes_lt (left := left) (n := h.size) (by unfold HD.size; omega))
    go_enter Try.func43, Try.ntmps43
    go_wp2_with fail
    refine (szCopyS_any _ h.n h.xs left _ (hr.c.alloc _) (by omega) (by omega)).mono ?_
    rintro e w' ⟨rfl, rfl⟩
    rw [if_pos (by omega)]
    go_wp2
    go_ret
    exact ⟨ret_int H.out.symm, balloc (bref w) _⟩
  by_cases q1 : (left - (h.n : Int)) < (h.ms.length : Int)
  · have H := Lib.hid (szRes_lt (left := left) (n := h.size) (by unfold HD.size; omega))
    go_enter Try.func43, Try.ntmps43
    go_wp2_with fail
    refine (szCopyS_any _ h.n h.xs left _ (hr.c.alloc _) (by omega) (by omega)).mono ?_
    rintro e w' ⟨rfl, rfl⟩
    rw [if_neg (by omega)]
    go_wp2_with fail
    refine (szIntS_any _ h.ms (left - (h.n : Int)) _ (hr.m.alloc _) (by omega) (by omega)).mono ?_
    rintro e w' ⟨rfl, rfl⟩
    rw [if_pos (by omega)]
    go_wp2
    go_ret
    exact ⟨ret_int H.out.symm, balloc (bref w) _⟩
  by_cases q2 : ((left - (h.n : Int)) - (h.ms.length : Int)) < (h.os.length : Int)
  · have H := Lib.hid (szRes_lt (left := left) (n := h.size) (by unfold HD.size; omega))
    go_enter Try.func43, Try.ntmps43
    go_wp2_with fail
    refine (szCopyS_any _ h.n h.xs left _ (hr.c.alloc _) (by omega) (by omega)).mono ?_
    rintro e w' ⟨rfl, rfl⟩
    rw [if_neg (by omega)]
    go_wp2_with fail
    refine (szIntS_any _ h.ms (left - (h.n : Int)) _ (hr.m.alloc _) (by omega) (by omega)).mono ?_
    rintro e w' ⟨rfl, rfl⟩
    rw [if_neg (by omega)]
    go_wp2_with fail
    refine (szIntS_any _ h.os ((left - (h.n : Int)) - (h.ms.length : Int)) _ (hr.o.alloc _) (by omega) (by omega)).mono ?_
    rintro e w' ⟨rfl, rfl⟩
    rw [if_pos (by omega)]
    go_wp2
    go_ret
    exact ⟨ret_int H.out.symm, balloc (bref w) _⟩
  by_cases q3 : (((left - (h.n : Int)) - (h.ms.length : Int)) - (h.os.length : Int)) < (h.ts.length : Int)
  · have H := Lib.hid (szRes_lt (left := left) (n := h.size) (by unfold HD.size; omega))
    go_enter Try.func43, Try.ntmps43
    go_wp2_with fail
    refine (szCopyS_any _ h.n h.xs left _ (hr.c.alloc _) (by omega) (by omega)).mono ?_
    rintro e w' ⟨rfl, rfl⟩
    rw [if_neg (by omega)]
    go_wp2_with fail
    refine (szIntS_any _ h.ms (left - (h.n : Int)) _ (hr.m.alloc _) (by omega) (by omega)).mono ?_
    rintro e w' ⟨rfl, rfl⟩
    rw [if_neg (by omega)]
    go_wp2_with fail
    refine (szIntS_any _ h.os ((left - (h.n : Int)) - (h.ms.length : Int)) _ (hr.o.alloc _) (by omega) (by omega)).mono ?_
    rintro e w' ⟨rfl, rfl⟩
    rw [if_neg (by omega)]
    go_wp2_with fail
    refine (szIntS_any _ h.ts (((left - (h.n : Int)) - (h.ms.length : Int)) - (h.os.length : Int)) _ (hr.t.alloc _) (by omega) (by omega)).mono ?_
    rintro e w' ⟨rfl, rfl⟩
    rw [if_pos (by omega)]
    go_wp2
    go_ret
    exact ⟨ret_int H.out.symm, balloc (bref w) _⟩
  have H := Lib.hid (show szRes left h.size = ((((left - (h.n : Int)) - (h.ms.length : Int)) - (h.os.length : Int)) - (h.ts.length : Int)) from by rw [szRes_ge (by unfold HD.size; omega)]; unfold HD.size; omega)
  go_enter Try.func43, Try.ntmps43
  go_wp2_with fail
  refine (szCopyS_any _ h.n h.xs left _ (hr.c.alloc _) (by omega) (by omega)).mono ?_
  rintro e w' ⟨rfl, rfl⟩
  rw [if_neg (by omega)]
  go_wp2_with fail
  refine (szIntS_any _ h.ms (left - (h.n : Int)) _ (hr.m.alloc _) (by omega) (by omega)).mono ?_
  rintro e w' ⟨rfl, rfl⟩
  rw [if_neg (by omega)]
  go_wp2_with fail
  refine (szIntS_any _ h.os ((left - (h.n : Int)) - (h.ms.length : Int)) _ (hr.o.alloc _) (by omega) (by omega)).mono ?_
  rintro e w' ⟨rfl, rfl⟩
  rw [if_neg (by omega)]
  go_wp2_with fail
  refine (szIntS_any _ h.ts (((left - (h.n : Int)) - (h.ms.length : Int)) - (h.os.length : Int)) _ (hr.t.alloc _) (by omega) (by omega)).mono ?_
  rintro e w' ⟨rfl, rfl⟩
  rw [if_neg (by omega)]
  go_wp2
  go_ret
  exact ⟨ret_int H.out.symm, balloc (bref w) _⟩

set_option maxRecDepth 100000 in
theorem eqHouse_same (ac am ao at_ bc bm bo bt : Value) (h : HD) (w : World) (ha : HouseR w ac am ao at_ h) (hb : HouseR w bc bm bo bt h) :
    Calls Try.prog 47 #[.agg #[ac, am, ao, at_, .int .i64 h.sent, .int .i64 h.day], .agg #[bc, bm, bo, bt, .int .i64 h.sent, .int .i64 h.day]] w fun e w' => e = .returned (.bool true) ∧ Below w.heap.size w w' := by
  obtain ⟨aadc, acapc, rfl⟩ : ∃ ad cap, ac = .slice ad h.n cap := by obtain ⟨_, _, ad, cap, hh, _⟩ := ha.c; exact ⟨ad, cap, hh⟩
  obtain ⟨aadm, acapm, rfl⟩ : ∃ ad cap, am = .slice ad h.ms.length cap := by obtain ⟨_, ad, cap, hh, _⟩ := ha.m; exact ⟨ad, cap, hh⟩
  obtain ⟨aado, acapo, rfl⟩ : ∃ ad cap, ao = .slice ad h.os.length cap := by obtain ⟨_, ad, cap, hh, _⟩ := ha.o; exact ⟨ad, cap, hh⟩
  obtain ⟨aadt, acapt, rfl⟩ : ∃ ad cap, at_ = .slice ad h.ts.length cap := by obtain ⟨_, ad, cap, hh, _⟩ := ha.t; exact ⟨ad, cap, hh⟩
  obtain ⟨badc, bcapc, rfl⟩ : ∃ ad cap, bc = .slice ad h.n cap := by obtain ⟨_, _, ad, cap, hh, _⟩ := hb.c; exact ⟨ad, cap, hh⟩
  obtain ⟨badm, bcapm, rfl⟩ : ∃ ad cap, bm = .slice ad h.ms.length cap := by obtain ⟨_, ad, cap, hh, _⟩ := hb.m; exact ⟨ad, cap, hh⟩
  obtain ⟨bado, bcapo, rfl⟩ : ∃ ad cap, bo = .slice ad h.os.length cap := by obtain ⟨_, ad, cap, hh, _⟩ := hb.o; exact ⟨ad, cap, hh⟩
  obtain ⟨badt, bcapt, rfl⟩ : ∃ ad cap, bt = .slice ad h.ts.length cap := by obtain ⟨_, ad, cap, hh, _⟩ := hb.t; exact ⟨ad, cap, hh⟩
  go_enter Try.func47, Try.ntmps47
  go_wp2_with fail
  refine (eqCopyS_any _ _ h.n h.n h.xs h.xs _ (ha.c.below (balloc (balloc (bref w) _) _)) (hb.c.below (balloc (balloc (bref w) _) _))).mono ?_
  rintro e w1 ⟨rfl, q1⟩
  have c1 := below_cell q1
  have D1 := Lib.hid (bnext (balloc (balloc (bref w) _) _) q1)
  have ya1 : w.heap.size < w1.heap.size := by have h := q1.size; first | omega | (simp at h; omega)
  have yb1 : w.heap.size + 1 < w1.heap.size := by have h := q1.size; first | omega | (simp at h; omega)
  clear q1
  go_wp2_with fail
  refine (eqIntS_bel _ _ h.ms h.ms _ (ha.m.below D1.out) (hb.m.below D1.out)).mono ?_
  rintro e w2 ⟨rfl, q2⟩
  have c2 := below_cell q2
  have D2 := Lib.hid (bnext D1.out q2)
  have ya2 : w.heap.size < w2.heap.size := by have h := q2.size; first | omega | (simp at h; omega)
  have yb2 : w.heap.size + 1 < w2.heap.size := by have h := q2.size; first | omega | (simp at h; omega)
  clear q2
  go_wp2_with fail
  refine (eqIntS_bel _ _ h.os h.os _ (ha.o.below D2.out) (hb.o.below D2.out)).mono ?_
  rintro e w3 ⟨rfl, q3⟩
  have c3 := below_cell q3
  have D3 := Lib.hid (bnext D2.out q3)
  have ya3 : w.heap.size < w3.heap.size := by have h := q3.size; first | omega | (simp at h; omega)
  have yb3 : w.heap.size + 1 < w3.heap.size := by have h := q3.size; first | omega | (simp at h; omega)
  clear q3
  go_wp2_with fail
  refine (eqIntS_bel _ _ h.ts h.ts _ (ha.t.below D3.out) (hb.t.below D3.out)).mono ?_
  rintro e w4 ⟨rfl, q4⟩
  have c4 := below_cell q4
  have D4 := Lib.hid (bnext D3.out q4)
  have ya4 : w.heap.size < w4.heap.size := by have h := q4.size; first | omega | (simp at h; omega)
  have yb4 : w.heap.size + 1 < w4.heap.size := by have h := q4.size; first | omega | (simp at h; omega)
  clear q4
  go_wp2
  go_ret
  exact ⟨rfl, D4.out⟩

theorem box_kept {w w' : World} {v : Value} {b : Nat} (hg : w.grownBy w' v.ownBlock) (hb : b < w.heap.size) (hv : v.ownBlock ≠ some b) : ∀ o, w'.cell? ⟨b, o, none⟩ = w.cell? ⟨b, o, none⟩ :=
  fun _ => World.cell?_of_block (hg.block b hb fun e => hv e.symm)
set_option maxRecDepth 100000 in
theorem markHouse_any (vc vm vo vt : Value) (h : HD) (k : Int) (lo hi : Nat) (w : World) (hr : HouseO lo hi w vc vm vo vt h) (hB : HouseB h 1048576) (hk0 : 0 ≤ k) (hkb : k ≤ 100000000000) :
    Calls Try.prog 48 #[.agg #[vc, vm, vo, vt, .int .i64 h.sent, .int .i64 h.day], .int .i64 k] w fun e w' => e = .returned (.int .i64 (k + h.bulk)) ∧ HouseO lo hi w' vc vm vo vt (h.marked k) ∧ Only lo hi w w' := by
  obtain ⟨adc, capc, rfl⟩ := own_form hr.c.own
  obtain ⟨adm, capm, rfl⟩ := own_form hr.m.own
  obtain ⟨ado, capo, rfl⟩ := own_form hr.o.own
  obtain ⟨adt, capt, rfl⟩ := own_form hr.t.own
  have hb1 := hB.n
  have hb2 := hB.ms
  have hb3 := hB.os
  have hb4 := hB.ts
  have nb : ∀ {v : Value} {e : TypeId} {s n : Nat} {xs : List Int}, RowO lo hi w e s v n xs → v.ownBlock ≠ some w.heap.size := fun r e => by have := (r.own.lt _ e).2; omega
  have nc := nb hr.c
  have nm := nb hr.m
  have no := nb hr.o
  have nt := nb hr.t
  have R := Lib.hid hr
  clear hr nb
  go_enter Try.func48, Try.ntmps48
  go_wp2_with fail
  refine (markCopyS_any _ h.n h.xs k lo _ _ (own_below R.out.c.own (balloc (bref w) _)) hk0 (by omega) (by omega)).mono ?_
  rintro e w1 ⟨rfl, M1, g1⟩
  have m1 := Lib.hid (own_kept (own_below R.out.m.own (balloc (bref w) _)) g1 R.out.scm)
  have o1 := Lib.hid (own_kept (own_below R.out.o.own (balloc (bref w) _)) g1 R.out.sco)
  have t1 := Lib.hid (own_kept (own_below R.out.t.own (balloc (bref w) _)) g1 R.out.sct)
  have C1 := Lib.hid M1
  have b1 := box_kept g1 (by simp) nc
  have z1 := g1.size
  simp at z1
  have O1 := Lib.hid ((Only.of_below (lo := lo) (hi := hi) (balloc (bref w) _)).trans (Only.of_grown g1 R.out.c.at))
  clear M1 g1
  go_wp2_with fail
  refine (markIntS_any _ h.ms.length h.ms (k + (h.n : Int) * 3) lo _ _ m1.out (by omega) (by omega) (by omega)).mono ?_
  rintro e w2 ⟨rfl, M2, g2⟩
  have C2 := Lib.hid (own_kept C1.out g2 R.out.scm.symm)
  have o2 := Lib.hid (own_kept o1.out g2 R.out.smo)
  have t2 := Lib.hid (own_kept t1.out g2 R.out.smt)
  have m2 := Lib.hid M2
  have b2 := box_kept g2 (by omega) nm
  have z2 := g2.size
  have O2 := Lib.hid (O1.out.trans (Only.of_grown g2 R.out.m.at))
  clear M2 g2 C1 m1 o1 t1
  go_wp2_with fail
  refine (markIntS_any _ h.os.length h.os (k + (h.n : Int) * 3 + h.ms.length) lo _ _ o2.out (by omega) (by omega) (by omega)).mono ?_
  rintro e w3 ⟨rfl, M3, g3⟩
  have C3 := Lib.hid (own_kept C2.out g3 R.out.sco.symm)
  have m3 := Lib.hid (own_kept m2.out g3 R.out.smo.symm)
  have t3 := Lib.hid (own_kept t2.out g3 R.out.sot)
  have o3 := Lib.hid M3
  have b3 := box_kept g3 (by omega) no
  have z3 := g3.size
  have O3 := Lib.hid (O2.out.trans (Only.of_grown g3 R.out.o.at))
  clear M3 g3 C2 m2 o2 t2
  go_wp2_with fail
  refine (markIntS_any _ h.ts.length h.ts (k + (h.n : Int) * 3 + h.ms.length + h.os.length) lo _ _ t3.out (by omega) (by omega) (by omega)).mono ?_
  rintro e w4 ⟨rfl, M4, g4⟩
  have C4 := Lib.hid (own_kept C3.out g4 R.out.sct.symm)
  have m4 := Lib.hid (own_kept m3.out g4 R.out.smt.symm)
  have o4 := Lib.hid (own_kept o3.out g4 R.out.sot.symm)
  have t4 := Lib.hid M4
  have O4 := Lib.hid (O3.out.trans (Only.of_grown g4 R.out.t.at))
  clear M4 g4 C3 m3 o3 t3
  go_wp2
  go_ret
  have L : ∀ (j : Int) (n : Nat), (seqL j n).length = n := seqL_len
  refine ⟨ret_int (by unfold HD.bulk; omega), ⟨⟨C4.out, R.out.c.top⟩, ⟨?_, ?_⟩, ⟨?_, ?_⟩, ⟨?_, ?_⟩, R.out.scm, R.out.sco, R.out.sct, R.out.smo, R.out.smt, R.out.sot⟩, O4.out⟩
  · have := m4.out; simp only [HD.marked, L]; rw [show ((h.n * 3 : Nat) : Int) = (h.n : Int) * 3 by omega]; exact this
  · exact R.out.m.top
  · have := o4.out; simp only [HD.marked, L]; rw [show ((h.n * 3 : Nat) : Int) = (h.n : Int) * 3 by omega]; exact this
  · exact R.out.o.top
  · have := t4.out; simp only [HD.marked, L]; rw [show ((h.n * 3 : Nat) : Int) = (h.n : Int) * 3 by omega]; exact this
  · exact R.out.t.top

set_option maxRecDepth 100000 in
theorem heldHouse_any (vc vm vo vt : Value) (h : HD) (k : Int) (lo hi : Nat) (w : World) (hr : HouseO lo hi w vc vm vo vt (h.marked k)) (hB : HouseB h 1048576) (hk0 : 0 ≤ k) (hkb : k ≤ 100000000000) :
    Calls Try.prog 49 #[.agg #[vc, vm, vo, vt, .int .i64 h.sent, .int .i64 h.day], .int .i64 k] w fun e w' => e = .returned (.int .i64 (k + h.bulk)) ∧ Below w.heap.size w w' := by
  have L : ∀ (j : Int) (n : Nat), (seqL j n).length = n := seqL_len
  have hb1 := hB.n
  have hb2 := hB.ms
  have hb3 := hB.os
  have hb4 := hB.ts
  have rc : Recs 3 w vc h.n (seqL k (h.n * 3)) := hr.c.recs (by show h.n ≤ _; omega)
  have rm : Recs 1 w vm h.ms.length (seqL (k + (h.n : Int) * 3) h.ms.length) := by
    have := hr.m.own
    simp only [HD.marked, L] at this
    exact Recs.of_own this (by omega)
  have ro : Recs 1 w vo h.os.length (seqL (k + (h.n : Int) * 3 + h.ms.length) h.os.length) := by
    have := hr.o.own
    simp only [HD.marked, L] at this
    exact Recs.of_own this (by omega)
  have rt : Recs 1 w vt h.ts.length (seqL (k + (h.n : Int) * 3 + h.ms.length + h.os.length) h.ts.length) := by
    have := hr.t.own
    simp only [HD.marked, L] at this
    exact Recs.of_own this (by omega)
  clear hr L
  obtain ⟨adc, capc, rfl⟩ : ∃ ad cap, vc = .slice ad h.n cap := by obtain ⟨_, _, ad, cap, hh, _⟩ := rc; exact ⟨ad, cap, hh⟩
  obtain ⟨adm, capm, rfl⟩ : ∃ ad cap, vm = .slice ad h.ms.length cap := by obtain ⟨_, _, ad, cap, hh, _⟩ := rm; exact ⟨ad, cap, hh⟩
  obtain ⟨ado, capo, rfl⟩ : ∃ ad cap, vo = .slice ad h.os.length cap := by obtain ⟨_, _, ad, cap, hh, _⟩ := ro; exact ⟨ad, cap, hh⟩
  obtain ⟨adt, capt, rfl⟩ : ∃ ad cap, vt = .slice ad h.ts.length cap := by obtain ⟨_, _, ad, cap, hh, _⟩ := rt; exact ⟨ad, cap, hh⟩
  go_enter Try.func49, Try.ntmps49
  go_wp2_with fail
  refine (heldCopyS_any _ h.n k _ (rc.below (balloc (bref w) _)) (by omega) (by omega) (by omega)).mono ?_
  rintro e w1 ⟨rfl, q1⟩
  have c1 := below_cell q1
  have D1 := Lib.hid (bnext (balloc (bref w) _) q1)
  have ya1 : w.heap.size < w1.heap.size := by have h := q1.size; first | omega | (simp at h; omega)
  clear q1
  go_wp2_with fail
  refine (heldIntS_any _ h.ms.length (k + (h.n : Int) * 3) _ (rm.below D1.out) (by omega) (by omega) (by omega)).mono ?_
  rintro e w2 ⟨rfl, q2⟩
  have c2 := below_cell q2
  have D2 := Lib.hid (bnext D1.out q2)
  have ya2 : w.heap.size < w2.heap.size := by have h := q2.size; first | omega | (simp at h; omega)
  clear q2
  go_wp2_with fail
  refine (heldIntS_any _ h.os.length (k + (h.n : Int) * 3 + h.ms.length) _ (ro.below D2.out) (by omega) (by omega) (by omega)).mono ?_
  rintro e w3 ⟨rfl, q3⟩
  have c3 := below_cell q3
  have D3 := Lib.hid (bnext D2.out q3)
  have ya3 : w.heap.size < w3.heap.size := by have h := q3.size; first | omega | (simp at h; omega)
  clear q3
  go_wp2_with fail
  refine (heldIntS_any _ h.ts.length (k + (h.n : Int) * 3 + h.ms.length + h.os.length) _ (rt.below D3.out) (by omega) (by omega) (by omega)).mono ?_
  rintro e w4 ⟨rfl, q4⟩
  have c4 := below_cell q4
  have D4 := Lib.hid (bnext D3.out q4)
  have ya4 : w.heap.size < w4.heap.size := by have h := q4.size; first | omega | (simp at h; omega)
  clear q4
  go_wp2
  go_ret
  exact ⟨ret_int (by unfold HD.bulk; omega), D4.out⟩
end Go.Proofs.Ytdchgbhhlocmdaa
