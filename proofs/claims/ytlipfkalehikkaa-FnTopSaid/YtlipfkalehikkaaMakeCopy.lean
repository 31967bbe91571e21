/- The walks of MakeCopy, in the program and in the reference. -/
import Derived.Test.YtlipfkalehikkaaGC
import Derived.WalkSpells
import Derived.Test.YtlipfkalehikkaaGE
import Derived.Test.YtlipfkalehikkaaGF
namespace Go.Proofs.Ytlipfkalehikkaa
open Go.ChangeShapes Go.WideShapes Go.ChangeAt Go.RowKit

theorem cell_three_new (w : World) (b : Nat) (x y z : Value) (t : TypeId) (hb : b = w.heap.size) : ∀ j u, [x, y, z][j]? = some u → (w.alloc (.cells #[x, y, z] t)).cell? ((⟨b, 0, none⟩ : Addr).add j) = some u := by
  subst hb
  intro j u hj
  rw [Addr.add_lit, Nat.zero_add]
  rw [World.cell?_alloc_new]
  simpa using hj

set_option maxRecDepth 100000 in
set_option maxHeartbeats 8000000 in
theorem implMakeCopy (vc vm vo vt : Value) (h : HD) (p d e' o : Int) (w : World) (hr : HouseR w vc vm vo vt h) (hn : HouseN vc vm vo vt) (hB : HouseB h 1048576) : Calls Try.prog 22 #[.agg #[vc, vm, vo, vt, .int .i64 h.sent, .int .i64 h.day], .int .i64 p, .int .i64 d, .int .i64 e', .int .i64 o] w (fun e w' => ∃ ac cc am cm ao co at_ ct, e = .returned (.tuple #[.agg #[.slice ac ((makeCopy h p d e' o).1).n cc, .slice am ((makeCopy h p d e' o).1).ms.length cm, .slice ao ((makeCopy h p d e' o).1).os.length co, .slice at_ ((makeCopy h p d e' o).1).ts.length ct, .int .i64 ((makeCopy h p d e' o).1).sent, .int .i64 ((makeCopy h p d e' o).1).day], .bool (makeCopy h p d e' o).2]) ∧ HouseO w.heap.size w'.heap.size w' (.slice ac ((makeCopy h p d e' o).1).n cc) (.slice am ((makeCopy h p d e' o).1).ms.length cm) (.slice ao ((makeCopy h p d e' o).1).os.length co) (.slice at_ ((makeCopy h p d e' o).1).ts.length ct) ((makeCopy h p d e' o).1) ∧ Below w.heap.size w w') := by
  obtain ⟨i0, hi, hz0, hz1, hz2⟩ := info_parts infoCopy'
  obtain ⟨j0, hj, jz0, jz1, jz2⟩ := info_parts infoInt'
  obtain ⟨adc, capc, rfl⟩ : ∃ ad cap, vc = .slice ad h.n cap := by obtain ⟨_, _, ad, cap, hh, _⟩ := hr.c; exact ⟨ad, cap, hh⟩
  obtain ⟨adm, capm, rfl⟩ : ∃ ad cap, vm = .slice ad h.ms.length cap := by obtain ⟨_, ad, cap, hh, _⟩ := hr.m; exact ⟨ad, cap, hh⟩
  obtain ⟨ado, capo, rfl⟩ : ∃ ad cap, vo = .slice ad h.os.length cap := by obtain ⟨_, ad, cap, hh, _⟩ := hr.o; exact ⟨ad, cap, hh⟩
  obtain ⟨adt, capt, rfl⟩ : ∃ ad cap, vt = .slice ad h.ts.length cap := by obtain ⟨_, ad, cap, hh, _⟩ := hr.t; exact ⟨ad, cap, hh⟩
  have hr0 := hr
  cases h1 : houseOk h with
  | false =>
    have H := Lib.hid (makeCopy_1 (p := p) (d := d) (e := e') (o := o) h1)
    go_enter Try.func22, Try.ntmps22
    go_wp2_with fail
    refine (implHouseOk _ _ _ _ h _ ((hr.alloc _).alloc _)).mono ?_
    rintro e w1 ⟨rfl, hb1⟩
    rw [h1]
    have b0 : w1.cell? ⟨w.heap.size, 0, none⟩ = some (Value.slice adc h.n capc) := (hb1.cell (p := ⟨w.heap.size, 0, none⟩) (by first | (simp; done) | (simp; omega))).trans (by go_simp)
    have b1 : w1.cell? ⟨w.heap.size, 1, none⟩ = some (Value.slice adm h.ms.length capm) := (hb1.cell (p := ⟨w.heap.size, 1, none⟩) (by first | (simp; done) | (simp; omega))).trans (by go_simp)
    have b2 : w1.cell? ⟨w.heap.size, 2, none⟩ = some (Value.slice ado h.os.length capo) := (hb1.cell (p := ⟨w.heap.size, 2, none⟩) (by first | (simp; done) | (simp; omega))).trans (by go_simp)
    have b3 : w1.cell? ⟨w.heap.size, 3, none⟩ = some (Value.slice adt h.ts.length capt) := (hb1.cell (p := ⟨w.heap.size, 3, none⟩) (by first | (simp; done) | (simp; omega))).trans (by go_simp)
    have b4 : w1.cell? ⟨w.heap.size, 4, none⟩ = some (Value.int .i64 h.sent) := (hb1.cell (p := ⟨w.heap.size, 4, none⟩) (by first | (simp; done) | (simp; omega))).trans (by go_simp)
    have b5 : w1.cell? ⟨w.heap.size, 5, none⟩ = some (Value.int .i64 h.day) := (hb1.cell (p := ⟨w.heap.size, 5, none⟩) (by first | (simp; done) | (simp; omega))).trans (by go_simp)
    have r0 : w1.cell? ⟨w.heap.size + 1, 0, none⟩ = some (Value.slice none 0 0) := (hb1.cell (p := ⟨w.heap.size + 1, 0, none⟩) (by first | (simp; done) | (simp; omega))).trans (by go_simp)
    have fr0 : w1.frozen? ⟨w.heap.size + 1, 0, none⟩ = false := (hb1.frozen (p := ⟨w.heap.size + 1, 0, none⟩) (by first | (simp; done) | (simp; omega))).trans (by go_simp)
    have r1 : w1.cell? ⟨w.heap.size + 1, 1, none⟩ = some (Value.slice none 0 0) := (hb1.cell (p := ⟨w.heap.size + 1, 1, none⟩) (by first | (simp; done) | (simp; omega))).trans (by go_simp)
    have fr1 : w1.frozen? ⟨w.heap.size + 1, 1, none⟩ = false := (hb1.frozen (p := ⟨w.heap.size + 1, 1, none⟩) (by first | (simp; done) | (simp; omega))).trans (by go_simp)
    have r2 : w1.cell? ⟨w.heap.size + 1, 2, none⟩ = some (Value.slice none 0 0) := (hb1.cell (p := ⟨w.heap.size + 1, 2, none⟩) (by first | (simp; done) | (simp; omega))).trans (by go_simp)
    have fr2 : w1.frozen? ⟨w.heap.size + 1, 2, none⟩ = false := (hb1.frozen (p := ⟨w.heap.size + 1, 2, none⟩) (by first | (simp; done) | (simp; omega))).trans (by go_simp)
    have r3 : w1.cell? ⟨w.heap.size + 1, 3, none⟩ = some (Value.slice none 0 0) := (hb1.cell (p := ⟨w.heap.size + 1, 3, none⟩) (by first | (simp; done) | (simp; omega))).trans (by go_simp)
    have fr3 : w1.frozen? ⟨w.heap.size + 1, 3, none⟩ = false := (hb1.frozen (p := ⟨w.heap.size + 1, 3, none⟩) (by first | (simp; done) | (simp; omega))).trans (by go_simp)
    have r4 : w1.cell? ⟨w.heap.size + 1, 4, none⟩ = some (Value.int .i64 0) := (hb1.cell (p := ⟨w.heap.size + 1, 4, none⟩) (by first | (simp; done) | (simp; omega))).trans (by go_simp)
    have fr4 : w1.frozen? ⟨w.heap.size + 1, 4, none⟩ = false := (hb1.frozen (p := ⟨w.heap.size + 1, 4, none⟩) (by first | (simp; done) | (simp; omega))).trans (by go_simp)
    have r5 : w1.cell? ⟨w.heap.size + 1, 5, none⟩ = some (Value.int .i64 0) := (hb1.cell (p := ⟨w.heap.size + 1, 5, none⟩) (by first | (simp; done) | (simp; omega))).trans (by go_simp)
    have fr5 : w1.frozen? ⟨w.heap.size + 1, 5, none⟩ = false := (hb1.frozen (p := ⟨w.heap.size + 1, 5, none⟩) (by first | (simp; done) | (simp; omega))).trans (by go_simp)
    have z1 : w.heap.size + 2 ≤ w1.heap.size := by have h := hb1.size; first | omega | (simp at h; omega)
    have y10 : w.heap.size < w1.heap.size := by omega
    have y11 : w.heap.size + 1 < w1.heap.size := by omega
    have D1 := bnext (balloc (balloc (bref w) _) _) hb1
    have R1 := hr.below D1
    clear hb1
    go_wp2_with (go_at_call 38; refine (in_any _ _ _ _).mono ?_; rintro e w' ⟨rfl, rfl⟩)
    refine (copyHouse_any _ _ _ _ h _ R1 hn hB).mono ?_
    rintro e w2 ⟨ac, cc, am, cm, ao, co, at_, ct, rfl, hO, hb2⟩
    replace b0 : w2.cell? ⟨w.heap.size, 0, none⟩ = some (Value.slice adc h.n capc) := (hb2.cell (p := ⟨w.heap.size, 0, none⟩) (by simp only []; omega)).trans (by go_simp)
    replace b1 : w2.cell? ⟨w.heap.size, 1, none⟩ = some (Value.slice adm h.ms.length capm) := (hb2.cell (p := ⟨w.heap.size, 1, none⟩) (by simp only []; omega)).trans (by go_simp)
    replace b2 : w2.cell? ⟨w.heap.size, 2, none⟩ = some (Value.slice ado h.os.length capo) := (hb2.cell (p := ⟨w.heap.size, 2, none⟩) (by simp only []; omega)).trans (by go_simp)
    replace b3 : w2.cell? ⟨w.heap.size, 3, none⟩ = some (Value.slice adt h.ts.length capt) := (hb2.cell (p := ⟨w.heap.size, 3, none⟩) (by simp only []; omega)).trans (by go_simp)
    replace b4 : w2.cell? ⟨w.heap.size, 4, none⟩ = some (Value.int .i64 h.sent) := (hb2.cell (p := ⟨w.heap.size, 4, none⟩) (by simp only []; omega)).trans (by go_simp)
    replace b5 : w2.cell? ⟨w.heap.size, 5, none⟩ = some (Value.int .i64 h.day) := (hb2.cell (p := ⟨w.heap.size, 5, none⟩) (by simp only []; omega)).trans (by go_simp)
    replace r0 : w2.cell? ⟨w.heap.size + 1, 0, none⟩ = some (Value.slice none 0 0) := (hb2.cell (p := ⟨w.heap.size + 1, 0, none⟩) (by simp only []; omega)).trans (by go_simp)
    replace r1 : w2.cell? ⟨w.heap.size + 1, 1, none⟩ = some (Value.slice none 0 0) := (hb2.cell (p := ⟨w.heap.size + 1, 1, none⟩) (by simp only []; omega)).trans (by go_simp)
    replace r2 : w2.cell? ⟨w.heap.size + 1, 2, none⟩ = some (Value.slice none 0 0) := (hb2.cell (p := ⟨w.heap.size + 1, 2, none⟩) (by simp only []; omega)).trans (by go_simp)
    replace r3 : w2.cell? ⟨w.heap.size + 1, 3, none⟩ = some (Value.slice none 0 0) := (hb2.cell (p := ⟨w.heap.size + 1, 3, none⟩) (by simp only []; omega)).trans (by go_simp)
    replace r4 : w2.cell? ⟨w.heap.size + 1, 4, none⟩ = some (Value.int .i64 0) := (hb2.cell (p := ⟨w.heap.size + 1, 4, none⟩) (by simp only []; omega)).trans (by go_simp)
    replace r5 : w2.cell? ⟨w.heap.size + 1, 5, none⟩ = some (Value.int .i64 0) := (hb2.cell (p := ⟨w.heap.size + 1, 5, none⟩) (by simp only []; omega)).trans (by go_simp)
    replace fr0 : w2.frozen? ⟨w.heap.size + 1, 0, none⟩ = false := (hb2.frozen (p := ⟨w.heap.size + 1, 0, none⟩) (by simp only []; omega)).trans (by go_simp)
    replace fr1 : w2.frozen? ⟨w.heap.size + 1, 1, none⟩ = false := (hb2.frozen (p := ⟨w.heap.size + 1, 1, none⟩) (by simp only []; omega)).trans (by go_simp)
    replace fr2 : w2.frozen? ⟨w.heap.size + 1, 2, none⟩ = false := (hb2.frozen (p := ⟨w.heap.size + 1, 2, none⟩) (by simp only []; omega)).trans (by go_simp)
    replace fr3 : w2.frozen? ⟨w.heap.size + 1, 3, none⟩ = false := (hb2.frozen (p := ⟨w.heap.size + 1, 3, none⟩) (by simp only []; omega)).trans (by go_simp)
    replace fr4 : w2.frozen? ⟨w.heap.size + 1, 4, none⟩ = false := (hb2.frozen (p := ⟨w.heap.size + 1, 4, none⟩) (by simp only []; omega)).trans (by go_simp)
    replace fr5 : w2.frozen? ⟨w.heap.size + 1, 5, none⟩ = false := (hb2.frozen (p := ⟨w.heap.size + 1, 5, none⟩) (by simp only []; omega)).trans (by go_simp)
    have z2 : w1.heap.size + 0 ≤ w2.heap.size := by have h := hb2.size; first | omega | (simp at h; omega)
    have y20 : w.heap.size < w2.heap.size := by omega
    have y21 : w.heap.size + 1 < w2.heap.size := by omega
    have D2 := bnext D1 hb2
    have R2 := hr.below D2
    clear hb2 D1 R1
    have O2 := Lib.hid hO
    have DD := Lib.hid D2
    clear hO D2 R2 hr
    go_wp2
    refine bodyPost_ret (v := .tuple #[.agg #[.slice ac h.n cc, .slice am h.ms.length cm, .slice ao h.os.length co, .slice at_ h.ts.length ct, .int .i64 h.sent, .int .i64 h.day], .bool false]) (by simp [results, Try.results22, go_sem, r0, r1, r2, r3, r4, r5]) rfl ?_
    rw [H.out]
    have fin : ∀ WF : World, Only w.heap.size (w.heap.size + 2) w2 WF → HouseO w.heap.size WF.heap.size WF (.slice ac h.n cc) (.slice am h.ms.length cm) (.slice ao h.os.length co) (.slice at_ h.ts.length ct) h ∧ Below w.heap.size w WF := fun WF oF =>
      ⟨(O2.out.only oF (off_r (by omega))).wide (by omega) (by have := oF.size; omega), Only.below DD.out oF (Nat.le_refl _)⟩
    refine ⟨_, _, _, _, _, _, _, _, rfl, fin _ ?_⟩
    repeat (first | with_reducible exact Only.refl _ _ _ | with_reducible refine Only.alloc ?_ _ | with_reducible refine Only.set ?_ (by simp only []; omega) (by simp only []; omega) _)
  | true =>
    have hn12 := chainOk_n (daysOk_chain (houseOk_facts h1).days).1
    cases h2 : inB p 0 ((h.n : Int) - 1) with
    | false =>
      have H := Lib.hid (makeCopy_2 (d := d) (e := e') (o := o) h2)
      go_enter Try.func22, Try.ntmps22
      go_wp2_with fail
      refine (implHouseOk _ _ _ _ h _ ((hr.alloc _).alloc _)).mono ?_
      rintro e w1 ⟨rfl, hb1⟩
      rw [h1]
      have b0 : w1.cell? ⟨w.heap.size, 0, none⟩ = some (Value.slice adc h.n capc) := (hb1.cell (p := ⟨w.heap.size, 0, none⟩) (by first | (simp; done) | (simp; omega))).trans (by go_simp)
      have b1 : w1.cell? ⟨w.heap.size, 1, none⟩ = some (Value.slice adm h.ms.length capm) := (hb1.cell (p := ⟨w.heap.size, 1, none⟩) (by first | (simp; done) | (simp; omega))).trans (by go_simp)
      have b2 : w1.cell? ⟨w.heap.size, 2, none⟩ = some (Value.slice ado h.os.length capo) := (hb1.cell (p := ⟨w.heap.size, 2, none⟩) (by first | (simp; done) | (simp; omega))).trans (by go_simp)
      have b3 : w1.cell? ⟨w.heap.size, 3, none⟩ = some (Value.slice adt h.ts.length capt) := (hb1.cell (p := ⟨w.heap.size, 3, none⟩) (by first | (simp; done) | (simp; omega))).trans (by go_simp)
      have b4 : w1.cell? ⟨w.heap.size, 4, none⟩ = some (Value.int .i64 h.sent) := (hb1.cell (p := ⟨w.heap.size, 4, none⟩) (by first | (simp; done) | (simp; omega))).trans (by go_simp)
      have b5 : w1.cell? ⟨w.heap.size, 5, none⟩ = some (Value.int .i64 h.day) := (hb1.cell (p := ⟨w.heap.size, 5, none⟩) (by first | (simp; done) | (simp; omega))).trans (by go_simp)
      have r0 : w1.cell? ⟨w.heap.size + 1, 0, none⟩ = some (Value.slice none 0 0) := (hb1.cell (p := ⟨w.heap.size + 1, 0, none⟩) (by first | (simp; done) | (simp; omega))).trans (by go_simp)
      have fr0 : w1.frozen? ⟨w.heap.size + 1, 0, none⟩ = false := (hb1.frozen (p := ⟨w.heap.size + 1, 0, none⟩) (by first | (simp; done) | (simp; omega))).trans (by go_simp)
      have r1 : w1.cell? ⟨w.heap.size + 1, 1, none⟩ = some (Value.slice none 0 0) := (hb1.cell (p := ⟨w.heap.size + 1, 1, none⟩) (by first | (simp; done) | (simp; omega))).trans (by go_simp)
      have fr1 : w1.frozen? ⟨w.heap.size + 1, 1, none⟩ = false := (hb1.frozen (p := ⟨w.heap.size + 1, 1, none⟩) (by first | (simp; done) | (simp; omega))).trans (by go_simp)
      have r2 : w1.cell? ⟨w.heap.size + 1, 2, none⟩ = some (Value.slice none 0 0) := (hb1.cell (p := ⟨w.heap.size + 1, 2, none⟩) (by first | (simp; done) | (simp; omega))).trans (by go_simp)
      have fr2 : w1.frozen? ⟨w.heap.size + 1, 2, none⟩ = false := (hb1.frozen (p := ⟨w.heap.size + 1, 2, none⟩) (by first | (simp; done) | (simp; omega))).trans (by go_simp)
      have r3 : w1.cell? ⟨w.heap.size + 1, 3, none⟩ = some (Value.slice none 0 0) := (hb1.cell (p := ⟨w.heap.size + 1, 3, none⟩) (by first | (simp; done) | (simp; omega))).trans (by go_simp)
      have fr3 : w1.frozen? ⟨w.heap.size + 1, 3, none⟩ = false := (hb1.frozen (p := ⟨w.heap.size + 1, 3, none⟩) (by first | (simp; done) | (simp; omega))).trans (by go_simp)
      have r4 : w1.cell? ⟨w.heap.size + 1, 4, none⟩ = some (Value.int .i64 0) := (hb1.cell (p := ⟨w.heap.size + 1, 4, none⟩) (by first | (simp; done) | (simp; omega))).trans (by go_simp)
      have fr4 : w1.frozen? ⟨w.heap.size + 1, 4, none⟩ = false := (hb1.frozen (p := ⟨w.heap.size + 1, 4, none⟩) (by first | (simp; done) | (simp; omega))).trans (by go_simp)
      have r5 : w1.cell? ⟨w.heap.size + 1, 5, none⟩ = some (Value.int .i64 0) := (hb1.cell (p := ⟨w.heap.size + 1, 5, none⟩) (by first | (simp; done) | (simp; omega))).trans (by go_simp)
      have fr5 : w1.frozen? ⟨w.heap.size + 1, 5, none⟩ = false := (hb1.frozen (p := ⟨w.heap.size + 1, 5, none⟩) (by first | (simp; done) | (simp; omega))).trans (by go_simp)
      have z1 : w.heap.size + 2 ≤ w1.heap.size := by have h := hb1.size; first | omega | (simp at h; omega)
      have y10 : w.heap.size < w1.heap.size := by omega
      have y11 : w.heap.size + 1 < w1.heap.size := by omega
      have D1 := bnext (balloc (balloc (bref w) _) _) hb1
      have R1 := hr.below D1
      clear hb1
      go_wp2_with (go_at_call 38; refine (in_any _ _ _ _).mono ?_; rintro e w' ⟨rfl, rfl⟩)
      refine (copyHouse_any _ _ _ _ h _ R1 hn hB).mono ?_
      rintro e w2 ⟨ac, cc, am, cm, ao, co, at_, ct, rfl, hO, hb2⟩
      replace b0 : w2.cell? ⟨w.heap.size, 0, none⟩ = some (Value.slice adc h.n capc) := (hb2.cell (p := ⟨w.heap.size, 0, none⟩) (by simp only []; omega)).trans (by go_simp)
      replace b1 : w2.cell? ⟨w.heap.size, 1, none⟩ = some (Value.slice adm h.ms.length capm) := (hb2.cell (p := ⟨w.heap.size, 1, none⟩) (by simp only []; omega)).trans (by go_simp)
      replace b2 : w2.cell? ⟨w.heap.size, 2, none⟩ = some (Value.slice ado h.os.length capo) := (hb2.cell (p := ⟨w.heap.size, 2, none⟩) (by simp only []; omega)).trans (by go_simp)
      replace b3 : w2.cell? ⟨w.heap.size, 3, none⟩ = some (Value.slice adt h.ts.length capt) := (hb2.cell (p := ⟨w.heap.size, 3, none⟩) (by simp only []; omega)).trans (by go_simp)
      replace b4 : w2.cell? ⟨w.heap.size, 4, none⟩ = some (Value.int .i64 h.sent) := (hb2.cell (p := ⟨w.heap.size, 4, none⟩) (by simp only []; omega)).trans (by go_simp)
      replace b5 : w2.cell? ⟨w.heap.size, 5, none⟩ = some (Value.int .i64 h.day) := (hb2.cell (p := ⟨w.heap.size, 5, none⟩) (by simp only []; omega)).trans (by go_simp)
      replace r0 : w2.cell? ⟨w.heap.size + 1, 0, none⟩ = some (Value.slice none 0 0) := (hb2.cell (p := ⟨w.heap.size + 1, 0, none⟩) (by simp only []; omega)).trans (by go_simp)
      replace r1 : w2.cell? ⟨w.heap.size + 1, 1, none⟩ = some (Value.slice none 0 0) := (hb2.cell (p := ⟨w.heap.size + 1, 1, none⟩) (by simp only []; omega)).trans (by go_simp)
      replace r2 : w2.cell? ⟨w.heap.size + 1, 2, none⟩ = some (Value.slice none 0 0) := (hb2.cell (p := ⟨w.heap.size + 1, 2, none⟩) (by simp only []; omega)).trans (by go_simp)
      replace r3 : w2.cell? ⟨w.heap.size + 1, 3, none⟩ = some (Value.slice none 0 0) := (hb2.cell (p := ⟨w.heap.size + 1, 3, none⟩) (by simp only []; omega)).trans (by go_simp)
      replace r4 : w2.cell? ⟨w.heap.size + 1, 4, none⟩ = some (Value.int .i64 0) := (hb2.cell (p := ⟨w.heap.size + 1, 4, none⟩) (by simp only []; omega)).trans (by go_simp)
      replace r5 : w2.cell? ⟨w.heap.size + 1, 5, none⟩ = some (Value.int .i64 0) := (hb2.cell (p := ⟨w.heap.size + 1, 5, none⟩) (by simp only []; omega)).trans (by go_simp)
      replace fr0 : w2.frozen? ⟨w.heap.size + 1, 0, none⟩ = false := (hb2.frozen (p := ⟨w.heap.size + 1, 0, none⟩) (by simp only []; omega)).trans (by go_simp)
      replace fr1 : w2.frozen? ⟨w.heap.size + 1, 1, none⟩ = false := (hb2.frozen (p := ⟨w.heap.size + 1, 1, none⟩) (by simp only []; omega)).trans (by go_simp)
      replace fr2 : w2.frozen? ⟨w.heap.size + 1, 2, none⟩ = false := (hb2.frozen (p := ⟨w.heap.size + 1, 2, none⟩) (by simp only []; omega)).trans (by go_simp)
      replace fr3 : w2.frozen? ⟨w.heap.size + 1, 3, none⟩ = false := (hb2.frozen (p := ⟨w.heap.size + 1, 3, none⟩) (by simp only []; omega)).trans (by go_simp)
      replace fr4 : w2.frozen? ⟨w.heap.size + 1, 4, none⟩ = false := (hb2.frozen (p := ⟨w.heap.size + 1, 4, none⟩) (by simp only []; omega)).trans (by go_simp)
      replace fr5 : w2.frozen? ⟨w.heap.size + 1, 5, none⟩ = false := (hb2.frozen (p := ⟨w.heap.size + 1, 5, none⟩) (by simp only []; omega)).trans (by go_simp)
      have z2 : w1.heap.size + 0 ≤ w2.heap.size := by have h := hb2.size; first | omega | (simp at h; omega)
      have y20 : w.heap.size < w2.heap.size := by omega
      have y21 : w.heap.size + 1 < w2.heap.size := by omega
      have D2 := bnext D1 hb2
      have R2 := hr.below D2
      clear hb2 D1 R1
      have O2 := Lib.hid hO
      have DD := Lib.hid D2
      clear hO D2 R2 hr
      go_wp2
      refine bodyPost_ret (v := .tuple #[.agg #[.slice ac h.n cc, .slice am h.ms.length cm, .slice ao h.os.length co, .slice at_ h.ts.length ct, .int .i64 h.sent, .int .i64 h.day], .bool false]) (by simp [results, Try.results22, go_sem, r0, r1, r2, r3, r4, r5]) rfl ?_
      rw [H.out]
      have fin : ∀ WF : World, Only w.heap.size (w.heap.size + 2) w2 WF → HouseO w.heap.size WF.heap.size WF (.slice ac h.n cc) (.slice am h.ms.length cm) (.slice ao h.os.length co) (.slice at_ h.ts.length ct) h ∧ Below w.heap.size w WF := fun WF oF =>
        ⟨(O2.out.only oF (off_r (by omega))).wide (by omega) (by have := oF.size; omega), Only.below DD.out oF (Nat.le_refl _)⟩
      refine ⟨_, _, _, _, _, _, _, _, rfl, fin _ ?_⟩
      repeat (first | with_reducible exact Only.refl _ _ _ | with_reducible refine Only.alloc ?_ _ | with_reducible refine Only.set ?_ (by simp only []; omega) (by simp only []; omega) _)
    | true =>
      go_enter Try.func22, Try.ntmps22
      go_wp2_with fail
      refine (implHouseOk _ _ _ _ h _ ((hr.alloc _).alloc _)).mono ?_
      rintro e w1 ⟨rfl, hb1⟩
      rw [h1]
      have b0 : w1.cell? ⟨w.heap.size, 0, none⟩ = some (Value.slice adc h.n capc) := (hb1.cell (p := ⟨w.heap.size, 0, none⟩) (by first | (simp; done) | (simp; omega))).trans (by go_simp)
      have b1 : w1.cell? ⟨w.heap.size, 1, none⟩ = some (Value.slice adm h.ms.length capm) := (hb1.cell (p := ⟨w.heap.size, 1, none⟩) (by first | (simp; done) | (simp; omega))).trans (by go_simp)
      have b2 : w1.cell? ⟨w.heap.size, 2, none⟩ = some (Value.slice ado h.os.length capo) := (hb1.cell (p := ⟨w.heap.size, 2, none⟩) (by first | (simp; done) | (simp; omega))).trans (by go_simp)
      have b3 : w1.cell? ⟨w.heap.size, 3, none⟩ = some (Value.slice adt h.ts.length capt) := (hb1.cell (p := ⟨w.heap.size, 3, none⟩) (by first | (simp; done) | (simp; omega))).trans (by go_simp)
      have b4 : w1.cell? ⟨w.heap.size, 4, none⟩ = some (Value.int .i64 h.sent) := (hb1.cell (p := ⟨w.heap.size, 4, none⟩) (by first | (simp; done) | (simp; omega))).trans (by go_simp)
      have b5 : w1.cell? ⟨w.heap.size, 5, none⟩ = some (Value.int .i64 h.day) := (hb1.cell (p := ⟨w.heap.size, 5, none⟩) (by first | (simp; done) | (simp; omega))).trans (by go_simp)
      have r0 : w1.cell? ⟨w.heap.size + 1, 0, none⟩ = some (Value.slice none 0 0) := (hb1.cell (p := ⟨w.heap.size + 1, 0, none⟩) (by first | (simp; done) | (simp; omega))).trans (by go_simp)
      have fr0 : w1.frozen? ⟨w.heap.size + 1, 0, none⟩ = false := (hb1.frozen (p := ⟨w.heap.size + 1, 0, none⟩) (by first | (simp; done) | (simp; omega))).trans (by go_simp)
      have r1 : w1.cell? ⟨w.heap.size + 1, 1, none⟩ = some (Value.slice none 0 0) := (hb1.cell (p := ⟨w.heap.size + 1, 1, none⟩) (by first | (simp; done) | (simp; omega))).trans (by go_simp)
      have fr1 : w1.frozen? ⟨w.heap.size + 1, 1, none⟩ = false := (hb1.frozen (p := ⟨w.heap.size + 1, 1, none⟩) (by first | (simp; done) | (simp; omega))).trans (by go_simp)
      have r2 : w1.cell? ⟨w.heap.size + 1, 2, none⟩ = some (Value.slice none 0 0) := (hb1.cell (p := ⟨w.heap.size + 1, 2, none⟩) (by first | (simp; done) | (simp; omega))).trans (by go_simp)
      have fr2 : w1.frozen? ⟨w.heap.size + 1, 2, none⟩ = false := (hb1.frozen (p := ⟨w.heap.size + 1, 2, none⟩) (by first | (simp; done) | (simp; omega))).trans (by go_simp)
      have r3 : w1.cell? ⟨w.heap.size + 1, 3, none⟩ = some (Value.slice none 0 0) := (hb1.cell (p := ⟨w.heap.size + 1, 3, none⟩) (by first | (simp; done) | (simp; omega))).trans (by go_simp)
      have fr3 : w1.frozen? ⟨w.heap.size + 1, 3, none⟩ = false := (hb1.frozen (p := ⟨w.heap.size + 1, 3, none⟩) (by first | (simp; done) | (simp; omega))).trans (by go_simp)
      have r4 : w1.cell? ⟨w.heap.size + 1, 4, none⟩ = some (Value.int .i64 0) := (hb1.cell (p := ⟨w.heap.size + 1, 4, none⟩) (by first | (simp; done) | (simp; omega))).trans (by go_simp)
      have fr4 : w1.frozen? ⟨w.heap.size + 1, 4, none⟩ = false := (hb1.frozen (p := ⟨w.heap.size + 1, 4, none⟩) (by first | (simp; done) | (simp; omega))).trans (by go_simp)
      have r5 : w1.cell? ⟨w.heap.size + 1, 5, none⟩ = some (Value.int .i64 0) := (hb1.cell (p := ⟨w.heap.size + 1, 5, none⟩) (by first | (simp; done) | (simp; omega))).trans (by go_simp)
      have fr5 : w1.frozen? ⟨w.heap.size + 1, 5, none⟩ = false := (hb1.frozen (p := ⟨w.heap.size + 1, 5, none⟩) (by first | (simp; done) | (simp; omega))).trans (by go_simp)
      have z1 : w.heap.size + 2 ≤ w1.heap.size := by have h := hb1.size; first | omega | (simp at h; omega)
      have y10 : w.heap.size < w1.heap.size := by omega
      have y11 : w.heap.size + 1 < w1.heap.size := by omega
      have D1 := bnext (balloc (balloc (bref w) _) _) hb1
      have R1 := hr.below D1
      clear hb1
      go_wp2_with (go_at_call 38; refine (in_any _ _ _ _).mono ?_; rintro e w' ⟨rfl, rfl⟩)
      refine (copyHouse_any _ _ _ _ h _ R1 hn hB).mono ?_
      rintro e w2 ⟨ac, cc, am, cm, ao, co, at_, ct, rfl, hO, hb2⟩
      replace b0 : w2.cell? ⟨w.heap.size, 0, none⟩ = some (Value.slice adc h.n capc) := (hb2.cell (p := ⟨w.heap.size, 0, none⟩) (by simp only []; omega)).trans (by go_simp)
      replace b1 : w2.cell? ⟨w.heap.size, 1, none⟩ = some (Value.slice adm h.ms.length capm) := (hb2.cell (p := ⟨w.heap.size, 1, none⟩) (by simp only []; omega)).trans (by go_simp)
      replace b2 : w2.cell? ⟨w.heap.size, 2, none⟩ = some (Value.slice ado h.os.length capo) := (hb2.cell (p := ⟨w.heap.size, 2, none⟩) (by simp only []; omega)).trans (by go_simp)
      replace b3 : w2.cell? ⟨w.heap.size, 3, none⟩ = some (Value.slice adt h.ts.length capt) := (hb2.cell (p := ⟨w.heap.size, 3, none⟩) (by simp only []; omega)).trans (by go_simp)
      replace b4 : w2.cell? ⟨w.heap.size, 4, none⟩ = some (Value.int .i64 h.sent) := (hb2.cell (p := ⟨w.heap.size, 4, none⟩) (by simp only []; omega)).trans (by go_simp)
      replace b5 : w2.cell? ⟨w.heap.size, 5, none⟩ = some (Value.int .i64 h.day) := (hb2.cell (p := ⟨w.heap.size, 5, none⟩) (by simp only []; omega)).trans (by go_simp)
      replace r0 : w2.cell? ⟨w.heap.size + 1, 0, none⟩ = some (Value.slice none 0 0) := (hb2.cell (p := ⟨w.heap.size + 1, 0, none⟩) (by simp only []; omega)).trans (by go_simp)
      replace r1 : w2.cell? ⟨w.heap.size + 1, 1, none⟩ = some (Value.slice none 0 0) := (hb2.cell (p := ⟨w.heap.size + 1, 1, none⟩) (by simp only []; omega)).trans (by go_simp)
      replace r2 : w2.cell? ⟨w.heap.size + 1, 2, none⟩ = some (Value.slice none 0 0) := (hb2.cell (p := ⟨w.heap.size + 1, 2, none⟩) (by simp only []; omega)).trans (by go_simp)
      replace r3 : w2.cell? ⟨w.heap.size + 1, 3, none⟩ = some (Value.slice none 0 0) := (hb2.cell (p := ⟨w.heap.size + 1, 3, none⟩) (by simp only []; omega)).trans (by go_simp)
      replace r4 : w2.cell? ⟨w.heap.size + 1, 4, none⟩ = some (Value.int .i64 0) := (hb2.cell (p := ⟨w.heap.size + 1, 4, none⟩) (by simp only []; omega)).trans (by go_simp)
      replace r5 : w2.cell? ⟨w.heap.size + 1, 5, none⟩ = some (Value.int .i64 0) := (hb2.cell (p := ⟨w.heap.size + 1, 5, none⟩) (by simp only []; omega)).trans (by go_simp)
      replace fr0 : w2.frozen? ⟨w.heap.size + 1, 0, none⟩ = false := (hb2.frozen (p := ⟨w.heap.size + 1, 0, none⟩) (by simp only []; omega)).trans (by go_simp)
      replace fr1 : w2.frozen? ⟨w.heap.size + 1, 1, none⟩ = false := (hb2.frozen (p := ⟨w.heap.size + 1, 1, none⟩) (by simp only []; omega)).trans (by go_simp)
      replace fr2 : w2.frozen? ⟨w.heap.size + 1, 2, none⟩ = false := (hb2.frozen (p := ⟨w.heap.size + 1, 2, none⟩) (by simp only []; omega)).trans (by go_simp)
      replace fr3 : w2.frozen? ⟨w.heap.size + 1, 3, none⟩ = false := (hb2.frozen (p := ⟨w.heap.size + 1, 3, none⟩) (by simp only []; omega)).trans (by go_simp)
      replace fr4 : w2.frozen? ⟨w.heap.size + 1, 4, none⟩ = false := (hb2.frozen (p := ⟨w.heap.size + 1, 4, none⟩) (by simp only []; omega)).trans (by go_simp)
      replace fr5 : w2.frozen? ⟨w.heap.size + 1, 5, none⟩ = false := (hb2.frozen (p := ⟨w.heap.size + 1, 5, none⟩) (by simp only []; omega)).trans (by go_simp)
      have z2 : w1.heap.size + 0 ≤ w2.heap.size := by have h := hb2.size; first | omega | (simp at h; omega)
      have y20 : w.heap.size < w2.heap.size := by omega
      have y21 : w.heap.size + 1 < w2.heap.size := by omega
      have D2 := bnext D1 hb2
      have R2 := hr.below D2
      clear hb2 D1 R1
      have HB := Lib.hid (show HouseB h 1048575 from (by have c := houseOk_b h1; exact ⟨by have := c.n; omega, by have := c.ms; omega, by have := c.os; omega, by have := c.ts; omega⟩))
      have hbm := hB.ms
      have hbo := hB.os
      have DD := Lib.hid D2
      have xc : (Value.slice ac h.n cc).ownBlock ≠ some (w2.heap.size) := fun e => by have := (hO.c.at _ e).2; omega
      have xm : (Value.slice am h.ms.length cm).ownBlock ≠ some (w2.heap.size) := fun e => by have := (hO.m.at _ e).2; omega
      have xo : (Value.slice ao h.os.length co).ownBlock ≠ some (w2.heap.size) := fun e => by have := (hO.o.at _ e).2; omega
      have xt : (Value.slice at_ h.ts.length ct).ownBlock ≠ some (w2.heap.size) := fun e => by have := (hO.t.at _ e).2; omega
      have OC := hO.below (balloc (balloc (bref w2) (.cells #[.slice ac h.n cc, .slice am h.ms.length cm, .slice ao h.os.length co, .slice at_ h.ts.length ct, .int .i64 h.sent, .int .i64 h.day] 27)) (.cells #[.int .i64 p, .int .i64 d, .int .i64 e'] 40))
      have OCh := Lib.hid OC
      have ocown := OC.c.own
      have LT3 : w2.heap.size < ((w2.alloc (.cells #[.slice ac h.n cc, .slice am h.ms.length cm, .slice ao h.os.length co, .slice at_ h.ts.length ct, .int .i64 h.sent, .int .i64 h.day] 27)).alloc (.cells #[.int .i64 p, .int .i64 d, .int .i64 e'] 40)).heap.size := by simp; omega
      have NX3 : ∀ b, b < w1.heap.size ∨ b = w2.heap.size → (Value.slice ac h.n cc).ownBlock ≠ some b := fun b q e => q.elim (fun q => by have := (hO.c.at _ e).1; omega) (fun q => xc (q ▸ e))
      have s3 : ((w2.alloc (.cells #[.slice ac h.n cc, .slice am h.ms.length cm, .slice ao h.os.length co, .slice at_ h.ts.length ct, .int .i64 h.sent, .int .i64 h.day] 27)).alloc (.cells #[.int .i64 p, .int .i64 d, .int .i64 e'] 40)).heap.size = w2.heap.size + 2 := by simp
      have S3 := Lib.hid s3
      have X3 := Lib.hid (And.intro xc (And.intro xm (And.intro xo xt)))
      have NX3' := Lib.hid NX3
      have NX4' := Lib.hid (show ∀ b, b < w1.heap.size ∨ b = w2.heap.size → (Value.slice am h.ms.length cm).ownBlock ≠ some b from fun b q e => q.elim (fun q => by have := (hO.m.at _ e).1; omega) (fun q => xm (q ▸ e)))
      have NX5' := Lib.hid (show ∀ b, b < w1.heap.size ∨ b = w2.heap.size → (Value.slice ao h.os.length co).ownBlock ≠ some b from fun b q e => q.elim (fun q => by have := (hO.o.at _ e).1; omega) (fun q => xo (q ▸ e)))
      clear hO D2 OC xc xm xo xt s3 NX3
      go_wp2_with (first | (at_builtin; refine wpList_append_own_at _ rfl _ _ 24 rfl (w1.heap.size) 40 i0 (.agg #[.int .i64 0, .int .i64 0, .int .i64 0]) 3 24 Try.underlying24 hi hz0 hz1 hz2 rfl (by decide) _ _ _ rfl ocown ⟨w2.heap.size + 1, 0, none⟩ 1 1 [.int .i64 p, .int .i64 d, .int .i64 e'] rfl rfl (cell_three_new _ _ _ _ _ _ (by simp)) (ints_oneCell .i64 [p, d, e']) (by unfold maxLen; omega) (by omega) (by simp; omega) ?_; intro v' w3 hown hgrow hnil hat; obtain ⟨ac', cc', rfl⟩ := own_form hown; have NX3 := NX3'.out; have cq3 : ∀ b f, b < w1.heap.size ∨ b = w2.heap.size → w3.cell? ⟨b, f, none⟩ = ((w2.alloc (.cells #[.slice ac h.n cc, .slice am h.ms.length cm, .slice ao h.os.length co, .slice at_ h.ts.length ct, .int .i64 h.sent, .int .i64 h.day] 27)).alloc (.cells #[.int .i64 p, .int .i64 d, .int .i64 e'] 40)).cell? ⟨b, f, none⟩ := fun b f q => World.cell?_of_block (hgrow.block b (by have := LT3; omega) (fun e => NX3 b q e.symm)); have fq3 : ∀ b f, b < w1.heap.size ∨ b = w2.heap.size → w3.frozen? ⟨b, f, none⟩ = ((w2.alloc (.cells #[.slice ac h.n cc, .slice am h.ms.length cm, .slice ao h.os.length co, .slice at_ h.ts.length ct, .int .i64 h.sent, .int .i64 h.day] 27)).alloc (.cells #[.int .i64 p, .int .i64 d, .int .i64 e'] 40)).frozen? ⟨b, f, none⟩ := fun b f q => World.frozen?_of_block (hgrow.block b (by have := LT3; omega) (fun e => NX3 b q e.symm)); have HC := Lib.hid (OCh.out.addC (p := p) (d := d) (e := e') (by have := S3.out; omega) (by simpa using hown) hgrow hat); have XC := Lib.hid (not_app X3.out.1 (by have := S3.out; omega) hat); have D3 := Lib.hid (below_app (o := 0) (u := .slice ac' (h.n + 1) cc') (balloc (balloc DD.out _) _) hgrow (fun b e => by have := (OCh.out.c.at _ e).1; omega) (show w.heap.size ≤ w2.heap.size by omega)); have z3 : w2.heap.size + 2 ≤ w3.heap.size := S3.out ▸ hgrow.size; have ya3 : w.heap.size < w3.heap.size := (by omega); have yb3 : w.heap.size + 1 < w3.heap.size := (by omega); have yx3 : w2.heap.size < w3.heap.size := (by omega); have HM := Lib.hid ((HC.out.setX XC.out X3.out.2.1 X3.out.2.2.1 X3.out.2.2.2 0 (.slice ac' (h.n + 1) cc')).below (balloc (bref _) (.cells #[.int .i64 h.day] 3))); have ocm : ((w3.setCell ⟨w2.heap.size, 0, none⟩ (.slice ac' (h.n + 1) cc')).alloc (.cells #[.int .i64 h.day] 3)).ownsRow (w1.heap.size) 3 1 (.slice am h.ms.length cm) h.ms.length (h.ms.map (Value.int .i64)) := HM.out.m.own; have LT4 : w2.heap.size < ((w3.setCell ⟨w2.heap.size, 0, none⟩ (.slice ac' (h.n + 1) cc')).alloc (.cells #[.int .i64 h.day] 3)).heap.size := (by simp; omega); clear hown hgrow hnil hat NX3 ocown) | (at_builtin; refine wpList_append_own_at _ rfl _ _ 25 rfl (w1.heap.size) 3 j0 (.int .i64 0) 1 8 Try.underlying25 hj jz0 jz1 jz2 rfl (by decide) _ _ _ rfl ocm ⟨w3.heap.size, 0, none⟩ 1 1 [.int .i64 h.day] rfl rfl (cell_one_new' _ _ _ _ (by simp)) (ints_oneCell .i64 [h.day]) (by unfold maxLen; omega) (by omega) (by simp; omega) ?_; intro v' w4 hown hgrow hnil hat; obtain ⟨am', cm', rfl⟩ := own_form hown; have NX4 := NX4'.out; have cq4 : ∀ b f, b < w1.heap.size ∨ b = w2.heap.size → w4.cell? ⟨b, f, none⟩ = ((w3.setCell ⟨w2.heap.size, 0, none⟩ (.slice ac' (h.n + 1) cc')).alloc (.cells #[.int .i64 h.day] 3)).cell? ⟨b, f, none⟩ := fun b f q => World.cell?_of_block (hgrow.block b (by have := LT4; omega) (fun e => NX4 b q e.symm)); have fq4 : ∀ b f, b < w1.heap.size ∨ b = w2.heap.size → w4.frozen? ⟨b, f, none⟩ = ((w3.setCell ⟨w2.heap.size, 0, none⟩ (.slice ac' (h.n + 1) cc')).alloc (.cells #[.int .i64 h.day] 3)).frozen? ⟨b, f, none⟩ := fun b f q => World.frozen?_of_block (hgrow.block b (by have := LT4; omega) (fun e => NX4 b q e.symm)); have HN := Lib.hid (HM.out.addM (x := h.day) (by simp) (by simpa using hown) hgrow hat); have XM := Lib.hid (not_app X3.out.2.1 (by simp; omega) hat); have D4 := Lib.hid (below_app (o := 1) (u := .slice am' (h.ms.length + 1) cm') (balloc D3.out _) hgrow (fun b e => by have := (HM.out.m.at _ e).1; omega) (show w.heap.size ≤ w2.heap.size by omega)); have z4 : w3.heap.size + 1 ≤ w4.heap.size := (by have q := hgrow.size; simp at q; omega); have ya4 : w.heap.size < w4.heap.size := (by omega); have yb4 : w.heap.size + 1 < w4.heap.size := (by omega); have yx4 : w2.heap.size < w4.heap.size := (by omega); have HP := Lib.hid ((HN.out.setX XC.out XM.out X3.out.2.2.1 X3.out.2.2.2 1 (.slice am' (h.ms.length + 1) cm')).below (balloc (bref _) (.cells #[.int .i64 o] 3))); have oco : ((w4.setCell ⟨w2.heap.size, 1, none⟩ (.slice am' (h.ms.length + 1) cm')).alloc (.cells #[.int .i64 o] 3)).ownsRow (w1.heap.size) 3 1 (.slice ao h.os.length co) h.os.length (h.os.map (Value.int .i64)) := HP.out.o.own; have LT5 : w2.heap.size < ((w4.setCell ⟨w2.heap.size, 1, none⟩ (.slice am' (h.ms.length + 1) cm')).alloc (.cells #[.int .i64 o] 3)).heap.size := (by simp; omega); clear hown hgrow hnil hat NX4 ocm) | (at_builtin; refine wpList_append_own_at _ rfl _ _ 25 rfl (w1.heap.size) 3 j0 (.int .i64 0) 1 8 Try.underlying25 hj jz0 jz1 jz2 rfl (by decide) _ _ _ rfl oco ⟨w4.heap.size, 0, none⟩ 1 1 [.int .i64 o] rfl rfl (cell_one_new' _ _ _ _ (by simp)) (ints_oneCell .i64 [o]) (by unfold maxLen; omega) (by omega) (by simp; omega) ?_; intro v' w5 hown hgrow hnil hat; obtain ⟨ao', co', rfl⟩ := own_form hown; have NX5 := NX5'.out; have cq5 : ∀ b f, b < w1.heap.size ∨ b = w2.heap.size → w5.cell? ⟨b, f, none⟩ = ((w4.setCell ⟨w2.heap.size, 1, none⟩ (.slice am' (h.ms.length + 1) cm')).alloc (.cells #[.int .i64 o] 3)).cell? ⟨b, f, none⟩ := fun b f q => World.cell?_of_block (hgrow.block b (by have := LT5; omega) (fun e => NX5 b q e.symm)); have fq5 : ∀ b f, b < w1.heap.size ∨ b = w2.heap.size → w5.frozen? ⟨b, f, none⟩ = ((w4.setCell ⟨w2.heap.size, 1, none⟩ (.slice am' (h.ms.length + 1) cm')).alloc (.cells #[.int .i64 o] 3)).frozen? ⟨b, f, none⟩ := fun b f q => World.frozen?_of_block (hgrow.block b (by have := LT5; omega) (fun e => NX5 b q e.symm)); have HO := Lib.hid (HP.out.addO (x := o) (by simp) (by simpa using hown) hgrow hat); have XO := Lib.hid (not_app X3.out.2.2.1 (by simp; omega) hat); have D5 := Lib.hid (below_app (o := 2) (u := .slice ao' (h.os.length + 1) co') (balloc D4.out _) hgrow (fun b e => by have := (HP.out.o.at _ e).1; omega) (show w.heap.size ≤ w2.heap.size by omega)); have z5 : w4.heap.size + 1 ≤ w5.heap.size := (by have q := hgrow.size; simp at q; omega); have ya5 : w.heap.size < w5.heap.size := (by omega); have yb5 : w.heap.size + 1 < w5.heap.size := (by omega); have yx5 : w2.heap.size < w5.heap.size := (by omega); clear hown hgrow hnil hat NX5 oco))
      have HF := HO.out.setX XC.out XM.out XO.out X3.out.2.2.2 2 (.slice ao' (h.os.length + 1) co')
      have RF : HouseR (w5.setCell ⟨w2.heap.size, 2, none⟩ (.slice ao' (h.os.length + 1) co')) (.slice ac' (h.n + 1) cc') (.slice am' (h.ms.length + 1) cm') (.slice ao' (h.os.length + 1) co') (.slice at_ h.ts.length ct) (h.more p d e' o) := HF.read (more_b HB.out p d e' o)
      have QF := Lib.hid HF
      clear HF
      refine (implHouseOk _ _ _ _ (h.more p d e' o) _ RF).mono ?_
      rintro e w6 ⟨rfl, hb6⟩
      clear RF
      have X0 : w6.cell? ⟨w2.heap.size, 0, none⟩ = some (Value.slice ac' (h.n + 1) cc') := (hb6.cell (p := ⟨w2.heap.size, 0, none⟩) (by first | (simp; done) | (simp; omega))).trans (by go_simp)
      have X1 : w6.cell? ⟨w2.heap.size, 1, none⟩ = some (Value.slice am' (h.ms.length + 1) cm') := (hb6.cell (p := ⟨w2.heap.size, 1, none⟩) (by first | (simp; done) | (simp; omega))).trans (by go_simp)
      have X2 : w6.cell? ⟨w2.heap.size, 2, none⟩ = some (Value.slice ao' (h.os.length + 1) co') := (hb6.cell (p := ⟨w2.heap.size, 2, none⟩) (by first | (simp; done) | (simp; omega))).trans (by go_simp)
      have X3 : w6.cell? ⟨w2.heap.size, 3, none⟩ = some (Value.slice at_ h.ts.length ct) := (hb6.cell (p := ⟨w2.heap.size, 3, none⟩) (by first | (simp; done) | (simp; omega))).trans (by go_simp)
      have X4 : w6.cell? ⟨w2.heap.size, 4, none⟩ = some (Value.int .i64 h.sent) := (hb6.cell (p := ⟨w2.heap.size, 4, none⟩) (by first | (simp; done) | (simp; omega))).trans (by go_simp)
      have X5 : w6.cell? ⟨w2.heap.size, 5, none⟩ = some (Value.int .i64 h.day) := (hb6.cell (p := ⟨w2.heap.size, 5, none⟩) (by first | (simp; done) | (simp; omega))).trans (by go_simp)
      have b0 : w6.cell? ⟨w.heap.size, 0, none⟩ = some (Value.slice adc h.n capc) := (hb6.cell (p := ⟨w.heap.size, 0, none⟩) (by first | (simp; done) | (simp; omega))).trans (by go_simp)
      have b1 : w6.cell? ⟨w.heap.size, 1, none⟩ = some (Value.slice adm h.ms.length capm) := (hb6.cell (p := ⟨w.heap.size, 1, none⟩) (by first | (simp; done) | (simp; omega))).trans (by go_simp)
      have b2 : w6.cell? ⟨w.heap.size, 2, none⟩ = some (Value.slice ado h.os.length capo) := (hb6.cell (p := ⟨w.heap.size, 2, none⟩) (by first | (simp; done) | (simp; omega))).trans (by go_simp)
      have b3 : w6.cell? ⟨w.heap.size, 3, none⟩ = some (Value.slice adt h.ts.length capt) := (hb6.cell (p := ⟨w.heap.size, 3, none⟩) (by first | (simp; done) | (simp; omega))).trans (by go_simp)
      have b4 : w6.cell? ⟨w.heap.size, 4, none⟩ = some (Value.int .i64 h.sent) := (hb6.cell (p := ⟨w.heap.size, 4, none⟩) (by first | (simp; done) | (simp; omega))).trans (by go_simp)
      have b5 : w6.cell? ⟨w.heap.size, 5, none⟩ = some (Value.int .i64 h.day) := (hb6.cell (p := ⟨w.heap.size, 5, none⟩) (by first | (simp; done) | (simp; omega))).trans (by go_simp)
      have r0 : w6.cell? ⟨w.heap.size + 1, 0, none⟩ = some (Value.slice none 0 0) := (hb6.cell (p := ⟨w.heap.size + 1, 0, none⟩) (by first | (simp; done) | (simp; omega))).trans (by go_simp)
      have fr0 : w6.frozen? ⟨w.heap.size + 1, 0, none⟩ = false := (hb6.frozen (p := ⟨w.heap.size + 1, 0, none⟩) (by first | (simp; done) | (simp; omega))).trans (by go_simp)
      have r1 : w6.cell? ⟨w.heap.size + 1, 1, none⟩ = some (Value.slice none 0 0) := (hb6.cell (p := ⟨w.heap.size + 1, 1, none⟩) (by first | (simp; done) | (simp; omega))).trans (by go_simp)
      have fr1 : w6.frozen? ⟨w.heap.size + 1, 1, none⟩ = false := (hb6.frozen (p := ⟨w.heap.size + 1, 1, none⟩) (by first | (simp; done) | (simp; omega))).trans (by go_simp)
      have r2 : w6.cell? ⟨w.heap.size + 1, 2, none⟩ = some (Value.slice none 0 0) := (hb6.cell (p := ⟨w.heap.size + 1, 2, none⟩) (by first | (simp; done) | (simp; omega))).trans (by go_simp)
      have fr2 : w6.frozen? ⟨w.heap.size + 1, 2, none⟩ = false := (hb6.frozen (p := ⟨w.heap.size + 1, 2, none⟩) (by first | (simp; done) | (simp; omega))).trans (by go_simp)
      have r3 : w6.cell? ⟨w.heap.size + 1, 3, none⟩ = some (Value.slice none 0 0) := (hb6.cell (p := ⟨w.heap.size + 1, 3, none⟩) (by first | (simp; done) | (simp; omega))).trans (by go_simp)
      have fr3 : w6.frozen? ⟨w.heap.size + 1, 3, none⟩ = false := (hb6.frozen (p := ⟨w.heap.size + 1, 3, none⟩) (by first | (simp; done) | (simp; omega))).trans (by go_simp)
      have r4 : w6.cell? ⟨w.heap.size + 1, 4, none⟩ = some (Value.int .i64 0) := (hb6.cell (p := ⟨w.heap.size + 1, 4, none⟩) (by first | (simp; done) | (simp; omega))).trans (by go_simp)
      have fr4 : w6.frozen? ⟨w.heap.size + 1, 4, none⟩ = false := (hb6.frozen (p := ⟨w.heap.size + 1, 4, none⟩) (by first | (simp; done) | (simp; omega))).trans (by go_simp)
      have r5 : w6.cell? ⟨w.heap.size + 1, 5, none⟩ = some (Value.int .i64 0) := (hb6.cell (p := ⟨w.heap.size + 1, 5, none⟩) (by first | (simp; done) | (simp; omega))).trans (by go_simp)
      have fr5 : w6.frozen? ⟨w.heap.size + 1, 5, none⟩ = false := (hb6.frozen (p := ⟨w.heap.size + 1, 5, none⟩) (by first | (simp; done) | (simp; omega))).trans (by go_simp)
      have z6 : w5.heap.size ≤ w6.heap.size := by have q := hb6.size; simp at q; exact q
      have ya6 : w.heap.size < w6.heap.size := by omega
      have yb6 : w.heap.size + 1 < w6.heap.size := by omega
      have yx6 : w2.heap.size < w6.heap.size := by omega
      have O6 := Lib.hid (QF.out.below hb6)
      have D6 := Lib.hid (bnext D5.out hb6)
      clear hb6
      cases h3 : houseOk (h.more p d e' o) with
      | true =>
        have H := Lib.hid (makeCopy_t h1 h2 h3)
        go_wp2
        refine bodyPost_ret (v := .tuple #[.agg #[.slice ac' (h.n + 1) cc', .slice am' (h.ms.length + 1) cm', .slice ao' (h.os.length + 1) co', .slice at_ h.ts.length ct, .int .i64 h.sent, .int .i64 h.day], .bool true]) (by simp [results, Try.results22, go_sem, r0, r1, r2, r3, r4, r5]) rfl ?_
        rw [H.out]
        have fin : ∀ WF : World, Only w.heap.size (w.heap.size + 2) w6 WF → HouseO w.heap.size WF.heap.size WF (.slice ac' (h.n + 1) cc') (.slice am' (h.ms.length + 1) cm') (.slice ao' (h.os.length + 1) co') (.slice at_ h.ts.length ct) (h.more p d e' o) ∧ Below w.heap.size w WF := fun WF oF =>
          ⟨(O6.out.only oF (off_r (by omega))).wide (by omega) (by have := oF.size; omega), Only.below D6.out oF (Nat.le_refl _)⟩
        simp only [HD.more, List.length_append, List.length_cons, List.length_nil, Nat.zero_add]
        refine ⟨_, _, _, _, _, _, _, _, rfl, fin _ ?_⟩
        repeat (first | with_reducible exact Only.refl _ _ _ | with_reducible refine Only.alloc ?_ _ | with_reducible refine Only.set ?_ (by simp only []; omega) (by simp only []; omega) _)
      | false =>
        have H := Lib.hid (makeCopy_3 h3)
        go_wp2_with fail
        refine (copyHouse_any _ _ _ _ h _ (hr0.below D6.out) hn hB).mono ?_
        rintro e w7 ⟨ac2, cc2, am2, cm2, ao2, co2, at2, ct2, rfl, hO7, hb7⟩
        replace X0 : w7.cell? ⟨w2.heap.size, 0, none⟩ = some (Value.slice ac' (h.n + 1) cc') := (hb7.cell (p := ⟨w2.heap.size, 0, none⟩) (by simp only []; omega)).trans (by go_simp)
        replace X1 : w7.cell? ⟨w2.heap.size, 1, none⟩ = some (Value.slice am' (h.ms.length + 1) cm') := (hb7.cell (p := ⟨w2.heap.size, 1, none⟩) (by simp only []; omega)).trans (by go_simp)
        replace X2 : w7.cell? ⟨w2.heap.size, 2, none⟩ = some (Value.slice ao' (h.os.length + 1) co') := (hb7.cell (p := ⟨w2.heap.size, 2, none⟩) (by simp only []; omega)).trans (by go_simp)
        replace X3 : w7.cell? ⟨w2.heap.size, 3, none⟩ = some (Value.slice at_ h.ts.length ct) := (hb7.cell (p := ⟨w2.heap.size, 3, none⟩) (by simp only []; omega)).trans (by go_simp)
        replace X4 : w7.cell? ⟨w2.heap.size, 4, none⟩ = some (Value.int .i64 h.sent) := (hb7.cell (p := ⟨w2.heap.size, 4, none⟩) (by simp only []; omega)).trans (by go_simp)
        replace X5 : w7.cell? ⟨w2.heap.size, 5, none⟩ = some (Value.int .i64 h.day) := (hb7.cell (p := ⟨w2.heap.size, 5, none⟩) (by simp only []; omega)).trans (by go_simp)
        replace b0 : w7.cell? ⟨w.heap.size, 0, none⟩ = some (Value.slice adc h.n capc) := (hb7.cell (p := ⟨w.heap.size, 0, none⟩) (by simp only []; omega)).trans (by go_simp)
        replace b1 : w7.cell? ⟨w.heap.size, 1, none⟩ = some (Value.slice adm h.ms.length capm) := (hb7.cell (p := ⟨w.heap.size, 1, none⟩) (by simp only []; omega)).trans (by go_simp)
        replace b2 : w7.cell? ⟨w.heap.size, 2, none⟩ = some (Value.slice ado h.os.length capo) := (hb7.cell (p := ⟨w.heap.size, 2, none⟩) (by simp only []; omega)).trans (by go_simp)
        replace b3 : w7.cell? ⟨w.heap.size, 3, none⟩ = some (Value.slice adt h.ts.length capt) := (hb7.cell (p := ⟨w.heap.size, 3, none⟩) (by simp only []; omega)).trans (by go_simp)
        replace b4 : w7.cell? ⟨w.heap.size, 4, none⟩ = some (Value.int .i64 h.sent) := (hb7.cell (p := ⟨w.heap.size, 4, none⟩) (by simp only []; omega)).trans (by go_simp)
        replace b5 : w7.cell? ⟨w.heap.size, 5, none⟩ = some (Value.int .i64 h.day) := (hb7.cell (p := ⟨w.heap.size, 5, none⟩) (by simp only []; omega)).trans (by go_simp)
        replace r0 : w7.cell? ⟨w.heap.size + 1, 0, none⟩ = some (Value.slice none 0 0) := (hb7.cell (p := ⟨w.heap.size + 1, 0, none⟩) (by simp only []; omega)).trans (by go_simp)
        replace r1 : w7.cell? ⟨w.heap.size + 1, 1, none⟩ = some (Value.slice none 0 0) := (hb7.cell (p := ⟨w.heap.size + 1, 1, none⟩) (by simp only []; omega)).trans (by go_simp)
        replace r2 : w7.cell? ⟨w.heap.size + 1, 2, none⟩ = some (Value.slice none 0 0) := (hb7.cell (p := ⟨w.heap.size + 1, 2, none⟩) (by simp only []; omega)).trans (by go_simp)
        replace r3 : w7.cell? ⟨w.heap.size + 1, 3, none⟩ = some (Value.slice none 0 0) := (hb7.cell (p := ⟨w.heap.size + 1, 3, none⟩) (by simp only []; omega)).trans (by go_simp)
        replace r4 : w7.cell? ⟨w.heap.size + 1, 4, none⟩ = some (Value.int .i64 0) := (hb7.cell (p := ⟨w.heap.size + 1, 4, none⟩) (by simp only []; omega)).trans (by go_simp)
        replace r5 : w7.cell? ⟨w.heap.size + 1, 5, none⟩ = some (Value.int .i64 0) := (hb7.cell (p := ⟨w.heap.size + 1, 5, none⟩) (by simp only []; omega)).trans (by go_simp)
        replace fr0 : w7.frozen? ⟨w.heap.size + 1, 0, none⟩ = false := (hb7.frozen (p := ⟨w.heap.size + 1, 0, none⟩) (by simp only []; omega)).trans (by go_simp)
        replace fr1 : w7.frozen? ⟨w.heap.size + 1, 1, none⟩ = false := (hb7.frozen (p := ⟨w.heap.size + 1, 1, none⟩) (by simp only []; omega)).trans (by go_simp)
        replace fr2 : w7.frozen? ⟨w.heap.size + 1, 2, none⟩ = false := (hb7.frozen (p := ⟨w.heap.size + 1, 2, none⟩) (by simp only []; omega)).trans (by go_simp)
        replace fr3 : w7.frozen? ⟨w.heap.size + 1, 3, none⟩ = false := (hb7.frozen (p := ⟨w.heap.size + 1, 3, none⟩) (by simp only []; omega)).trans (by go_simp)
        replace fr4 : w7.frozen? ⟨w.heap.size + 1, 4, none⟩ = false := (hb7.frozen (p := ⟨w.heap.size + 1, 4, none⟩) (by simp only []; omega)).trans (by go_simp)
        replace fr5 : w7.frozen? ⟨w.heap.size + 1, 5, none⟩ = false := (hb7.frozen (p := ⟨w.heap.size + 1, 5, none⟩) (by simp only []; omega)).trans (by go_simp)
        have z7 : w6.heap.size ≤ w7.heap.size := hb7.size
        have O7 := Lib.hid hO7
        have D7 := Lib.hid (bnext D6.out hb7)
        clear hO7 hb7
        go_wp2
        refine bodyPost_ret (v := .tuple #[.agg #[.slice ac2 h.n cc2, .slice am2 h.ms.length cm2, .slice ao2 h.os.length co2, .slice at2 h.ts.length ct2, .int .i64 h.sent, .int .i64 h.day], .bool false]) (by simp [results, Try.results22, go_sem, r0, r1, r2, r3, r4, r5]) rfl ?_
        rw [H.out]
        have fin : ∀ WF : World, Only w.heap.size (w.heap.size + 2) w7 WF → HouseO w.heap.size WF.heap.size WF (.slice ac2 h.n cc2) (.slice am2 h.ms.length cm2) (.slice ao2 h.os.length co2) (.slice at2 h.ts.length ct2) h ∧ Below w.heap.size w WF := fun WF oF =>
          ⟨(O7.out.only oF (off_r (by omega))).wide (by omega) (by have := oF.size; omega), Only.below D7.out oF (Nat.le_refl _)⟩
        refine ⟨_, _, _, _, _, _, _, _, rfl, fin _ ?_⟩
        repeat (first | with_reducible exact Only.refl _ _ _ | with_reducible refine Only.alloc ?_ _ | with_reducible refine Only.set ?_ (by simp only []; omega) (by simp only []; omega) _)

set_option maxRecDepth 100000 in
set_option maxHeartbeats 8000000 in
theorem specMakeCopy (vc vm vo vt : Value) (h : HD) (p d e' o : Int) (w : World) (hr : HouseR w vc vm vo vt h) (hn : HouseN vc vm vo vt) (hB : HouseB h 1048576) : Calls Try.prog 29 #[.agg #[vc, vm, vo, vt, .int .i64 h.sent, .int .i64 h.day], .int .i64 p, .int .i64 d, .int .i64 e', .int .i64 o] w (fun e w' => ∃ ac cc am cm ao co at_ ct, e = .returned (.tuple #[.agg #[.slice ac ((makeCopy h p d e' o).1).n cc, .slice am ((makeCopy h p d e' o).1).ms.length cm, .slice ao ((makeCopy h p d e' o).1).os.length co, .slice at_ ((makeCopy h p d e' o).1).ts.length ct, .int .i64 ((makeCopy h p d e' o).1).sent, .int .i64 ((makeCopy h p d e' o).1).day], .bool (makeCopy h p d e' o).2]) ∧ HouseO w.heap.size w'.heap.size w' (.slice ac ((makeCopy h p d e' o).1).n cc) (.slice am ((makeCopy h p d e' o).1).ms.length cm) (.slice ao ((makeCopy h p d e' o).1).os.length co) (.slice at_ ((makeCopy h p d e' o).1).ts.length ct) ((makeCopy h p d e' o).1) ∧ Below w.heap.size w w') := by
  obtain ⟨i0, hi, hz0, hz1, hz2⟩ := info_parts infoCopy'
  obtain ⟨j0, hj, jz0, jz1, jz2⟩ := info_parts infoInt'
  obtain ⟨adc, capc, rfl⟩ : ∃ ad cap, vc = .slice ad h.n cap := by obtain ⟨_, _, ad, cap, hh, _⟩ := hr.c; exact ⟨ad, cap, hh⟩
  obtain ⟨adm, capm, rfl⟩ : ∃ ad cap, vm = .slice ad h.ms.length cap := by obtain ⟨_, ad, cap, hh, _⟩ := hr.m; exact ⟨ad, cap, hh⟩
  obtain ⟨ado, capo, rfl⟩ : ∃ ad cap, vo = .slice ad h.os.length cap := by obtain ⟨_, ad, cap, hh, _⟩ := hr.o; exact ⟨ad, cap, hh⟩
  obtain ⟨adt, capt, rfl⟩ : ∃ ad cap, vt = .slice ad h.ts.length cap := by obtain ⟨_, ad, cap, hh, _⟩ := hr.t; exact ⟨ad, cap, hh⟩
  have hr0 := hr
  cases h1 : houseOk h with
  | false =>
    have H := Lib.hid (makeCopy_1 (p := p) (d := d) (e := e') (o := o) h1)
    go_enter Try.func29, Try.ntmps29
    go_wp2_with fail
    refine (l38Copy_any _ _ _ _ h _ ((hr.alloc _).alloc _) hn hB).mono ?_
    rintro e w1 ⟨ac, cc, am, cm, ao, co, at_, ct, rfl, hO, hb1⟩
    have z1 : w.heap.size + 2 ≤ w1.heap.size := by have h := hb1.size; simp at h; omega
    replace hO := hO.wide (lo' := w.heap.size + 2) (by simp) (Nat.le_refl _)
    have b0 : w1.cell? ⟨w.heap.size, 0, none⟩ = some (Value.slice adc h.n capc) := (hb1.cell (p := ⟨w.heap.size, 0, none⟩) (by first | (simp; done) | (simp; omega))).trans (by go_simp)
    have b1 : w1.cell? ⟨w.heap.size, 1, none⟩ = some (Value.slice adm h.ms.length capm) := (hb1.cell (p := ⟨w.heap.size, 1, none⟩) (by first | (simp; done) | (simp; omega))).trans (by go_simp)
    have b2 : w1.cell? ⟨w.heap.size, 2, none⟩ = some (Value.slice ado h.os.length capo) := (hb1.cell (p := ⟨w.heap.size, 2, none⟩) (by first | (simp; done) | (simp; omega))).trans (by go_simp)
    have b3 : w1.cell? ⟨w.heap.size, 3, none⟩ = some (Value.slice adt h.ts.length capt) := (hb1.cell (p := ⟨w.heap.size, 3, none⟩) (by first | (simp; done) | (simp; omega))).trans (by go_simp)
    have b4 : w1.cell? ⟨w.heap.size, 4, none⟩ = some (Value.int .i64 h.sent) := (hb1.cell (p := ⟨w.heap.size, 4, none⟩) (by first | (simp; done) | (simp; omega))).trans (by go_simp)
    have b5 : w1.cell? ⟨w.heap.size, 5, none⟩ = some (Value.int .i64 h.day) := (hb1.cell (p := ⟨w.heap.size, 5, none⟩) (by first | (simp; done) | (simp; omega))).trans (by go_simp)
    have r0 : w1.cell? ⟨w.heap.size + 1, 0, none⟩ = some (Value.slice none 0 0) := (hb1.cell (p := ⟨w.heap.size + 1, 0, none⟩) (by first | (simp; done) | (simp; omega))).trans (by go_simp)
    have fr0 : w1.frozen? ⟨w.heap.size + 1, 0, none⟩ = false := (hb1.frozen (p := ⟨w.heap.size + 1, 0, none⟩) (by first | (simp; done) | (simp; omega))).trans (by go_simp)
    have r1 : w1.cell? ⟨w.heap.size + 1, 1, none⟩ = some (Value.slice none 0 0) := (hb1.cell (p := ⟨w.heap.size + 1, 1, none⟩) (by first | (simp; done) | (simp; omega))).trans (by go_simp)
    have fr1 : w1.frozen? ⟨w.heap.size + 1, 1, none⟩ = false := (hb1.frozen (p := ⟨w.heap.size + 1, 1, none⟩) (by first | (simp; done) | (simp; omega))).trans (by go_simp)
    have r2 : w1.cell? ⟨w.heap.size + 1, 2, none⟩ = some (Value.slice none 0 0) := (hb1.cell (p := ⟨w.heap.size + 1, 2, none⟩) (by first | (simp; done) | (simp; omega))).trans (by go_simp)
    have fr2 : w1.frozen? ⟨w.heap.size + 1, 2, none⟩ = false := (hb1.frozen (p := ⟨w.heap.size + 1, 2, none⟩) (by first | (simp; done) | (simp; omega))).trans (by go_simp)
    have r3 : w1.cell? ⟨w.heap.size + 1, 3, none⟩ = some (Value.slice none 0 0) := (hb1.cell (p := ⟨w.heap.size + 1, 3, none⟩) (by first | (simp; done) | (simp; omega))).trans (by go_simp)
    have fr3 : w1.frozen? ⟨w.heap.size + 1, 3, none⟩ = false := (hb1.frozen (p := ⟨w.heap.size + 1, 3, none⟩) (by first | (simp; done) | (simp; omega))).trans (by go_simp)
    have r4 : w1.cell? ⟨w.heap.size + 1, 4, none⟩ = some (Value.int .i64 0) := (hb1.cell (p := ⟨w.heap.size + 1, 4, none⟩) (by first | (simp; done) | (simp; omega))).trans (by go_simp)
    have fr4 : w1.frozen? ⟨w.heap.size + 1, 4, none⟩ = false := (hb1.frozen (p := ⟨w.heap.size + 1, 4, none⟩) (by first | (simp; done) | (simp; omega))).trans (by go_simp)
    have r5 : w1.cell? ⟨w.heap.size + 1, 5, none⟩ = some (Value.int .i64 0) := (hb1.cell (p := ⟨w.heap.size + 1, 5, none⟩) (by first | (simp; done) | (simp; omega))).trans (by go_simp)
    have fr5 : w1.frozen? ⟨w.heap.size + 1, 5, none⟩ = false := (hb1.frozen (p := ⟨w.heap.size + 1, 5, none⟩) (by first | (simp; done) | (simp; omega))).trans (by go_simp)
    have y10 : w.heap.size < w1.heap.size := by omega
    have y11 : w.heap.size + 1 < w1.heap.size := by omega
    have D1 := bnext (balloc (balloc (bref w) _) _) hb1
    have R1 := hr.below D1
    clear hb1
    go_wp2_with fail
    refine (specHouseOk _ _ _ _ h _ (R1.alloc _)).mono ?_
    rintro e w2 ⟨rfl, hb2⟩
    rw [h1]
    replace b0 : w2.cell? ⟨w.heap.size, 0, none⟩ = some (Value.slice adc h.n capc) := (hb2.cell (p := ⟨w.heap.size, 0, none⟩) (by first | (simp; done) | (simp; omega))).trans (by go_simp)
    replace b1 : w2.cell? ⟨w.heap.size, 1, none⟩ = some (Value.slice adm h.ms.length capm) := (hb2.cell (p := ⟨w.heap.size, 1, none⟩) (by first | (simp; done) | (simp; omega))).trans (by go_simp)
    replace b2 : w2.cell? ⟨w.heap.size, 2, none⟩ = some (Value.slice ado h.os.length capo) := (hb2.cell (p := ⟨w.heap.size, 2, none⟩) (by first | (simp; done) | (simp; omega))).trans (by go_simp)
    replace b3 : w2.cell? ⟨w.heap.size, 3, none⟩ = some (Value.slice adt h.ts.length capt) := (hb2.cell (p := ⟨w.heap.size, 3, none⟩) (by first | (simp; done) | (simp; omega))).trans (by go_simp)
    replace b4 : w2.cell? ⟨w.heap.size, 4, none⟩ = some (Value.int .i64 h.sent) := (hb2.cell (p := ⟨w.heap.size, 4, none⟩) (by first | (simp; done) | (simp; omega))).trans (by go_simp)
    replace b5 : w2.cell? ⟨w.heap.size, 5, none⟩ = some (Value.int .i64 h.day) := (hb2.cell (p := ⟨w.heap.size, 5, none⟩) (by first | (simp; done) | (simp; omega))).trans (by go_simp)
    replace r0 : w2.cell? ⟨w.heap.size + 1, 0, none⟩ = some (Value.slice none 0 0) := (hb2.cell (p := ⟨w.heap.size + 1, 0, none⟩) (by first | (simp; done) | (simp; omega))).trans (by go_simp)
    replace r1 : w2.cell? ⟨w.heap.size + 1, 1, none⟩ = some (Value.slice none 0 0) := (hb2.cell (p := ⟨w.heap.size + 1, 1, none⟩) (by first | (simp; done) | (simp; omega))).trans (by go_simp)
    replace r2 : w2.cell? ⟨w.heap.size + 1, 2, none⟩ = some (Value.slice none 0 0) := (hb2.cell (p := ⟨w.heap.size + 1, 2, none⟩) (by first | (simp; done) | (simp; omega))).trans (by go_simp)
    replace r3 : w2.cell? ⟨w.heap.size + 1, 3, none⟩ = some (Value.slice none 0 0) := (hb2.cell (p := ⟨w.heap.size + 1, 3, none⟩) (by first | (simp; done) | (simp; omega))).trans (by go_simp)
    replace r4 : w2.cell? ⟨w.heap.size + 1, 4, none⟩ = some (Value.int .i64 0) := (hb2.cell (p := ⟨w.heap.size + 1, 4, none⟩) (by first | (simp; done) | (simp; omega))).trans (by go_simp)
    replace r5 : w2.cell? ⟨w.heap.size + 1, 5, none⟩ = some (Value.int .i64 0) := (hb2.cell (p := ⟨w.heap.size + 1, 5, none⟩) (by first | (simp; done) | (simp; omega))).trans (by go_simp)
    replace fr0 : w2.frozen? ⟨w.heap.size + 1, 0, none⟩ = false := (hb2.frozen (p := ⟨w.heap.size + 1, 0, none⟩) (by first | (simp; done) | (simp; omega))).trans (by go_simp)
    replace fr1 : w2.frozen? ⟨w.heap.size + 1, 1, none⟩ = false := (hb2.frozen (p := ⟨w.heap.size + 1, 1, none⟩) (by first | (simp; done) | (simp; omega))).trans (by go_simp)
    replace fr2 : w2.frozen? ⟨w.heap.size + 1, 2, none⟩ = false := (hb2.frozen (p := ⟨w.heap.size + 1, 2, none⟩) (by first | (simp; done) | (simp; omega))).trans (by go_simp)
    replace fr3 : w2.frozen? ⟨w.heap.size + 1, 3, none⟩ = false := (hb2.frozen (p := ⟨w.heap.size + 1, 3, none⟩) (by first | (simp; done) | (simp; omega))).trans (by go_simp)
    replace fr4 : w2.frozen? ⟨w.heap.size + 1, 4, none⟩ = false := (hb2.frozen (p := ⟨w.heap.size + 1, 4, none⟩) (by first | (simp; done) | (simp; omega))).trans (by go_simp)
    replace fr5 : w2.frozen? ⟨w.heap.size + 1, 5, none⟩ = false := (hb2.frozen (p := ⟨w.heap.size + 1, 5, none⟩) (by first | (simp; done) | (simp; omega))).trans (by go_simp)
    have x0 : w2.cell? ⟨w1.heap.size, 0, none⟩ = some (Value.slice ac h.n cc) := (hb2.cell (p := ⟨w1.heap.size, 0, none⟩) (by first | (simp; done) | (simp; omega))).trans (by go_simp)
    have fx0 : w2.frozen? ⟨w1.heap.size, 0, none⟩ = false := (hb2.frozen (p := ⟨w1.heap.size, 0, none⟩) (by first | (simp; done) | (simp; omega))).trans (by go_simp)
    have x1 : w2.cell? ⟨w1.heap.size, 1, none⟩ = some (Value.slice am h.ms.length cm) := (hb2.cell (p := ⟨w1.heap.size, 1, none⟩) (by first | (simp; done) | (simp; omega))).trans (by go_simp)
    have fx1 : w2.frozen? ⟨w1.heap.size, 1, none⟩ = false := (hb2.frozen (p := ⟨w1.heap.size, 1, none⟩) (by first | (simp; done) | (simp; omega))).trans (by go_simp)
    have x2 : w2.cell? ⟨w1.heap.size, 2, none⟩ = some (Value.slice ao h.os.length co) := (hb2.cell (p := ⟨w1.heap.size, 2, none⟩) (by first | (simp; done) | (simp; omega))).trans (by go_simp)
    have fx2 : w2.frozen? ⟨w1.heap.size, 2, none⟩ = false := (hb2.frozen (p := ⟨w1.heap.size, 2, none⟩) (by first | (simp; done) | (simp; omega))).trans (by go_simp)
    have x3 : w2.cell? ⟨w1.heap.size, 3, none⟩ = some (Value.slice at_ h.ts.length ct) := (hb2.cell (p := ⟨w1.heap.size, 3, none⟩) (by first | (simp; done) | (simp; omega))).trans (by go_simp)
    have fx3 : w2.frozen? ⟨w1.heap.size, 3, none⟩ = false := (hb2.frozen (p := ⟨w1.heap.size, 3, none⟩) (by first | (simp; done) | (simp; omega))).trans (by go_simp)
    have x4 : w2.cell? ⟨w1.heap.size, 4, none⟩ = some (Value.int .i64 h.sent) := (hb2.cell (p := ⟨w1.heap.size, 4, none⟩) (by first | (simp; done) | (simp; omega))).trans (by go_simp)
    have fx4 : w2.frozen? ⟨w1.heap.size, 4, none⟩ = false := (hb2.frozen (p := ⟨w1.heap.size, 4, none⟩) (by first | (simp; done) | (simp; omega))).trans (by go_simp)
    have x5 : w2.cell? ⟨w1.heap.size, 5, none⟩ = some (Value.int .i64 h.day) := (hb2.cell (p := ⟨w1.heap.size, 5, none⟩) (by first | (simp; done) | (simp; omega))).trans (by go_simp)
    have fx5 : w2.frozen? ⟨w1.heap.size, 5, none⟩ = false := (hb2.frozen (p := ⟨w1.heap.size, 5, none⟩) (by first | (simp; done) | (simp; omega))).trans (by go_simp)
    have z2 : w1.heap.size + 1 ≤ w2.heap.size := by have h := hb2.size; first | omega | (simp at h; omega)
    have y20 : w.heap.size < w2.heap.size := by omega
    have y21 : w.heap.size + 1 < w2.heap.size := by omega
    have yx2 : w1.heap.size < w2.heap.size := by omega
    replace hO := hO.below (bnext (balloc (bref w1) _) hb2)
    have D2 := bnext D1 (bnext (balloc (bref w1) _) hb2)
    have R2 := hr.below D2
    clear hb2 D1 R1
    have O2 := Lib.hid hO
    have DD := Lib.hid D2
    clear hO D2 R2 hr
    go_wp2_with (go_at_call 55; refine (l01In_any _ _ _ _).mono ?_; rintro e w' ⟨rfl, rfl⟩)
    refine bodyPost_ret (v := .tuple #[.agg #[.slice ac h.n cc, .slice am h.ms.length cm, .slice ao h.os.length co, .slice at_ h.ts.length ct, .int .i64 h.sent, .int .i64 h.day], .bool false]) (by simp [results, Try.results29, go_sem, r0, r1, r2, r3, r4, r5]) rfl ?_
    rw [H.out]
    have fin : ∀ WF : World, Only w.heap.size (w.heap.size + 2) w2 WF → HouseO w.heap.size WF.heap.size WF (.slice ac h.n cc) (.slice am h.ms.length cm) (.slice ao h.os.length co) (.slice at_ h.ts.length ct) h ∧ Below w.heap.size w WF := fun WF oF =>
      ⟨(O2.out.only oF (off_r (by omega))).wide (by omega) (by have := oF.size; omega), Only.below DD.out oF (Nat.le_refl _)⟩
    refine ⟨_, _, _, _, _, _, _, _, rfl, fin _ ?_⟩
    repeat (first | with_reducible exact Only.refl _ _ _ | with_reducible refine Only.alloc ?_ _ | with_reducible refine Only.set ?_ (by simp only []; omega) (by simp only []; omega) _)
  | true =>
    have hn12 := chainOk_n (daysOk_chain (houseOk_facts h1).days).1
    cases h2 : inB p 0 ((h.n : Int) - 1) with
    | false =>
      have H := Lib.hid (makeCopy_2 (d := d) (e := e') (o := o) h2)
      go_enter Try.func29, Try.ntmps29
      go_wp2_with fail
      refine (l38Copy_any _ _ _ _ h _ ((hr.alloc _).alloc _) hn hB).mono ?_
      rintro e w1 ⟨ac, cc, am, cm, ao, co, at_, ct, rfl, hO, hb1⟩
      have z1 : w.heap.size + 2 ≤ w1.heap.size := by have h := hb1.size; simp at h; omega
      replace hO := hO.wide (lo' := w.heap.size + 2) (by simp) (Nat.le_refl _)
      have b0 : w1.cell? ⟨w.heap.size, 0, none⟩ = some (Value.slice adc h.n capc) := (hb1.cell (p := ⟨w.heap.size, 0, none⟩) (by first | (simp; done) | (simp; omega))).trans (by go_simp)
      have b1 : w1.cell? ⟨w.heap.size, 1, none⟩ = some (Value.slice adm h.ms.length capm) := (hb1.cell (p := ⟨w.heap.size, 1, none⟩) (by first | (simp; done) | (simp; omega))).trans (by go_simp)
      have b2 : w1.cell? ⟨w.heap.size, 2, none⟩ = some (Value.slice ado h.os.length capo) := (hb1.cell (p := ⟨w.heap.size, 2, none⟩) (by first | (simp; done) | (simp; omega))).trans (by go_simp)
      have b3 : w1.cell? ⟨w.heap.size, 3, none⟩ = some (Value.slice adt h.ts.length capt) := (hb1.cell (p := ⟨w.heap.size, 3, none⟩) (by first | (simp; done) | (simp; omega))).trans (by go_simp)
      have b4 : w1.cell? ⟨w.heap.size, 4, none⟩ = some (Value.int .i64 h.sent) := (hb1.cell (p := ⟨w.heap.size, 4, none⟩) (by first | (simp; done) | (simp; omega))).trans (by go_simp)
      have b5 : w1.cell? ⟨w.heap.size, 5, none⟩ = some (Value.int .i64 h.day) := (hb1.cell (p := ⟨w.heap.size, 5, none⟩) (by first | (simp; done) | (simp; omega))).trans (by go_simp)
      have r0 : w1.cell? ⟨w.heap.size + 1, 0, none⟩ = some (Value.slice none 0 0) := (hb1.cell (p := ⟨w.heap.size + 1, 0, none⟩) (by first | (simp; done) | (simp; omega))).trans (by go_simp)
      have fr0 : w1.frozen? ⟨w.heap.size + 1, 0, none⟩ = false := (hb1.frozen (p := ⟨w.heap.size + 1, 0, none⟩) (by first | (simp; done) | (simp; omega))).trans (by go_simp)
      have r1 : w1.cell? ⟨w.heap.size + 1, 1, none⟩ = some (Value.slice none 0 0) := (hb1.cell (p := ⟨w.heap.size + 1, 1, none⟩) (by first | (simp; done) | (simp; omega))).trans (by go_simp)
      have fr1 : w1.frozen? ⟨w.heap.size + 1, 1, none⟩ = false := (hb1.frozen (p := ⟨w.heap.size + 1, 1, none⟩) (by first | (simp; done) | (simp; omega))).trans (by go_simp)
      have r2 : w1.cell? ⟨w.heap.size + 1, 2, none⟩ = some (Value.slice none 0 0) := (hb1.cell (p := ⟨w.heap.size + 1, 2, none⟩) (by first | (simp; done) | (simp; omega))).trans (by go_simp)
      have fr2 : w1.frozen? ⟨w.heap.size + 1, 2, none⟩ = false := (hb1.frozen (p := ⟨w.heap.size + 1, 2, none⟩) (by first | (simp; done) | (simp; omega))).trans (by go_simp)
      have r3 : w1.cell? ⟨w.heap.size + 1, 3, none⟩ = some (Value.slice none 0 0) := (hb1.cell (p := ⟨w.heap.size + 1, 3, none⟩) (by first | (simp; done) | (simp; omega))).trans (by go_simp)
      have fr3 : w1.frozen? ⟨w.heap.size + 1, 3, none⟩ = false := (hb1.frozen (p := ⟨w.heap.size + 1, 3, none⟩) (by first | (simp; done) | (simp; omega))).trans (by go_simp)
      have r4 : w1.cell? ⟨w.heap.size + 1, 4, none⟩ = some (Value.int .i64 0) := (hb1.cell (p := ⟨w.heap.size + 1, 4, none⟩) (by first | (simp; done) | (simp; omega))).trans (by go_simp)
      have fr4 : w1.frozen? ⟨w.heap.size + 1, 4, none⟩ = false := (hb1.frozen (p := ⟨w.heap.size + 1, 4, none⟩) (by first | (simp; done) | (simp; omega))).trans (by go_simp)
      have r5 : w1.cell? ⟨w.heap.size + 1, 5, none⟩ = some (Value.int .i64 0) := (hb1.cell (p := ⟨w.heap.size + 1, 5, none⟩) (by first | (simp; done) | (simp; omega))).trans (by go_simp)
      have fr5 : w1.frozen? ⟨w.heap.size + 1, 5, none⟩ = false := (hb1.frozen (p := ⟨w.heap.size + 1, 5, none⟩) (by first | (simp; done) | (simp; omega))).trans (by go_simp)
      have y10 : w.heap.size < w1.heap.size := by omega
      have y11 : w.heap.size + 1 < w1.heap.size := by omega
      have D1 := bnext (balloc (balloc (bref w) _) _) hb1
      have R1 := hr.below D1
      clear hb1
      go_wp2_with fail
      refine (specHouseOk _ _ _ _ h _ (R1.alloc _)).mono ?_
      rintro e w2 ⟨rfl, hb2⟩
      rw [h1]
      replace b0 : w2.cell? ⟨w.heap.size, 0, none⟩ = some (Value.slice adc h.n capc) := (hb2.cell (p := ⟨w.heap.size, 0, none⟩) (by first | (simp; done) | (simp; omega))).trans (by go_simp)
      replace b1 : w2.cell? ⟨w.heap.size, 1, none⟩ = some (Value.slice adm h.ms.length capm) := (hb2.cell (p := ⟨w.heap.size, 1, none⟩) (by first | (simp; done) | (simp; omega))).trans (by go_simp)
      replace b2 : w2.cell? ⟨w.heap.size, 2, none⟩ = some (Value.slice ado h.os.length capo) := (hb2.cell (p := ⟨w.heap.size, 2, none⟩) (by first | (simp; done) | (simp; omega))).trans (by go_simp)
      replace b3 : w2.cell? ⟨w.heap.size, 3, none⟩ = some (Value.slice adt h.ts.length capt) := (hb2.cell (p := ⟨w.heap.size, 3, none⟩) (by first | (simp; done) | (simp; omega))).trans (by go_simp)
      replace b4 : w2.cell? ⟨w.heap.size, 4, none⟩ = some (Value.int .i64 h.sent) := (hb2.cell (p := ⟨w.heap.size, 4, none⟩) (by first | (simp; done) | (simp; omega))).trans (by go_simp)
      replace b5 : w2.cell? ⟨w.heap.size, 5, none⟩ = some (Value.int .i64 h.day) := (hb2.cell (p := ⟨w.heap.size, 5, none⟩) (by first | (simp; done) | (simp; omega))).trans (by go_simp)
      replace r0 : w2.cell? ⟨w.heap.size + 1, 0, none⟩ = some (Value.slice none 0 0) := (hb2.cell (p := ⟨w.heap.size + 1, 0, none⟩) (by first | (simp; done) | (simp; omega))).trans (by go_simp)
      replace r1 : w2.cell? ⟨w.heap.size + 1, 1, none⟩ = some (Value.slice none 0 0) := (hb2.cell (p := ⟨w.heap.size + 1, 1, none⟩) (by first | (simp; done) | (simp; omega))).trans (by go_simp)
      replace r2 : w2.cell? ⟨w.heap.size + 1, 2, none⟩ = some (Value.slice none 0 0) := (hb2.cell (p := ⟨w.heap.size + 1, 2, none⟩) (by first | (simp; done) | (simp; omega))).trans (by go_simp)
      replace r3 : w2.cell? ⟨w.heap.size + 1, 3, none⟩ = some (Value.slice none 0 0) := (hb2.cell (p := ⟨w.heap.size + 1, 3, none⟩) (by first | (simp; done) | (simp; omega))).trans (by go_simp)
      replace r4 : w2.cell? ⟨w.heap.size + 1, 4, none⟩ = some (Value.int .i64 0) := (hb2.cell (p := ⟨w.heap.size + 1, 4, none⟩) (by first | (simp; done) | (simp; omega))).trans (by go_simp)
      replace r5 : w2.cell? ⟨w.heap.size + 1, 5, none⟩ = some (Value.int .i64 0) := (hb2.cell (p := ⟨w.heap.size + 1, 5, none⟩) (by first | (simp; done) | (simp; omega))).trans (by go_simp)
      replace fr0 : w2.frozen? ⟨w.heap.size + 1, 0, none⟩ = false := (hb2.frozen (p := ⟨w.heap.size + 1, 0, none⟩) (by first | (simp; done) | (simp; omega))).trans (by go_simp)
      replace fr1 : w2.frozen? ⟨w.heap.size + 1, 1, none⟩ = false := (hb2.frozen (p := ⟨w.heap.size + 1, 1, none⟩) (by first | (simp; done) | (simp; omega))).trans (by go_simp)
      replace fr2 : w2.frozen? ⟨w.heap.size + 1, 2, none⟩ = false := (hb2.frozen (p := ⟨w.heap.size + 1, 2, none⟩) (by first | (simp; done) | (simp; omega))).trans (by go_simp)
      replace fr3 : w2.frozen? ⟨w.heap.size + 1, 3, none⟩ = false := (hb2.frozen (p := ⟨w.heap.size + 1, 3, none⟩) (by first | (simp; done) | (simp; omega))).trans (by go_simp)
      replace fr4 : w2.frozen? ⟨w.heap.size + 1, 4, none⟩ = false := (hb2.frozen (p := ⟨w.heap.size + 1, 4, none⟩) (by first | (simp; done) | (simp; omega))).trans (by go_simp)
      replace fr5 : w2.frozen? ⟨w.heap.size + 1, 5, none⟩ = false := (hb2.frozen (p := ⟨w.heap.size + 1, 5, none⟩) (by first | (simp; done) | (simp; omega))).trans (by go_simp)
      have x0 : w2.cell? ⟨w1.heap.size, 0, none⟩ = some (Value.slice ac h.n cc) := (hb2.cell (p := ⟨w1.heap.size, 0, none⟩) (by first | (simp; done) | (simp; omega))).trans (by go_simp)
      have fx0 : w2.frozen? ⟨w1.heap.size, 0, none⟩ = false := (hb2.frozen (p := ⟨w1.heap.size, 0, none⟩) (by first | (simp; done) | (simp; omega))).trans (by go_simp)
      have x1 : w2.cell? ⟨w1.heap.size, 1, none⟩ = some (Value.slice am h.ms.length cm) := (hb2.cell (p := ⟨w1.heap.size, 1, none⟩) (by first | (simp; done) | (simp; omega))).trans (by go_simp)
      have fx1 : w2.frozen? ⟨w1.heap.size, 1, none⟩ = false := (hb2.frozen (p := ⟨w1.heap.size, 1, none⟩) (by first | (simp; done) | (simp; omega))).trans (by go_simp)
      have x2 : w2.cell? ⟨w1.heap.size, 2, none⟩ = some (Value.slice ao h.os.length co) := (hb2.cell (p := ⟨w1.heap.size, 2, none⟩) (by first | (simp; done) | (simp; omega))).trans (by go_simp)
      have fx2 : w2.frozen? ⟨w1.heap.size, 2, none⟩ = false := (hb2.frozen (p := ⟨w1.heap.size, 2, none⟩) (by first | (simp; done) | (simp; omega))).trans (by go_simp)
      have x3 : w2.cell? ⟨w1.heap.size, 3, none⟩ = some (Value.slice at_ h.ts.length ct) := (hb2.cell (p := ⟨w1.heap.size, 3, none⟩) (by first | (simp; done) | (simp; omega))).trans (by go_simp)
      have fx3 : w2.frozen? ⟨w1.heap.size, 3, none⟩ = false := (hb2.frozen (p := ⟨w1.heap.size, 3, none⟩) (by first | (simp; done) | (simp; omega))).trans (by go_simp)
      have x4 : w2.cell? ⟨w1.heap.size, 4, none⟩ = some (Value.int .i64 h.sent) := (hb2.cell (p := ⟨w1.heap.size, 4, none⟩) (by first | (simp; done) | (simp; omega))).trans (by go_simp)
      have fx4 : w2.frozen? ⟨w1.heap.size, 4, none⟩ = false := (hb2.frozen (p := ⟨w1.heap.size, 4, none⟩) (by first | (simp; done) | (simp; omega))).trans (by go_simp)
      have x5 : w2.cell? ⟨w1.heap.size, 5, none⟩ = some (Value.int .i64 h.day) := (hb2.cell (p := ⟨w1.heap.size, 5, none⟩) (by first | (simp; done) | (simp; omega))).trans (by go_simp)
      have fx5 : w2.frozen? ⟨w1.heap.size, 5, none⟩ = false := (hb2.frozen (p := ⟨w1.heap.size, 5, none⟩) (by first | (simp; done) | (simp; omega))).trans (by go_simp)
      have z2 : w1.heap.size + 1 ≤ w2.heap.size := by have h := hb2.size; first | omega | (simp at h; omega)
      have y20 : w.heap.size < w2.heap.size := by omega
      have y21 : w.heap.size + 1 < w2.heap.size := by omega
      have yx2 : w1.heap.size < w2.heap.size := by omega
      replace hO := hO.below (bnext (balloc (bref w1) _) hb2)
      have D2 := bnext D1 (bnext (balloc (bref w1) _) hb2)
      have R2 := hr.below D2
      clear hb2 D1 R1
      have O2 := Lib.hid hO
      have DD := Lib.hid D2
      clear hO D2 R2 hr
      go_wp2_with (go_at_call 55; refine (l01In_any _ _ _ _).mono ?_; rintro e w' ⟨rfl, rfl⟩)
      refine bodyPost_ret (v := .tuple #[.agg #[.slice ac h.n cc, .slice am h.ms.length cm, .slice ao h.os.length co, .slice at_ h.ts.length ct, .int .i64 h.sent, .int .i64 h.day], .bool false]) (by simp [results, Try.results29, go_sem, r0, r1, r2, r3, r4, r5]) rfl ?_
      rw [H.out]
      have fin : ∀ WF : World, Only w.heap.size (w.heap.size + 2) w2 WF → HouseO w.heap.size WF.heap.size WF (.slice ac h.n cc) (.slice am h.ms.length cm) (.slice ao h.os.length co) (.slice at_ h.ts.length ct) h ∧ Below w.heap.size w WF := fun WF oF =>
        ⟨(O2.out.only oF (off_r (by omega))).wide (by omega) (by have := oF.size; omega), Only.below DD.out oF (Nat.le_refl _)⟩
      refine ⟨_, _, _, _, _, _, _, _, rfl, fin _ ?_⟩
      repeat (first | with_reducible exact Only.refl _ _ _ | with_reducible refine Only.alloc ?_ _ | with_reducible refine Only.set ?_ (by simp only []; omega) (by simp only []; omega) _)
    | true =>
      go_enter Try.func29, Try.ntmps29
      go_wp2_with fail
      refine (l38Copy_any _ _ _ _ h _ ((hr.alloc _).alloc _) hn hB).mono ?_
      rintro e w1 ⟨ac, cc, am, cm, ao, co, at_, ct, rfl, hO, hb1⟩
      have z1 : w.heap.size + 2 ≤ w1.heap.size := by have h := hb1.size; simp at h; omega
      replace hO := hO.wide (lo' := w.heap.size + 2) (by simp) (Nat.le_refl _)
      have b0 : w1.cell? ⟨w.heap.size, 0, none⟩ = some (Value.slice adc h.n capc) := (hb1.cell (p := ⟨w.heap.size, 0, none⟩) (by first | (simp; done) | (simp; omega))).trans (by go_simp)
      have b1 : w1.cell? ⟨w.heap.size, 1, none⟩ = some (Value.slice adm h.ms.length capm) := (hb1.cell (p := ⟨w.heap.size, 1, none⟩) (by first | (simp; done) | (simp; omega))).trans (by go_simp)
      have b2 : w1.cell? ⟨w.heap.size, 2, none⟩ = some (Value.slice ado h.os.length capo) := (hb1.cell (p := ⟨w.heap.size, 2, none⟩) (by first | (simp; done) | (simp; omega))).trans (by go_simp)
      have b3 : w1.cell? ⟨w.heap.size, 3, none⟩ = some (Value.slice adt h.ts.length capt) := (hb1.cell (p := ⟨w.heap.size, 3, none⟩) (by first | (simp; done) | (simp; omega))).trans (by go_simp)
      have b4 : w1.cell? ⟨w.heap.size, 4, none⟩ = some (Value.int .i64 h.sent) := (hb1.cell (p := ⟨w.heap.size, 4, none⟩) (by first | (simp; done) | (simp; omega))).trans (by go_simp)
      have b5 : w1.cell? ⟨w.heap.size, 5, none⟩ = some (Value.int .i64 h.day) := (hb1.cell (p := ⟨w.heap.size, 5, none⟩) (by first | (simp; done) | (simp; omega))).trans (by go_simp)
      have r0 : w1.cell? ⟨w.heap.size + 1, 0, none⟩ = some (Value.slice none 0 0) := (hb1.cell (p := ⟨w.heap.size + 1, 0, none⟩) (by first | (simp; done) | (simp; omega))).trans (by go_simp)
      have fr0 : w1.frozen? ⟨w.heap.size + 1, 0, none⟩ = false := (hb1.frozen (p := ⟨w.heap.size + 1, 0, none⟩) (by first | (simp; done) | (simp; omega))).trans (by go_simp)
      have r1 : w1.cell? ⟨w.heap.size + 1, 1, none⟩ = some (Value.slice none 0 0) := (hb1.cell (p := ⟨w.heap.size + 1, 1, none⟩) (by first | (simp; done) | (simp; omega))).trans (by go_simp)
      have fr1 : w1.frozen? ⟨w.heap.size + 1, 1, none⟩ = false := (hb1.frozen (p := ⟨w.heap.size + 1, 1, none⟩) (by first | (simp; done) | (simp; omega))).trans (by go_simp)
      have r2 : w1.cell? ⟨w.heap.size + 1, 2, none⟩ = some (Value.slice none 0 0) := (hb1.cell (p := ⟨w.heap.size + 1, 2, none⟩) (by first | (simp; done) | (simp; omega))).trans (by go_simp)
      have fr2 : w1.frozen? ⟨w.heap.size + 1, 2, none⟩ = false := (hb1.frozen (p := ⟨w.heap.size + 1, 2, none⟩) (by first | (simp; done) | (simp; omega))).trans (by go_simp)
      have r3 : w1.cell? ⟨w.heap.size + 1, 3, none⟩ = some (Value.slice none 0 0) := (hb1.cell (p := ⟨w.heap.size + 1, 3, none⟩) (by first | (simp; done) | (simp; omega))).trans (by go_simp)
      have fr3 : w1.frozen? ⟨w.heap.size + 1, 3, none⟩ = false := (hb1.frozen (p := ⟨w.heap.size + 1, 3, none⟩) (by first | (simp; done) | (simp; omega))).trans (by go_simp)
      have r4 : w1.cell? ⟨w.heap.size + 1, 4, none⟩ = some (Value.int .i64 0) := (hb1.cell (p := ⟨w.heap.size + 1, 4, none⟩) (by first | (simp; done) | (simp; omega))).trans (by go_simp)
      have fr4 : w1.frozen? ⟨w.heap.size + 1, 4, none⟩ = false := (hb1.frozen (p := ⟨w.heap.size + 1, 4, none⟩) (by first | (simp; done) | (simp; omega))).trans (by go_simp)
      have r5 : w1.cell? ⟨w.heap.size + 1, 5, none⟩ = some (Value.int .i64 0) := (hb1.cell (p := ⟨w.heap.size + 1, 5, none⟩) (by first | (simp; done) | (simp; omega))).trans (by go_simp)
      have fr5 : w1.frozen? ⟨w.heap.size + 1, 5, none⟩ = false := (hb1.frozen (p := ⟨w.heap.size + 1, 5, none⟩) (by first | (simp; done) | (simp; omega))).trans (by go_simp)
      have y10 : w.heap.size < w1.heap.size := by omega
      have y11 : w.heap.size + 1 < w1.heap.size := by omega
      have D1 := bnext (balloc (balloc (bref w) _) _) hb1
      have R1 := hr.below D1
      clear hb1
      go_wp2_with fail
      refine (specHouseOk _ _ _ _ h _ (R1.alloc _)).mono ?_
      rintro e w2 ⟨rfl, hb2⟩
      rw [h1]
      replace b0 : w2.cell? ⟨w.heap.size, 0, none⟩ = some (Value.slice adc h.n capc) := (hb2.cell (p := ⟨w.heap.size, 0, none⟩) (by first | (simp; done) | (simp; omega))).trans (by go_simp)
      replace b1 : w2.cell? ⟨w.heap.size, 1, none⟩ = some (Value.slice adm h.ms.length capm) := (hb2.cell (p := ⟨w.heap.size, 1, none⟩) (by first | (simp; done) | (simp; omega))).trans (by go_simp)
      replace b2 : w2.cell? ⟨w.heap.size, 2, none⟩ = some (Value.slice ado h.os.length capo) := (hb2.cell (p := ⟨w.heap.size, 2, none⟩) (by first | (simp; done) | (simp; omega))).trans (by go_simp)
      replace b3 : w2.cell? ⟨w.heap.size, 3, none⟩ = some (Value.slice adt h.ts.length capt) := (hb2.cell (p := ⟨w.heap.size, 3, none⟩) (by first | (simp; done) | (simp; omega))).trans (by go_simp)
      replace b4 : w2.cell? ⟨w.heap.size, 4, none⟩ = some (Value.int .i64 h.sent) := (hb2.cell (p := ⟨w.heap.size, 4, none⟩) (by first | (simp; done) | (simp; omega))).trans (by go_simp)
      replace b5 : w2.cell? ⟨w.heap.size, 5, none⟩ = some (Value.int .i64 h.day) := (hb2.cell (p := ⟨w.heap.size, 5, none⟩) (by first | (simp; done) | (simp; omega))).trans (by go_simp)
      replace r0 : w2.cell? ⟨w.heap.size + 1, 0, none⟩ = some (Value.slice none 0 0) := (hb2.cell (p := ⟨w.heap.size + 1, 0, none⟩) (by first | (simp; done) | (simp; omega))).trans (by go_simp)
      replace r1 : w2.cell? ⟨w.heap.size + 1, 1, none⟩ = some (Value.slice none 0 0) := (hb2.cell (p := ⟨w.heap.size + 1, 1, none⟩) (by first | (simp; done) | (simp; omega))).trans (by go_simp)
      replace r2 : w2.cell? ⟨w.heap.size + 1, 2, none⟩ = some (Value.slice none 0 0) := (hb2.cell (p := ⟨w.heap.size + 1, 2, none⟩) (by first | (simp; done) | (simp; omega))).trans (by go_simp)
      replace r3 : w2.cell? ⟨w.heap.size + 1, 3, none⟩ = some (Value.slice none 0 0) := (hb2.cell (p := ⟨w.heap.size + 1, 3, none⟩) (by first | (simp; done) | (simp; omega))).trans (by go_simp)
      replace r4 : w2.cell? ⟨w.heap.size + 1, 4, none⟩ = some (Value.int .i64 0) := (hb2.cell (p := ⟨w.heap.size + 1, 4, none⟩) (by first | (simp; done) | (simp; omega))).trans (by go_simp)
      replace r5 : w2.cell? ⟨w.heap.size + 1, 5, none⟩ = some (Value.int .i64 0) := (hb2.cell (p := ⟨w.heap.size + 1, 5, none⟩) (by first | (simp; done) | (simp; omega))).trans (by go_simp)
      replace fr0 : w2.frozen? ⟨w.heap.size + 1, 0, none⟩ = false := (hb2.frozen (p := ⟨w.heap.size + 1, 0, none⟩) (by first | (simp; done) | (simp; omega))).trans (by go_simp)
      replace fr1 : w2.frozen? ⟨w.heap.size + 1, 1, none⟩ = false := (hb2.frozen (p := ⟨w.heap.size + 1, 1, none⟩) (by first | (simp; done) | (simp; omega))).trans (by go_simp)
      replace fr2 : w2.frozen? ⟨w.heap.size + 1, 2, none⟩ = false := (hb2.frozen (p := ⟨w.heap.size + 1, 2, none⟩) (by first | (simp; done) | (simp; omega))).trans (by go_simp)
      replace fr3 : w2.frozen? ⟨w.heap.size + 1, 3, none⟩ = false := (hb2.frozen (p := ⟨w.heap.size + 1, 3, none⟩) (by first | (simp; done) | (simp; omega))).trans (by go_simp)
      replace fr4 : w2.frozen? ⟨w.heap.size + 1, 4, none⟩ = false := (hb2.frozen (p := ⟨w.heap.size + 1, 4, none⟩) (by first | (simp; done) | (simp; omega))).trans (by go_simp)
      replace fr5 : w2.frozen? ⟨w.heap.size + 1, 5, none⟩ = false := (hb2.frozen (p := ⟨w.heap.size + 1, 5, none⟩) (by first | (simp; done) | (simp; omega))).trans (by go_simp)
      have x0 : w2.cell? ⟨w1.heap.size, 0, none⟩ = some (Value.slice ac h.n cc) := (hb2.cell (p := ⟨w1.heap.size, 0, none⟩) (by first | (simp; done) | (simp; omega))).trans (by go_simp)
      have fx0 : w2.frozen? ⟨w1.heap.size, 0, none⟩ = false := (hb2.frozen (p := ⟨w1.heap.size, 0, none⟩) (by first | (simp; done) | (simp; omega))).trans (by go_simp)
      have x1 : w2.cell? ⟨w1.heap.size, 1, none⟩ = some (Value.slice am h.ms.length cm) := (hb2.cell (p := ⟨w1.heap.size, 1, none⟩) (by first | (simp; done) | (simp; omega))).trans (by go_simp)
      have fx1 : w2.frozen? ⟨w1.heap.size, 1, none⟩ = false := (hb2.frozen (p := ⟨w1.heap.size, 1, none⟩) (by first | (simp; done) | (simp; omega))).trans (by go_simp)
      have x2 : w2.cell? ⟨w1.heap.size, 2, none⟩ = some (Value.slice ao h.os.length co) := (hb2.cell (p := ⟨w1.heap.size, 2, none⟩) (by first | (simp; done) | (simp; omega))).trans (by go_simp)
      have fx2 : w2.frozen? ⟨w1.heap.size, 2, none⟩ = false := (hb2.frozen (p := ⟨w1.heap.size, 2, none⟩) (by first | (simp; done) | (simp; omega))).trans (by go_simp)
      have x3 : w2.cell? ⟨w1.heap.size, 3, none⟩ = some (Value.slice at_ h.ts.length ct) := (hb2.cell (p := ⟨w1.heap.size, 3, none⟩) (by first | (simp; done) | (simp; omega))).trans (by go_simp)
      have fx3 : w2.frozen? ⟨w1.heap.size, 3, none⟩ = false := (hb2.frozen (p := ⟨w1.heap.size, 3, none⟩) (by first | (simp; done) | (simp; omega))).trans (by go_simp)
      have x4 : w2.cell? ⟨w1.heap.size, 4, none⟩ = some (Value.int .i64 h.sent) := (hb2.cell (p := ⟨w1.heap.size, 4, none⟩) (by first | (simp; done) | (simp; omega))).trans (by go_simp)
      have fx4 : w2.frozen? ⟨w1.heap.size, 4, none⟩ = false := (hb2.frozen (p := ⟨w1.heap.size, 4, none⟩) (by first | (simp; done) | (simp; omega))).trans (by go_simp)
      have x5 : w2.cell? ⟨w1.heap.size, 5, none⟩ = some (Value.int .i64 h.day) := (hb2.cell (p := ⟨w1.heap.size, 5, none⟩) (by first | (simp; done) | (simp; omega))).trans (by go_simp)
      have fx5 : w2.frozen? ⟨w1.heap.size, 5, none⟩ = false := (hb2.frozen (p := ⟨w1.heap.size, 5, none⟩) (by first | (simp; done) | (simp; omega))).trans (by go_simp)
      have z2 : w1.heap.size + 1 ≤ w2.heap.size := by have h := hb2.size; first | omega | (simp at h; omega)
      have y20 : w.heap.size < w2.heap.size := by omega
      have y21 : w.heap.size + 1 < w2.heap.size := by omega
      have yx2 : w1.heap.size < w2.heap.size := by omega
      replace hO := hO.below (bnext (balloc (bref w1) _) hb2)
      have D2 := bnext D1 (bnext (balloc (bref w1) _) hb2)
      have R2 := hr.below D2
      clear hb2 D1 R1
      have HB := Lib.hid (show HouseB h 1048575 from (by have c := houseOk_b h1; exact ⟨by have := c.n; omega, by have := c.ms; omega, by have := c.os; omega, by have := c.ts; omega⟩))
      have hbm := hB.ms
      have hbo := hB.os
      have DD := Lib.hid D2
      have xc : (Value.slice ac h.n cc).ownBlock ≠ some (w1.heap.size) := fun e => by have := (hO.c.at _ e).2; omega
      have xm : (Value.slice am h.ms.length cm).ownBlock ≠ some (w1.heap.size) := fun e => by have := (hO.m.at _ e).2; omega
      have xo : (Value.slice ao h.os.length co).ownBlock ≠ some (w1.heap.size) := fun e => by have := (hO.o.at _ e).2; omega
      have xt : (Value.slice at_ h.ts.length ct).ownBlock ≠ some (w1.heap.size) := fun e => by have := (hO.t.at _ e).2; omega
      have OC := hO.below (balloc (bref w2) (.cells #[.int .i64 p, .int .i64 d, .int .i64 e'] 40))
      have OCh := Lib.hid OC
      have ocown := OC.c.own
      have LT3 : w1.heap.size < (w2.alloc (.cells #[.int .i64 p, .int .i64 d, .int .i64 e'] 40)).heap.size := by simp; omega
      have NX3 : ∀ b, b < w.heap.size + 2 ∨ b = w1.heap.size → (Value.slice ac h.n cc).ownBlock ≠ some b := fun b q e => q.elim (fun q => by have := (hO.c.at _ e).1; omega) (fun q => xc (q ▸ e))
      have s3 : (w2.alloc (.cells #[.int .i64 p, .int .i64 d, .int .i64 e'] 40)).heap.size = w2.heap.size + 1 := by simp
      have S3 := Lib.hid s3
      have X3 := Lib.hid (And.intro xc (And.intro xm (And.intro xo xt)))
      have NX3' := Lib.hid NX3
      have NX4' := Lib.hid (show ∀ b, b < w.heap.size + 2 ∨ b = w1.heap.size → (Value.slice am h.ms.length cm).ownBlock ≠ some b from fun b q e => q.elim (fun q => by have := (hO.m.at _ e).1; omega) (fun q => xm (q ▸ e)))
      have NX5' := Lib.hid (show ∀ b, b < w.heap.size + 2 ∨ b = w1.heap.size → (Value.slice ao h.os.length co).ownBlock ≠ some b from fun b q e => q.elim (fun q => by have := (hO.o.at _ e).1; omega) (fun q => xo (q ▸ e)))
      clear hO D2 OC xc xm xo xt s3 NX3
      go_wp2_with (first | (go_at_call 55; refine (l01In_any _ _ _ _).mono ?_; rintro e w' ⟨rfl, rfl⟩) | (at_builtin; refine wpList_append_own_at _ rfl _ _ 24 rfl (w.heap.size + 2) 40 i0 (.agg #[.int .i64 0, .int .i64 0, .int .i64 0]) 3 24 Try.underlying24 hi hz0 hz1 hz2 rfl (by decide) _ _ _ rfl ocown ⟨w2.heap.size, 0, none⟩ 1 1 [.int .i64 p, .int .i64 d, .int .i64 e'] rfl rfl (cell_three_new _ _ _ _ _ _ (by simp)) (ints_oneCell .i64 [p, d, e']) (by unfold maxLen; omega) (by omega) (by simp; omega) ?_; intro v' w3 hown hgrow hnil hat; obtain ⟨ac', cc', rfl⟩ := own_form hown; have NX3 := NX3'.out; have cq3 : ∀ b f, b < w.heap.size + 2 ∨ b = w1.heap.size → w3.cell? ⟨b, f, none⟩ = (w2.alloc (.cells #[.int .i64 p, .int .i64 d, .int .i64 e'] 40)).cell? ⟨b, f, none⟩ := fun b f q => World.cell?_of_block (hgrow.block b (by have := LT3; omega) (fun e => NX3 b q e.symm)); have fq3 : ∀ b f, b < w.heap.size + 2 ∨ b = w1.heap.size → w3.frozen? ⟨b, f, none⟩ = (w2.alloc (.cells #[.int .i64 p, .int .i64 d, .int .i64 e'] 40)).frozen? ⟨b, f, none⟩ := fun b f q => World.frozen?_of_block (hgrow.block b (by have := LT3; omega) (fun e => NX3 b q e.symm)); have HC := Lib.hid (OCh.out.addC (p := p) (d := d) (e := e') (by have := S3.out; omega) (by simpa using hown) hgrow hat); have XC := Lib.hid (not_app X3.out.1 (by have := S3.out; omega) hat); have D3 := Lib.hid (below_app (o := 0) (u := .slice ac' (h.n + 1) cc') (balloc DD.out _) hgrow (fun b e => by have := (OCh.out.c.at _ e).1; omega) (show w.heap.size ≤ w1.heap.size by omega)); have z3 : w2.heap.size + 1 ≤ w3.heap.size := S3.out ▸ hgrow.size; have ya3 : w.heap.size < w3.heap.size := (by omega); have yb3 : w.heap.size + 1 < w3.heap.size := (by omega); have yx3 : w1.heap.size < w3.heap.size := (by omega); have HM := Lib.hid ((HC.out.setX XC.out X3.out.2.1 X3.out.2.2.1 X3.out.2.2.2 0 (.slice ac' (h.n + 1) cc')).below (balloc (bref _) (.cells #[.int .i64 h.day] 3))); have ocm : ((w3.setCell ⟨w1.heap.size, 0, none⟩ (.slice ac' (h.n + 1) cc')).alloc (.cells #[.int .i64 h.day] 3)).ownsRow (w.heap.size + 2) 3 1 (.slice am h.ms.length cm) h.ms.length (h.ms.map (Value.int .i64)) := HM.out.m.own; have LT4 : w1.heap.size < ((w3.setCell ⟨w1.heap.size, 0, none⟩ (.slice ac' (h.n + 1) cc')).alloc (.cells #[.int .i64 h.day] 3)).heap.size := (by simp; omega); clear hown hgrow hnil hat NX3 ocown) | (at_builtin; refine wpList_append_own_at _ rfl _ _ 25 rfl (w.heap.size + 2) 3 j0 (.int .i64 0) 1 8 Try.underlying25 hj jz0 jz1 jz2 rfl (by decide) _ _ _ rfl ocm ⟨w3.heap.size, 0, none⟩ 1 1 [.int .i64 h.day] rfl rfl (cell_one_new' _ _ _ _ (by simp)) (ints_oneCell .i64 [h.day]) (by unfold maxLen; omega) (by omega) (by simp; omega) ?_; intro v' w4 hown hgrow hnil hat; obtain ⟨am', cm', rfl⟩ := own_form hown; have NX4 := NX4'.out; have cq4 : ∀ b f, b < w.heap.size + 2 ∨ b = w1.heap.size → w4.cell? ⟨b, f, none⟩ = ((w3.setCell ⟨w1.heap.size, 0, none⟩ (.slice ac' (h.n + 1) cc')).alloc (.cells #[.int .i64 h.day] 3)).cell? ⟨b, f, none⟩ := fun b f q => World.cell?_of_block (hgrow.block b (by have := LT4; omega) (fun e => NX4 b q e.symm)); have fq4 : ∀ b f, b < w.heap.size + 2 ∨ b = w1.heap.size → w4.frozen? ⟨b, f, none⟩ = ((w3.setCell ⟨w1.heap.size, 0, none⟩ (.slice ac' (h.n + 1) cc')).alloc (.cells #[.int .i64 h.day] 3)).frozen? ⟨b, f, none⟩ := fun b f q => World.frozen?_of_block (hgrow.block b (by have := LT4; omega) (fun e => NX4 b q e.symm)); have HN := Lib.hid (HM.out.addM (x := h.day) (by simp) (by simpa using hown) hgrow hat); have XM := Lib.hid (not_app X3.out.2.1 (by simp; omega) hat); have D4 := Lib.hid (below_app (o := 1) (u := .slice am' (h.ms.length + 1) cm') (balloc D3.out _) hgrow (fun b e => by have := (HM.out.m.at _ e).1; omega) (show w.heap.size ≤ w1.heap.size by omega)); have z4 : w3.heap.size + 1 ≤ w4.heap.size := (by have q := hgrow.size; simp at q; omega); have ya4 : w.heap.size < w4.heap.size := (by omega); have yb4 : w.heap.size + 1 < w4.heap.size := (by omega); have yx4 : w1.heap.size < w4.heap.size := (by omega); have HP := Lib.hid ((HN.out.setX XC.out XM.out X3.out.2.2.1 X3.out.2.2.2 1 (.slice am' (h.ms.length + 1) cm')).below (balloc (bref _) (.cells #[.int .i64 o] 3))); have oco : ((w4.setCell ⟨w1.heap.size, 1, none⟩ (.slice am' (h.ms.length + 1) cm')).alloc (.cells #[.int .i64 o] 3)).ownsRow (w.heap.size + 2) 3 1 (.slice ao h.os.length co) h.os.length (h.os.map (Value.int .i64)) := HP.out.o.own; have LT5 : w1.heap.size < ((w4.setCell ⟨w1.heap.size, 1, none⟩ (.slice am' (h.ms.length + 1) cm')).alloc (.cells #[.int .i64 o] 3)).heap.size := (by simp; omega); clear hown hgrow hnil hat NX4 ocm) | (at_builtin; refine wpList_append_own_at _ rfl _ _ 25 rfl (w.heap.size + 2) 3 j0 (.int .i64 0) 1 8 Try.underlying25 hj jz0 jz1 jz2 rfl (by decide) _ _ _ rfl oco ⟨w4.heap.size, 0, none⟩ 1 1 [.int .i64 o] rfl rfl (cell_one_new' _ _ _ _ (by simp)) (ints_oneCell .i64 [o]) (by unfold maxLen; omega) (by omega) (by simp; omega) ?_; intro v' w5 hown hgrow hnil hat; obtain ⟨ao', co', rfl⟩ := own_form hown; have NX5 := NX5'.out; have cq5 : ∀ b f, b < w.heap.size + 2 ∨ b = w1.heap.size → w5.cell? ⟨b, f, none⟩ = ((w4.setCell ⟨w1.heap.size, 1, none⟩ (.slice am' (h.ms.length + 1) cm')).alloc (.cells #[.int .i64 o] 3)).cell? ⟨b, f, none⟩ := fun b f q => World.cell?_of_block (hgrow.block b (by have := LT5; omega) (fun e => NX5 b q e.symm)); have fq5 : ∀ b f, b < w.heap.size + 2 ∨ b = w1.heap.size → w5.frozen? ⟨b, f, none⟩ = ((w4.setCell ⟨w1.heap.size, 1, none⟩ (.slice am' (h.ms.length + 1) cm')).alloc (.cells #[.int .i64 o] 3)).frozen? ⟨b, f, none⟩ := fun b f q => World.frozen?_of_block (hgrow.block b (by have := LT5; omega) (fun e => NX5 b q e.symm)); have HO := Lib.hid (HP.out.addO (x := o) (by simp) (by simpa using hown) hgrow hat); have XO := Lib.hid (not_app X3.out.2.2.1 (by simp; omega) hat); have D5 := Lib.hid (below_app (o := 2) (u := .slice ao' (h.os.length + 1) co') (balloc D4.out _) hgrow (fun b e => by have := (HP.out.o.at _ e).1; omega) (show w.heap.size ≤ w1.heap.size by omega)); have z5 : w4.heap.size + 1 ≤ w5.heap.size := (by have q := hgrow.size; simp at q; omega); have ya5 : w.heap.size < w5.heap.size := (by omega); have yb5 : w.heap.size + 1 < w5.heap.size := (by omega); have yx5 : w1.heap.size < w5.heap.size := (by omega); clear hown hgrow hnil hat NX5 oco))
      have HF := HO.out.setX XC.out XM.out XO.out X3.out.2.2.2 2 (.slice ao' (h.os.length + 1) co')
      have RF : HouseR (w5.setCell ⟨w1.heap.size, 2, none⟩ (.slice ao' (h.os.length + 1) co')) (.slice ac' (h.n + 1) cc') (.slice am' (h.ms.length + 1) cm') (.slice ao' (h.os.length + 1) co') (.slice at_ h.ts.length ct) (h.more p d e' o) := HF.read (more_b HB.out p d e' o)
      have QF := Lib.hid HF
      clear HF
      refine (specHouseOk _ _ _ _ (h.more p d e' o) _ RF).mono ?_
      rintro e w6 ⟨rfl, hb6⟩
      clear RF
      have X0 : w6.cell? ⟨w1.heap.size, 0, none⟩ = some (Value.slice ac' (h.n + 1) cc') := (hb6.cell (p := ⟨w1.heap.size, 0, none⟩) (by first | (simp; done) | (simp; omega))).trans (by go_simp)
      have X1 : w6.cell? ⟨w1.heap.size, 1, none⟩ = some (Value.slice am' (h.ms.length + 1) cm') := (hb6.cell (p := ⟨w1.heap.size, 1, none⟩) (by first | (simp; done) | (simp; omega))).trans (by go_simp)
      have X2 : w6.cell? ⟨w1.heap.size, 2, none⟩ = some (Value.slice ao' (h.os.length + 1) co') := (hb6.cell (p := ⟨w1.heap.size, 2, none⟩) (by first | (simp; done) | (simp; omega))).trans (by go_simp)
      have X3 : w6.cell? ⟨w1.heap.size, 3, none⟩ = some (Value.slice at_ h.ts.length ct) := (hb6.cell (p := ⟨w1.heap.size, 3, none⟩) (by first | (simp; done) | (simp; omega))).trans (by go_simp)
      have X4 : w6.cell? ⟨w1.heap.size, 4, none⟩ = some (Value.int .i64 h.sent) := (hb6.cell (p := ⟨w1.heap.size, 4, none⟩) (by first | (simp; done) | (simp; omega))).trans (by go_simp)
      have X5 : w6.cell? ⟨w1.heap.size, 5, none⟩ = some (Value.int .i64 h.day) := (hb6.cell (p := ⟨w1.heap.size, 5, none⟩) (by first | (simp; done) | (simp; omega))).trans (by go_simp)
      have b0 : w6.cell? ⟨w.heap.size, 0, none⟩ = some (Value.slice adc h.n capc) := (hb6.cell (p := ⟨w.heap.size, 0, none⟩) (by first | (simp; done) | (simp; omega))).trans (by go_simp)
      have b1 : w6.cell? ⟨w.heap.size, 1, none⟩ = some (Value.slice adm h.ms.length capm) := (hb6.cell (p := ⟨w.heap.size, 1, none⟩) (by first | (simp; done) | (simp; omega))).trans (by go_simp)
      have b2 : w6.cell? ⟨w.heap.size, 2, none⟩ = some (Value.slice ado h.os.length capo) := (hb6.cell (p := ⟨w.heap.size, 2, none⟩) (by first | (simp; done) | (simp; omega))).trans (by go_simp)
      have b3 : w6.cell? ⟨w.heap.size, 3, none⟩ = some (Value.slice adt h.ts.length capt) := (hb6.cell (p := ⟨w.heap.size, 3, none⟩) (by first | (simp; done) | (simp; omega))).trans (by go_simp)
      have b4 : w6.cell? ⟨w.heap.size, 4, none⟩ = some (Value.int .i64 h.sent) := (hb6.cell (p := ⟨w.heap.size, 4, none⟩) (by first | (simp; done) | (simp; omega))).trans (by go_simp)
      have b5 : w6.cell? ⟨w.heap.size, 5, none⟩ = some (Value.int .i64 h.day) := (hb6.cell (p := ⟨w.heap.size, 5, none⟩) (by first | (simp; done) | (simp; omega))).trans (by go_simp)
      have r0 : w6.cell? ⟨w.heap.size + 1, 0, none⟩ = some (Value.slice none 0 0) := (hb6.cell (p := ⟨w.heap.size + 1, 0, none⟩) (by first | (simp; done) | (simp; omega))).trans (by go_simp)
      have fr0 : w6.frozen? ⟨w.heap.size + 1, 0, none⟩ = false := (hb6.frozen (p := ⟨w.heap.size + 1, 0, none⟩) (by first | (simp; done) | (simp; omega))).trans (by go_simp)
      have r1 : w6.cell? ⟨w.heap.size + 1, 1, none⟩ = some (Value.slice none 0 0) := (hb6.cell (p := ⟨w.heap.size + 1, 1, none⟩) (by first | (simp; done) | (simp; omega))).trans (by go_simp)
      have fr1 : w6.frozen? ⟨w.heap.size + 1, 1, none⟩ = false := (hb6.frozen (p := ⟨w.heap.size + 1, 1, none⟩) (by first | (simp; done) | (simp; omega))).trans (by go_simp)
      have r2 : w6.cell? ⟨w.heap.size + 1, 2, none⟩ = some (Value.slice none 0 0) := (hb6.cell (p := ⟨w.heap.size + 1, 2, none⟩) (by first | (simp; done) | (simp; omega))).trans (by go_simp)
      have fr2 : w6.frozen? ⟨w.heap.size + 1, 2, none⟩ = false := (hb6.frozen (p := ⟨w.heap.size + 1, 2, none⟩) (by first | (simp; done) | (simp; omega))).trans (by go_simp)
      have r3 : w6.cell? ⟨w.heap.size + 1, 3, none⟩ = some (Value.slice none 0 0) := (hb6.cell (p := ⟨w.heap.size + 1, 3, none⟩) (by first | (simp; done) | (simp; omega))).trans (by go_simp)
      have fr3 : w6.frozen? ⟨w.heap.size + 1, 3, none⟩ = false := (hb6.frozen (p := ⟨w.heap.size + 1, 3, none⟩) (by first | (simp; done) | (simp; omega))).trans (by go_simp)
      have r4 : w6.cell? ⟨w.heap.size + 1, 4, none⟩ = some (Value.int .i64 0) := (hb6.cell (p := ⟨w.heap.size + 1, 4, none⟩) (by first | (simp; done) | (simp; omega))).trans (by go_simp)
      have fr4 : w6.frozen? ⟨w.heap.size + 1, 4, none⟩ = false := (hb6.frozen (p := ⟨w.heap.size + 1, 4, none⟩) (by first | (simp; done) | (simp; omega))).trans (by go_simp)
      have r5 : w6.cell? ⟨w.heap.size + 1, 5, none⟩ = some (Value.int .i64 0) := (hb6.cell (p := ⟨w.heap.size + 1, 5, none⟩) (by first | (simp; done) | (simp; omega))).trans (by go_simp)
      have fr5 : w6.frozen? ⟨w.heap.size + 1, 5, none⟩ = false := (hb6.frozen (p := ⟨w.heap.size + 1, 5, none⟩) (by first | (simp; done) | (simp; omega))).trans (by go_simp)
      have z6 : w5.heap.size ≤ w6.heap.size := by have q := hb6.size; simp at q; exact q
      have ya6 : w.heap.size < w6.heap.size := by omega
      have yb6 : w.heap.size + 1 < w6.heap.size := by omega
      have yx6 : w1.heap.size < w6.heap.size := by omega
      have O6 := Lib.hid (QF.out.below hb6)
      have D6 := Lib.hid (bnext D5.out hb6)
      clear hb6
      cases h3 : houseOk (h.more p d e' o) with
      | true =>
        have H := Lib.hid (makeCopy_t h1 h2 h3)
        go_wp2
        refine bodyPost_ret (v := .tuple #[.agg #[.slice ac' (h.n + 1) cc', .slice am' (h.ms.length + 1) cm', .slice ao' (h.os.length + 1) co', .slice at_ h.ts.length ct, .int .i64 h.sent, .int .i64 h.day], .bool true]) (by simp [results, Try.results29, go_sem, r0, r1, r2, r3, r4, r5]) rfl ?_
        rw [H.out]
        have fin : ∀ WF : World, Only w.heap.size (w.heap.size + 2) w6 WF → HouseO w.heap.size WF.heap.size WF (.slice ac' (h.n + 1) cc') (.slice am' (h.ms.length + 1) cm') (.slice ao' (h.os.length + 1) co') (.slice at_ h.ts.length ct) (h.more p d e' o) ∧ Below w.heap.size w WF := fun WF oF =>
          ⟨(O6.out.only oF (off_r (by omega))).wide (by omega) (by have := oF.size; omega), Only.below D6.out oF (Nat.le_refl _)⟩
        simp only [HD.more, List.length_append, List.length_cons, List.length_nil, Nat.zero_add]
        refine ⟨_, _, _, _, _, _, _, _, rfl, fin _ ?_⟩
        repeat (first | with_reducible exact Only.refl _ _ _ | with_reducible refine Only.alloc ?_ _ | with_reducible refine Only.set ?_ (by simp only []; omega) (by simp only []; omega) _)
      | false =>
        have H := Lib.hid (makeCopy_3 h3)
        go_wp2_with fail
        refine (l38Copy_any _ _ _ _ h _ (hr0.below D6.out) hn hB).mono ?_
        rintro e w7 ⟨ac2, cc2, am2, cm2, ao2, co2, at2, ct2, rfl, hO7, hb7⟩
        replace X0 : w7.cell? ⟨w1.heap.size, 0, none⟩ = some (Value.slice ac' (h.n + 1) cc') := (hb7.cell (p := ⟨w1.heap.size, 0, none⟩) (by simp only []; omega)).trans (by go_simp)
        replace X1 : w7.cell? ⟨w1.heap.size, 1, none⟩ = some (Value.slice am' (h.ms.length + 1) cm') := (hb7.cell (p := ⟨w1.heap.size, 1, none⟩) (by simp only []; omega)).trans (by go_simp)
        replace X2 : w7.cell? ⟨w1.heap.size, 2, none⟩ = some (Value.slice ao' (h.os.length + 1) co') := (hb7.cell (p := ⟨w1.heap.size, 2, none⟩) (by simp only []; omega)).trans (by go_simp)
        replace X3 : w7.cell? ⟨w1.heap.size, 3, none⟩ = some (Value.slice at_ h.ts.length ct) := (hb7.cell (p := ⟨w1.heap.size, 3, none⟩) (by simp only []; omega)).trans (by go_simp)
        replace X4 : w7.cell? ⟨w1.heap.size, 4, none⟩ = some (Value.int .i64 h.sent) := (hb7.cell (p := ⟨w1.heap.size, 4, none⟩) (by simp only []; omega)).trans (by go_simp)
        replace X5 : w7.cell? ⟨w1.heap.size, 5, none⟩ = some (Value.int .i64 h.day) := (hb7.cell (p := ⟨w1.heap.size, 5, none⟩) (by simp only []; omega)).trans (by go_simp)
        replace b0 : w7.cell? ⟨w.heap.size, 0, none⟩ = some (Value.slice adc h.n capc) := (hb7.cell (p := ⟨w.heap.size, 0, none⟩) (by simp only []; omega)).trans (by go_simp)
        replace b1 : w7.cell? ⟨w.heap.size, 1, none⟩ = some (Value.slice adm h.ms.length capm) := (hb7.cell (p := ⟨w.heap.size, 1, none⟩) (by simp only []; omega)).trans (by go_simp)
        replace b2 : w7.cell? ⟨w.heap.size, 2, none⟩ = some (Value.slice ado h.os.length capo) := (hb7.cell (p := ⟨w.heap.size, 2, none⟩) (by simp only []; omega)).trans (by go_simp)
        replace b3 : w7.cell? ⟨w.heap.size, 3, none⟩ = some (Value.slice adt h.ts.length capt) := (hb7.cell (p := ⟨w.heap.size, 3, none⟩) (by simp only []; omega)).trans (by go_simp)
        replace b4 : w7.cell? ⟨w.heap.size, 4, none⟩ = some (Value.int .i64 h.sent) := (hb7.cell (p := ⟨w.heap.size, 4, none⟩) (by simp only []; omega)).trans (by go_simp)
        replace b5 : w7.cell? ⟨w.heap.size, 5, none⟩ = some (Value.int .i64 h.day) := (hb7.cell (p := ⟨w.heap.size, 5, none⟩) (by simp only []; omega)).trans (by go_simp)
        replace r0 : w7.cell? ⟨w.heap.size + 1, 0, none⟩ = some (Value.slice none 0 0) := (hb7.cell (p := ⟨w.heap.size + 1, 0, none⟩) (by simp only []; omega)).trans (by go_simp)
        replace r1 : w7.cell? ⟨w.heap.size + 1, 1, none⟩ = some (Value.slice none 0 0) := (hb7.cell (p := ⟨w.heap.size + 1, 1, none⟩) (by simp only []; omega)).trans (by go_simp)
        replace r2 : w7.cell? ⟨w.heap.size + 1, 2, none⟩ = some (Value.slice none 0 0) := (hb7.cell (p := ⟨w.heap.size + 1, 2, none⟩) (by simp only []; omega)).trans (by go_simp)
        replace r3 : w7.cell? ⟨w.heap.size + 1, 3, none⟩ = some (Value.slice none 0 0) := (hb7.cell (p := ⟨w.heap.size + 1, 3, none⟩) (by simp only []; omega)).trans (by go_simp)
        replace r4 : w7.cell? ⟨w.heap.size + 1, 4, none⟩ = some (Value.int .i64 0) := (hb7.cell (p := ⟨w.heap.size + 1, 4, none⟩) (by simp only []; omega)).trans (by go_simp)
        replace r5 : w7.cell? ⟨w.heap.size + 1, 5, none⟩ = some (Value.int .i64 0) := (hb7.cell (p := ⟨w.heap.size + 1, 5, none⟩) (by simp only []; omega)).trans (by go_simp)
        replace fr0 : w7.frozen? ⟨w.heap.size + 1, 0, none⟩ = false := (hb7.frozen (p := ⟨w.heap.size + 1, 0, none⟩) (by simp only []; omega)).trans (by go_simp)
        replace fr1 : w7.frozen? ⟨w.heap.size + 1, 1, none⟩ = false := (hb7.frozen (p := ⟨w.heap.size + 1, 1, none⟩) (by simp only []; omega)).trans (by go_simp)
        replace fr2 : w7.frozen? ⟨w.heap.size + 1, 2, none⟩ = false := (hb7.frozen (p := ⟨w.heap.size + 1, 2, none⟩) (by simp only []; omega)).trans (by go_simp)
        replace fr3 : w7.frozen? ⟨w.heap.size + 1, 3, none⟩ = false := (hb7.frozen (p := ⟨w.heap.size + 1, 3, none⟩) (by simp only []; omega)).trans (by go_simp)
        replace fr4 : w7.frozen? ⟨w.heap.size + 1, 4, none⟩ = false := (hb7.frozen (p := ⟨w.heap.size + 1, 4, none⟩) (by simp only []; omega)).trans (by go_simp)
        replace fr5 : w7.frozen? ⟨w.heap.size + 1, 5, none⟩ = false := (hb7.frozen (p := ⟨w.heap.size + 1, 5, none⟩) (by simp only []; omega)).trans (by go_simp)
        have z7 : w6.heap.size ≤ w7.heap.size := hb7.size
        have O7 := Lib.hid hO7
        have D7 := Lib.hid (bnext D6.out hb7)
        clear hO7 hb7
        go_wp2
        refine bodyPost_ret (v := .tuple #[.agg #[.slice ac2 h.n cc2, .slice am2 h.ms.length cm2, .slice ao2 h.os.length co2, .slice at2 h.ts.length ct2, .int .i64 h.sent, .int .i64 h.day], .bool false]) (by simp [results, Try.results29, go_sem, r0, r1, r2, r3, r4, r5]) rfl ?_
        rw [H.out]
        have fin : ∀ WF : World, Only w.heap.size (w.heap.size + 2) w7 WF → HouseO w.heap.size WF.heap.size WF (.slice ac2 h.n cc2) (.slice am2 h.ms.length cm2) (.slice ao2 h.os.length co2) (.slice at2 h.ts.length ct2) h ∧ Below w.heap.size w WF := fun WF oF =>
          ⟨(O7.out.only oF (off_r (by omega))).wide (by omega) (by have := oF.size; omega), Only.below D7.out oF (Nat.le_refl _)⟩
        refine ⟨_, _, _, _, _, _, _, _, rfl, fin _ ?_⟩
        repeat (first | with_reducible exact Only.refl _ _ _ | with_reducible refine Only.alloc ?_ _ | with_reducible refine Only.set ?_ (by simp only []; omega) (by simp only []; omega) _)
end Go.Proofs.Ytlipfkalehikkaa
