/- The walks of PassDays, in the program and in the reference. -/
import Derived.Test.YtlipfkalehikkaaGE
import Derived.Test.YtlipfkalehikkaaGF
namespace Go.Proofs.Ytlipfkalehikkaa
open Go.ChangeShapes Go.WideShapes Go.ChangeAt Go.RowKit

def HD.later (h : HD) (d : Int) : HD := ⟨h.n, h.xs, h.ms, h.os, h.ts, h.sent, h.day + d⟩
def passDays (h : HD) (d : Int) : HD × Bool := if houseOk h = true ∧ inB d 1 1000 = true ∧ h.day + d ≤ 10000 then (h.later d, true) else (h, false)
theorem passDays_1 {h : HD} {d : Int} (e : houseOk h = false) : passDays h d = (h, false) := if_neg (by simp [e])
theorem passDays_2 {h : HD} {d : Int} (e : inB d 1 1000 = false) : passDays h d = (h, false) := if_neg (by simp [e])
theorem passDays_3 {h : HD} {d : Int} (e : ¬ h.day + d ≤ 10000) : passDays h d = (h, false) := if_neg (fun q => e q.2.2)
theorem passDays_t {h : HD} {d : Int} (e1 : houseOk h = true) (e2 : inB d 1 1000 = true) (e3 : h.day + d ≤ 10000) : passDays h d = (h.later d, true) := if_pos ⟨e1, e2, e3⟩
theorem passDays_b {h : HD} (b : HouseB h 1048576) (d : Int) : HouseB (passDays h d).1 1048576 := by
  unfold passDays
  split
  · exact ⟨b.n, b.ms, b.os, b.ts⟩
  · exact b
theorem HouseO.later {lo hi : Nat} {w : World} {vc vm vo vt : Value} {h : HD} (r : HouseO lo hi w vc vm vo vt h) (d : Int) : HouseO lo hi w vc vm vo vt (h.later d) := ⟨r.c, r.m, r.o, r.t, r.scm, r.sco, r.sct, r.smo, r.smt, r.sot⟩

set_option maxRecDepth 100000 in
set_option maxHeartbeats 4000000 in
theorem implPassDays (vc vm vo vt : Value) (h : HD) (d : Int) (w : World) (hr : HouseR w vc vm vo vt h) (hn : HouseN vc vm vo vt) (hB : HouseB h 1048576) : Calls Try.prog 24 #[.agg #[vc, vm, vo, vt, .int .i64 h.sent, .int .i64 h.day], .int .i64 d] w (fun e w' => ∃ ac cc am cm ao co at_ ct, e = .returned (.tuple #[.agg #[.slice ac ((passDays h d).1).n cc, .slice am ((passDays h d).1).ms.length cm, .slice ao ((passDays h d).1).os.length co, .slice at_ ((passDays h d).1).ts.length ct, .int .i64 ((passDays h d).1).sent, .int .i64 ((passDays h d).1).day], .bool (passDays h d).2]) ∧ HouseO w.heap.size w'.heap.size w' (.slice ac ((passDays h d).1).n cc) (.slice am ((passDays h d).1).ms.length cm) (.slice ao ((passDays h d).1).os.length co) (.slice at_ ((passDays h d).1).ts.length ct) ((passDays h d).1) ∧ Below w.heap.size w w') := by
  obtain ⟨adc, capc, rfl⟩ : ∃ ad cap, vc = .slice ad h.n cap := by obtain ⟨_, _, ad, cap, hh, _⟩ := hr.c; exact ⟨ad, cap, hh⟩
  obtain ⟨adm, capm, rfl⟩ : ∃ ad cap, vm = .slice ad h.ms.length cap := by obtain ⟨_, ad, cap, hh, _⟩ := hr.m; exact ⟨ad, cap, hh⟩
  obtain ⟨ado, capo, rfl⟩ : ∃ ad cap, vo = .slice ad h.os.length cap := by obtain ⟨_, ad, cap, hh, _⟩ := hr.o; exact ⟨ad, cap, hh⟩
  obtain ⟨adt, capt, rfl⟩ : ∃ ad cap, vt = .slice ad h.ts.length cap := by obtain ⟨_, ad, cap, hh, _⟩ := hr.t; exact ⟨ad, cap, hh⟩
  cases h1 : houseOk h with
  | false =>
    have H := Lib.hid (passDays_1 (d := d) h1)
    go_enter Try.func24, Try.ntmps24
    go_wp2_with fail
    refine (copyHouse_any _ _ _ _ h _ ((hr.alloc _).alloc _) hn hB).mono ?_
    rintro e w1 ⟨ac, cc, am, cm, ao, co, at_, ct, rfl, hO, hb1⟩
    have b0 : w1.cell? ⟨w.heap.size, 0, none⟩ = some (Value.slice adc h.n capc) := (hb1.cell (p := ⟨w.heap.size, 0, none⟩) (by first | (simp; done) | (simp; omega))).trans (by go_simp)
    have b1 : w1.cell? ⟨w.heap.size, 1, none⟩ = some (Value.slice adm h.ms.length capm) := (hb1.cell (p := ⟨w.heap.size, 1, none⟩) (by first | (simp; done) | (simp; omega))).trans (by go_simp)
    have b2 : w1.cell? ⟨w.heap.size, 2, none⟩ = some (Value.slice ado h.os.length capo) := (hb1.cell (p := ⟨w.heap.size, 2, none⟩) (by first | (simp; done) | (simp; omega))).trans (by go_simp)
    have b3 : w1.cell? ⟨w.heap.size, 3, none⟩ = some (Value.slice adt h.ts.length capt) := (hb1.cell (p := ⟨w.heap.size, 3, none⟩) (by first | (simp; done) | (simp; omega))).trans (by go_simp)
    have b4 : w1.cell? ⟨w.heap.size, 4, none⟩ = some (Value.int .i64 h.sent) := (hb1.cell (p := ⟨w.heap.size, 4, none⟩) (by first | (simp; done) | (simp; omega))).trans (by go_simp)
    have b5 : w1.cell? ⟨w.heap.size, 5, none⟩ = some (Value.int .i64 h.day) := (hb1.cell (p := ⟨w.heap.size, 5, none⟩) (by first | (simp; done) | (simp; omega))).trans (by go_simp)
    have r0 : w1.cell? ⟨w.heap.size + 1, 0, none⟩ = some (Value.slice none 0 0) := (hb1.cell (p := ⟨w.heap.size + 1, 0, none⟩) (by first | (simp; done) | (simp; omega))).trans (by go_simp)
    have fr0 : w1.frozen? ⟨w.heap.size + 1, 0, none⟩ = false := (hb1.frozen (p := ⟨w.heap.size + 1, 0, none⟩) (by first | (simp; done) | (simp; omega))).trans (by go_simp)
    have r1 : w1.cell? ⟨w.heap.size + 1, 1, none⟩ = some (Value.slice none 0 0) := (hb1.cell (p := ⟨w.heap.size + 1, 1, none⟩) (by first | (simp; done) | (simp; omega))).trans (by go_simp)
    have fr1 : w1.frozen? ⟨w.heap.size + 1, 1, none⟩ = false := (hb1.frozen (p := ⟨w.heap.size + 1, 1, none⟩) (by first | (simp; done) | (simp; omega))).trans (by go_simp)
    have r2 : w1.cell? ⟨w.heap.size + 1, 2, none⟩ = some (Value.slice none 0 0) := (hb1.cell (p := ⟨w.heap.size + 1, 2, none⟩) (by first | (simp; done) | (simp; omega))).trans (by go_simp)
    have fr2 : w1.frozen? ⟨w.heap.size + 1, 2, none⟩ = false := (hb1.frozen (p := ⟨w.heap.size + 1, 2, none⟩) (by first | (simp; done) | (simp; omega))).trans (by go_simp)
    have r3 : w1.cell? ⟨w.heap.size + 1, 3, none⟩ = some (Value.slice none 0 0) := (hb1.cell (p := ⟨w.heap.size + 1, 3, none⟩) (by first | (simp; done) | (simp; omega))).trans (by go_simp)
    have fr3 : w1.frozen? ⟨w.heap.size + 1, 3, none⟩ = false := (hb1.frozen (p := ⟨w.heap.size + 1, 3, none⟩) (by first | (simp; done) | (simp; omega))).trans (by go_simp)
    have r4 : w1.cell? ⟨w.heap.size + 1, 4, none⟩ = some (Value.int .i64 0) := (hb1.cell (p := ⟨w.heap.size + 1, 4, none⟩) (by first | (simp; done) | (simp; omega))).trans (by go_simp)
    have fr4 : w1.frozen? ⟨w.heap.size + 1, 4, none⟩ = false := (hb1.frozen (p := ⟨w.heap.size + 1, 4, none⟩) (by first | (simp; done) | (simp; omega))).trans (by go_simp)
    have r5 : w1.cell? ⟨w.heap.size + 1, 5, none⟩ = some (Value.int .i64 0) := (hb1.cell (p := ⟨w.heap.size + 1, 5, none⟩) (by first | (simp; done) | (simp; omega))).trans (by go_simp)
    have fr5 : w1.frozen? ⟨w.heap.size + 1, 5, none⟩ = false := (hb1.frozen (p := ⟨w.heap.size + 1, 5, none⟩) (by first | (simp; done) | (simp; omega))).trans (by go_simp)
    have z1 : w.heap.size + 2 ≤ w1.heap.size := by have h := hb1.size; simp at h; omega
    have y1 : w.heap.size < w1.heap.size := by omega
    have y2 : w.heap.size + 1 < w1.heap.size := by omega
    have D1 := bnext (balloc (balloc (bref w) _) _) hb1
    have R1 := hr.below D1
    clear hb1
    go_wp2_with fail
    refine (implHouseOk _ _ _ _ h _ (R1.alloc _)).mono ?_
    rintro e w2 ⟨rfl, hb2⟩
    rw [h1]
    replace b0 : w2.cell? ⟨w.heap.size, 0, none⟩ = some (Value.slice adc h.n capc) := (hb2.cell (p := ⟨w.heap.size, 0, none⟩) (by first | (simp; done) | (simp; omega))).trans (by go_simp)
    replace b1 : w2.cell? ⟨w.heap.size, 1, none⟩ = some (Value.slice adm h.ms.length capm) := (hb2.cell (p := ⟨w.heap.size, 1, none⟩) (by first | (simp; done) | (simp; omega))).trans (by go_simp)
    replace b2 : w2.cell? ⟨w.heap.size, 2, none⟩ = some (Value.slice ado h.os.length capo) := (hb2.cell (p := ⟨w.heap.size, 2, none⟩) (by first | (simp; done) | (simp; omega))).trans (by go_simp)
    replace b3 : w2.cell? ⟨w.heap.size, 3, none⟩ = some (Value.slice adt h.ts.length capt) := (hb2.cell (p := ⟨w.heap.size, 3, none⟩) (by first | (simp; done) | (simp; omega))).trans (by go_simp)
    replace b4 : w2.cell? ⟨w.heap.size, 4, none⟩ = some (Value.int .i64 h.sent) := (hb2.cell (p := ⟨w.heap.size, 4, none⟩) (by first | (simp; done) | (simp; omega))).trans (by go_simp)
    replace b5 : w2.cell? ⟨w.heap.size, 5, none⟩ = some (Value.int .i64 h.day) := (hb2.cell (p := ⟨w.heap.size, 5, none⟩) (by first | (simp; done) | (simp; omega))).trans (by go_simp)
    replace r0 : w2.cell? ⟨w.heap.size + 1, 0, none⟩ = some (Value.slice none 0 0) := (hb2.cell (p := ⟨w.heap.size + 1, 0, none⟩) (by first | (simp; done) | (simp; omega))).trans (by go_simp)
    replace r1 : w2.cell? ⟨w.heap.size + 1, 1, none⟩ = some (Value.slice none 0 0) := (hb2.cell (p := ⟨w.heap.size + 1, 1, none⟩) (by first | (simp; done) | (simp; omega))).trans (by go_simp)
    replace r2 : w2.cell? ⟨w.heap.size + 1, 2, none⟩ = some (Value.slice none 0 0) := (hb2.cell (p := ⟨w.heap.size + 1, 2, none⟩) (by first | (simp; done) | (simp; omega))).trans (by go_simp)
    replace r3 : w2.cell? ⟨w.heap.size + 1, 3, none⟩ = some (Value.slice none 0 0) := (hb2.cell (p := ⟨w.heap.size + 1, 3, none⟩) (by first | (simp; done) | (simp; omega))).trans (by go_simp)
    replace r4 : w2.cell? ⟨w.heap.size + 1, 4, none⟩ = some (Value.int .i64 0) := (hb2.cell (p := ⟨w.heap.size + 1, 4, none⟩) (by first | (simp; done) | (simp; omega))).trans (by go_simp)
    replace r5 : w2.cell? ⟨w.heap.size + 1, 5, none⟩ = some (Value.int .i64 0) := (hb2.cell (p := ⟨w.heap.size + 1, 5, none⟩) (by first | (simp; done) | (simp; omega))).trans (by go_simp)
    replace fr0 : w2.frozen? ⟨w.heap.size + 1, 0, none⟩ = false := (hb2.frozen (p := ⟨w.heap.size + 1, 0, none⟩) (by first | (simp; done) | (simp; omega))).trans (by go_simp)
    replace fr1 : w2.frozen? ⟨w.heap.size + 1, 1, none⟩ = false := (hb2.frozen (p := ⟨w.heap.size + 1, 1, none⟩) (by first | (simp; done) | (simp; omega))).trans (by go_simp)
    replace fr2 : w2.frozen? ⟨w.heap.size + 1, 2, none⟩ = false := (hb2.frozen (p := ⟨w.heap.size + 1, 2, none⟩) (by first | (simp; done) | (simp; omega))).trans (by go_simp)
    replace fr3 : w2.frozen? ⟨w.heap.size + 1, 3, none⟩ = false := (hb2.frozen (p := ⟨w.heap.size + 1, 3, none⟩) (by first | (simp; done) | (simp; omega))).trans (by go_simp)
    replace fr4 : w2.frozen? ⟨w.heap.size + 1, 4, none⟩ = false := (hb2.frozen (p := ⟨w.heap.size + 1, 4, none⟩) (by first | (simp; done) | (simp; omega))).trans (by go_simp)
    replace fr5 : w2.frozen? ⟨w.heap.size + 1, 5, none⟩ = false := (hb2.frozen (p := ⟨w.heap.size + 1, 5, none⟩) (by first | (simp; done) | (simp; omega))).trans (by go_simp)
    have g0 : w2.cell? ⟨w1.heap.size, 0, none⟩ = some (Value.slice ac h.n cc) := (hb2.cell (p := ⟨w1.heap.size, 0, none⟩) (by first | (simp; done) | (simp; omega))).trans (by go_simp)
    have fg0 : w2.frozen? ⟨w1.heap.size, 0, none⟩ = false := (hb2.frozen (p := ⟨w1.heap.size, 0, none⟩) (by first | (simp; done) | (simp; omega))).trans (by go_simp)
    have g1 : w2.cell? ⟨w1.heap.size, 1, none⟩ = some (Value.slice am h.ms.length cm) := (hb2.cell (p := ⟨w1.heap.size, 1, none⟩) (by first | (simp; done) | (simp; omega))).trans (by go_simp)
    have fg1 : w2.frozen? ⟨w1.heap.size, 1, none⟩ = false := (hb2.frozen (p := ⟨w1.heap.size, 1, none⟩) (by first | (simp; done) | (simp; omega))).trans (by go_simp)
    have g2 : w2.cell? ⟨w1.heap.size, 2, none⟩ = some (Value.slice ao h.os.length co) := (hb2.cell (p := ⟨w1.heap.size, 2, none⟩) (by first | (simp; done) | (simp; omega))).trans (by go_simp)
    have fg2 : w2.frozen? ⟨w1.heap.size, 2, none⟩ = false := (hb2.frozen (p := ⟨w1.heap.size, 2, none⟩) (by first | (simp; done) | (simp; omega))).trans (by go_simp)
    have g3 : w2.cell? ⟨w1.heap.size, 3, none⟩ = some (Value.slice at_ h.ts.length ct) := (hb2.cell (p := ⟨w1.heap.size, 3, none⟩) (by first | (simp; done) | (simp; omega))).trans (by go_simp)
    have fg3 : w2.frozen? ⟨w1.heap.size, 3, none⟩ = false := (hb2.frozen (p := ⟨w1.heap.size, 3, none⟩) (by first | (simp; done) | (simp; omega))).trans (by go_simp)
    have g4 : w2.cell? ⟨w1.heap.size, 4, none⟩ = some (Value.int .i64 h.sent) := (hb2.cell (p := ⟨w1.heap.size, 4, none⟩) (by first | (simp; done) | (simp; omega))).trans (by go_simp)
    have fg4 : w2.frozen? ⟨w1.heap.size, 4, none⟩ = false := (hb2.frozen (p := ⟨w1.heap.size, 4, none⟩) (by first | (simp; done) | (simp; omega))).trans (by go_simp)
    have g5 : w2.cell? ⟨w1.heap.size, 5, none⟩ = some (Value.int .i64 h.day) := (hb2.cell (p := ⟨w1.heap.size, 5, none⟩) (by first | (simp; done) | (simp; omega))).trans (by go_simp)
    have fg5 : w2.frozen? ⟨w1.heap.size, 5, none⟩ = false := (hb2.frozen (p := ⟨w1.heap.size, 5, none⟩) (by first | (simp; done) | (simp; omega))).trans (by go_simp)
    have z2 : w1.heap.size + 1 ≤ w2.heap.size := by have h := hb2.size; simp at h; omega
    have O2 := Lib.hid (hO.below (bnext (balloc (bref w1) _) hb2))
    have D2 := Lib.hid (bnext D1 (bnext (balloc (bref w1) _) hb2))
    have y3 : w.heap.size < w2.heap.size := by omega
    have y4 : w.heap.size + 1 < w2.heap.size := by omega
    have y5 : w1.heap.size < w2.heap.size := by omega
    clear hb2 hO D1 R1 hr
    go_wp2_with (go_at_call 38; refine (in_any _ _ _ _).mono ?_; rintro e w' ⟨rfl, rfl⟩)
    refine bodyPost_ret (v := .tuple #[.agg #[.slice ac h.n cc, .slice am h.ms.length cm, .slice ao h.os.length co, .slice at_ h.ts.length ct, .int .i64 h.sent, .int .i64 h.day], .bool false]) (by simp [results, Try.results24, go_sem, r0, r1, r2, r3, r4, r5]) rfl ?_
    rw [H.out]
    have fin : ∀ WF : World, Only w.heap.size (w.heap.size + 2) w2 WF → HouseO w.heap.size WF.heap.size WF (.slice ac h.n cc) (.slice am h.ms.length cm) (.slice ao h.os.length co) (.slice at_ h.ts.length ct) h ∧ Below w.heap.size w WF := fun WF oF =>
      ⟨(O2.out.only oF (off_r (by simp))).wide (by first | (simp; done) | (simp; omega)) (by have := oF.size; omega), Only.below D2.out oF (Nat.le_refl _)⟩
    refine ⟨_, _, _, _, _, _, _, _, rfl, fin _ ?_⟩
    repeat (first | with_reducible exact Only.refl _ _ _ | with_reducible refine Only.alloc ?_ _ | with_reducible refine Only.set ?_ (by simp only []; omega) (by simp only []; omega) _)
  | true =>
    have hday := (houseOk_facts h1).day
    cases h2 : inB d 1 1000 with
    | false =>
      have H := Lib.hid (passDays_2 (h := h) h2)
      go_enter Try.func24, Try.ntmps24
      go_wp2_with fail
      refine (copyHouse_any _ _ _ _ h _ ((hr.alloc _).alloc _) hn hB).mono ?_
      rintro e w1 ⟨ac, cc, am, cm, ao, co, at_, ct, rfl, hO, hb1⟩
      have b0 : w1.cell? ⟨w.heap.size, 0, none⟩ = some (Value.slice adc h.n capc) := (hb1.cell (p := ⟨w.heap.size, 0, none⟩) (by first | (simp; done) | (simp; omega))).trans (by go_simp)
      have b1 : w1.cell? ⟨w.heap.size, 1, none⟩ = some (Value.slice adm h.ms.length capm) := (hb1.cell (p := ⟨w.heap.size, 1, none⟩) (by first | (simp; done) | (simp; omega))).trans (by go_simp)
      have b2 : w1.cell? ⟨w.heap.size, 2, none⟩ = some (Value.slice ado h.os.length capo) := (hb1.cell (p := ⟨w.heap.size, 2, none⟩) (by first | (simp; done) | (simp; omega))).trans (by go_simp)
      have b3 : w1.cell? ⟨w.heap.size, 3, none⟩ = some (Value.slice adt h.ts.length capt) := (hb1.cell (p := ⟨w.heap.size, 3, none⟩) (by first | (simp; done) | (simp; omega))).trans (by go_simp)
      have b4 : w1.cell? ⟨w.heap.size, 4, none⟩ = some (Value.int .i64 h.sent) := (hb1.cell (p := ⟨w.heap.size, 4, none⟩) (by first | (simp; done) | (simp; omega))).trans (by go_simp)
      have b5 : w1.cell? ⟨w.heap.size, 5, none⟩ = some (Value.int .i64 h.day) := (hb1.cell (p := ⟨w.heap.size, 5, none⟩) (by first | (simp; done) | (simp; omega))).trans (by go_simp)
      have r0 : w1.cell? ⟨w.heap.size + 1, 0, none⟩ = some (Value.slice none 0 0) := (hb1.cell (p := ⟨w.heap.size + 1, 0, none⟩) (by first | (simp; done) | (simp; omega))).trans (by go_simp)
      have fr0 : w1.frozen? ⟨w.heap.size + 1, 0, none⟩ = false := (hb1.frozen (p := ⟨w.heap.size + 1, 0, none⟩) (by first | (simp; done) | (simp; omega))).trans (by go_simp)
      have r1 : w1.cell? ⟨w.heap.size + 1, 1, none⟩ = some (Value.slice none 0 0) := (hb1.cell (p := ⟨w.heap.size + 1, 1, none⟩) (by first | (simp; done) | (simp; omega))).trans (by go_simp)
      have fr1 : w1.frozen? ⟨w.heap.size + 1, 1, none⟩ = false := (hb1.frozen (p := ⟨w.heap.size + 1, 1, none⟩) (by first | (simp; done) | (simp; omega))).trans (by go_simp)
      have r2 : w1.cell? ⟨w.heap.size + 1, 2, none⟩ = some (Value.slice none 0 0) := (hb1.cell (p := ⟨w.heap.size + 1, 2, none⟩) (by first | (simp; done) | (simp; omega))).trans (by go_simp)
      have fr2 : w1.frozen? ⟨w.heap.size + 1, 2, none⟩ = false := (hb1.frozen (p := ⟨w.heap.size + 1, 2, none⟩) (by first | (simp; done) | (simp; omega))).trans (by go_simp)
      have r3 : w1.cell? ⟨w.heap.size + 1, 3, none⟩ = some (Value.slice none 0 0) := (hb1.cell (p := ⟨w.heap.size + 1, 3, none⟩) (by first | (simp; done) | (simp; omega))).trans (by go_simp)
      have fr3 : w1.frozen? ⟨w.heap.size + 1, 3, none⟩ = false := (hb1.frozen (p := ⟨w.heap.size + 1, 3, none⟩) (by first | (simp; done) | (simp; omega))).trans (by go_simp)
      have r4 : w1.cell? ⟨w.heap.size + 1, 4, none⟩ = some (Value.int .i64 0) := (hb1.cell (p := ⟨w.heap.size + 1, 4, none⟩) (by first | (simp; done) | (simp; omega))).trans (by go_simp)
      have fr4 : w1.frozen? ⟨w.heap.size + 1, 4, none⟩ = false := (hb1.frozen (p := ⟨w.heap.size + 1, 4, none⟩) (by first | (simp; done) | (simp; omega))).trans (by go_simp)
      have r5 : w1.cell? ⟨w.heap.size + 1, 5, none⟩ = some (Value.int .i64 0) := (hb1.cell (p := ⟨w.heap.size + 1, 5, none⟩) (by first | (simp; done) | (simp; omega))).trans (by go_simp)
      have fr5 : w1.frozen? ⟨w.heap.size + 1, 5, none⟩ = false := (hb1.frozen (p := ⟨w.heap.size + 1, 5, none⟩) (by first | (simp; done) | (simp; omega))).trans (by go_simp)
      have z1 : w.heap.size + 2 ≤ w1.heap.size := by have h := hb1.size; simp at h; omega
      have y1 : w.heap.size < w1.heap.size := by omega
      have y2 : w.heap.size + 1 < w1.heap.size := by omega
      have D1 := bnext (balloc (balloc (bref w) _) _) hb1
      have R1 := hr.below D1
      clear hb1
      go_wp2_with fail
      refine (implHouseOk _ _ _ _ h _ (R1.alloc _)).mono ?_
      rintro e w2 ⟨rfl, hb2⟩
      rw [h1]
      replace b0 : w2.cell? ⟨w.heap.size, 0, none⟩ = some (Value.slice adc h.n capc) := (hb2.cell (p := ⟨w.heap.size, 0, none⟩) (by first | (simp; done) | (simp; omega))).trans (by go_simp)
      replace b1 : w2.cell? ⟨w.heap.size, 1, none⟩ = some (Value.slice adm h.ms.length capm) := (hb2.cell (p := ⟨w.heap.size, 1, none⟩) (by first | (simp; done) | (simp; omega))).trans (by go_simp)
      replace b2 : w2.cell? ⟨w.heap.size, 2, none⟩ = some (Value.slice ado h.os.length capo) := (hb2.cell (p := ⟨w.heap.size, 2, none⟩) (by first | (simp; done) | (simp; omega))).trans (by go_simp)
      replace b3 : w2.cell? ⟨w.heap.size, 3, none⟩ = some (Value.slice adt h.ts.length capt) := (hb2.cell (p := ⟨w.heap.size, 3, none⟩) (by first | (simp; done) | (simp; omega))).trans (by go_simp)
      replace b4 : w2.cell? ⟨w.heap.size, 4, none⟩ = some (Value.int .i64 h.sent) := (hb2.cell (p := ⟨w.heap.size, 4, none⟩) (by first | (simp; done) | (simp; omega))).trans (by go_simp)
      replace b5 : w2.cell? ⟨w.heap.size, 5, none⟩ = some (Value.int .i64 h.day) := (hb2.cell (p := ⟨w.heap.size, 5, none⟩) (by first | (simp; done) | (simp; omega))).trans (by go_simp)
      replace r0 : w2.cell? ⟨w.heap.size + 1, 0, none⟩ = some (Value.slice none 0 0) := (hb2.cell (p := ⟨w.heap.size + 1, 0, none⟩) (by first | (simp; done) | (simp; omega))).trans (by go_simp)
      replace r1 : w2.cell? ⟨w.heap.size + 1, 1, none⟩ = some (Value.slice none 0 0) := (hb2.cell (p := ⟨w.heap.size + 1, 1, none⟩) (by first | (simp; done) | (simp; omega))).trans (by go_simp)
      replace r2 : w2.cell? ⟨w.heap.size + 1, 2, none⟩ = some (Value.slice none 0 0) := (hb2.cell (p := ⟨w.heap.size + 1, 2, none⟩) (by first | (simp; done) | (simp; omega))).trans (by go_simp)
      replace r3 : w2.cell? ⟨w.heap.size + 1, 3, none⟩ = some (Value.slice none 0 0) := (hb2.cell (p := ⟨w.heap.size + 1, 3, none⟩) (by first | (simp; done) | (simp; omega))).trans (by go_simp)
      replace r4 : w2.cell? ⟨w.heap.size + 1, 4, none⟩ = some (Value.int .i64 0) := (hb2.cell (p := ⟨w.heap.size + 1, 4, none⟩) (by first | (simp; done) | (simp; omega))).trans (by go_simp)
      replace r5 : w2.cell? ⟨w.heap.size + 1, 5, none⟩ = some (Value.int .i64 0) := (hb2.cell (p := ⟨w.heap.size + 1, 5, none⟩) (by first | (simp; done) | (simp; omega))).trans (by go_simp)
      replace fr0 : w2.frozen? ⟨w.heap.size + 1, 0, none⟩ = false := (hb2.frozen (p := ⟨w.heap.size + 1, 0, none⟩) (by first | (simp; done) | (simp; omega))).trans (by go_simp)
      replace fr1 : w2.frozen? ⟨w.heap.size + 1, 1, none⟩ = false := (hb2.frozen (p := ⟨w.heap.size + 1, 1, none⟩) (by first | (simp; done) | (simp; omega))).trans (by go_simp)
      replace fr2 : w2.frozen? ⟨w.heap.size + 1, 2, none⟩ = false := (hb2.frozen (p := ⟨w.heap.size + 1, 2, none⟩) (by first | (simp; done) | (simp; omega))).trans (by go_simp)
      replace fr3 : w2.frozen? ⟨w.heap.size + 1, 3, none⟩ = false := (hb2.frozen (p := ⟨w.heap.size + 1, 3, none⟩) (by first | (simp; done) | (simp; omega))).trans (by go_simp)
      replace fr4 : w2.frozen? ⟨w.heap.size + 1, 4, none⟩ = false := (hb2.frozen (p := ⟨w.heap.size + 1, 4, none⟩) (by first | (simp; done) | (simp; omega))).trans (by go_simp)
      replace fr5 : w2.frozen? ⟨w.heap.size + 1, 5, none⟩ = false := (hb2.frozen (p := ⟨w.heap.size + 1, 5, none⟩) (by first | (simp; done) | (simp; omega))).trans (by go_simp)
      have g0 : w2.cell? ⟨w1.heap.size, 0, none⟩ = some (Value.slice ac h.n cc) := (hb2.cell (p := ⟨w1.heap.size, 0, none⟩) (by first | (simp; done) | (simp; omega))).trans (by go_simp)
      have fg0 : w2.frozen? ⟨w1.heap.size, 0, none⟩ = false := (hb2.frozen (p := ⟨w1.heap.size, 0, none⟩) (by first | (simp; done) | (simp; omega))).trans (by go_simp)
      have g1 : w2.cell? ⟨w1.heap.size, 1, none⟩ = some (Value.slice am h.ms.length cm) := (hb2.cell (p := ⟨w1.heap.size, 1, none⟩) (by first | (simp; done) | (simp; omega))).trans (by go_simp)
      have fg1 : w2.frozen? ⟨w1.heap.size, 1, none⟩ = false := (hb2.frozen (p := ⟨w1.heap.size, 1, none⟩) (by first | (simp; done) | (simp; omega))).trans (by go_simp)
      have g2 : w2.cell? ⟨w1.heap.size, 2, none⟩ = some (Value.slice ao h.os.length co) := (hb2.cell (p := ⟨w1.heap.size, 2, none⟩) (by first | (simp; done) | (simp; omega))).trans (by go_simp)
      have fg2 : w2.frozen? ⟨w1.heap.size, 2, none⟩ = false := (hb2.frozen (p := ⟨w1.heap.size, 2, none⟩) (by first | (simp; done) | (simp; omega))).trans (by go_simp)
      have g3 : w2.cell? ⟨w1.heap.size, 3, none⟩ = some (Value.slice at_ h.ts.length ct) := (hb2.cell (p := ⟨w1.heap.size, 3, none⟩) (by first | (simp; done) | (simp; omega))).trans (by go_simp)
      have fg3 : w2.frozen? ⟨w1.heap.size, 3, none⟩ = false := (hb2.frozen (p := ⟨w1.heap.size, 3, none⟩) (by first | (simp; done) | (simp; omega))).trans (by go_simp)
      have g4 : w2.cell? ⟨w1.heap.size, 4, none⟩ = some (Value.int .i64 h.sent) := (hb2.cell (p := ⟨w1.heap.size, 4, none⟩) (by first | (simp; done) | (simp; omega))).trans (by go_simp)
      have fg4 : w2.frozen? ⟨w1.heap.size, 4, none⟩ = false := (hb2.frozen (p := ⟨w1.heap.size, 4, none⟩) (by first | (simp; done) | (simp; omega))).trans (by go_simp)
      have g5 : w2.cell? ⟨w1.heap.size, 5, none⟩ = some (Value.int .i64 h.day) := (hb2.cell (p := ⟨w1.heap.size, 5, none⟩) (by first | (simp; done) | (simp; omega))).trans (by go_simp)
      have fg5 : w2.frozen? ⟨w1.heap.size, 5, none⟩ = false := (hb2.frozen (p := ⟨w1.heap.size, 5, none⟩) (by first | (simp; done) | (simp; omega))).trans (by go_simp)
      have z2 : w1.heap.size + 1 ≤ w2.heap.size := by have h := hb2.size; simp at h; omega
      have O2 := Lib.hid (hO.below (bnext (balloc (bref w1) _) hb2))
      have D2 := Lib.hid (bnext D1 (bnext (balloc (bref w1) _) hb2))
      have y3 : w.heap.size < w2.heap.size := by omega
      have y4 : w.heap.size + 1 < w2.heap.size := by omega
      have y5 : w1.heap.size < w2.heap.size := by omega
      clear hb2 hO D1 R1 hr
      go_wp2_with (go_at_call 38; refine (in_any _ _ _ _).mono ?_; rintro e w' ⟨rfl, rfl⟩)
      refine bodyPost_ret (v := .tuple #[.agg #[.slice ac h.n cc, .slice am h.ms.length cm, .slice ao h.os.length co, .slice at_ h.ts.length ct, .int .i64 h.sent, .int .i64 h.day], .bool false]) (by simp [results, Try.results24, go_sem, r0, r1, r2, r3, r4, r5]) rfl ?_
      rw [H.out]
      have fin : ∀ WF : World, Only w.heap.size (w.heap.size + 2) w2 WF → HouseO w.heap.size WF.heap.size WF (.slice ac h.n cc) (.slice am h.ms.length cm) (.slice ao h.os.length co) (.slice at_ h.ts.length ct) h ∧ Below w.heap.size w WF := fun WF oF =>
        ⟨(O2.out.only oF (off_r (by simp))).wide (by first | (simp; done) | (simp; omega)) (by have := oF.size; omega), Only.below D2.out oF (Nat.le_refl _)⟩
      refine ⟨_, _, _, _, _, _, _, _, rfl, fin _ ?_⟩
      repeat (first | with_reducible exact Only.refl _ _ _ | with_reducible refine Only.alloc ?_ _ | with_reducible refine Only.set ?_ (by simp only []; omega) (by simp only []; omega) _)
    | true =>
      have hd := inB_le h2
      by_cases h3 : h.day + d ≤ 10000
      · have H := Lib.hid (passDays_t h1 h2 h3)
        go_enter Try.func24, Try.ntmps24
        go_wp2_with fail
        refine (copyHouse_any _ _ _ _ h _ ((hr.alloc _).alloc _) hn hB).mono ?_
        rintro e w1 ⟨ac, cc, am, cm, ao, co, at_, ct, rfl, hO, hb1⟩
        have b0 : w1.cell? ⟨w.heap.size, 0, none⟩ = some (Value.slice adc h.n capc) := (hb1.cell (p := ⟨w.heap.size, 0, none⟩) (by first | (simp; done) | (simp; omega))).trans (by go_simp)
        have b1 : w1.cell? ⟨w.heap.size, 1, none⟩ = some (Value.slice adm h.ms.length capm) := (hb1.cell (p := ⟨w.heap.size, 1, none⟩) (by first | (simp; done) | (simp; omega))).trans (by go_simp)
        have b2 : w1.cell? ⟨w.heap.size, 2, none⟩ = some (Value.slice ado h.os.length capo) := (hb1.cell (p := ⟨w.heap.size, 2, none⟩) (by first | (simp; done) | (simp; omega))).trans (by go_simp)
        have b3 : w1.cell? ⟨w.heap.size, 3, none⟩ = some (Value.slice adt h.ts.length capt) := (hb1.cell (p := ⟨w.heap.size, 3, none⟩) (by first | (simp; done) | (simp; omega))).trans (by go_simp)
        have b4 : w1.cell? ⟨w.heap.size, 4, none⟩ = some (Value.int .i64 h.sent) := (hb1.cell (p := ⟨w.heap.size, 4, none⟩) (by first | (simp; done) | (simp; omega))).trans (by go_simp)
        have b5 : w1.cell? ⟨w.heap.size, 5, none⟩ = some (Value.int .i64 h.day) := (hb1.cell (p := ⟨w.heap.size, 5, none⟩) (by first | (simp; done) | (simp; omega))).trans (by go_simp)
        have r0 : w1.cell? ⟨w.heap.size + 1, 0, none⟩ = some (Value.slice none 0 0) := (hb1.cell (p := ⟨w.heap.size + 1, 0, none⟩) (by first | (simp; done) | (simp; omega))).trans (by go_simp)
        have fr0 : w1.frozen? ⟨w.heap.size + 1, 0, none⟩ = false := (hb1.frozen (p := ⟨w.heap.size + 1, 0, none⟩) (by first | (simp; done) | (simp; omega))).trans (by go_simp)
        have r1 : w1.cell? ⟨w.heap.size + 1, 1, none⟩ = some (Value.slice none 0 0) := (hb1.cell (p := ⟨w.heap.size + 1, 1, none⟩) (by first | (simp; done) | (simp; omega))).trans (by go_simp)
        have fr1 : w1.frozen? ⟨w.heap.size + 1, 1, none⟩ = false := (hb1.frozen (p := ⟨w.heap.size + 1, 1, none⟩) (by first | (simp; done) | (simp; omega))).trans (by go_simp)
        have r2 : w1.cell? ⟨w.heap.size + 1, 2, none⟩ = some (Value.slice none 0 0) := (hb1.cell (p := ⟨w.heap.size + 1, 2, none⟩) (by first | (simp; done) | (simp; omega))).trans (by go_simp)
        have fr2 : w1.frozen? ⟨w.heap.size + 1, 2, none⟩ = false := (hb1.frozen (p := ⟨w.heap.size + 1, 2, none⟩) (by first | (simp; done) | (simp; omega))).trans (by go_simp)
        have r3 : w1.cell? ⟨w.heap.size + 1, 3, none⟩ = some (Value.slice none 0 0) := (hb1.cell (p := ⟨w.heap.size + 1, 3, none⟩) (by first | (simp; done) | (simp; omega))).trans (by go_simp)
        have fr3 : w1.frozen? ⟨w.heap.size + 1, 3, none⟩ = false := (hb1.frozen (p := ⟨w.heap.size + 1, 3, none⟩) (by first | (simp; done) | (simp; omega))).trans (by go_simp)
        have r4 : w1.cell? ⟨w.heap.size + 1, 4, none⟩ = some (Value.int .i64 0) := (hb1.cell (p := ⟨w.heap.size + 1, 4, none⟩) (by first | (simp; done) | (simp; omega))).trans (by go_simp)
        have fr4 : w1.frozen? ⟨w.heap.size + 1, 4, none⟩ = false := (hb1.frozen (p := ⟨w.heap.size + 1, 4, none⟩) (by first | (simp; done) | (simp; omega))).trans (by go_simp)
        have r5 : w1.cell? ⟨w.heap.size + 1, 5, none⟩ = some (Value.int .i64 0) := (hb1.cell (p := ⟨w.heap.size + 1, 5, none⟩) (by first | (simp; done) | (simp; omega))).trans (by go_simp)
        have fr5 : w1.frozen? ⟨w.heap.size + 1, 5, none⟩ = false := (hb1.frozen (p := ⟨w.heap.size + 1, 5, none⟩) (by first | (simp; done) | (simp; omega))).trans (by go_simp)
        have z1 : w.heap.size + 2 ≤ w1.heap.size := by have h := hb1.size; simp at h; omega
        have y1 : w.heap.size < w1.heap.size := by omega
        have y2 : w.heap.size + 1 < w1.heap.size := by omega
        have D1 := bnext (balloc (balloc (bref w) _) _) hb1
        have R1 := hr.below D1
        clear hb1
        go_wp2_with fail
        refine (implHouseOk _ _ _ _ h _ (R1.alloc _)).mono ?_
        rintro e w2 ⟨rfl, hb2⟩
        rw [h1]
        replace b0 : w2.cell? ⟨w.heap.size, 0, none⟩ = some (Value.slice adc h.n capc) := (hb2.cell (p := ⟨w.heap.size, 0, none⟩) (by first | (simp; done) | (simp; omega))).trans (by go_simp)
        replace b1 : w2.cell? ⟨w.heap.size, 1, none⟩ = some (Value.slice adm h.ms.length capm) := (hb2.cell (p := ⟨w.heap.size, 1, none⟩) (by first | (simp; done) | (simp; omega))).trans (by go_simp)
        replace b2 : w2.cell? ⟨w.heap.size, 2, none⟩ = some (Value.slice ado h.os.length capo) := (hb2.cell (p := ⟨w.heap.size, 2, none⟩) (by first | (simp; done) | (simp; omega))).trans (by go_simp)
        replace b3 : w2.cell? ⟨w.heap.size, 3, none⟩ = some (Value.slice adt h.ts.length capt) := (hb2.cell (p := ⟨w.heap.size, 3, none⟩) (by first | (simp; done) | (simp; omega))).trans (by go_simp)
        replace b4 : w2.cell? ⟨w.heap.size, 4, none⟩ = some (Value.int .i64 h.sent) := (hb2.cell (p := ⟨w.heap.size, 4, none⟩) (by first | (simp; done) | (simp; omega))).trans (by go_simp)
        replace b5 : w2.cell? ⟨w.heap.size, 5, none⟩ = some (Value.int .i64 h.day) := (hb2.cell (p := ⟨w.heap.size, 5, none⟩) (by first | (simp; done) | (simp; omega))).trans (by go_simp)
        replace r0 : w2.cell? ⟨w.heap.size + 1, 0, none⟩ = some (Value.slice none 0 0) := (hb2.cell (p := ⟨w.heap.size + 1, 0, none⟩) (by first | (simp; done) | (simp; omega))).trans (by go_simp)
        replace r1 : w2.cell? ⟨w.heap.size + 1, 1, none⟩ = some (Value.slice none 0 0) := (hb2.cell (p := ⟨w.heap.size + 1, 1, none⟩) (by first | (simp; done) | (simp; omega))).trans (by go_simp)
        replace r2 : w2.cell? ⟨w.heap.size + 1, 2, none⟩ = some (Value.slice none 0 0) := (hb2.cell (p := ⟨w.heap.size + 1, 2, none⟩) (by first | (simp; done) | (simp; omega))).trans (by go_simp)
        replace r3 : w2.cell? ⟨w.heap.size + 1, 3, none⟩ = some (Value.slice none 0 0) := (hb2.cell (p := ⟨w.heap.size + 1, 3, none⟩) (by first | (simp; done) | (simp; omega))).trans (by go_simp)
        replace r4 : w2.cell? ⟨w.heap.size + 1, 4, none⟩ = some (Value.int .i64 0) := (hb2.cell (p := ⟨w.heap.size + 1, 4, none⟩) (by first | (simp; done) | (simp; omega))).trans (by go_simp)
        replace r5 : w2.cell? ⟨w.heap.size + 1, 5, none⟩ = some (Value.int .i64 0) := (hb2.cell (p := ⟨w.heap.size + 1, 5, none⟩) (by first | (simp; done) | (simp; omega))).trans (by go_simp)
        replace fr0 : w2.frozen? ⟨w.heap.size + 1, 0, none⟩ = false := (hb2.frozen (p := ⟨w.heap.size + 1, 0, none⟩) (by first | (simp; done) | (simp; omega))).trans (by go_simp)
        replace fr1 : w2.frozen? ⟨w.heap.size + 1, 1, none⟩ = false := (hb2.frozen (p := ⟨w.heap.size + 1, 1, none⟩) (by first | (simp; done) | (simp; omega))).trans (by go_simp)
        replace fr2 : w2.frozen? ⟨w.heap.size + 1, 2, none⟩ = false := (hb2.frozen (p := ⟨w.heap.size + 1, 2, none⟩) (by first | (simp; done) | (simp; omega))).trans (by go_simp)
        replace fr3 : w2.frozen? ⟨w.heap.size + 1, 3, none⟩ = false := (hb2.frozen (p := ⟨w.heap.size + 1, 3, none⟩) (by first | (simp; done) | (simp; omega))).trans (by go_simp)
        replace fr4 : w2.frozen? ⟨w.heap.size + 1, 4, none⟩ = false := (hb2.frozen (p := ⟨w.heap.size + 1, 4, none⟩) (by first | (simp; done) | (simp; omega))).trans (by go_simp)
        replace fr5 : w2.frozen? ⟨w.heap.size + 1, 5, none⟩ = false := (hb2.frozen (p := ⟨w.heap.size + 1, 5, none⟩) (by first | (simp; done) | (simp; omega))).trans (by go_simp)
        have g0 : w2.cell? ⟨w1.heap.size, 0, none⟩ = some (Value.slice ac h.n cc) := (hb2.cell (p := ⟨w1.heap.size, 0, none⟩) (by first | (simp; done) | (simp; omega))).trans (by go_simp)
        have fg0 : w2.frozen? ⟨w1.heap.size, 0, none⟩ = false := (hb2.frozen (p := ⟨w1.heap.size, 0, none⟩) (by first | (simp; done) | (simp; omega))).trans (by go_simp)
        have g1 : w2.cell? ⟨w1.heap.size, 1, none⟩ = some (Value.slice am h.ms.length cm) := (hb2.cell (p := ⟨w1.heap.size, 1, none⟩) (by first | (simp; done) | (simp; omega))).trans (by go_simp)
        have fg1 : w2.frozen? ⟨w1.heap.size, 1, none⟩ = false := (hb2.frozen (p := ⟨w1.heap.size, 1, none⟩) (by first | (simp; done) | (simp; omega))).trans (by go_simp)
        have g2 : w2.cell? ⟨w1.heap.size, 2, none⟩ = some (Value.slice ao h.os.length co) := (hb2.cell (p := ⟨w1.heap.size, 2, none⟩) (by first | (simp; done) | (simp; omega))).trans (by go_simp)
        have fg2 : w2.frozen? ⟨w1.heap.size, 2, none⟩ = false := (hb2.frozen (p := ⟨w1.heap.size, 2, none⟩) (by first | (simp; done) | (simp; omega))).trans (by go_simp)
        have g3 : w2.cell? ⟨w1.heap.size, 3, none⟩ = some (Value.slice at_ h.ts.length ct) := (hb2.cell (p := ⟨w1.heap.size, 3, none⟩) (by first | (simp; done) | (simp; omega))).trans (by go_simp)
        have fg3 : w2.frozen? ⟨w1.heap.size, 3, none⟩ = false := (hb2.frozen (p := ⟨w1.heap.size, 3, none⟩) (by first | (simp; done) | (simp; omega))).trans (by go_simp)
        have g4 : w2.cell? ⟨w1.heap.size, 4, none⟩ = some (Value.int .i64 h.sent) := (hb2.cell (p := ⟨w1.heap.size, 4, none⟩) (by first | (simp; done) | (simp; omega))).trans (by go_simp)
        have fg4 : w2.frozen? ⟨w1.heap.size, 4, none⟩ = false := (hb2.frozen (p := ⟨w1.heap.size, 4, none⟩) (by first | (simp; done) | (simp; omega))).trans (by go_simp)
        have g5 : w2.cell? ⟨w1.heap.size, 5, none⟩ = some (Value.int .i64 h.day) := (hb2.cell (p := ⟨w1.heap.size, 5, none⟩) (by first | (simp; done) | (simp; omega))).trans (by go_simp)
        have fg5 : w2.frozen? ⟨w1.heap.size, 5, none⟩ = false := (hb2.frozen (p := ⟨w1.heap.size, 5, none⟩) (by first | (simp; done) | (simp; omega))).trans (by go_simp)
        have z2 : w1.heap.size + 1 ≤ w2.heap.size := by have h := hb2.size; simp at h; omega
        have O2 := Lib.hid (hO.below (bnext (balloc (bref w1) _) hb2))
        have D2 := Lib.hid (bnext D1 (bnext (balloc (bref w1) _) hb2))
        have y3 : w.heap.size < w2.heap.size := by omega
        have y4 : w.heap.size + 1 < w2.heap.size := by omega
        have y5 : w1.heap.size < w2.heap.size := by omega
        clear hb2 hO D1 R1 hr
        go_wp2_with (go_at_call 38; refine (in_any _ _ _ _).mono ?_; rintro e w' ⟨rfl, rfl⟩)
        refine bodyPost_ret (v := .tuple #[.agg #[.slice ac h.n cc, .slice am h.ms.length cm, .slice ao h.os.length co, .slice at_ h.ts.length ct, .int .i64 h.sent, .int .i64 (h.day + d)], .bool true]) (by simp [results, Try.results24, go_sem, r0, r1, r2, r3, r4, r5]) rfl ?_
        rw [H.out]
        have o3 : Only w1.heap.size (w1.heap.size + 1) w2 (w2.setCell ⟨w1.heap.size, 5, none⟩ (Value.int .i64 (h.day + d))) := (Only.refl _ _ _).set (by simp only []; omega) (by simp only []; omega) _
        have O3 := O2.out.only o3 (off_l (Nat.le_refl _))
        have D3 := Only.below D2.out o3 (by omega)
        have fin : ∀ WF : World, Only w.heap.size (w.heap.size + 2) (w2.setCell ⟨w1.heap.size, 5, none⟩ (Value.int .i64 (h.day + d))) WF → HouseO w.heap.size WF.heap.size WF (.slice ac h.n cc) (.slice am h.ms.length cm) (.slice ao h.os.length co) (.slice at_ h.ts.length ct) (h.later d) ∧ Below w.heap.size w WF := fun WF oF =>
          ⟨((O3.later d).only oF (off_r (by simp))).wide (by first | (simp; done) | (simp; omega)) (by have := oF.size; simp at this; omega), Only.below D3 oF (Nat.le_refl _)⟩
        refine ⟨_, _, _, _, _, _, _, _, rfl, fin _ ?_⟩
        repeat (first | with_reducible exact Only.refl _ _ _ | with_reducible refine Only.alloc ?_ _ | with_reducible refine Only.set ?_ (by simp only []; omega) (by simp only []; omega) _)
      · have H := Lib.hid (passDays_3 h3)
        go_enter Try.func24, Try.ntmps24
        go_wp2_with fail
        refine (copyHouse_any _ _ _ _ h _ ((hr.alloc _).alloc _) hn hB).mono ?_
        rintro e w1 ⟨ac, cc, am, cm, ao, co, at_, ct, rfl, hO, hb1⟩
        have b0 : w1.cell? ⟨w.heap.size, 0, none⟩ = some (Value.slice adc h.n capc) := (hb1.cell (p := ⟨w.heap.size, 0, none⟩) (by first | (simp; done) | (simp; omega))).trans (by go_simp)
        have b1 : w1.cell? ⟨w.heap.size, 1, none⟩ = some (Value.slice adm h.ms.length capm) := (hb1.cell (p := ⟨w.heap.size, 1, none⟩) (by first | (simp; done) | (simp; omega))).trans (by go_simp)
        have b2 : w1.cell? ⟨w.heap.size, 2, none⟩ = some (Value.slice ado h.os.length capo) := (hb1.cell (p := ⟨w.heap.size, 2, none⟩) (by first | (simp; done) | (simp; omega))).trans (by go_simp)
        have b3 : w1.cell? ⟨w.heap.size, 3, none⟩ = some (Value.slice adt h.ts.length capt) := (hb1.cell (p := ⟨w.heap.size, 3, none⟩) (by first | (simp; done) | (simp; omega))).trans (by go_simp)
        have b4 : w1.cell? ⟨w.heap.size, 4, none⟩ = some (Value.int .i64 h.sent) := (hb1.cell (p := ⟨w.heap.size, 4, none⟩) (by first | (simp; done) | (simp; omega))).trans (by go_simp)
        have b5 : w1.cell? ⟨w.heap.size, 5, none⟩ = some (Value.int .i64 h.day) := (hb1.cell (p := ⟨w.heap.size, 5, none⟩) (by first | (simp; done) | (simp; omega))).trans (by go_simp)
        have r0 : w1.cell? ⟨w.heap.size + 1, 0, none⟩ = some (Value.slice none 0 0) := (hb1.cell (p := ⟨w.heap.size + 1, 0, none⟩) (by first | (simp; done) | (simp; omega))).trans (by go_simp)
        have fr0 : w1.frozen? ⟨w.heap.size + 1, 0, none⟩ = false := (hb1.frozen (p := ⟨w.heap.size + 1, 0, none⟩) (by first | (simp; done) | (simp; omega))).trans (by go_simp)
        have r1 : w1.cell? ⟨w.heap.size + 1, 1, none⟩ = some (Value.slice none 0 0) := (hb1.cell (p := ⟨w.heap.size + 1, 1, none⟩) (by first | (simp; done) | (simp; omega))).trans (by go_simp)
        have fr1 : w1.frozen? ⟨w.heap.size + 1, 1, none⟩ = false := (hb1.frozen (p := ⟨w.heap.size + 1, 1, none⟩) (by first | (simp; done) | (simp; omega))).trans (by go_simp)
        have r2 : w1.cell? ⟨w.heap.size + 1, 2, none⟩ = some (Value.slice none 0 0) := (hb1.cell (p := ⟨w.heap.size + 1, 2, none⟩) (by first | (simp; done) | (simp; omega))).trans (by go_simp)
        have fr2 : w1.frozen? ⟨w.heap.size + 1, 2, none⟩ = false := (hb1.frozen (p := ⟨w.heap.size + 1, 2, none⟩) (by first | (simp; done) | (simp; omega))).trans (by go_simp)
        have r3 : w1.cell? ⟨w.heap.size + 1, 3, none⟩ = some (Value.slice none 0 0) := (hb1.cell (p := ⟨w.heap.size + 1, 3, none⟩) (by first | (simp; done) | (simp; omega))).trans (by go_simp)
        have fr3 : w1.frozen? ⟨w.heap.size + 1, 3, none⟩ = false := (hb1.frozen (p := ⟨w.heap.size + 1, 3, none⟩) (by first | (simp; done) | (simp; omega))).trans (by go_simp)
        have r4 : w1.cell? ⟨w.heap.size + 1, 4, none⟩ = some (Value.int .i64 0) := (hb1.cell (p := ⟨w.heap.size + 1, 4, none⟩) (by first | (simp; done) | (simp; omega))).trans (by go_simp)
        have fr4 : w1.frozen? ⟨w.heap.size + 1, 4, none⟩ = false := (hb1.frozen (p := ⟨w.heap.size + 1, 4, none⟩) (by first | (simp; done) | (simp; omega))).trans (by go_simp)
        have r5 : w1.cell? ⟨w.heap.size + 1, 5, none⟩ = some (Value.int .i64 0) := (hb1.cell (p := ⟨w.heap.size + 1, 5, none⟩) (by first | (simp; done) | (simp; omega))).trans (by go_simp)
        have fr5 : w1.frozen? ⟨w.heap.size + 1, 5, none⟩ = false := (hb1.frozen (p := ⟨w.heap.size + 1, 5, none⟩) (by first | (simp; done) | (simp; omega))).trans (by go_simp)
        have z1 : w.heap.size + 2 ≤ w1.heap.size := by have h := hb1.size; simp at h; omega
        have y1 : w.heap.size < w1.heap.size := by omega
        have y2 : w.heap.size + 1 < w1.heap.size := by omega
        have D1 := bnext (balloc (balloc (bref w) _) _) hb1
        have R1 := hr.below D1
        clear hb1
        go_wp2_with fail
        refine (implHouseOk _ _ _ _ h _ (R1.alloc _)).mono ?_
        rintro e w2 ⟨rfl, hb2⟩
        rw [h1]
        replace b0 : w2.cell? ⟨w.heap.size, 0, none⟩ = some (Value.slice adc h.n capc) := (hb2.cell (p := ⟨w.heap.size, 0, none⟩) (by first | (simp; done) | (simp; omega))).trans (by go_simp)
        replace b1 : w2.cell? ⟨w.heap.size, 1, none⟩ = some (Value.slice adm h.ms.length capm) := (hb2.cell (p := ⟨w.heap.size, 1, none⟩) (by first | (simp; done) | (simp; omega))).trans (by go_simp)
        replace b2 : w2.cell? ⟨w.heap.size, 2, none⟩ = some (Value.slice ado h.os.length capo) := (hb2.cell (p := ⟨w.heap.size, 2, none⟩) (by first | (simp; done) | (simp; omega))).trans (by go_simp)
        replace b3 : w2.cell? ⟨w.heap.size, 3, none⟩ = some (Value.slice adt h.ts.length capt) := (hb2.cell (p := ⟨w.heap.size, 3, none⟩) (by first | (simp; done) | (simp; omega))).trans (by go_simp)
        replace b4 : w2.cell? ⟨w.heap.size, 4, none⟩ = some (Value.int .i64 h.sent) := (hb2.cell (p := ⟨w.heap.size, 4, none⟩) (by first | (simp; done) | (simp; omega))).trans (by go_simp)
        replace b5 : w2.cell? ⟨w.heap.size, 5, none⟩ = some (Value.int .i64 h.day) := (hb2.cell (p := ⟨w.heap.size, 5, none⟩) (by first | (simp; done) | (simp; omega))).trans (by go_simp)
        replace r0 : w2.cell? ⟨w.heap.size + 1, 0, none⟩ = some (Value.slice none 0 0) := (hb2.cell (p := ⟨w.heap.size + 1, 0, none⟩) (by first | (simp; done) | (simp; omega))).trans (by go_simp)
        replace r1 : w2.cell? ⟨w.heap.size + 1, 1, none⟩ = some (Value.slice none 0 0) := (hb2.cell (p := ⟨w.heap.size + 1, 1, none⟩) (by first | (simp; done) | (simp; omega))).trans (by go_simp)
        replace r2 : w2.cell? ⟨w.heap.size + 1, 2, none⟩ = some (Value.slice none 0 0) := (hb2.cell (p := ⟨w.heap.size + 1, 2, none⟩) (by first | (simp; done) | (simp; omega))).trans (by go_simp)
        replace r3 : w2.cell? ⟨w.heap.size + 1, 3, none⟩ = some (Value.slice none 0 0) := (hb2.cell (p := ⟨w.heap.size + 1, 3, none⟩) (by first | (simp; done) | (simp; omega))).trans (by go_simp)
        replace r4 : w2.cell? ⟨w.heap.size + 1, 4, none⟩ = some (Value.int .i64 0) := (hb2.cell (p := ⟨w.heap.size + 1, 4, none⟩) (by first | (simp; done) | (simp; omega))).trans (by go_simp)
        replace r5 : w2.cell? ⟨w.heap.size + 1, 5, none⟩ = some (Value.int .i64 0) := (hb2.cell (p := ⟨w.heap.size + 1, 5, none⟩) (by first | (simp; done) | (simp; omega))).trans (by go_simp)
        replace fr0 : w2.frozen? ⟨w.heap.size + 1, 0, none⟩ = false := (hb2.frozen (p := ⟨w.heap.size + 1, 0, none⟩) (by first | (simp; done) | (simp; omega))).trans (by go_simp)
        replace fr1 : w2.frozen? ⟨w.heap.size + 1, 1, none⟩ = false := (hb2.frozen (p := ⟨w.heap.size + 1, 1, none⟩) (by first | (simp; done) | (simp; omega))).trans (by go_simp)
        replace fr2 : w2.frozen? ⟨w.heap.size + 1, 2, none⟩ = false := (hb2.frozen (p := ⟨w.heap.size + 1, 2, none⟩) (by first | (simp; done) | (simp; omega))).trans (by go_simp)
        replace fr3 : w2.frozen? ⟨w.heap.size + 1, 3, none⟩ = false := (hb2.frozen (p := ⟨w.heap.size + 1, 3, none⟩) (by first | (simp; done) | (simp; omega))).trans (by go_simp)
        replace fr4 : w2.frozen? ⟨w.heap.size + 1, 4, none⟩ = false := (hb2.frozen (p := ⟨w.heap.size + 1, 4, none⟩) (by first | (simp; done) | (simp; omega))).trans (by go_simp)
        replace fr5 : w2.frozen? ⟨w.heap.size + 1, 5, none⟩ = false := (hb2.frozen (p := ⟨w.heap.size + 1, 5, none⟩) (by first | (simp; done) | (simp; omega))).trans (by go_simp)
        have g0 : w2.cell? ⟨w1.heap.size, 0, none⟩ = some (Value.slice ac h.n cc) := (hb2.cell (p := ⟨w1.heap.size, 0, none⟩) (by first | (simp; done) | (simp; omega))).trans (by go_simp)
        have fg0 : w2.frozen? ⟨w1.heap.size, 0, none⟩ = false := (hb2.frozen (p := ⟨w1.heap.size, 0, none⟩) (by first | (simp; done) | (simp; omega))).trans (by go_simp)
        have g1 : w2.cell? ⟨w1.heap.size, 1, none⟩ = some (Value.slice am h.ms.length cm) := (hb2.cell (p := ⟨w1.heap.size, 1, none⟩) (by first | (simp; done) | (simp; omega))).trans (by go_simp)
        have fg1 : w2.frozen? ⟨w1.heap.size, 1, none⟩ = false := (hb2.frozen (p := ⟨w1.heap.size, 1, none⟩) (by first | (simp; done) | (simp; omega))).trans (by go_simp)
        have g2 : w2.cell? ⟨w1.heap.size, 2, none⟩ = some (Value.slice ao h.os.length co) := (hb2.cell (p := ⟨w1.heap.size, 2, none⟩) (by first | (simp; done) | (simp; omega))).trans (by go_simp)
        have fg2 : w2.frozen? ⟨w1.heap.size, 2, none⟩ = false := (hb2.frozen (p := ⟨w1.heap.size, 2, none⟩) (by first | (simp; done) | (simp; omega))).trans (by go_simp)
        have g3 : w2.cell? ⟨w1.heap.size, 3, none⟩ = some (Value.slice at_ h.ts.length ct) := (hb2.cell (p := ⟨w1.heap.size, 3, none⟩) (by first | (simp; done) | (simp; omega))).trans (by go_simp)
        have fg3 : w2.frozen? ⟨w1.heap.size, 3, none⟩ = false := (hb2.frozen (p := ⟨w1.heap.size, 3, none⟩) (by first | (simp; done) | (simp; omega))).trans (by go_simp)
        have g4 : w2.cell? ⟨w1.heap.size, 4, none⟩ = some (Value.int .i64 h.sent) := (hb2.cell (p := ⟨w1.heap.size, 4, none⟩) (by first | (simp; done) | (simp; omega))).trans (by go_simp)
        have fg4 : w2.frozen? ⟨w1.heap.size, 4, none⟩ = false := (hb2.frozen (p := ⟨w1.heap.size, 4, none⟩) (by first | (simp; done) | (simp; omega))).trans (by go_simp)
        have g5 : w2.cell? ⟨w1.heap.size, 5, none⟩ = some (Value.int .i64 h.day) := (hb2.cell (p := ⟨w1.heap.size, 5, none⟩) (by first | (simp; done) | (simp; omega))).trans (by go_simp)
        have fg5 : w2.frozen? ⟨w1.heap.size, 5, none⟩ = false := (hb2.frozen (p := ⟨w1.heap.size, 5, none⟩) (by first | (simp; done) | (simp; omega))).trans (by go_simp)
        have z2 : w1.heap.size + 1 ≤ w2.heap.size := by have h := hb2.size; simp at h; omega
        have O2 := Lib.hid (hO.below (bnext (balloc (bref w1) _) hb2))
        have D2 := Lib.hid (bnext D1 (bnext (balloc (bref w1) _) hb2))
        have y3 : w.heap.size < w2.heap.size := by omega
        have y4 : w.heap.size + 1 < w2.heap.size := by omega
        have y5 : w1.heap.size < w2.heap.size := by omega
        clear hb2 hO D1 R1 hr
        go_wp2_with (go_at_call 38; refine (in_any _ _ _ _).mono ?_; rintro e w' ⟨rfl, rfl⟩)
        refine bodyPost_ret (v := .tuple #[.agg #[.slice ac h.n cc, .slice am h.ms.length cm, .slice ao h.os.length co, .slice at_ h.ts.length ct, .int .i64 h.sent, .int .i64 h.day], .bool false]) (by simp [results, Try.results24, go_sem, r0, r1, r2, r3, r4, r5]) rfl ?_
        rw [H.out]
        have fin : ∀ WF : World, Only w.heap.size (w.heap.size + 2) w2 WF → HouseO w.heap.size WF.heap.size WF (.slice ac h.n cc) (.slice am h.ms.length cm) (.slice ao h.os.length co) (.slice at_ h.ts.length ct) h ∧ Below w.heap.size w WF := fun WF oF =>
          ⟨(O2.out.only oF (off_r (by simp))).wide (by first | (simp; done) | (simp; omega)) (by have := oF.size; omega), Only.below D2.out oF (Nat.le_refl _)⟩
        refine ⟨_, _, _, _, _, _, _, _, rfl, fin _ ?_⟩
        repeat (first | with_reducible exact Only.refl _ _ _ | with_reducible refine Only.alloc ?_ _ | with_reducible refine Only.set ?_ (by simp only []; omega) (by simp only []; omega) _)

set_option maxRecDepth 100000 in
set_option maxHeartbeats 4000000 in
theorem specPassDays (vc vm vo vt : Value) (h : HD) (d : Int) (w : World) (hr : HouseR w vc vm vo vt h) (hn : HouseN vc vm vo vt) (hB : HouseB h 1048576) : Calls Try.prog 30 #[.agg #[vc, vm, vo, vt, .int .i64 h.sent, .int .i64 h.day], .int .i64 d] w (fun e w' => ∃ ac cc am cm ao co at_ ct, e = .returned (.tuple #[.agg #[.slice ac ((passDays h d).1).n cc, .slice am ((passDays h d).1).ms.length cm, .slice ao ((passDays h d).1).os.length co, .slice at_ ((passDays h d).1).ts.length ct, .int .i64 ((passDays h d).1).sent, .int .i64 ((passDays h d).1).day], .bool (passDays h d).2]) ∧ HouseO w.heap.size w'.heap.size w' (.slice ac ((passDays h d).1).n cc) (.slice am ((passDays h d).1).ms.length cm) (.slice ao ((passDays h d).1).os.length co) (.slice at_ ((passDays h d).1).ts.length ct) ((passDays h d).1) ∧ Below w.heap.size w w') := by
  obtain ⟨adc, capc, rfl⟩ : ∃ ad cap, vc = .slice ad h.n cap := by obtain ⟨_, _, ad, cap, hh, _⟩ := hr.c; exact ⟨ad, cap, hh⟩
  obtain ⟨adm, capm, rfl⟩ : ∃ ad cap, vm = .slice ad h.ms.length cap := by obtain ⟨_, ad, cap, hh, _⟩ := hr.m; exact ⟨ad, cap, hh⟩
  obtain ⟨ado, capo, rfl⟩ : ∃ ad cap, vo = .slice ad h.os.length cap := by obtain ⟨_, ad, cap, hh, _⟩ := hr.o; exact ⟨ad, cap, hh⟩
  obtain ⟨adt, capt, rfl⟩ : ∃ ad cap, vt = .slice ad h.ts.length cap := by obtain ⟨_, ad, cap, hh, _⟩ := hr.t; exact ⟨ad, cap, hh⟩
  cases h1 : houseOk h with
  | false =>
    have H := Lib.hid (passDays_1 (d := d) h1)
    go_enter Try.func30, Try.ntmps30
    go_wp2_with fail
    refine (l38Copy_any _ _ _ _ h _ ((hr.alloc _).alloc _) hn hB).mono ?_
    rintro e w1 ⟨ac, cc, am, cm, ao, co, at_, ct, rfl, hO, hb1⟩
    have b0 : w1.cell? ⟨w.heap.size, 0, none⟩ = some (Value.slice adc h.n capc) := (hb1.cell (p := ⟨w.heap.size, 0, none⟩) (by first | (simp; done) | (simp; omega))).trans (by go_simp)
    have b1 : w1.cell? ⟨w.heap.size, 1, none⟩ = some (Value.slice adm h.ms.length capm) := (hb1.cell (p := ⟨w.heap.size, 1, none⟩) (by first | (simp; done) | (simp; omega))).trans (by go_simp)
    have b2 : w1.cell? ⟨w.heap.size, 2, none⟩ = some (Value.slice ado h.os.length capo) := (hb1.cell (p := ⟨w.heap.size, 2, none⟩) (by first | (simp; done) | (simp; omega))).trans (by go_simp)
    have b3 : w1.cell? ⟨w.heap.size, 3, none⟩ = some (Value.slice adt h.ts.length capt) := (hb1.cell (p := ⟨w.heap.size, 3, none⟩) (by first | (simp; done) | (simp; omega))).trans (by go_simp)
    have b4 : w1.cell? ⟨w.heap.size, 4, none⟩ = some (Value.int .i64 h.sent) := (hb1.cell (p := ⟨w.heap.size, 4, none⟩) (by first | (simp; done) | (simp; omega))).trans (by go_simp)
    have b5 : w1.cell? ⟨w.heap.size, 5, none⟩ = some (Value.int .i64 h.day) := (hb1.cell (p := ⟨w.heap.size, 5, none⟩) (by first | (simp; done) | (simp; omega))).trans (by go_simp)
    have r0 : w1.cell? ⟨w.heap.size + 1, 0, none⟩ = some (Value.slice none 0 0) := (hb1.cell (p := ⟨w.heap.size + 1, 0, none⟩) (by first | (simp; done) | (simp; omega))).trans (by go_simp)
    have fr0 : w1.frozen? ⟨w.heap.size + 1, 0, none⟩ = false := (hb1.frozen (p := ⟨w.heap.size + 1, 0, none⟩) (by first | (simp; done) | (simp; omega))).trans (by go_simp)
    have r1 : w1.cell? ⟨w.heap.size + 1, 1, none⟩ = some (Value.slice none 0 0) := (hb1.cell (p := ⟨w.heap.size + 1, 1, none⟩) (by first | (simp; done) | (simp; omega))).trans (by go_simp)
    have fr1 : w1.frozen? ⟨w.heap.size + 1, 1, none⟩ = false := (hb1.frozen (p := ⟨w.heap.size + 1, 1, none⟩) (by first | (simp; done) | (simp; omega))).trans (by go_simp)
    have r2 : w1.cell? ⟨w.heap.size + 1, 2, none⟩ = some (Value.slice none 0 0) := (hb1.cell (p := ⟨w.heap.size + 1, 2, none⟩) (by first | (simp; done) | (simp; omega))).trans (by go_simp)
    have fr2 : w1.frozen? ⟨w.heap.size + 1, 2, none⟩ = false := (hb1.frozen (p := ⟨w.heap.size + 1, 2, none⟩) (by first | (simp; done) | (simp; omega))).trans (by go_simp)
    have r3 : w1.cell? ⟨w.heap.size + 1, 3, none⟩ = some (Value.slice none 0 0) := (hb1.cell (p := ⟨w.heap.size + 1, 3, none⟩) (by first | (simp; done) | (simp; omega))).trans (by go_simp)
    have fr3 : w1.frozen? ⟨w.heap.size + 1, 3, none⟩ = false := (hb1.frozen (p := ⟨w.heap.size + 1, 3, none⟩) (by first | (simp; done) | (simp; omega))).trans (by go_simp)
    have r4 : w1.cell? ⟨w.heap.size + 1, 4, none⟩ = some (Value.int .i64 0) := (hb1.cell (p := ⟨w.heap.size + 1, 4, none⟩) (by first | (simp; done) | (simp; omega))).trans (by go_simp)
    have fr4 : w1.frozen? ⟨w.heap.size + 1, 4, none⟩ = false := (hb1.frozen (p := ⟨w.heap.size + 1, 4, none⟩) (by first | (simp; done) | (simp; omega))).trans (by go_simp)
    have r5 : w1.cell? ⟨w.heap.size + 1, 5, none⟩ = some (Value.int .i64 0) := (hb1.cell (p := ⟨w.heap.size + 1, 5, none⟩) (by first | (simp; done) | (simp; omega))).trans (by go_simp)
    have fr5 : w1.frozen? ⟨w.heap.size + 1, 5, none⟩ = false := (hb1.frozen (p := ⟨w.heap.size + 1, 5, none⟩) (by first | (simp; done) | (simp; omega))).trans (by go_simp)
    have z1 : w.heap.size + 2 ≤ w1.heap.size := by have h := hb1.size; simp at h; omega
    have y1 : w.heap.size < w1.heap.size := by omega
    have y2 : w.heap.size + 1 < w1.heap.size := by omega
    have D1 := bnext (balloc (balloc (bref w) _) _) hb1
    have R1 := hr.below D1
    clear hb1
    go_wp2_with fail
    refine (specHouseOk _ _ _ _ h _ (R1.alloc _)).mono ?_
    rintro e w2 ⟨rfl, hb2⟩
    rw [h1]
    replace b0 : w2.cell? ⟨w.heap.size, 0, none⟩ = some (Value.slice adc h.n capc) := (hb2.cell (p := ⟨w.heap.size, 0, none⟩) (by first | (simp; done) | (simp; omega))).trans (by go_simp)
    replace b1 : w2.cell? ⟨w.heap.size, 1, none⟩ = some (Value.slice adm h.ms.length capm) := (hb2.cell (p := ⟨w.heap.size, 1, none⟩) (by first | (simp; done) | (simp; omega))).trans (by go_simp)
    replace b2 : w2.cell? ⟨w.heap.size, 2, none⟩ = some (Value.slice ado h.os.length capo) := (hb2.cell (p := ⟨w.heap.size, 2, none⟩) (by first | (simp; done) | (simp; omega))).trans (by go_simp)
    replace b3 : w2.cell? ⟨w.heap.size, 3, none⟩ = some (Value.slice adt h.ts.length capt) := (hb2.cell (p := ⟨w.heap.size, 3, none⟩) (by first | (simp; done) | (simp; omega))).trans (by go_simp)
    replace b4 : w2.cell? ⟨w.heap.size, 4, none⟩ = some (Value.int .i64 h.sent) := (hb2.cell (p := ⟨w.heap.size, 4, none⟩) (by first | (simp; done) | (simp; omega))).trans (by go_simp)
    replace b5 : w2.cell? ⟨w.heap.size, 5, none⟩ = some (Value.int .i64 h.day) := (hb2.cell (p := ⟨w.heap.size, 5, none⟩) (by first | (simp; done) | (simp; omega))).trans (by go_simp)
    replace r0 : w2.cell? ⟨w.heap.size + 1, 0, none⟩ = some (Value.slice none 0 0) := (hb2.cell (p := ⟨w.heap.size + 1, 0, none⟩) (by first | (simp; done) | (simp; omega))).trans (by go_simp)
    replace r1 : w2.cell? ⟨w.heap.size + 1, 1, none⟩ = some (Value.slice none 0 0) := (hb2.cell (p := ⟨w.heap.size + 1, 1, none⟩) (by first | (simp; done) | (simp; omega))).trans (by go_simp)
    replace r2 : w2.cell? ⟨w.heap.size + 1, 2, none⟩ = some (Value.slice none 0 0) := (hb2.cell (p := ⟨w.heap.size + 1, 2, none⟩) (by first | (simp; done) | (simp; omega))).trans (by go_simp)
    replace r3 : w2.cell? ⟨w.heap.size + 1, 3, none⟩ = some (Value.slice none 0 0) := (hb2.cell (p := ⟨w.heap.size + 1, 3, none⟩) (by first | (simp; done) | (simp; omega))).trans (by go_simp)
    replace r4 : w2.cell? ⟨w.heap.size + 1, 4, none⟩ = some (Value.int .i64 0) := (hb2.cell (p := ⟨w.heap.size + 1, 4, none⟩) (by first | (simp; done) | (simp; omega))).trans (by go_simp)
    replace r5 : w2.cell? ⟨w.heap.size + 1, 5, none⟩ = some (Value.int .i64 0) := (hb2.cell (p := ⟨w.heap.size + 1, 5, none⟩) (by first | (simp; done) | (simp; omega))).trans (by go_simp)
    replace fr0 : w2.frozen? ⟨w.heap.size + 1, 0, none⟩ = false := (hb2.frozen (p := ⟨w.heap.size + 1, 0, none⟩) (by first | (simp; done) | (simp; omega))).trans (by go_simp)
    replace fr1 : w2.frozen? ⟨w.heap.size + 1, 1, none⟩ = false := (hb2.frozen (p := ⟨w.heap.size + 1, 1, none⟩) (by first | (simp; done) | (simp; omega))).trans (by go_simp)
    replace fr2 : w2.frozen? ⟨w.heap.size + 1, 2, none⟩ = false := (hb2.frozen (p := ⟨w.heap.size + 1, 2, none⟩) (by first | (simp; done) | (simp; omega))).trans (by go_simp)
    replace fr3 : w2.frozen? ⟨w.heap.size + 1, 3, none⟩ = false := (hb2.frozen (p := ⟨w.heap.size + 1, 3, none⟩) (by first | (simp; done) | (simp; omega))).trans (by go_simp)
    replace fr4 : w2.frozen? ⟨w.heap.size + 1, 4, none⟩ = false := (hb2.frozen (p := ⟨w.heap.size + 1, 4, none⟩) (by first | (simp; done) | (simp; omega))).trans (by go_simp)
    replace fr5 : w2.frozen? ⟨w.heap.size + 1, 5, none⟩ = false := (hb2.frozen (p := ⟨w.heap.size + 1, 5, none⟩) (by first | (simp; done) | (simp; omega))).trans (by go_simp)
    have g0 : w2.cell? ⟨w1.heap.size, 0, none⟩ = some (Value.slice ac h.n cc) := (hb2.cell (p := ⟨w1.heap.size, 0, none⟩) (by first | (simp; done) | (simp; omega))).trans (by go_simp)
    have fg0 : w2.frozen? ⟨w1.heap.size, 0, none⟩ = false := (hb2.frozen (p := ⟨w1.heap.size, 0, none⟩) (by first | (simp; done) | (simp; omega))).trans (by go_simp)
    have g1 : w2.cell? ⟨w1.heap.size, 1, none⟩ = some (Value.slice am h.ms.length cm) := (hb2.cell (p := ⟨w1.heap.size, 1, none⟩) (by first | (simp; done) | (simp; omega))).trans (by go_simp)
    have fg1 : w2.frozen? ⟨w1.heap.size, 1, none⟩ = false := (hb2.frozen (p := ⟨w1.heap.size, 1, none⟩) (by first | (simp; done) | (simp; omega))).trans (by go_simp)
    have g2 : w2.cell? ⟨w1.heap.size, 2, none⟩ = some (Value.slice ao h.os.length co) := (hb2.cell (p := ⟨w1.heap.size, 2, none⟩) (by first | (simp; done) | (simp; omega))).trans (by go_simp)
    have fg2 : w2.frozen? ⟨w1.heap.size, 2, none⟩ = false := (hb2.frozen (p := ⟨w1.heap.size, 2, none⟩) (by first | (simp; done) | (simp; omega))).trans (by go_simp)
    have g3 : w2.cell? ⟨w1.heap.size, 3, none⟩ = some (Value.slice at_ h.ts.length ct) := (hb2.cell (p := ⟨w1.heap.size, 3, none⟩) (by first | (simp; done) | (simp; omega))).trans (by go_simp)
    have fg3 : w2.frozen? ⟨w1.heap.size, 3, none⟩ = false := (hb2.frozen (p := ⟨w1.heap.size, 3, none⟩) (by first | (simp; done) | (simp; omega))).trans (by go_simp)
    have g4 : w2.cell? ⟨w1.heap.size, 4, none⟩ = some (Value.int .i64 h.sent) := (hb2.cell (p := ⟨w1.heap.size, 4, none⟩) (by first | (simp; done) | (simp; omega))).trans (by go_simp)
    have fg4 : w2.frozen? ⟨w1.heap.size, 4, none⟩ = false := (hb2.frozen (p := ⟨w1.heap.size, 4, none⟩) (by first | (simp; done) | (simp; omega))).trans (by go_simp)
    have g5 : w2.cell? ⟨w1.heap.size, 5, none⟩ = some (Value.int .i64 h.day) := (hb2.cell (p := ⟨w1.heap.size, 5, none⟩) (by first | (simp; done) | (simp; omega))).trans (by go_simp)
    have fg5 : w2.frozen? ⟨w1.heap.size, 5, none⟩ = false := (hb2.frozen (p := ⟨w1.heap.size, 5, none⟩) (by first | (simp; done) | (simp; omega))).trans (by go_simp)
    have z2 : w1.heap.size + 1 ≤ w2.heap.size := by have h := hb2.size; simp at h; omega
    have O2 := Lib.hid (hO.below (bnext (balloc (bref w1) _) hb2))
    have D2 := Lib.hid (bnext D1 (bnext (balloc (bref w1) _) hb2))
    have y3 : w.heap.size < w2.heap.size := by omega
    have y4 : w.heap.size + 1 < w2.heap.size := by omega
    have y5 : w1.heap.size < w2.heap.size := by omega
    clear hb2 hO D1 R1 hr
    go_wp2_with (go_at_call 55; refine (l01In_any _ _ _ _).mono ?_; rintro e w' ⟨rfl, rfl⟩)
    refine bodyPost_ret (v := .tuple #[.agg #[.slice ac h.n cc, .slice am h.ms.length cm, .slice ao h.os.length co, .slice at_ h.ts.length ct, .int .i64 h.sent, .int .i64 h.day], .bool false]) (by simp [results, Try.results30, go_sem, r0, r1, r2, r3, r4, r5]) rfl ?_
    rw [H.out]
    have fin : ∀ WF : World, Only w.heap.size (w.heap.size + 2) w2 WF → HouseO w.heap.size WF.heap.size WF (.slice ac h.n cc) (.slice am h.ms.length cm) (.slice ao h.os.length co) (.slice at_ h.ts.length ct) h ∧ Below w.heap.size w WF := fun WF oF =>
      ⟨(O2.out.only oF (off_r (by simp))).wide (by first | (simp; done) | (simp; omega)) (by have := oF.size; omega), Only.below D2.out oF (Nat.le_refl _)⟩
    refine ⟨_, _, _, _, _, _, _, _, rfl, fin _ ?_⟩
    repeat (first | with_reducible exact Only.refl _ _ _ | with_reducible refine Only.alloc ?_ _ | with_reducible refine Only.set ?_ (by simp only []; omega) (by simp only []; omega) _)
  | true =>
    have hday := (houseOk_facts h1).day
    cases h2 : inB d 1 1000 with
    | false =>
      have H := Lib.hid (passDays_2 (h := h) h2)
      go_enter Try.func30, Try.ntmps30
      go_wp2_with fail
      refine (l38Copy_any _ _ _ _ h _ ((hr.alloc _).alloc _) hn hB).mono ?_
      rintro e w1 ⟨ac, cc, am, cm, ao, co, at_, ct, rfl, hO, hb1⟩
      have b0 : w1.cell? ⟨w.heap.size, 0, none⟩ = some (Value.slice adc h.n capc) := (hb1.cell (p := ⟨w.heap.size, 0, none⟩) (by first | (simp; done) | (simp; omega))).trans (by go_simp)
      have b1 : w1.cell? ⟨w.heap.size, 1, none⟩ = some (Value.slice adm h.ms.length capm) := (hb1.cell (p := ⟨w.heap.size, 1, none⟩) (by first | (simp; done) | (simp; omega))).trans (by go_simp)
      have b2 : w1.cell? ⟨w.heap.size, 2, none⟩ = some (Value.slice ado h.os.length capo) := (hb1.cell (p := ⟨w.heap.size, 2, none⟩) (by first | (simp; done) | (simp; omega))).trans (by go_simp)
      have b3 : w1.cell? ⟨w.heap.size, 3, none⟩ = some (Value.slice adt h.ts.length capt) := (hb1.cell (p := ⟨w.heap.size, 3, none⟩) (by first | (simp; done) | (simp; omega))).trans (by go_simp)
      have b4 : w1.cell? ⟨w.heap.size, 4, none⟩ = some (Value.int .i64 h.sent) := (hb1.cell (p := ⟨w.heap.size, 4, none⟩) (by first | (simp; done) | (simp; omega))).trans (by go_simp)
      have b5 : w1.cell? ⟨w.heap.size, 5, none⟩ = some (Value.int .i64 h.day) := (hb1.cell (p := ⟨w.heap.size, 5, none⟩) (by first | (simp; done) | (simp; omega))).trans (by go_simp)
      have r0 : w1.cell? ⟨w.heap.size + 1, 0, none⟩ = some (Value.slice none 0 0) := (hb1.cell (p := ⟨w.heap.size + 1, 0, none⟩) (by first | (simp; done) | (simp; omega))).trans (by go_simp)
      have fr0 : w1.frozen? ⟨w.heap.size + 1, 0, none⟩ = false := (hb1.frozen (p := ⟨w.heap.size + 1, 0, none⟩) (by first | (simp; done) | (simp; omega))).trans (by go_simp)
      have r1 : w1.cell? ⟨w.heap.size + 1, 1, none⟩ = some (Value.slice none 0 0) := (hb1.cell (p := ⟨w.heap.size + 1, 1, none⟩) (by first | (simp; done) | (simp; omega))).trans (by go_simp)
      have fr1 : w1.frozen? ⟨w.heap.size + 1, 1, none⟩ = false := (hb1.frozen (p := ⟨w.heap.size + 1, 1, none⟩) (by first | (simp; done) | (simp; omega))).trans (by go_simp)
      have r2 : w1.cell? ⟨w.heap.size + 1, 2, none⟩ = some (Value.slice none 0 0) := (hb1.cell (p := ⟨w.heap.size + 1, 2, none⟩) (by first | (simp; done) | (simp; omega))).trans (by go_simp)
      have fr2 : w1.frozen? ⟨w.heap.size + 1, 2, none⟩ = false := (hb1.frozen (p := ⟨w.heap.size + 1, 2, none⟩) (by first | (simp; done) | (simp; omega))).trans (by go_simp)
      have r3 : w1.cell? ⟨w.heap.size + 1, 3, none⟩ = some (Value.slice none 0 0) := (hb1.cell (p := ⟨w.heap.size + 1, 3, none⟩) (by first | (simp; done) | (simp; omega))).trans (by go_simp)
      have fr3 : w1.frozen? ⟨w.heap.size + 1, 3, none⟩ = false := (hb1.frozen (p := ⟨w.heap.size + 1, 3, none⟩) (by first | (simp; done) | (simp; omega))).trans (by go_simp)
      have r4 : w1.cell? ⟨w.heap.size + 1, 4, none⟩ = some (Value.int .i64 0) := (hb1.cell (p := ⟨w.heap.size + 1, 4, none⟩) (by first | (simp; done) | (simp; omega))).trans (by go_simp)
      have fr4 : w1.frozen? ⟨w.heap.size + 1, 4, none⟩ = false := (hb1.frozen (p := ⟨w.heap.size + 1, 4, none⟩) (by first | (simp; done) | (simp; omega))).trans (by go_simp)
      have r5 : w1.cell? ⟨w.heap.size + 1, 5, none⟩ = some (Value.int .i64 0) := (hb1.cell (p := ⟨w.heap.size + 1, 5, none⟩) (by first | (simp; done) | (simp; omega))).trans (by go_simp)
      have fr5 : w1.frozen? ⟨w.heap.size + 1, 5, none⟩ = false := (hb1.frozen (p := ⟨w.heap.size + 1, 5, none⟩) (by first | (simp; done) | (simp; omega))).trans (by go_simp)
      have z1 : w.heap.size + 2 ≤ w1.heap.size := by have h := hb1.size; simp at h; omega
      have y1 : w.heap.size < w1.heap.size := by omega
      have y2 : w.heap.size + 1 < w1.heap.size := by omega
      have D1 := bnext (balloc (balloc (bref w) _) _) hb1
      have R1 := hr.below D1
      clear hb1
      go_wp2_with fail
      refine (specHouseOk _ _ _ _ h _ (R1.alloc _)).mono ?_
      rintro e w2 ⟨rfl, hb2⟩
      rw [h1]
      replace b0 : w2.cell? ⟨w.heap.size, 0, none⟩ = some (Value.slice adc h.n capc) := (hb2.cell (p := ⟨w.heap.size, 0, none⟩) (by first | (simp; done) | (simp; omega))).trans (by go_simp)
      replace b1 : w2.cell? ⟨w.heap.size, 1, none⟩ = some (Value.slice adm h.ms.length capm) := (hb2.cell (p := ⟨w.heap.size, 1, none⟩) (by first | (simp; done) | (simp; omega))).trans (by go_simp)
      replace b2 : w2.cell? ⟨w.heap.size, 2, none⟩ = some (Value.slice ado h.os.length capo) := (hb2.cell (p := ⟨w.heap.size, 2, none⟩) (by first | (simp; done) | (simp; omega))).trans (by go_simp)
      replace b3 : w2.cell? ⟨w.heap.size, 3, none⟩ = some (Value.slice adt h.ts.length capt) := (hb2.cell (p := ⟨w.heap.size, 3, none⟩) (by first | (simp; done) | (simp; omega))).trans (by go_simp)
      replace b4 : w2.cell? ⟨w.heap.size, 4, none⟩ = some (Value.int .i64 h.sent) := (hb2.cell (p := ⟨w.heap.size, 4, none⟩) (by first | (simp; done) | (simp; omega))).trans (by go_simp)
      replace b5 : w2.cell? ⟨w.heap.size, 5, none⟩ = some (Value.int .i64 h.day) := (hb2.cell (p := ⟨w.heap.size, 5, none⟩) (by first | (simp; done) | (simp; omega))).trans (by go_simp)
      replace r0 : w2.cell? ⟨w.heap.size + 1, 0, none⟩ = some (Value.slice none 0 0) := (hb2.cell (p := ⟨w.heap.size + 1, 0, none⟩) (by first | (simp; done) | (simp; omega))).trans (by go_simp)
      replace r1 : w2.cell? ⟨w.heap.size + 1, 1, none⟩ = some (Value.slice none 0 0) := (hb2.cell (p := ⟨w.heap.size + 1, 1, none⟩) (by first | (simp; done) | (simp; omega))).trans (by go_simp)
      replace r2 : w2.cell? ⟨w.heap.size + 1, 2, none⟩ = some (Value.slice none 0 0) := (hb2.cell (p := ⟨w.heap.size + 1, 2, none⟩) (by first | (simp; done) | (simp; omega))).trans (by go_simp)
      replace r3 : w2.cell? ⟨w.heap.size + 1, 3, none⟩ = some (Value.slice none 0 0) := (hb2.cell (p := ⟨w.heap.size + 1, 3, none⟩) (by first | (simp; done) | (simp; omega))).trans (by go_simp)
      replace r4 : w2.cell? ⟨w.heap.size + 1, 4, none⟩ = some (Value.int .i64 0) := (hb2.cell (p := ⟨w.heap.size + 1, 4, none⟩) (by first | (simp; done) | (simp; omega))).trans (by go_simp)
      replace r5 : w2.cell? ⟨w.heap.size + 1, 5, none⟩ = some (Value.int .i64 0) := (hb2.cell (p := ⟨w.heap.size + 1, 5, none⟩) (by first | (simp; done) | (simp; omega))).trans (by go_simp)
      replace fr0 : w2.frozen? ⟨w.heap.size + 1, 0, none⟩ = false := (hb2.frozen (p := ⟨w.heap.size + 1, 0, none⟩) (by first | (simp; done) | (simp; omega))).trans (by go_simp)
      replace fr1 : w2.frozen? ⟨w.heap.size + 1, 1, none⟩ = false := (hb2.frozen (p := ⟨w.heap.size + 1, 1, none⟩) (by first | (simp; done) | (simp; omega))).trans (by go_simp)
      replace fr2 : w2.frozen? ⟨w.heap.size + 1, 2, none⟩ = false := (hb2.frozen (p := ⟨w.heap.size + 1, 2, none⟩) (by first | (simp; done) | (simp; omega))).trans (by go_simp)
      replace fr3 : w2.frozen? ⟨w.heap.size + 1, 3, none⟩ = false := (hb2.frozen (p := ⟨w.heap.size + 1, 3, none⟩) (by first | (simp; done) | (simp; omega))).trans (by go_simp)
      replace fr4 : w2.frozen? ⟨w.heap.size + 1, 4, none⟩ = false := (hb2.frozen (p := ⟨w.heap.size + 1, 4, none⟩) (by first | (simp; done) | (simp; omega))).trans (by go_simp)
      replace fr5 : w2.frozen? ⟨w.heap.size + 1, 5, none⟩ = false := (hb2.frozen (p := ⟨w.heap.size + 1, 5, none⟩) (by first | (simp; done) | (simp; omega))).trans (by go_simp)
      have g0 : w2.cell? ⟨w1.heap.size, 0, none⟩ = some (Value.slice ac h.n cc) := (hb2.cell (p := ⟨w1.heap.size, 0, none⟩) (by first | (simp; done) | (simp; omega))).trans (by go_simp)
      have fg0 : w2.frozen? ⟨w1.heap.size, 0, none⟩ = false := (hb2.frozen (p := ⟨w1.heap.size, 0, none⟩) (by first | (simp; done) | (simp; omega))).trans (by go_simp)
      have g1 : w2.cell? ⟨w1.heap.size, 1, none⟩ = some (Value.slice am h.ms.length cm) := (hb2.cell (p := ⟨w1.heap.size, 1, none⟩) (by first | (simp; done) | (simp; omega))).trans (by go_simp)
      have fg1 : w2.frozen? ⟨w1.heap.size, 1, none⟩ = false := (hb2.frozen (p := ⟨w1.heap.size, 1, none⟩) (by first | (simp; done) | (simp; omega))).trans (by go_simp)
      have g2 : w2.cell? ⟨w1.heap.size, 2, none⟩ = some (Value.slice ao h.os.length co) := (hb2.cell (p := ⟨w1.heap.size, 2, none⟩) (by first | (simp; done) | (simp; omega))).trans (by go_simp)
      have fg2 : w2.frozen? ⟨w1.heap.size, 2, none⟩ = false := (hb2.frozen (p := ⟨w1.heap.size, 2, none⟩) (by first | (simp; done) | (simp; omega))).trans (by go_simp)
      have g3 : w2.cell? ⟨w1.heap.size, 3, none⟩ = some (Value.slice at_ h.ts.length ct) := (hb2.cell (p := ⟨w1.heap.size, 3, none⟩) (by first | (simp; done) | (simp; omega))).trans (by go_simp)
      have fg3 : w2.frozen? ⟨w1.heap.size, 3, none⟩ = false := (hb2.frozen (p := ⟨w1.heap.size, 3, none⟩) (by first | (simp; done) | (simp; omega))).trans (by go_simp)
      have g4 : w2.cell? ⟨w1.heap.size, 4, none⟩ = some (Value.int .i64 h.sent) := (hb2.cell (p := ⟨w1.heap.size, 4, none⟩) (by first | (simp; done) | (simp; omega))).trans (by go_simp)
      have fg4 : w2.frozen? ⟨w1.heap.size, 4, none⟩ = false := (hb2.frozen (p := ⟨w1.heap.size, 4, none⟩) (by first | (simp; done) | (simp; omega))).trans (by go_simp)
      have g5 : w2.cell? ⟨w1.heap.size, 5, none⟩ = some (Value.int .i64 h.day) := (hb2.cell (p := ⟨w1.heap.size, 5, none⟩) (by first | (simp; done) | (simp; omega))).trans (by go_simp)
      have fg5 : w2.frozen? ⟨w1.heap.size, 5, none⟩ = false := (hb2.frozen (p := ⟨w1.heap.size, 5, none⟩) (by first | (simp; done) | (simp; omega))).trans (by go_simp)
      have z2 : w1.heap.size + 1 ≤ w2.heap.size := by have h := hb2.size; simp at h; omega
      have O2 := Lib.hid (hO.below (bnext (balloc (bref w1) _) hb2))
      have D2 := Lib.hid (bnext D1 (bnext (balloc (bref w1) _) hb2))
      have y3 : w.heap.size < w2.heap.size := by omega
      have y4 : w.heap.size + 1 < w2.heap.size := by omega
      have y5 : w1.heap.size < w2.heap.size := by omega
      clear hb2 hO D1 R1 hr
      go_wp2_with (go_at_call 55; refine (l01In_any _ _ _ _).mono ?_; rintro e w' ⟨rfl, rfl⟩)
      refine bodyPost_ret (v := .tuple #[.agg #[.slice ac h.n cc, .slice am h.ms.length cm, .slice ao h.os.length co, .slice at_ h.ts.length ct, .int .i64 h.sent, .int .i64 h.day], .bool false]) (by simp [results, Try.results30, go_sem, r0, r1, r2, r3, r4, r5]) rfl ?_
      rw [H.out]
      have fin : ∀ WF : World, Only w.heap.size (w.heap.size + 2) w2 WF → HouseO w.heap.size WF.heap.size WF (.slice ac h.n cc) (.slice am h.ms.length cm) (.slice ao h.os.length co) (.slice at_ h.ts.length ct) h ∧ Below w.heap.size w WF := fun WF oF =>
        ⟨(O2.out.only oF (off_r (by simp))).wide (by first | (simp; done) | (simp; omega)) (by have := oF.size; omega), Only.below D2.out oF (Nat.le_refl _)⟩
      refine ⟨_, _, _, _, _, _, _, _, rfl, fin _ ?_⟩
      repeat (first | with_reducible exact Only.refl _ _ _ | with_reducible refine Only.alloc ?_ _ | with_reducible refine Only.set ?_ (by simp only []; omega) (by simp only []; omega) _)
    | true =>
      have hd := inB_le h2
      by_cases h3 : h.day + d ≤ 10000
      · have H := Lib.hid (passDays_t h1 h2 h3)
        go_enter Try.func30, Try.ntmps30
        go_wp2_with fail
        refine (l38Copy_any _ _ _ _ h _ ((hr.alloc _).alloc _) hn hB).mono ?_
        rintro e w1 ⟨ac, cc, am, cm, ao, co, at_, ct, rfl, hO, hb1⟩
        have b0 : w1.cell? ⟨w.heap.size, 0, none⟩ = some (Value.slice adc h.n capc) := (hb1.cell (p := ⟨w.heap.size, 0, none⟩) (by first | (simp; done) | (simp; omega))).trans (by go_simp)
        have b1 : w1.cell? ⟨w.heap.size, 1, none⟩ = some (Value.slice adm h.ms.length capm) := (hb1.cell (p := ⟨w.heap.size, 1, none⟩) (by first | (simp; done) | (simp; omega))).trans (by go_simp)
        have b2 : w1.cell? ⟨w.heap.size, 2, none⟩ = some (Value.slice ado h.os.length capo) := (hb1.cell (p := ⟨w.heap.size, 2, none⟩) (by first | (simp; done) | (simp; omega))).trans (by go_simp)
        have b3 : w1.cell? ⟨w.heap.size, 3, none⟩ = some (Value.slice adt h.ts.length capt) := (hb1.cell (p := ⟨w.heap.size, 3, none⟩) (by first | (simp; done) | (simp; omega))).trans (by go_simp)
        have b4 : w1.cell? ⟨w.heap.size, 4, none⟩ = some (Value.int .i64 h.sent) := (hb1.cell (p := ⟨w.heap.size, 4, none⟩) (by first | (simp; done) | (simp; omega))).trans (by go_simp)
        have b5 : w1.cell? ⟨w.heap.size, 5, none⟩ = some (Value.int .i64 h.day) := (hb1.cell (p := ⟨w.heap.size, 5, none⟩) (by first | (simp; done) | (simp; omega))).trans (by go_simp)
        have r0 : w1.cell? ⟨w.heap.size + 1, 0, none⟩ = some (Value.slice none 0 0) := (hb1.cell (p := ⟨w.heap.size + 1, 0, none⟩) (by first | (simp; done) | (simp; omega))).trans (by go_simp)
        have fr0 : w1.frozen? ⟨w.heap.size + 1, 0, none⟩ = false := (hb1.frozen (p := ⟨w.heap.size + 1, 0, none⟩) (by first | (simp; done) | (simp; omega))).trans (by go_simp)
        have r1 : w1.cell? ⟨w.heap.size + 1, 1, none⟩ = some (Value.slice none 0 0) := (hb1.cell (p := ⟨w.heap.size + 1, 1, none⟩) (by first | (simp; done) | (simp; omega))).trans (by go_simp)
        have fr1 : w1.frozen? ⟨w.heap.size + 1, 1, none⟩ = false := (hb1.frozen (p := ⟨w.heap.size + 1, 1, none⟩) (by first | (simp; done) | (simp; omega))).trans (by go_simp)
        have r2 : w1.cell? ⟨w.heap.size + 1, 2, none⟩ = some (Value.slice none 0 0) := (hb1.cell (p := ⟨w.heap.size + 1, 2, none⟩) (by first | (simp; done) | (simp; omega))).trans (by go_simp)
        have fr2 : w1.frozen? ⟨w.heap.size + 1, 2, none⟩ = false := (hb1.frozen (p := ⟨w.heap.size + 1, 2, none⟩) (by first | (simp; done) | (simp; omega))).trans (by go_simp)
        have r3 : w1.cell? ⟨w.heap.size + 1, 3, none⟩ = some (Value.slice none 0 0) := (hb1.cell (p := ⟨w.heap.size + 1, 3, none⟩) (by first | (simp; done) | (simp; omega))).trans (by go_simp)
        have fr3 : w1.frozen? ⟨w.heap.size + 1, 3, none⟩ = false := (hb1.frozen (p := ⟨w.heap.size + 1, 3, none⟩) (by first | (simp; done) | (simp; omega))).trans (by go_simp)
        have r4 : w1.cell? ⟨w.heap.size + 1, 4, none⟩ = some (Value.int .i64 0) := (hb1.cell (p := ⟨w.heap.size + 1, 4, none⟩) (by first | (simp; done) | (simp; omega))).trans (by go_simp)
        have fr4 : w1.frozen? ⟨w.heap.size + 1, 4, none⟩ = false := (hb1.frozen (p := ⟨w.heap.size + 1, 4, none⟩) (by first | (simp; done) | (simp; omega))).trans (by go_simp)
        have r5 : w1.cell? ⟨w.heap.size + 1, 5, none⟩ = some (Value.int .i64 0) := (hb1.cell (p := ⟨w.heap.size + 1, 5, none⟩) (by first | (simp; done) | (simp; omega))).trans (by go_simp)
        have fr5 : w1.frozen? ⟨w.heap.size + 1, 5, none⟩ = false := (hb1.frozen (p := ⟨w.heap.size + 1, 5, none⟩) (by first | (simp; done) | (simp; omega))).trans (by go_simp)
        have z1 : w.heap.size + 2 ≤ w1.heap.size := by have h := hb1.size; simp at h; omega
        have y1 : w.heap.size < w1.heap.size := by omega
        have y2 : w.heap.size + 1 < w1.heap.size := by omega
        have D1 := bnext (balloc (balloc (bref w) _) _) hb1
        have R1 := hr.below D1
        clear hb1
        go_wp2_with fail
        refine (specHouseOk _ _ _ _ h _ (R1.alloc _)).mono ?_
        rintro e w2 ⟨rfl, hb2⟩
        rw [h1]
        replace b0 : w2.cell? ⟨w.heap.size, 0, none⟩ = some (Value.slice adc h.n capc) := (hb2.cell (p := ⟨w.heap.size, 0, none⟩) (by first | (simp; done) | (simp; omega))).trans (by go_simp)
        replace b1 : w2.cell? ⟨w.heap.size, 1, none⟩ = some (Value.slice adm h.ms.length capm) := (hb2.cell (p := ⟨w.heap.size, 1, none⟩) (by first | (simp; done) | (simp; omega))).trans (by go_simp)
        replace b2 : w2.cell? ⟨w.heap.size, 2, none⟩ = some (Value.slice ado h.os.length capo) := (hb2.cell (p := ⟨w.heap.size, 2, none⟩) (by first | (simp; done) | (simp; omega))).trans (by go_simp)
        replace b3 : w2.cell? ⟨w.heap.size, 3, none⟩ = some (Value.slice adt h.ts.length capt) := (hb2.cell (p := ⟨w.heap.size, 3, none⟩) (by first | (simp; done) | (simp; omega))).trans (by go_simp)
        replace b4 : w2.cell? ⟨w.heap.size, 4, none⟩ = some (Value.int .i64 h.sent) := (hb2.cell (p := ⟨w.heap.size, 4, none⟩) (by first | (simp; done) | (simp; omega))).trans (by go_simp)
        replace b5 : w2.cell? ⟨w.heap.size, 5, none⟩ = some (Value.int .i64 h.day) := (hb2.cell (p := ⟨w.heap.size, 5, none⟩) (by first | (simp; done) | (simp; omega))).trans (by go_simp)
        replace r0 : w2.cell? ⟨w.heap.size + 1, 0, none⟩ = some (Value.slice none 0 0) := (hb2.cell (p := ⟨w.heap.size + 1, 0, none⟩) (by first | (simp; done) | (simp; omega))).trans (by go_simp)
        replace r1 : w2.cell? ⟨w.heap.size + 1, 1, none⟩ = some (Value.slice none 0 0) := (hb2.cell (p := ⟨w.heap.size + 1, 1, none⟩) (by first | (simp; done) | (simp; omega))).trans (by go_simp)
        replace r2 : w2.cell? ⟨w.heap.size + 1, 2, none⟩ = some (Value.slice none 0 0) := (hb2.cell (p := ⟨w.heap.size + 1, 2, none⟩) (by first | (simp; done) | (simp; omega))).trans (by go_simp)
        replace r3 : w2.cell? ⟨w.heap.size + 1, 3, none⟩ = some (Value.slice none 0 0) := (hb2.cell (p := ⟨w.heap.size + 1, 3, none⟩) (by first | (simp; done) | (simp; omega))).trans (by go_simp)
        replace r4 : w2.cell? ⟨w.heap.size + 1, 4, none⟩ = some (Value.int .i64 0) := (hb2.cell (p := ⟨w.heap.size + 1, 4, none⟩) (by first | (simp; done) | (simp; omega))).trans (by go_simp)
        replace r5 : w2.cell? ⟨w.heap.size + 1, 5, none⟩ = some (Value.int .i64 0) := (hb2.cell (p := ⟨w.heap.size + 1, 5, none⟩) (by first | (simp; done) | (simp; omega))).trans (by go_simp)
        replace fr0 : w2.frozen? ⟨w.heap.size + 1, 0, none⟩ = false := (hb2.frozen (p := ⟨w.heap.size + 1, 0, none⟩) (by first | (simp; done) | (simp; omega))).trans (by go_simp)
        replace fr1 : w2.frozen? ⟨w.heap.size + 1, 1, none⟩ = false := (hb2.frozen (p := ⟨w.heap.size + 1, 1, none⟩) (by first | (simp; done) | (simp; omega))).trans (by go_simp)
        replace fr2 : w2.frozen? ⟨w.heap.size + 1, 2, none⟩ = false := (hb2.frozen (p := ⟨w.heap.size + 1, 2, none⟩) (by first | (simp; done) | (simp; omega))).trans (by go_simp)
        replace fr3 : w2.frozen? ⟨w.heap.size + 1, 3, none⟩ = false := (hb2.frozen (p := ⟨w.heap.size + 1, 3, none⟩) (by first | (simp; done) | (simp; omega))).trans (by go_simp)
        replace fr4 : w2.frozen? ⟨w.heap.size + 1, 4, none⟩ = false := (hb2.frozen (p := ⟨w.heap.size + 1, 4, none⟩) (by first | (simp; done) | (simp; omega))).trans (by go_simp)
        replace fr5 : w2.frozen? ⟨w.heap.size + 1, 5, none⟩ = false := (hb2.frozen (p := ⟨w.heap.size + 1, 5, none⟩) (by first | (simp; done) | (simp; omega))).trans (by go_simp)
        have g0 : w2.cell? ⟨w1.heap.size, 0, none⟩ = some (Value.slice ac h.n cc) := (hb2.cell (p := ⟨w1.heap.size, 0, none⟩) (by first | (simp; done) | (simp; omega))).trans (by go_simp)
        have fg0 : w2.frozen? ⟨w1.heap.size, 0, none⟩ = false := (hb2.frozen (p := ⟨w1.heap.size, 0, none⟩) (by first | (simp; done) | (simp; omega))).trans (by go_simp)
        have g1 : w2.cell? ⟨w1.heap.size, 1, none⟩ = some (Value.slice am h.ms.length cm) := (hb2.cell (p := ⟨w1.heap.size, 1, none⟩) (by first | (simp; done) | (simp; omega))).trans (by go_simp)
        have fg1 : w2.frozen? ⟨w1.heap.size, 1, none⟩ = false := (hb2.frozen (p := ⟨w1.heap.size, 1, none⟩) (by first | (simp; done) | (simp; omega))).trans (by go_simp)
        have g2 : w2.cell? ⟨w1.heap.size, 2, none⟩ = some (Value.slice ao h.os.length co) := (hb2.cell (p := ⟨w1.heap.size, 2, none⟩) (by first | (simp; done) | (simp; omega))).trans (by go_simp)
        have fg2 : w2.frozen? ⟨w1.heap.size, 2, none⟩ = false := (hb2.frozen (p := ⟨w1.heap.size, 2, none⟩) (by first | (simp; done) | (simp; omega))).trans (by go_simp)
        have g3 : w2.cell? ⟨w1.heap.size, 3, none⟩ = some (Value.slice at_ h.ts.length ct) := (hb2.cell (p := ⟨w1.heap.size, 3, none⟩) (by first | (simp; done) | (simp; omega))).trans (by go_simp)
        have fg3 : w2.frozen? ⟨w1.heap.size, 3, none⟩ = false := (hb2.frozen (p := ⟨w1.heap.size, 3, none⟩) (by first | (simp; done) | (simp; omega))).trans (by go_simp)
        have g4 : w2.cell? ⟨w1.heap.size, 4, none⟩ = some (Value.int .i64 h.sent) := (hb2.cell (p := ⟨w1.heap.size, 4, none⟩) (by first | (simp; done) | (simp; omega))).trans (by go_simp)
        have fg4 : w2.frozen? ⟨w1.heap.size, 4, none⟩ = false := (hb2.frozen (p := ⟨w1.heap.size, 4, none⟩) (by first | (simp; done) | (simp; omega))).trans (by go_simp)
        have g5 : w2.cell? ⟨w1.heap.size, 5, none⟩ = some (Value.int .i64 h.day) := (hb2.cell (p := ⟨w1.heap.size, 5, none⟩) (by first | (simp; done) | (simp; omega))).trans (by go_simp)
        have fg5 : w2.frozen? ⟨w1.heap.size, 5, none⟩ = false := (hb2.frozen (p := ⟨w1.heap.size, 5, none⟩) (by first | (simp; done) | (simp; omega))).trans (by go_simp)
        have z2 : w1.heap.size + 1 ≤ w2.heap.size := by have h := hb2.size; simp at h; omega
        have O2 := Lib.hid (hO.below (bnext (balloc (bref w1) _) hb2))
        have D2 := Lib.hid (bnext D1 (bnext (balloc (bref w1) _) hb2))
        have y3 : w.heap.size < w2.heap.size := by omega
        have y4 : w.heap.size + 1 < w2.heap.size := by omega
        have y5 : w1.heap.size < w2.heap.size := by omega
        clear hb2 hO D1 R1 hr
        go_wp2_with (go_at_call 55; refine (l01In_any _ _ _ _).mono ?_; rintro e w' ⟨rfl, rfl⟩)
        refine bodyPost_ret (v := .tuple #[.agg #[.slice ac h.n cc, .slice am h.ms.length cm, .slice ao h.os.length co, .slice at_ h.ts.length ct, .int .i64 h.sent, .int .i64 (h.day + d)], .bool true]) (by simp [results, Try.results30, go_sem, r0, r1, r2, r3, r4, r5]) rfl ?_
        rw [H.out]
        have o3 : Only w1.heap.size (w1.heap.size + 1) w2 (w2.setCell ⟨w1.heap.size, 5, none⟩ (Value.int .i64 (h.day + d))) := (Only.refl _ _ _).set (by simp only []; omega) (by simp only []; omega) _
        have O3 := O2.out.only o3 (off_l (Nat.le_refl _))
        have D3 := Only.below D2.out o3 (by omega)
        have fin : ∀ WF : World, Only w.heap.size (w.heap.size + 2) (w2.setCell ⟨w1.heap.size, 5, none⟩ (Value.int .i64 (h.day + d))) WF → HouseO w.heap.size WF.heap.size WF (.slice ac h.n cc) (.slice am h.ms.length cm) (.slice ao h.os.length co) (.slice at_ h.ts.length ct) (h.later d) ∧ Below w.heap.size w WF := fun WF oF =>
          ⟨((O3.later d).only oF (off_r (by simp))).wide (by first | (simp; done) | (simp; omega)) (by have := oF.size; simp at this; omega), Only.below D3 oF (Nat.le_refl _)⟩
        refine ⟨_, _, _, _, _, _, _, _, rfl, fin _ ?_⟩
        repeat (first | with_reducible exact Only.refl _ _ _ | with_reducible refine Only.alloc ?_ _ | with_reducible refine Only.set ?_ (by simp only []; omega) (by simp only []; omega) _)
      · have H := Lib.hid (passDays_3 h3)
        go_enter Try.func30, Try.ntmps30
        go_wp2_with fail
        refine (l38Copy_any _ _ _ _ h _ ((hr.alloc _).alloc _) hn hB).mono ?_
        rintro e w1 ⟨ac, cc, am, cm, ao, co, at_, ct, rfl, hO, hb1⟩
        have b0 : w1.cell? ⟨w.heap.size, 0, none⟩ = some (Value.slice adc h.n capc) := (hb1.cell (p := ⟨w.heap.size, 0, none⟩) (by first | (simp; done) | (simp; omega))).trans (by go_simp)
        have b1 : w1.cell? ⟨w.heap.size, 1, none⟩ = some (Value.slice adm h.ms.length capm) := (hb1.cell (p := ⟨w.heap.size, 1, none⟩) (by first | (simp; done) | (simp; omega))).trans (by go_simp)
        have b2 : w1.cell? ⟨w.heap.size, 2, none⟩ = some (Value.slice ado h.os.length capo) := (hb1.cell (p := ⟨w.heap.size, 2, none⟩) (by first | (simp; done) | (simp; omega))).trans (by go_simp)
        have b3 : w1.cell? ⟨w.heap.size, 3, none⟩ = some (Value.slice adt h.ts.length capt) := (hb1.cell (p := ⟨w.heap.size, 3, none⟩) (by first | (simp; done) | (simp; omega))).trans (by go_simp)
        have b4 : w1.cell? ⟨w.heap.size, 4, none⟩ = some (Value.int .i64 h.sent) := (hb1.cell (p := ⟨w.heap.size, 4, none⟩) (by first | (simp; done) | (simp; omega))).trans (by go_simp)
        have b5 : w1.cell? ⟨w.heap.size, 5, none⟩ = some (Value.int .i64 h.day) := (hb1.cell (p := ⟨w.heap.size, 5, none⟩) (by first | (simp; done) | (simp; omega))).trans (by go_simp)
        have r0 : w1.cell? ⟨w.heap.size + 1, 0, none⟩ = some (Value.slice none 0 0) := (hb1.cell (p := ⟨w.heap.size + 1, 0, none⟩) (by first | (simp; done) | (simp; omega))).trans (by go_simp)
        have fr0 : w1.frozen? ⟨w.heap.size + 1, 0, none⟩ = false := (hb1.frozen (p := ⟨w.heap.size + 1, 0, none⟩) (by first | (simp; done) | (simp; omega))).trans (by go_simp)
        have r1 : w1.cell? ⟨w.heap.size + 1, 1, none⟩ = some (Value.slice none 0 0) := (hb1.cell (p := ⟨w.heap.size + 1, 1, none⟩) (by first | (simp; done) | (simp; omega))).trans (by go_simp)
        have fr1 : w1.frozen? ⟨w.heap.size + 1, 1, none⟩ = false := (hb1.frozen (p := ⟨w.heap.size + 1, 1, none⟩) (by first | (simp; done) | (simp; omega))).trans (by go_simp)
        have r2 : w1.cell? ⟨w.heap.size + 1, 2, none⟩ = some (Value.slice none 0 0) := (hb1.cell (p := ⟨w.heap.size + 1, 2, none⟩) (by first | (simp; done) | (simp; omega))).trans (by go_simp)
        have fr2 : w1.frozen? ⟨w.heap.size + 1, 2, none⟩ = false := (hb1.frozen (p := ⟨w.heap.size + 1, 2, none⟩) (by first | (simp; done) | (simp; omega))).trans (by go_simp)
        have r3 : w1.cell? ⟨w.heap.size + 1, 3, none⟩ = some (Value.slice none 0 0) := (hb1.cell (p := ⟨w.heap.size + 1, 3, none⟩) (by first | (simp; done) | (simp; omega))).trans (by go_simp)
        have fr3 : w1.frozen? ⟨w.heap.size + 1, 3, none⟩ = false := (hb1.frozen (p := ⟨w.heap.size + 1, 3, none⟩) (by first | (simp; done) | (simp; omega))).trans (by go_simp)
        have r4 : w1.cell? ⟨w.heap.size + 1, 4, none⟩ = some (Value.int .i64 0) := (hb1.cell (p := ⟨w.heap.size + 1, 4, none⟩) (by first | (simp; done) | (simp; omega))).trans (by go_simp)
        have fr4 : w1.frozen? ⟨w.heap.size + 1, 4, none⟩ = false := (hb1.frozen (p := ⟨w.heap.size + 1, 4, none⟩) (by first | (simp; done) | (simp; omega))).trans (by go_simp)
        have r5 : w1.cell? ⟨w.heap.size + 1, 5, none⟩ = some (Value.int .i64 0) := (hb1.cell (p := ⟨w.heap.size + 1, 5, none⟩) (by first | (simp; done) | (simp; omega))).trans (by go_simp)
        have fr5 : w1.frozen? ⟨w.heap.size + 1, 5, none⟩ = false := (hb1.frozen (p := ⟨w.heap.size + 1, 5, none⟩) (by first | (simp; done) | (simp; omega))).trans (by go_simp)
        have z1 : w.heap.size + 2 ≤ w1.heap.size := by have h := hb1.size; simp at h; omega
        have y1 : w.heap.size < w1.heap.size := by omega
        have y2 : w.heap.size + 1 < w1.heap.size := by omega
        have D1 := bnext (balloc (balloc (bref w) _) _) hb1
        have R1 := hr.below D1
        clear hb1
        go_wp2_with fail
        refine (specHouseOk _ _ _ _ h _ (R1.alloc _)).mono ?_
        rintro e w2 ⟨rfl, hb2⟩
        rw [h1]
        replace b0 : w2.cell? ⟨w.heap.size, 0, none⟩ = some (Value.slice adc h.n capc) := (hb2.cell (p := ⟨w.heap.size, 0, none⟩) (by first | (simp; done) | (simp; omega))).trans (by go_simp)
        replace b1 : w2.cell? ⟨w.heap.size, 1, none⟩ = some (Value.slice adm h.ms.length capm) := (hb2.cell (p := ⟨w.heap.size, 1, none⟩) (by first | (simp; done) | (simp; omega))).trans (by go_simp)
        replace b2 : w2.cell? ⟨w.heap.size, 2, none⟩ = some (Value.slice ado h.os.length capo) := (hb2.cell (p := ⟨w.heap.size, 2, none⟩) (by first | (simp; done) | (simp; omega))).trans (by go_simp)
        replace b3 : w2.cell? ⟨w.heap.size, 3, none⟩ = some (Value.slice adt h.ts.length capt) := (hb2.cell (p := ⟨w.heap.size, 3, none⟩) (by first | (simp; done) | (simp; omega))).trans (by go_simp)
        replace b4 : w2.cell? ⟨w.heap.size, 4, none⟩ = some (Value.int .i64 h.sent) := (hb2.cell (p := ⟨w.heap.size, 4, none⟩) (by first | (simp; done) | (simp; omega))).trans (by go_simp)
        replace b5 : w2.cell? ⟨w.heap.size, 5, none⟩ = some (Value.int .i64 h.day) := (hb2.cell (p := ⟨w.heap.size, 5, none⟩) (by first | (simp; done) | (simp; omega))).trans (by go_simp)
        replace r0 : w2.cell? ⟨w.heap.size + 1, 0, none⟩ = some (Value.slice none 0 0) := (hb2.cell (p := ⟨w.heap.size + 1, 0, none⟩) (by first | (simp; done) | (simp; omega))).trans (by go_simp)
        replace r1 : w2.cell? ⟨w.heap.size + 1, 1, none⟩ = some (Value.slice none 0 0) := (hb2.cell (p := ⟨w.heap.size + 1, 1, none⟩) (by first | (simp; done) | (simp; omega))).trans (by go_simp)
        replace r2 : w2.cell? ⟨w.heap.size + 1, 2, none⟩ = some (Value.slice none 0 0) := (hb2.cell (p := ⟨w.heap.size + 1, 2, none⟩) (by first | (simp; done) | (simp; omega))).trans (by go_simp)
        replace r3 : w2.cell? ⟨w.heap.size + 1, 3, none⟩ = some (Value.slice none 0 0) := (hb2.cell (p := ⟨w.heap.size + 1, 3, none⟩) (by first | (simp; done) | (simp; omega))).trans (by go_simp)
        replace r4 : w2.cell? ⟨w.heap.size + 1, 4, none⟩ = some (Value.int .i64 0) := (hb2.cell (p := ⟨w.heap.size + 1, 4, none⟩) (by first | (simp; done) | (simp; omega))).trans (by go_simp)
        replace r5 : w2.cell? ⟨w.heap.size + 1, 5, none⟩ = some (Value.int .i64 0) := (hb2.cell (p := ⟨w.heap.size + 1, 5, none⟩) (by first | (simp; done) | (simp; omega))).trans (by go_simp)
        replace fr0 : w2.frozen? ⟨w.heap.size + 1, 0, none⟩ = false := (hb2.frozen (p := ⟨w.heap.size + 1, 0, none⟩) (by first | (simp; done) | (simp; omega))).trans (by go_simp)
        replace fr1 : w2.frozen? ⟨w.heap.size + 1, 1, none⟩ = false := (hb2.frozen (p := ⟨w.heap.size + 1, 1, none⟩) (by first | (simp; done) | (simp; omega))).trans (by go_simp)
        replace fr2 : w2.frozen? ⟨w.heap.size + 1, 2, none⟩ = false := (hb2.frozen (p := ⟨w.heap.size + 1, 2, none⟩) (by first | (simp; done) | (simp; omega))).trans (by go_simp)
        replace fr3 : w2.frozen? ⟨w.heap.size + 1, 3, none⟩ = false := (hb2.frozen (p := ⟨w.heap.size + 1, 3, none⟩) (by first | (simp; done) | (simp; omega))).trans (by go_simp)
        replace fr4 : w2.frozen? ⟨w.heap.size + 1, 4, none⟩ = false := (hb2.frozen (p := ⟨w.heap.size + 1, 4, none⟩) (by first | (simp; done) | (simp; omega))).trans (by go_simp)
        replace fr5 : w2.frozen? ⟨w.heap.size + 1, 5, none⟩ = false := (hb2.frozen (p := ⟨w.heap.size + 1, 5, none⟩) (by first | (simp; done) | (simp; omega))).trans (by go_simp)
        have g0 : w2.cell? ⟨w1.heap.size, 0, none⟩ = some (Value.slice ac h.n cc) := (hb2.cell (p := ⟨w1.heap.size, 0, none⟩) (by first | (simp; done) | (simp; omega))).trans (by go_simp)
        have fg0 : w2.frozen? ⟨w1.heap.size, 0, none⟩ = false := (hb2.frozen (p := ⟨w1.heap.size, 0, none⟩) (by first | (simp; done) | (simp; omega))).trans (by go_simp)
        have g1 : w2.cell? ⟨w1.heap.size, 1, none⟩ = some (Value.slice am h.ms.length cm) := (hb2.cell (p := ⟨w1.heap.size, 1, none⟩) (by first | (simp; done) | (simp; omega))).trans (by go_simp)
        have fg1 : w2.frozen? ⟨w1.heap.size, 1, none⟩ = false := (hb2.frozen (p := ⟨w1.heap.size, 1, none⟩) (by first | (simp; done) | (simp; omega))).trans (by go_simp)
        have g2 : w2.cell? ⟨w1.heap.size, 2, none⟩ = some (Value.slice ao h.os.length co) := (hb2.cell (p := ⟨w1.heap.size, 2, none⟩) (by first | (simp; done) | (simp; omega))).trans (by go_simp)
        have fg2 : w2.frozen? ⟨w1.heap.size, 2, none⟩ = false := (hb2.frozen (p := ⟨w1.heap.size, 2, none⟩) (by first | (simp; done) | (simp; omega))).trans (by go_simp)
        have g3 : w2.cell? ⟨w1.heap.size, 3, none⟩ = some (Value.slice at_ h.ts.length ct) := (hb2.cell (p := ⟨w1.heap.size, 3, none⟩) (by first | (simp; done) | (simp; omega))).trans (by go_simp)
        have fg3 : w2.frozen? ⟨w1.heap.size, 3, none⟩ = false := (hb2.frozen (p := ⟨w1.heap.size, 3, none⟩) (by first | (simp; done) | (simp; omega))).trans (by go_simp)
        have g4 : w2.cell? ⟨w1.heap.size, 4, none⟩ = some (Value.int .i64 h.sent) := (hb2.cell (p := ⟨w1.heap.size, 4, none⟩) (by first | (simp; done) | (simp; omega))).trans (by go_simp)
        have fg4 : w2.frozen? ⟨w1.heap.size, 4, none⟩ = false := (hb2.frozen (p := ⟨w1.heap.size, 4, none⟩) (by first | (simp; done) | (simp; omega))).trans (by go_simp)
        have g5 : w2.cell? ⟨w1.heap.size, 5, none⟩ = some (Value.int .i64 h.day) := (hb2.cell (p := ⟨w1.heap.size, 5, none⟩) (by first | (simp; done) | (simp; omega))).trans (by go_simp)
        have fg5 : w2.frozen? ⟨w1.heap.size, 5, none⟩ = false := (hb2.frozen (p := ⟨w1.heap.size, 5, none⟩) (by first | (simp; done) | (simp; omega))).trans (by go_simp)
        have z2 : w1.heap.size + 1 ≤ w2.heap.size := by have h := hb2.size; simp at h; omega
        have O2 := Lib.hid (hO.below (bnext (balloc (bref w1) _) hb2))
        have D2 := Lib.hid (bnext D1 (bnext (balloc (bref w1) _) hb2))
        have y3 : w.heap.size < w2.heap.size := by omega
        have y4 : w.heap.size + 1 < w2.heap.size := by omega
        have y5 : w1.heap.size < w2.heap.size := by omega
        clear hb2 hO D1 R1 hr
        go_wp2_with (go_at_call 55; refine (l01In_any _ _ _ _).mono ?_; rintro e w' ⟨rfl, rfl⟩)
        refine bodyPost_ret (v := .tuple #[.agg #[.slice ac h.n cc, .slice am h.ms.length cm, .slice ao h.os.length co, .slice at_ h.ts.length ct, .int .i64 h.sent, .int .i64 h.day], .bool false]) (by simp [results, Try.results30, go_sem, r0, r1, r2, r3, r4, r5]) rfl ?_
        rw [H.out]
        have fin : ∀ WF : World, Only w.heap.size (w.heap.size + 2) w2 WF → HouseO w.heap.size WF.heap.size WF (.slice ac h.n cc) (.slice am h.ms.length cm) (.slice ao h.os.length co) (.slice at_ h.ts.length ct) h ∧ Below w.heap.size w WF := fun WF oF =>
          ⟨(O2.out.only oF (off_r (by simp))).wide (by first | (simp; done) | (simp; omega)) (by have := oF.size; omega), Only.below D2.out oF (Nat.le_refl _)⟩
        refine ⟨_, _, _, _, _, _, _, _, rfl, fin _ ?_⟩
        repeat (first | with_reducible exact Only.refl _ _ _ | with_reducible refine Only.alloc ?_ _ | with_reducible refine Only.set ?_ (by simp only []; omega) (by simp only []; omega) _)
end Go.Proofs.Ytlipfkalehikkaa
