/- The walk of DoAct, in the reference. -/
import Derived.Test.YtlipfkalehikkaaGJ
import Derived.Test.YtlipfkalehikkaaGK
import Derived.Deep.RegionWith
import Derived.Deep.RegionHeld3
import Derived.Deep.DeepCutAuto
namespace Go.Proofs.Ytlipfkalehikkaa
open Go.ChangeShapes Go.WideShapes Go.ChangeAt Go.RowKit

theorem l39Bool_any (b : Bool) (w : World) : Calls Try.prog 34 #[.bool b] w fun e w' => e = .returned (.int .i64 (bit b)) ∧ w = w' := by
  cases b <;>
    (go_enter Try.func34, Try.ntmps34
     go_wp2
     go_ret
     exact ⟨rfl, rfl⟩)

set_option maxRecDepth 100000 in
set_option maxHeartbeats 8000000 in
theorem specDoAct (vc vm vo vt : Value) (h : HD) (k a b c d : Int) (w : World) (hr : HouseR w vc vm vo vt h) (hn : HouseN vc vm vo vt) (hB : HouseB h 1048576) : Calls Try.prog 7 #[.agg #[vc, vm, vo, vt, .int .i64 h.sent, .int .i64 h.day], .agg #[.int .i64 k, .int .i64 a, .int .i64 b, .int .i64 c, .int .i64 d]] w (fun e w' => ∃ ac cc am cm ao co at_ ct, e = .returned (.tuple #[.agg #[.slice ac ((doAct h k a b c d).1).n cc, .slice am ((doAct h k a b c d).1).ms.length cm, .slice ao ((doAct h k a b c d).1).os.length co, .slice at_ ((doAct h k a b c d).1).ts.length ct, .int .i64 ((doAct h k a b c d).1).sent, .int .i64 ((doAct h k a b c d).1).day], .int .i64 (doAct h k a b c d).2]) ∧ HouseO w.heap.size w'.heap.size w' (.slice ac ((doAct h k a b c d).1).n cc) (.slice am ((doAct h k a b c d).1).ms.length cm) (.slice ao ((doAct h k a b c d).1).os.length co) (.slice at_ ((doAct h k a b c d).1).ts.length ct) ((doAct h k a b c d).1) ∧ Below w.heap.size w w') := by
  obtain ⟨adc, capc, rfl⟩ : ∃ ad cap, vc = .slice ad h.n cap := by obtain ⟨_, _, ad, cap, hh, _⟩ := hr.c; exact ⟨ad, cap, hh⟩
  obtain ⟨adm, capm, rfl⟩ : ∃ ad cap, vm = .slice ad h.ms.length cap := by obtain ⟨_, ad, cap, hh, _⟩ := hr.m; exact ⟨ad, cap, hh⟩
  obtain ⟨ado, capo, rfl⟩ : ∃ ad cap, vo = .slice ad h.os.length cap := by obtain ⟨_, ad, cap, hh, _⟩ := hr.o; exact ⟨ad, cap, hh⟩
  obtain ⟨adt, capt, rfl⟩ : ∃ ad cap, vt = .slice ad h.ts.length cap := by obtain ⟨_, ad, cap, hh, _⟩ := hr.t; exact ⟨ad, cap, hh⟩
  cases h1 : houseOk h with
  | false =>
    have H := Lib.hid (doAct_no (h := h) (k := k) (a := a) (b := b) (c := c) (d := d) (by simp [h1]))
    have MK : Hid (∀ W : World, Below (((w.alloc (.cells #[.slice adc h.n capc, .slice adm h.ms.length capm, .slice ado h.os.length capo, .slice adt h.ts.length capt, .int .i64 h.sent, .int .i64 h.day] 27)).alloc (.cells #[.int .i64 k, .int .i64 a, .int .i64 b, .int .i64 c, .int .i64 d] 34)).alloc (.cells #[.slice none 0 0, .slice none 0 0, .slice none 0 0, .slice none 0 0, .int .i64 0, .int .i64 0] 27)).heap.size (((w.alloc (.cells #[.slice adc h.n capc, .slice adm h.ms.length capm, .slice ado h.os.length capo, .slice adt h.ts.length capt, .int .i64 h.sent, .int .i64 h.day] 27)).alloc (.cells #[.int .i64 k, .int .i64 a, .int .i64 b, .int .i64 c, .int .i64 d] 34)).alloc (.cells #[.slice none 0 0, .slice none 0 0, .slice none 0 0, .slice none 0 0, .int .i64 0, .int .i64 0] 27)) W → W.cell? ⟨w.heap.size, 0, none⟩ = some (Value.slice adc h.n capc) ∧ W.cell? ⟨w.heap.size, 1, none⟩ = some (Value.slice adm h.ms.length capm) ∧ W.cell? ⟨w.heap.size, 2, none⟩ = some (Value.slice ado h.os.length capo) ∧ W.cell? ⟨w.heap.size, 3, none⟩ = some (Value.slice adt h.ts.length capt) ∧ W.cell? ⟨w.heap.size, 4, none⟩ = some (Value.int .i64 h.sent) ∧ W.cell? ⟨w.heap.size, 5, none⟩ = some (Value.int .i64 h.day) ∧ W.cell? ⟨w.heap.size + 1, 0, none⟩ = some (Value.int .i64 k) ∧ W.cell? ⟨w.heap.size + 1, 1, none⟩ = some (Value.int .i64 a) ∧ W.cell? ⟨w.heap.size + 1, 2, none⟩ = some (Value.int .i64 b) ∧ W.cell? ⟨w.heap.size + 1, 3, none⟩ = some (Value.int .i64 c) ∧ W.cell? ⟨w.heap.size + 1, 4, none⟩ = some (Value.int .i64 d) ∧ W.cell? ⟨w.heap.size + 1 + 1, 0, none⟩ = some (Value.slice none 0 0) ∧ W.cell? ⟨w.heap.size + 1 + 1, 1, none⟩ = some (Value.slice none 0 0) ∧ W.cell? ⟨w.heap.size + 1 + 1, 2, none⟩ = some (Value.slice none 0 0) ∧ W.cell? ⟨w.heap.size + 1 + 1, 3, none⟩ = some (Value.slice none 0 0) ∧ W.cell? ⟨w.heap.size + 1 + 1, 4, none⟩ = some (Value.int .i64 0) ∧ W.cell? ⟨w.heap.size + 1 + 1, 5, none⟩ = some (Value.int .i64 0) ∧ W.frozen? ⟨w.heap.size + 1 + 1, 0, none⟩ = false ∧ W.frozen? ⟨w.heap.size + 1 + 1, 1, none⟩ = false ∧ W.frozen? ⟨w.heap.size + 1 + 1, 2, none⟩ = false ∧ W.frozen? ⟨w.heap.size + 1 + 1, 3, none⟩ = false ∧ W.frozen? ⟨w.heap.size + 1 + 1, 4, none⟩ = false ∧ W.frozen? ⟨w.heap.size + 1 + 1, 5, none⟩ = false) := fun W hb => ⟨(hb.cell (p := ⟨w.heap.size, 0, none⟩) (by first | (simp; done) | (simp; omega))).trans (by go_simp), (hb.cell (p := ⟨w.heap.size, 1, none⟩) (by first | (simp; done) | (simp; omega))).trans (by go_simp), (hb.cell (p := ⟨w.heap.size, 2, none⟩) (by first | (simp; done) | (simp; omega))).trans (by go_simp), (hb.cell (p := ⟨w.heap.size, 3, none⟩) (by first | (simp; done) | (simp; omega))).trans (by go_simp), (hb.cell (p := ⟨w.heap.size, 4, none⟩) (by first | (simp; done) | (simp; omega))).trans (by go_simp), (hb.cell (p := ⟨w.heap.size, 5, none⟩) (by first | (simp; done) | (simp; omega))).trans (by go_simp), (hb.cell (p := ⟨w.heap.size + 1, 0, none⟩) (by first | (simp; done) | (simp; omega))).trans (by go_simp), (hb.cell (p := ⟨w.heap.size + 1, 1, none⟩) (by first | (simp; done) | (simp; omega))).trans (by go_simp), (hb.cell (p := ⟨w.heap.size + 1, 2, none⟩) (by first | (simp; done) | (simp; omega))).trans (by go_simp), (hb.cell (p := ⟨w.heap.size + 1, 3, none⟩) (by first | (simp; done) | (simp; omega))).trans (by go_simp), (hb.cell (p := ⟨w.heap.size + 1, 4, none⟩) (by first | (simp; done) | (simp; omega))).trans (by go_simp), (hb.cell (p := ⟨w.heap.size + 1 + 1, 0, none⟩) (by first | (simp; done) | (simp; omega))).trans (by go_simp), (hb.cell (p := ⟨w.heap.size + 1 + 1, 1, none⟩) (by first | (simp; done) | (simp; omega))).trans (by go_simp), (hb.cell (p := ⟨w.heap.size + 1 + 1, 2, none⟩) (by first | (simp; done) | (simp; omega))).trans (by go_simp), (hb.cell (p := ⟨w.heap.size + 1 + 1, 3, none⟩) (by first | (simp; done) | (simp; omega))).trans (by go_simp), (hb.cell (p := ⟨w.heap.size + 1 + 1, 4, none⟩) (by first | (simp; done) | (simp; omega))).trans (by go_simp), (hb.cell (p := ⟨w.heap.size + 1 + 1, 5, none⟩) (by first | (simp; done) | (simp; omega))).trans (by go_simp), (hb.frozen (p := ⟨w.heap.size + 1 + 1, 0, none⟩) (by first | (simp; done) | (simp; omega))).trans (by go_simp), (hb.frozen (p := ⟨w.heap.size + 1 + 1, 1, none⟩) (by first | (simp; done) | (simp; omega))).trans (by go_simp), (hb.frozen (p := ⟨w.heap.size + 1 + 1, 2, none⟩) (by first | (simp; done) | (simp; omega))).trans (by go_simp), (hb.frozen (p := ⟨w.heap.size + 1 + 1, 3, none⟩) (by first | (simp; done) | (simp; omega))).trans (by go_simp), (hb.frozen (p := ⟨w.heap.size + 1 + 1, 4, none⟩) (by first | (simp; done) | (simp; omega))).trans (by go_simp), (hb.frozen (p := ⟨w.heap.size + 1 + 1, 5, none⟩) (by first | (simp; done) | (simp; omega))).trans (by go_simp)⟩
    have DI := Lib.hid (show Below w.heap.size w (((w.alloc (.cells #[.slice adc h.n capc, .slice adm h.ms.length capm, .slice ado h.os.length capo, .slice adt h.ts.length capt, .int .i64 h.sent, .int .i64 h.day] 27)).alloc (.cells #[.int .i64 k, .int .i64 a, .int .i64 b, .int .i64 c, .int .i64 d] 34)).alloc (.cells #[.slice none 0 0, .slice none 0 0, .slice none 0 0, .slice none 0 0, .int .i64 0, .int .i64 0] 27)) from balloc (balloc (balloc (bref w) _) _) _)
    have RI := Lib.hid (((hr.alloc (.cells #[.slice adc h.n capc, .slice adm h.ms.length capm, .slice ado h.os.length capo, .slice adt h.ts.length capt, .int .i64 h.sent, .int .i64 h.day] 27)).alloc (.cells #[.int .i64 k, .int .i64 a, .int .i64 b, .int .i64 c, .int .i64 d] 34)).alloc (.cells #[.slice none 0 0, .slice none 0 0, .slice none 0 0, .slice none 0 0, .int .i64 0, .int .i64 0] 27))
    clear hr
    go_enter Try.func7, Try.ntmps7
    go_wp2_with fail
    refine (l38Copy_any _ _ _ _ h _ RI.out hn hB).mono ?_
    rintro e w1 ⟨ac9, cc9, am9, cm9, ao9, co9, at9, ct9, rfl, hO, hb1⟩
    have B1 := Lib.hid hb1
    have OH := Lib.hid ((hO.wide (lo' := w.heap.size + 3) (by simp) (Nat.le_refl _)).below (balloc (bref w1) (.cells #[.slice ac9 (h).n cc9, .slice am9 (h).ms.length cm9, .slice ao9 (h).os.length co9, .slice at9 (h).ts.length ct9, .int .i64 (h).sent, .int .i64 (h).day] 27)))
    clear hb1 hO
    have z1 : w.heap.size + 3 ≤ w1.heap.size := by have q := B1.out.size; simp at q; omega
    have yy0 : w.heap.size < w1.heap.size := by omega
    have yy1 : w.heap.size + 1 < w1.heap.size := by omega
    have yy2 : w.heap.size + 1 + 1 < w1.heap.size := by omega
    have BX := Lib.hid (balloc B1.out (.cells #[.slice ac9 (h).n cc9, .slice am9 (h).ms.length cm9, .slice ao9 (h).os.length co9, .slice at9 (h).ts.length ct9, .int .i64 (h).sent, .int .i64 (h).day] 27))
    have KX : Hid (∀ W : World, Below (w1.alloc (.cells #[.slice ac9 (h).n cc9, .slice am9 (h).ms.length cm9, .slice ao9 (h).os.length co9, .slice at9 (h).ts.length ct9, .int .i64 (h).sent, .int .i64 (h).day] 27)).heap.size (w1.alloc (.cells #[.slice ac9 (h).n cc9, .slice am9 (h).ms.length cm9, .slice ao9 (h).os.length co9, .slice at9 (h).ts.length ct9, .int .i64 (h).sent, .int .i64 (h).day] 27)) W → W.cell? ⟨w1.heap.size, 0, none⟩ = some (Value.slice ac9 (h).n cc9) ∧ W.cell? ⟨w1.heap.size, 1, none⟩ = some (Value.slice am9 (h).ms.length cm9) ∧ W.cell? ⟨w1.heap.size, 2, none⟩ = some (Value.slice ao9 (h).os.length co9) ∧ W.cell? ⟨w1.heap.size, 3, none⟩ = some (Value.slice at9 (h).ts.length ct9) ∧ W.cell? ⟨w1.heap.size, 4, none⟩ = some (Value.int .i64 (h).sent) ∧ W.cell? ⟨w1.heap.size, 5, none⟩ = some (Value.int .i64 (h).day) ∧ W.frozen? ⟨w1.heap.size, 0, none⟩ = false ∧ W.frozen? ⟨w1.heap.size, 1, none⟩ = false ∧ W.frozen? ⟨w1.heap.size, 2, none⟩ = false ∧ W.frozen? ⟨w1.heap.size, 3, none⟩ = false ∧ W.frozen? ⟨w1.heap.size, 4, none⟩ = false ∧ W.frozen? ⟨w1.heap.size, 5, none⟩ = false) := fun W hb => ⟨(hb.cell (p := ⟨w1.heap.size, 0, none⟩) (by simp)).trans (by go_simp), (hb.cell (p := ⟨w1.heap.size, 1, none⟩) (by simp)).trans (by go_simp), (hb.cell (p := ⟨w1.heap.size, 2, none⟩) (by simp)).trans (by go_simp), (hb.cell (p := ⟨w1.heap.size, 3, none⟩) (by simp)).trans (by go_simp), (hb.cell (p := ⟨w1.heap.size, 4, none⟩) (by simp)).trans (by go_simp), (hb.cell (p := ⟨w1.heap.size, 5, none⟩) (by simp)).trans (by go_simp), (hb.frozen (p := ⟨w1.heap.size, 0, none⟩) (by simp)).trans (by go_simp), (hb.frozen (p := ⟨w1.heap.size, 1, none⟩) (by simp)).trans (by go_simp), (hb.frozen (p := ⟨w1.heap.size, 2, none⟩) (by simp)).trans (by go_simp), (hb.frozen (p := ⟨w1.heap.size, 3, none⟩) (by simp)).trans (by go_simp), (hb.frozen (p := ⟨w1.heap.size, 4, none⟩) (by simp)).trans (by go_simp), (hb.frozen (p := ⟨w1.heap.size, 5, none⟩) (by simp)).trans (by go_simp)⟩
    have OX := Lib.hid (bref (w1.alloc (.cells #[.slice ac9 (h).n cc9, .slice am9 (h).ms.length cm9, .slice ao9 (h).os.length co9, .slice at9 (h).ts.length ct9, .int .i64 (h).sent, .int .i64 (h).day] 27)))
    obtain ⟨b0, b1, b2, b3, b4, b5, c0, c1, c2, c3, c4, r0, r1, r2, r3, r4, r5, fr0, fr1, fr2, fr3, fr4, fr5⟩ := MK.out _ B1.out
    go_wp2_with fail
    refine (specHouseOk _ _ _ _ h _ (RI.out.below BX.out)).mono ?_
    rw [h1]
    rintro e w2 ⟨rfl, hb2⟩
    have OX := Lib.hid (bnext OX.out hb2)
    have BX := Lib.hid (bnext BX.out hb2)
    clear b0 b1 b2 b3 b4 b5 c0 c1 c2 c3 c4 r0 r1 r2 r3 r4 r5 fr0 fr1 fr2 fr3 fr4 fr5 hb2
    obtain ⟨b0, b1, b2, b3, b4, b5, c0, c1, c2, c3, c4, r0, r1, r2, r3, r4, r5, fr0, fr1, fr2, fr3, fr4, fr5⟩ := MK.out _ BX.out
    obtain ⟨x0, x1, x2, x3, x4, x5, fx0, fx1, fx2, fx3, fx4, fx5⟩ := KX.out _ OX.out
    have zx2 : w1.heap.size + 1 ≤ w2.heap.size := by have q := OX.out.size; simp at q; omega
    go_wp2_with fail
    have DL := Lib.hid (bnext DI.out BX.out)
    have hO := OH.out.below OX.out
    go_wp2_with fail
    refine bodyPost_ret (v := .tuple #[.agg #[.slice ac9 (h).n cc9, .slice am9 (h).ms.length cm9, .slice ao9 (h).os.length co9, .slice at9 (h).ts.length ct9, .int .i64 (h).sent, .int .i64 (h).day], .int .i64 (-1)]) (by simp [results, Try.results7, go_sem, r0, r1, r2, r3, r4, r5]) rfl ?_
    rw [H.out]
    have fin : ∀ WF : World, Only w.heap.size (w.heap.size + 3) w2 WF → HouseO w.heap.size WF.heap.size WF (.slice ac9 (h).n cc9) (.slice am9 (h).ms.length cm9) (.slice ao9 (h).os.length co9) (.slice at9 (h).ts.length ct9) (h) ∧ Below w.heap.size w WF := fun WF oF =>
      ⟨((hO).only oF (off_r (by omega))).wide (by omega) (by have := oF.size; omega), Only.below (DL.out) oF (Nat.le_refl _)⟩
    refine ⟨_, _, _, _, _, _, _, _, rfl, fin _ ?_⟩
    repeat (first | with_reducible exact Only.refl _ _ _ | with_reducible refine only_drew ?_ | with_reducible refine Only.alloc ?_ _ | with_reducible refine Only.set ?_ (by simp only []; omega) (by simp only []; omega) _)
  | true =>
    cases h2 : actOk k a b c d with
    | false =>
      have H := Lib.hid (doAct_no (h := h) (k := k) (a := a) (b := b) (c := c) (d := d) (by simp [h2]))
      have MK : Hid (∀ W : World, Below (((w.alloc (.cells #[.slice adc h.n capc, .slice adm h.ms.length capm, .slice ado h.os.length capo, .slice adt h.ts.length capt, .int .i64 h.sent, .int .i64 h.day] 27)).alloc (.cells #[.int .i64 k, .int .i64 a, .int .i64 b, .int .i64 c, .int .i64 d] 34)).alloc (.cells #[.slice none 0 0, .slice none 0 0, .slice none 0 0, .slice none 0 0, .int .i64 0, .int .i64 0] 27)).heap.size (((w.alloc (.cells #[.slice adc h.n capc, .slice adm h.ms.length capm, .slice ado h.os.length capo, .slice adt h.ts.length capt, .int .i64 h.sent, .int .i64 h.day] 27)).alloc (.cells #[.int .i64 k, .int .i64 a, .int .i64 b, .int .i64 c, .int .i64 d] 34)).alloc (.cells #[.slice none 0 0, .slice none 0 0, .slice none 0 0, .slice none 0 0, .int .i64 0, .int .i64 0] 27)) W → W.cell? ⟨w.heap.size, 0, none⟩ = some (Value.slice adc h.n capc) ∧ W.cell? ⟨w.heap.size, 1, none⟩ = some (Value.slice adm h.ms.length capm) ∧ W.cell? ⟨w.heap.size, 2, none⟩ = some (Value.slice ado h.os.length capo) ∧ W.cell? ⟨w.heap.size, 3, none⟩ = some (Value.slice adt h.ts.length capt) ∧ W.cell? ⟨w.heap.size, 4, none⟩ = some (Value.int .i64 h.sent) ∧ W.cell? ⟨w.heap.size, 5, none⟩ = some (Value.int .i64 h.day) ∧ W.cell? ⟨w.heap.size + 1, 0, none⟩ = some (Value.int .i64 k) ∧ W.cell? ⟨w.heap.size + 1, 1, none⟩ = some (Value.int .i64 a) ∧ W.cell? ⟨w.heap.size + 1, 2, none⟩ = some (Value.int .i64 b) ∧ W.cell? ⟨w.heap.size + 1, 3, none⟩ = some (Value.int .i64 c) ∧ W.cell? ⟨w.heap.size + 1, 4, none⟩ = some (Value.int .i64 d) ∧ W.cell? ⟨w.heap.size + 1 + 1, 0, none⟩ = some (Value.slice none 0 0) ∧ W.cell? ⟨w.heap.size + 1 + 1, 1, none⟩ = some (Value.slice none 0 0) ∧ W.cell? ⟨w.heap.size + 1 + 1, 2, none⟩ = some (Value.slice none 0 0) ∧ W.cell? ⟨w.heap.size + 1 + 1, 3, none⟩ = some (Value.slice none 0 0) ∧ W.cell? ⟨w.heap.size + 1 + 1, 4, none⟩ = some (Value.int .i64 0) ∧ W.cell? ⟨w.heap.size + 1 + 1, 5, none⟩ = some (Value.int .i64 0) ∧ W.frozen? ⟨w.heap.size + 1 + 1, 0, none⟩ = false ∧ W.frozen? ⟨w.heap.size + 1 + 1, 1, none⟩ = false ∧ W.frozen? ⟨w.heap.size + 1 + 1, 2, none⟩ = false ∧ W.frozen? ⟨w.heap.size + 1 + 1, 3, none⟩ = false ∧ W.frozen? ⟨w.heap.size + 1 + 1, 4, none⟩ = false ∧ W.frozen? ⟨w.heap.size + 1 + 1, 5, none⟩ = false) := fun W hb => ⟨(hb.cell (p := ⟨w.heap.size, 0, none⟩) (by first | (simp; done) | (simp; omega))).trans (by go_simp), (hb.cell (p := ⟨w.heap.size, 1, none⟩) (by first | (simp; done) | (simp; omega))).trans (by go_simp), (hb.cell (p := ⟨w.heap.size, 2, none⟩) (by first | (simp; done) | (simp; omega))).trans (by go_simp), (hb.cell (p := ⟨w.heap.size, 3, none⟩) (by first | (simp; done) | (simp; omega))).trans (by go_simp), (hb.cell (p := ⟨w.heap.size, 4, none⟩) (by first | (simp; done) | (simp; omega))).trans (by go_simp), (hb.cell (p := ⟨w.heap.size, 5, none⟩) (by first | (simp; done) | (simp; omega))).trans (by go_simp), (hb.cell (p := ⟨w.heap.size + 1, 0, none⟩) (by first | (simp; done) | (simp; omega))).trans (by go_simp), (hb.cell (p := ⟨w.heap.size + 1, 1, none⟩) (by first | (simp; done) | (simp; omega))).trans (by go_simp), (hb.cell (p := ⟨w.heap.size + 1, 2, none⟩) (by first | (simp; done) | (simp; omega))).trans (by go_simp), (hb.cell (p := ⟨w.heap.size + 1, 3, none⟩) (by first | (simp; done) | (simp; omega))).trans (by go_simp), (hb.cell (p := ⟨w.heap.size + 1, 4, none⟩) (by first | (simp; done) | (simp; omega))).trans (by go_simp), (hb.cell (p := ⟨w.heap.size + 1 + 1, 0, none⟩) (by first | (simp; done) | (simp; omega))).trans (by go_simp), (hb.cell (p := ⟨w.heap.size + 1 + 1, 1, none⟩) (by first | (simp; done) | (simp; omega))).trans (by go_simp), (hb.cell (p := ⟨w.heap.size + 1 + 1, 2, none⟩) (by first | (simp; done) | (simp; omega))).trans (by go_simp), (hb.cell (p := ⟨w.heap.size + 1 + 1, 3, none⟩) (by first | (simp; done) | (simp; omega))).trans (by go_simp), (hb.cell (p := ⟨w.heap.size + 1 + 1, 4, none⟩) (by first | (simp; done) | (simp; omega))).trans (by go_simp), (hb.cell (p := ⟨w.heap.size + 1 + 1, 5, none⟩) (by first | (simp; done) | (simp; omega))).trans (by go_simp), (hb.frozen (p := ⟨w.heap.size + 1 + 1, 0, none⟩) (by first | (simp; done) | (simp; omega))).trans (by go_simp), (hb.frozen (p := ⟨w.heap.size + 1 + 1, 1, none⟩) (by first | (simp; done) | (simp; omega))).trans (by go_simp), (hb.frozen (p := ⟨w.heap.size + 1 + 1, 2, none⟩) (by first | (simp; done) | (simp; omega))).trans (by go_simp), (hb.frozen (p := ⟨w.heap.size + 1 + 1, 3, none⟩) (by first | (simp; done) | (simp; omega))).trans (by go_simp), (hb.frozen (p := ⟨w.heap.size + 1 + 1, 4, none⟩) (by first | (simp; done) | (simp; omega))).trans (by go_simp), (hb.frozen (p := ⟨w.heap.size + 1 + 1, 5, none⟩) (by first | (simp; done) | (simp; omega))).trans (by go_simp)⟩
      have DI := Lib.hid (show Below w.heap.size w (((w.alloc (.cells #[.slice adc h.n capc, .slice adm h.ms.length capm, .slice ado h.os.length capo, .slice adt h.ts.length capt, .int .i64 h.sent, .int .i64 h.day] 27)).alloc (.cells #[.int .i64 k, .int .i64 a, .int .i64 b, .int .i64 c, .int .i64 d] 34)).alloc (.cells #[.slice none 0 0, .slice none 0 0, .slice none 0 0, .slice none 0 0, .int .i64 0, .int .i64 0] 27)) from balloc (balloc (balloc (bref w) _) _) _)
      have RI := Lib.hid (((hr.alloc (.cells #[.slice adc h.n capc, .slice adm h.ms.length capm, .slice ado h.os.length capo, .slice adt h.ts.length capt, .int .i64 h.sent, .int .i64 h.day] 27)).alloc (.cells #[.int .i64 k, .int .i64 a, .int .i64 b, .int .i64 c, .int .i64 d] 34)).alloc (.cells #[.slice none 0 0, .slice none 0 0, .slice none 0 0, .slice none 0 0, .int .i64 0, .int .i64 0] 27))
      clear hr
      go_enter Try.func7, Try.ntmps7
      go_wp2_with fail
      refine (l38Copy_any _ _ _ _ h _ RI.out hn hB).mono ?_
      rintro e w1 ⟨ac9, cc9, am9, cm9, ao9, co9, at9, ct9, rfl, hO, hb1⟩
      have B1 := Lib.hid hb1
      have OH := Lib.hid ((hO.wide (lo' := w.heap.size + 3) (by simp) (Nat.le_refl _)).below (balloc (bref w1) (.cells #[.slice ac9 (h).n cc9, .slice am9 (h).ms.length cm9, .slice ao9 (h).os.length co9, .slice at9 (h).ts.length ct9, .int .i64 (h).sent, .int .i64 (h).day] 27)))
      clear hb1 hO
      have z1 : w.heap.size + 3 ≤ w1.heap.size := by have q := B1.out.size; simp at q; omega
      have yy0 : w.heap.size < w1.heap.size := by omega
      have yy1 : w.heap.size + 1 < w1.heap.size := by omega
      have yy2 : w.heap.size + 1 + 1 < w1.heap.size := by omega
      have BX := Lib.hid (balloc B1.out (.cells #[.slice ac9 (h).n cc9, .slice am9 (h).ms.length cm9, .slice ao9 (h).os.length co9, .slice at9 (h).ts.length ct9, .int .i64 (h).sent, .int .i64 (h).day] 27))
      have KX : Hid (∀ W : World, Below (w1.alloc (.cells #[.slice ac9 (h).n cc9, .slice am9 (h).ms.length cm9, .slice ao9 (h).os.length co9, .slice at9 (h).ts.length ct9, .int .i64 (h).sent, .int .i64 (h).day] 27)).heap.size (w1.alloc (.cells #[.slice ac9 (h).n cc9, .slice am9 (h).ms.length cm9, .slice ao9 (h).os.length co9, .slice at9 (h).ts.length ct9, .int .i64 (h).sent, .int .i64 (h).day] 27)) W → W.cell? ⟨w1.heap.size, 0, none⟩ = some (Value.slice ac9 (h).n cc9) ∧ W.cell? ⟨w1.heap.size, 1, none⟩ = some (Value.slice am9 (h).ms.length cm9) ∧ W.cell? ⟨w1.heap.size, 2, none⟩ = some (Value.slice ao9 (h).os.length co9) ∧ W.cell? ⟨w1.heap.size, 3, none⟩ = some (Value.slice at9 (h).ts.length ct9) ∧ W.cell? ⟨w1.heap.size, 4, none⟩ = some (Value.int .i64 (h).sent) ∧ W.cell? ⟨w1.heap.size, 5, none⟩ = some (Value.int .i64 (h).day) ∧ W.frozen? ⟨w1.heap.size, 0, none⟩ = false ∧ W.frozen? ⟨w1.heap.size, 1, none⟩ = false ∧ W.frozen? ⟨w1.heap.size, 2, none⟩ = false ∧ W.frozen? ⟨w1.heap.size, 3, none⟩ = false ∧ W.frozen? ⟨w1.heap.size, 4, none⟩ = false ∧ W.frozen? ⟨w1.heap.size, 5, none⟩ = false) := fun W hb => ⟨(hb.cell (p := ⟨w1.heap.size, 0, none⟩) (by simp)).trans (by go_simp), (hb.cell (p := ⟨w1.heap.size, 1, none⟩) (by simp)).trans (by go_simp), (hb.cell (p := ⟨w1.heap.size, 2, none⟩) (by simp)).trans (by go_simp), (hb.cell (p := ⟨w1.heap.size, 3, none⟩) (by simp)).trans (by go_simp), (hb.cell (p := ⟨w1.heap.size, 4, none⟩) (by simp)).trans (by go_simp), (hb.cell (p := ⟨w1.heap.size, 5, none⟩) (by simp)).trans (by go_simp), (hb.frozen (p := ⟨w1.heap.size, 0, none⟩) (by simp)).trans (by go_simp), (hb.frozen (p := ⟨w1.heap.size, 1, none⟩) (by simp)).trans (by go_simp), (hb.frozen (p := ⟨w1.heap.size, 2, none⟩) (by simp)).trans (by go_simp), (hb.frozen (p := ⟨w1.heap.size, 3, none⟩) (by simp)).trans (by go_simp), (hb.frozen (p := ⟨w1.heap.size, 4, none⟩) (by simp)).trans (by go_simp), (hb.frozen (p := ⟨w1.heap.size, 5, none⟩) (by simp)).trans (by go_simp)⟩
      have OX := Lib.hid (bref (w1.alloc (.cells #[.slice ac9 (h).n cc9, .slice am9 (h).ms.length cm9, .slice ao9 (h).os.length co9, .slice at9 (h).ts.length ct9, .int .i64 (h).sent, .int .i64 (h).day] 27)))
      obtain ⟨b0, b1, b2, b3, b4, b5, c0, c1, c2, c3, c4, r0, r1, r2, r3, r4, r5, fr0, fr1, fr2, fr3, fr4, fr5⟩ := MK.out _ B1.out
      go_wp2_with fail
      refine (specHouseOk _ _ _ _ h _ (RI.out.below BX.out)).mono ?_
      rw [h1]
      rintro e w2 ⟨rfl, hb2⟩
      have OX := Lib.hid (bnext OX.out hb2)
      have BX := Lib.hid (bnext BX.out hb2)
      clear b0 b1 b2 b3 b4 b5 c0 c1 c2 c3 c4 r0 r1 r2 r3 r4 r5 fr0 fr1 fr2 fr3 fr4 fr5 hb2
      obtain ⟨b0, b1, b2, b3, b4, b5, c0, c1, c2, c3, c4, r0, r1, r2, r3, r4, r5, fr0, fr1, fr2, fr3, fr4, fr5⟩ := MK.out _ BX.out
      obtain ⟨x0, x1, x2, x3, x4, x5, fx0, fx1, fx2, fx3, fx4, fx5⟩ := KX.out _ OX.out
      have zx2 : w1.heap.size + 1 ≤ w2.heap.size := by have q := OX.out.size; simp at q; omega
      go_wp2_with fail
      refine (specActOk_any k a b c d _).mono ?_
      rw [h2]
      rintro e w3 ⟨rfl, hb3⟩
      have OX := Lib.hid (bnext OX.out hb3)
      have BX := Lib.hid (bnext BX.out hb3)
      clear b0 b1 b2 b3 b4 b5 c0 c1 c2 c3 c4 r0 r1 r2 r3 r4 r5 fr0 fr1 fr2 fr3 fr4 fr5 hb3
      obtain ⟨b0, b1, b2, b3, b4, b5, c0, c1, c2, c3, c4, r0, r1, r2, r3, r4, r5, fr0, fr1, fr2, fr3, fr4, fr5⟩ := MK.out _ BX.out
      obtain ⟨x0, x1, x2, x3, x4, x5, fx0, fx1, fx2, fx3, fx4, fx5⟩ := KX.out _ OX.out
      have zx3 : w1.heap.size + 1 ≤ w3.heap.size := by have q := OX.out.size; simp at q; omega
      go_wp2_with fail
      have DL := Lib.hid (bnext DI.out BX.out)
      have hO := OH.out.below OX.out
      go_wp2_with fail
      refine bodyPost_ret (v := .tuple #[.agg #[.slice ac9 (h).n cc9, .slice am9 (h).ms.length cm9, .slice ao9 (h).os.length co9, .slice at9 (h).ts.length ct9, .int .i64 (h).sent, .int .i64 (h).day], .int .i64 (-1)]) (by simp [results, Try.results7, go_sem, r0, r1, r2, r3, r4, r5]) rfl ?_
      rw [H.out]
      have fin : ∀ WF : World, Only w.heap.size (w.heap.size + 3) w3 WF → HouseO w.heap.size WF.heap.size WF (.slice ac9 (h).n cc9) (.slice am9 (h).ms.length cm9) (.slice ao9 (h).os.length co9) (.slice at9 (h).ts.length ct9) (h) ∧ Below w.heap.size w WF := fun WF oF =>
        ⟨((hO).only oF (off_r (by omega))).wide (by omega) (by have := oF.size; omega), Only.below (DL.out) oF (Nat.le_refl _)⟩
      refine ⟨_, _, _, _, _, _, _, _, rfl, fin _ ?_⟩
      repeat (first | with_reducible exact Only.refl _ _ _ | with_reducible refine only_drew ?_ | with_reducible refine Only.alloc ?_ _ | with_reducible refine Only.set ?_ (by simp only []; omega) (by simp only []; omega) _)
    | true =>
      rcases actOk_kind h2 with rfl | rfl | rfl | rfl | rfl
      · skip
        have H := Lib.hid (doAct_1 h1 h2)
        have MK : Hid (∀ W : World, Below (((w.alloc (.cells #[.slice adc h.n capc, .slice adm h.ms.length capm, .slice ado h.os.length capo, .slice adt h.ts.length capt, .int .i64 h.sent, .int .i64 h.day] 27)).alloc (.cells #[.int .i64 1, .int .i64 a, .int .i64 b, .int .i64 c, .int .i64 d] 34)).alloc (.cells #[.slice none 0 0, .slice none 0 0, .slice none 0 0, .slice none 0 0, .int .i64 0, .int .i64 0] 27)).heap.size (((w.alloc (.cells #[.slice adc h.n capc, .slice adm h.ms.length capm, .slice ado h.os.length capo, .slice adt h.ts.length capt, .int .i64 h.sent, .int .i64 h.day] 27)).alloc (.cells #[.int .i64 1, .int .i64 a, .int .i64 b, .int .i64 c, .int .i64 d] 34)).alloc (.cells #[.slice none 0 0, .slice none 0 0, .slice none 0 0, .slice none 0 0, .int .i64 0, .int .i64 0] 27)) W → W.cell? ⟨w.heap.size, 0, none⟩ = some (Value.slice adc h.n capc) ∧ W.cell? ⟨w.heap.size, 1, none⟩ = some (Value.slice adm h.ms.length capm) ∧ W.cell? ⟨w.heap.size, 2, none⟩ = some (Value.slice ado h.os.length capo) ∧ W.cell? ⟨w.heap.size, 3, none⟩ = some (Value.slice adt h.ts.length capt) ∧ W.cell? ⟨w.heap.size, 4, none⟩ = some (Value.int .i64 h.sent) ∧ W.cell? ⟨w.heap.size, 5, none⟩ = some (Value.int .i64 h.day) ∧ W.cell? ⟨w.heap.size + 1, 0, none⟩ = some (Value.int .i64 1) ∧ W.cell? ⟨w.heap.size + 1, 1, none⟩ = some (Value.int .i64 a) ∧ W.cell? ⟨w.heap.size + 1, 2, none⟩ = some (Value.int .i64 b) ∧ W.cell? ⟨w.heap.size + 1, 3, none⟩ = some (Value.int .i64 c) ∧ W.cell? ⟨w.heap.size + 1, 4, none⟩ = some (Value.int .i64 d) ∧ W.cell? ⟨w.heap.size + 1 + 1, 0, none⟩ = some (Value.slice none 0 0) ∧ W.cell? ⟨w.heap.size + 1 + 1, 1, none⟩ = some (Value.slice none 0 0) ∧ W.cell? ⟨w.heap.size + 1 + 1, 2, none⟩ = some (Value.slice none 0 0) ∧ W.cell? ⟨w.heap.size + 1 + 1, 3, none⟩ = some (Value.slice none 0 0) ∧ W.cell? ⟨w.heap.size + 1 + 1, 4, none⟩ = some (Value.int .i64 0) ∧ W.cell? ⟨w.heap.size + 1 + 1, 5, none⟩ = some (Value.int .i64 0) ∧ W.frozen? ⟨w.heap.size + 1 + 1, 0, none⟩ = false ∧ W.frozen? ⟨w.heap.size + 1 + 1, 1, none⟩ = false ∧ W.frozen? ⟨w.heap.size + 1 + 1, 2, none⟩ = false ∧ W.frozen? ⟨w.heap.size + 1 + 1, 3, none⟩ = false ∧ W.frozen? ⟨w.heap.size + 1 + 1, 4, none⟩ = false ∧ W.frozen? ⟨w.heap.size + 1 + 1, 5, none⟩ = false) := fun W hb => ⟨(hb.cell (p := ⟨w.heap.size, 0, none⟩) (by first | (simp; done) | (simp; omega))).trans (by go_simp), (hb.cell (p := ⟨w.heap.size, 1, none⟩) (by first | (simp; done) | (simp; omega))).trans (by go_simp), (hb.cell (p := ⟨w.heap.size, 2, none⟩) (by first | (simp; done) | (simp; omega))).trans (by go_simp), (hb.cell (p := ⟨w.heap.size, 3, none⟩) (by first | (simp; done) | (simp; omega))).trans (by go_simp), (hb.cell (p := ⟨w.heap.size, 4, none⟩) (by first | (simp; done) | (simp; omega))).trans (by go_simp), (hb.cell (p := ⟨w.heap.size, 5, none⟩) (by first | (simp; done) | (simp; omega))).trans (by go_simp), (hb.cell (p := ⟨w.heap.size + 1, 0, none⟩) (by first | (simp; done) | (simp; omega))).trans (by go_simp), (hb.cell (p := ⟨w.heap.size + 1, 1, none⟩) (by first | (simp; done) | (simp; omega))).trans (by go_simp), (hb.cell (p := ⟨w.heap.size + 1, 2, none⟩) (by first | (simp; done) | (simp; omega))).trans (by go_simp), (hb.cell (p := ⟨w.heap.size + 1, 3, none⟩) (by first | (simp; done) | (simp; omega))).trans (by go_simp), (hb.cell (p := ⟨w.heap.size + 1, 4, none⟩) (by first | (simp; done) | (simp; omega))).trans (by go_simp), (hb.cell (p := ⟨w.heap.size + 1 + 1, 0, none⟩) (by first | (simp; done) | (simp; omega))).trans (by go_simp), (hb.cell (p := ⟨w.heap.size + 1 + 1, 1, none⟩) (by first | (simp; done) | (simp; omega))).trans (by go_simp), (hb.cell (p := ⟨w.heap.size + 1 + 1, 2, none⟩) (by first | (simp; done) | (simp; omega))).trans (by go_simp), (hb.cell (p := ⟨w.heap.size + 1 + 1, 3, none⟩) (by first | (simp; done) | (simp; omega))).trans (by go_simp), (hb.cell (p := ⟨w.heap.size + 1 + 1, 4, none⟩) (by first | (simp; done) | (simp; omega))).trans (by go_simp), (hb.cell (p := ⟨w.heap.size + 1 + 1, 5, none⟩) (by first | (simp; done) | (simp; omega))).trans (by go_simp), (hb.frozen (p := ⟨w.heap.size + 1 + 1, 0, none⟩) (by first | (simp; done) | (simp; omega))).trans (by go_simp), (hb.frozen (p := ⟨w.heap.size + 1 + 1, 1, none⟩) (by first | (simp; done) | (simp; omega))).trans (by go_simp), (hb.frozen (p := ⟨w.heap.size + 1 + 1, 2, none⟩) (by first | (simp; done) | (simp; omega))).trans (by go_simp), (hb.frozen (p := ⟨w.heap.size + 1 + 1, 3, none⟩) (by first | (simp; done) | (simp; omega))).trans (by go_simp), (hb.frozen (p := ⟨w.heap.size + 1 + 1, 4, none⟩) (by first | (simp; done) | (simp; omega))).trans (by go_simp), (hb.frozen (p := ⟨w.heap.size + 1 + 1, 5, none⟩) (by first | (simp; done) | (simp; omega))).trans (by go_simp)⟩
        have DI := Lib.hid (show Below w.heap.size w (((w.alloc (.cells #[.slice adc h.n capc, .slice adm h.ms.length capm, .slice ado h.os.length capo, .slice adt h.ts.length capt, .int .i64 h.sent, .int .i64 h.day] 27)).alloc (.cells #[.int .i64 1, .int .i64 a, .int .i64 b, .int .i64 c, .int .i64 d] 34)).alloc (.cells #[.slice none 0 0, .slice none 0 0, .slice none 0 0, .slice none 0 0, .int .i64 0, .int .i64 0] 27)) from balloc (balloc (balloc (bref w) _) _) _)
        have RI := Lib.hid (((hr.alloc (.cells #[.slice adc h.n capc, .slice adm h.ms.length capm, .slice ado h.os.length capo, .slice adt h.ts.length capt, .int .i64 h.sent, .int .i64 h.day] 27)).alloc (.cells #[.int .i64 1, .int .i64 a, .int .i64 b, .int .i64 c, .int .i64 d] 34)).alloc (.cells #[.slice none 0 0, .slice none 0 0, .slice none 0 0, .slice none 0 0, .int .i64 0, .int .i64 0] 27))
        clear hr
        go_enter Try.func7, Try.ntmps7
        go_wp2_with fail
        refine (l38Copy_any _ _ _ _ h _ RI.out hn hB).mono ?_
        rintro e w1 ⟨ac9, cc9, am9, cm9, ao9, co9, at9, ct9, rfl, hO, hb1⟩
        have B1 := Lib.hid hb1
        have OH := Lib.hid ((hO.wide (lo' := w.heap.size + 3) (by simp) (Nat.le_refl _)).below (balloc (bref w1) (.cells #[.slice ac9 (h).n cc9, .slice am9 (h).ms.length cm9, .slice ao9 (h).os.length co9, .slice at9 (h).ts.length ct9, .int .i64 (h).sent, .int .i64 (h).day] 27)))
        clear hb1 hO
        have z1 : w.heap.size + 3 ≤ w1.heap.size := by have q := B1.out.size; simp at q; omega
        have yy0 : w.heap.size < w1.heap.size := by omega
        have yy1 : w.heap.size + 1 < w1.heap.size := by omega
        have yy2 : w.heap.size + 1 + 1 < w1.heap.size := by omega
        have BX := Lib.hid (balloc B1.out (.cells #[.slice ac9 (h).n cc9, .slice am9 (h).ms.length cm9, .slice ao9 (h).os.length co9, .slice at9 (h).ts.length ct9, .int .i64 (h).sent, .int .i64 (h).day] 27))
        have KX : Hid (∀ W : World, Below (w1.alloc (.cells #[.slice ac9 (h).n cc9, .slice am9 (h).ms.length cm9, .slice ao9 (h).os.length co9, .slice at9 (h).ts.length ct9, .int .i64 (h).sent, .int .i64 (h).day] 27)).heap.size (w1.alloc (.cells #[.slice ac9 (h).n cc9, .slice am9 (h).ms.length cm9, .slice ao9 (h).os.length co9, .slice at9 (h).ts.length ct9, .int .i64 (h).sent, .int .i64 (h).day] 27)) W → W.cell? ⟨w1.heap.size, 0, none⟩ = some (Value.slice ac9 (h).n cc9) ∧ W.cell? ⟨w1.heap.size, 1, none⟩ = some (Value.slice am9 (h).ms.length cm9) ∧ W.cell? ⟨w1.heap.size, 2, none⟩ = some (Value.slice ao9 (h).os.length co9) ∧ W.cell? ⟨w1.heap.size, 3, none⟩ = some (Value.slice at9 (h).ts.length ct9) ∧ W.cell? ⟨w1.heap.size, 4, none⟩ = some (Value.int .i64 (h).sent) ∧ W.cell? ⟨w1.heap.size, 5, none⟩ = some (Value.int .i64 (h).day) ∧ W.frozen? ⟨w1.heap.size, 0, none⟩ = false ∧ W.frozen? ⟨w1.heap.size, 1, none⟩ = false ∧ W.frozen? ⟨w1.heap.size, 2, none⟩ = false ∧ W.frozen? ⟨w1.heap.size, 3, none⟩ = false ∧ W.frozen? ⟨w1.heap.size, 4, none⟩ = false ∧ W.frozen? ⟨w1.heap.size, 5, none⟩ = false) := fun W hb => ⟨(hb.cell (p := ⟨w1.heap.size, 0, none⟩) (by simp)).trans (by go_simp), (hb.cell (p := ⟨w1.heap.size, 1, none⟩) (by simp)).trans (by go_simp), (hb.cell (p := ⟨w1.heap.size, 2, none⟩) (by simp)).trans (by go_simp), (hb.cell (p := ⟨w1.heap.size, 3, none⟩) (by simp)).trans (by go_simp), (hb.cell (p := ⟨w1.heap.size, 4, none⟩) (by simp)).trans (by go_simp), (hb.cell (p := ⟨w1.heap.size, 5, none⟩) (by simp)).trans (by go_simp), (hb.frozen (p := ⟨w1.heap.size, 0, none⟩) (by simp)).trans (by go_simp), (hb.frozen (p := ⟨w1.heap.size, 1, none⟩) (by simp)).trans (by go_simp), (hb.frozen (p := ⟨w1.heap.size, 2, none⟩) (by simp)).trans (by go_simp), (hb.frozen (p := ⟨w1.heap.size, 3, none⟩) (by simp)).trans (by go_simp), (hb.frozen (p := ⟨w1.heap.size, 4, none⟩) (by simp)).trans (by go_simp), (hb.frozen (p := ⟨w1.heap.size, 5, none⟩) (by simp)).trans (by go_simp)⟩
        have OX := Lib.hid (bref (w1.alloc (.cells #[.slice ac9 (h).n cc9, .slice am9 (h).ms.length cm9, .slice ao9 (h).os.length co9, .slice at9 (h).ts.length ct9, .int .i64 (h).sent, .int .i64 (h).day] 27)))
        obtain ⟨b0, b1, b2, b3, b4, b5, c0, c1, c2, c3, c4, r0, r1, r2, r3, r4, r5, fr0, fr1, fr2, fr3, fr4, fr5⟩ := MK.out _ B1.out
        go_wp2_with fail
        refine (specHouseOk _ _ _ _ h _ (RI.out.below BX.out)).mono ?_
        rw [h1]
        rintro e w2 ⟨rfl, hb2⟩
        have OX := Lib.hid (bnext OX.out hb2)
        have BX := Lib.hid (bnext BX.out hb2)
        clear b0 b1 b2 b3 b4 b5 c0 c1 c2 c3 c4 r0 r1 r2 r3 r4 r5 fr0 fr1 fr2 fr3 fr4 fr5 hb2
        obtain ⟨b0, b1, b2, b3, b4, b5, c0, c1, c2, c3, c4, r0, r1, r2, r3, r4, r5, fr0, fr1, fr2, fr3, fr4, fr5⟩ := MK.out _ BX.out
        obtain ⟨x0, x1, x2, x3, x4, x5, fx0, fx1, fx2, fx3, fx4, fx5⟩ := KX.out _ OX.out
        have zx2 : w1.heap.size + 1 ≤ w2.heap.size := by have q := OX.out.size; simp at q; omega
        go_wp2_with fail
        refine (specActOk_any 1 a b c d _).mono ?_
        rw [h2]
        rintro e w3 ⟨rfl, hb3⟩
        have OX := Lib.hid (bnext OX.out hb3)
        have BX := Lib.hid (bnext BX.out hb3)
        clear b0 b1 b2 b3 b4 b5 c0 c1 c2 c3 c4 r0 r1 r2 r3 r4 r5 fr0 fr1 fr2 fr3 fr4 fr5 hb3
        obtain ⟨b0, b1, b2, b3, b4, b5, c0, c1, c2, c3, c4, r0, r1, r2, r3, r4, r5, fr0, fr1, fr2, fr3, fr4, fr5⟩ := MK.out _ BX.out
        obtain ⟨x0, x1, x2, x3, x4, x5, fx0, fx1, fx2, fx3, fx4, fx5⟩ := KX.out _ OX.out
        have zx3 : w1.heap.size + 1 ≤ w3.heap.size := by have q := OX.out.size; simp at q; omega
        go_wp2_with fail
        refine (specMakeCopy _ _ _ _ h a b c d _ (RI.out.below BX.out) hn hB).mono ?_
        rintro e w4 ⟨ac8, cc8, am8, cm8, ao8, co8, at8, ct8, rfl, hO, hb4⟩
        generalize hg1 : (makeCopy h a b c d).1 = g at *
        clear hg1
        generalize hg2 : (makeCopy h a b c d).2 = y at *
        clear hg2
        have BL := Lib.hid (bnext BX.out hb4)
        have OG := Lib.hid hO
        have zl := hb4.size
        have OX := Lib.hid (bnext OX.out hb4)
        clear b0 b1 b2 b3 b4 b5 c0 c1 c2 c3 c4 r0 r1 r2 r3 r4 r5 fr0 fr1 fr2 fr3 fr4 fr5 hb4 hO x0 x1 x2 x3 x4 x5 fx0 fx1 fx2 fx3 fx4 fx5
        obtain ⟨b0, b1, b2, b3, b4, b5, c0, c1, c2, c3, c4, r0, r1, r2, r3, r4, r5, fr0, fr1, fr2, fr3, fr4, fr5⟩ := MK.out _ BL.out
        obtain ⟨x0, x1, x2, x3, x4, x5, fx0, fx1, fx2, fx3, fx4, fx5⟩ := KX.out _ OX.out
        have DL := Lib.hid (bnext DI.out BL.out)
        have yy0 : w.heap.size < w4.heap.size := by omega
        have yy1 : w.heap.size + 1 < w4.heap.size := by omega
        have yy2 : w.heap.size + 1 + 1 < w4.heap.size := by omega
        go_upto_region 19 with fail
        have oX : Only w1.heap.size (w1.heap.size + 1) w4 (put6 w4 w1.heap.size (.slice ac8 (g).n cc8) (.slice am8 (g).ms.length cm8) (.slice ao8 (g).os.length co8) (.slice at8 (g).ts.length ct8) (.int .i64 g.sent) (.int .i64 g.day)) := only_put6 _ _ _ _ _ _ _ _
        have S6 : Six w1.heap.size w4 (.slice ac9 h.n cc9) (.slice am9 h.ms.length cm9) (.slice ao9 h.os.length co9) (.slice at9 h.ts.length ct9) (.int .i64 h.sent) (.int .i64 h.day) := ⟨x0, x1, x2, x3, x4, x5, fx0, fx1, fx2, fx3, fx4, fx5⟩
        have S7 := Lib.hid (S6.put (a' := .slice ac8 g.n cc8) (b' := .slice am8 g.ms.length cm8) (c' := .slice ao8 g.os.length co8) (d' := .slice at8 g.ts.length ct8) (e' := .int .i64 g.sent) (f' := .int .i64 g.day))
        have OG2 := Lib.hid (OG.out.only oX (off_r (by omega)))
        have DL := Lib.hid (Only.below DL.out oX (by omega))
        have y1 : w1.heap.size < w4.heap.size := by omega
        have zo := Lib.hid oX.size
        clear S6 oX
        go_region_with (go_at_call 34; refine (l39Bool_any _ _).mono ?_; rintro e w' ⟨rfl, rfl⟩)
        all_goals
          go_wp2_with fail
          refine bodyPost_ret (v := .tuple #[.agg #[.slice ac8 (g).n cc8, .slice am8 (g).ms.length cm8, .slice ao8 (g).os.length co8, .slice at8 (g).ts.length ct8, .int .i64 (g).sent, .int .i64 (g).day], .int .i64 (bit y)]) (by simp [results, Try.results7, go_sem, r0, r1, r2, r3, r4, r5]) rfl ?_
          rw [H.out]
          have fin : ∀ WF : World, Only w.heap.size (w.heap.size + 3) (put6 w4 w1.heap.size (.slice ac8 (g).n cc8) (.slice am8 (g).ms.length cm8) (.slice ao8 (g).os.length co8) (.slice at8 (g).ts.length ct8) (.int .i64 g.sent) (.int .i64 g.day)) WF → HouseO w.heap.size WF.heap.size WF (.slice ac8 (g).n cc8) (.slice am8 (g).ms.length cm8) (.slice ao8 (g).os.length co8) (.slice at8 (g).ts.length ct8) (g) ∧ Below w.heap.size w WF := fun WF oF =>
            ⟨((OG2.out).only oF (off_r (by omega))).wide (by omega) (by have := oF.size; have := zo.out; omega), Only.below (DL.out) oF (Nat.le_refl _)⟩
          refine ⟨_, _, _, _, _, _, _, _, rfl, fin _ ?_⟩
          repeat (first | with_reducible exact Only.refl _ _ _ | with_reducible refine only_drew ?_ | with_reducible refine Only.alloc ?_ _ | with_reducible refine Only.set ?_ (by simp only []; omega) (by simp only []; omega) _)
      · skip
        have H := Lib.hid (doAct_2 h1 h2)
        have MK : Hid (∀ W : World, Below (((w.alloc (.cells #[.slice adc h.n capc, .slice adm h.ms.length capm, .slice ado h.os.length capo, .slice adt h.ts.length capt, .int .i64 h.sent, .int .i64 h.day] 27)).alloc (.cells #[.int .i64 2, .int .i64 a, .int .i64 b, .int .i64 c, .int .i64 d] 34)).alloc (.cells #[.slice none 0 0, .slice none 0 0, .slice none 0 0, .slice none 0 0, .int .i64 0, .int .i64 0] 27)).heap.size (((w.alloc (.cells #[.slice adc h.n capc, .slice adm h.ms.length capm, .slice ado h.os.length capo, .slice adt h.ts.length capt, .int .i64 h.sent, .int .i64 h.day] 27)).alloc (.cells #[.int .i64 2, .int .i64 a, .int .i64 b, .int .i64 c, .int .i64 d] 34)).alloc (.cells #[.slice none 0 0, .slice none 0 0, .slice none 0 0, .slice none 0 0, .int .i64 0, .int .i64 0] 27)) W → W.cell? ⟨w.heap.size, 0, none⟩ = some (Value.slice adc h.n capc) ∧ W.cell? ⟨w.heap.size, 1, none⟩ = some (Value.slice adm h.ms.length capm) ∧ W.cell? ⟨w.heap.size, 2, none⟩ = some (Value.slice ado h.os.length capo) ∧ W.cell? ⟨w.heap.size, 3, none⟩ = some (Value.slice adt h.ts.length capt) ∧ W.cell? ⟨w.heap.size, 4, none⟩ = some (Value.int .i64 h.sent) ∧ W.cell? ⟨w.heap.size, 5, none⟩ = some (Value.int .i64 h.day) ∧ W.cell? ⟨w.heap.size + 1, 0, none⟩ = some (Value.int .i64 2) ∧ W.cell? ⟨w.heap.size + 1, 1, none⟩ = some (Value.int .i64 a) ∧ W.cell? ⟨w.heap.size + 1, 2, none⟩ = some (Value.int .i64 b) ∧ W.cell? ⟨w.heap.size + 1, 3, none⟩ = some (Value.int .i64 c) ∧ W.cell? ⟨w.heap.size + 1, 4, none⟩ = some (Value.int .i64 d) ∧ W.cell? ⟨w.heap.size + 1 + 1, 0, none⟩ = some (Value.slice none 0 0) ∧ W.cell? ⟨w.heap.size + 1 + 1, 1, none⟩ = some (Value.slice none 0 0) ∧ W.cell? ⟨w.heap.size + 1 + 1, 2, none⟩ = some (Value.slice none 0 0) ∧ W.cell? ⟨w.heap.size + 1 + 1, 3, none⟩ = some (Value.slice none 0 0) ∧ W.cell? ⟨w.heap.size + 1 + 1, 4, none⟩ = some (Value.int .i64 0) ∧ W.cell? ⟨w.heap.size + 1 + 1, 5, none⟩ = some (Value.int .i64 0) ∧ W.frozen? ⟨w.heap.size + 1 + 1, 0, none⟩ = false ∧ W.frozen? ⟨w.heap.size + 1 + 1, 1, none⟩ = false ∧ W.frozen? ⟨w.heap.size + 1 + 1, 2, none⟩ = false ∧ W.frozen? ⟨w.heap.size + 1 + 1, 3, none⟩ = false ∧ W.frozen? ⟨w.heap.size + 1 + 1, 4, none⟩ = false ∧ W.frozen? ⟨w.heap.size + 1 + 1, 5, none⟩ = false) := fun W hb => ⟨(hb.cell (p := ⟨w.heap.size, 0, none⟩) (by first | (simp; done) | (simp; omega))).trans (by go_simp), (hb.cell (p := ⟨w.heap.size, 1, none⟩) (by first | (simp; done) | (simp; omega))).trans (by go_simp), (hb.cell (p := ⟨w.heap.size, 2, none⟩) (by first | (simp; done) | (simp; omega))).trans (by go_simp), (hb.cell (p := ⟨w.heap.size, 3, none⟩) (by first | (simp; done) | (simp; omega))).trans (by go_simp), (hb.cell (p := ⟨w.heap.size, 4, none⟩) (by first | (simp; done) | (simp; omega))).trans (by go_simp), (hb.cell (p := ⟨w.heap.size, 5, none⟩) (by first | (simp; done) | (simp; omega))).trans (by go_simp), (hb.cell (p := ⟨w.heap.size + 1, 0, none⟩) (by first | (simp; done) | (simp; omega))).trans (by go_simp), (hb.cell (p := ⟨w.heap.size + 1, 1, none⟩) (by first | (simp; done) | (simp; omega))).trans (by go_simp), (hb.cell (p := ⟨w.heap.size + 1, 2, none⟩) (by first | (simp; done) | (simp; omega))).trans (by go_simp), (hb.cell (p := ⟨w.heap.size + 1, 3, none⟩) (by first | (simp; done) | (simp; omega))).trans (by go_simp), (hb.cell (p := ⟨w.heap.size + 1, 4, none⟩) (by first | (simp; done) | (simp; omega))).trans (by go_simp), (hb.cell (p := ⟨w.heap.size + 1 + 1, 0, none⟩) (by first | (simp; done) | (simp; omega))).trans (by go_simp), (hb.cell (p := ⟨w.heap.size + 1 + 1, 1, none⟩) (by first | (simp; done) | (simp; omega))).trans (by go_simp), (hb.cell (p := ⟨w.heap.size + 1 + 1, 2, none⟩) (by first | (simp; done) | (simp; omega))).trans (by go_simp), (hb.cell (p := ⟨w.heap.size + 1 + 1, 3, none⟩) (by first | (simp; done) | (simp; omega))).trans (by go_simp), (hb.cell (p := ⟨w.heap.size + 1 + 1, 4, none⟩) (by first | (simp; done) | (simp; omega))).trans (by go_simp), (hb.cell (p := ⟨w.heap.size + 1 + 1, 5, none⟩) (by first | (simp; done) | (simp; omega))).trans (by go_simp), (hb.frozen (p := ⟨w.heap.size + 1 + 1, 0, none⟩) (by first | (simp; done) | (simp; omega))).trans (by go_simp), (hb.frozen (p := ⟨w.heap.size + 1 + 1, 1, none⟩) (by first | (simp; done) | (simp; omega))).trans (by go_simp), (hb.frozen (p := ⟨w.heap.size + 1 + 1, 2, none⟩) (by first | (simp; done) | (simp; omega))).trans (by go_simp), (hb.frozen (p := ⟨w.heap.size + 1 + 1, 3, none⟩) (by first | (simp; done) | (simp; omega))).trans (by go_simp), (hb.frozen (p := ⟨w.heap.size + 1 + 1, 4, none⟩) (by first | (simp; done) | (simp; omega))).trans (by go_simp), (hb.frozen (p := ⟨w.heap.size + 1 + 1, 5, none⟩) (by first | (simp; done) | (simp; omega))).trans (by go_simp)⟩
        have DI := Lib.hid (show Below w.heap.size w (((w.alloc (.cells #[.slice adc h.n capc, .slice adm h.ms.length capm, .slice ado h.os.length capo, .slice adt h.ts.length capt, .int .i64 h.sent, .int .i64 h.day] 27)).alloc (.cells #[.int .i64 2, .int .i64 a, .int .i64 b, .int .i64 c, .int .i64 d] 34)).alloc (.cells #[.slice none 0 0, .slice none 0 0, .slice none 0 0, .slice none 0 0, .int .i64 0, .int .i64 0] 27)) from balloc (balloc (balloc (bref w) _) _) _)
        have RI := Lib.hid (((hr.alloc (.cells #[.slice adc h.n capc, .slice adm h.ms.length capm, .slice ado h.os.length capo, .slice adt h.ts.length capt, .int .i64 h.sent, .int .i64 h.day] 27)).alloc (.cells #[.int .i64 2, .int .i64 a, .int .i64 b, .int .i64 c, .int .i64 d] 34)).alloc (.cells #[.slice none 0 0, .slice none 0 0, .slice none 0 0, .slice none 0 0, .int .i64 0, .int .i64 0] 27))
        clear hr
        go_enter Try.func7, Try.ntmps7
        go_wp2_with fail
        refine (l38Copy_any _ _ _ _ h _ RI.out hn hB).mono ?_
        rintro e w1 ⟨ac9, cc9, am9, cm9, ao9, co9, at9, ct9, rfl, hO, hb1⟩
        have B1 := Lib.hid hb1
        have OH := Lib.hid ((hO.wide (lo' := w.heap.size + 3) (by simp) (Nat.le_refl _)).below (balloc (bref w1) (.cells #[.slice ac9 (h).n cc9, .slice am9 (h).ms.length cm9, .slice ao9 (h).os.length co9, .slice at9 (h).ts.length ct9, .int .i64 (h).sent, .int .i64 (h).day] 27)))
        clear hb1 hO
        have z1 : w.heap.size + 3 ≤ w1.heap.size := by have q := B1.out.size; simp at q; omega
        have yy0 : w.heap.size < w1.heap.size := by omega
        have yy1 : w.heap.size + 1 < w1.heap.size := by omega
        have yy2 : w.heap.size + 1 + 1 < w1.heap.size := by omega
        have BX := Lib.hid (balloc B1.out (.cells #[.slice ac9 (h).n cc9, .slice am9 (h).ms.length cm9, .slice ao9 (h).os.length co9, .slice at9 (h).ts.length ct9, .int .i64 (h).sent, .int .i64 (h).day] 27))
        have KX : Hid (∀ W : World, Below (w1.alloc (.cells #[.slice ac9 (h).n cc9, .slice am9 (h).ms.length cm9, .slice ao9 (h).os.length co9, .slice at9 (h).ts.length ct9, .int .i64 (h).sent, .int .i64 (h).day] 27)).heap.size (w1.alloc (.cells #[.slice ac9 (h).n cc9, .slice am9 (h).ms.length cm9, .slice ao9 (h).os.length co9, .slice at9 (h).ts.length ct9, .int .i64 (h).sent, .int .i64 (h).day] 27)) W → W.cell? ⟨w1.heap.size, 0, none⟩ = some (Value.slice ac9 (h).n cc9) ∧ W.cell? ⟨w1.heap.size, 1, none⟩ = some (Value.slice am9 (h).ms.length cm9) ∧ W.cell? ⟨w1.heap.size, 2, none⟩ = some (Value.slice ao9 (h).os.length co9) ∧ W.cell? ⟨w1.heap.size, 3, none⟩ = some (Value.slice at9 (h).ts.length ct9) ∧ W.cell? ⟨w1.heap.size, 4, none⟩ = some (Value.int .i64 (h).sent) ∧ W.cell? ⟨w1.heap.size, 5, none⟩ = some (Value.int .i64 (h).day) ∧ W.frozen? ⟨w1.heap.size, 0, none⟩ = false ∧ W.frozen? ⟨w1.heap.size, 1, none⟩ = false ∧ W.frozen? ⟨w1.heap.size, 2, none⟩ = false ∧ W.frozen? ⟨w1.heap.size, 3, none⟩ = false ∧ W.frozen? ⟨w1.heap.size, 4, none⟩ = false ∧ W.frozen? ⟨w1.heap.size, 5, none⟩ = false) := fun W hb => ⟨(hb.cell (p := ⟨w1.heap.size, 0, none⟩) (by simp)).trans (by go_simp), (hb.cell (p := ⟨w1.heap.size, 1, none⟩) (by simp)).trans (by go_simp), (hb.cell (p := ⟨w1.heap.size, 2, none⟩) (by simp)).trans (by go_simp), (hb.cell (p := ⟨w1.heap.size, 3, none⟩) (by simp)).trans (by go_simp), (hb.cell (p := ⟨w1.heap.size, 4, none⟩) (by simp)).trans (by go_simp), (hb.cell (p := ⟨w1.heap.size, 5, none⟩) (by simp)).trans (by go_simp), (hb.frozen (p := ⟨w1.heap.size, 0, none⟩) (by simp)).trans (by go_simp), (hb.frozen (p := ⟨w1.heap.size, 1, none⟩) (by simp)).trans (by go_simp), (hb.frozen (p := ⟨w1.heap.size, 2, none⟩) (by simp)).trans (by go_simp), (hb.frozen (p := ⟨w1.heap.size, 3, none⟩) (by simp)).trans (by go_simp), (hb.frozen (p := ⟨w1.heap.size, 4, none⟩) (by simp)).trans (by go_simp), (hb.frozen (p := ⟨w1.heap.size, 5, none⟩) (by simp)).trans (by go_simp)⟩
        have OX := Lib.hid (bref (w1.alloc (.cells #[.slice ac9 (h).n cc9, .slice am9 (h).ms.length cm9, .slice ao9 (h).os.length co9, .slice at9 (h).ts.length ct9, .int .i64 (h).sent, .int .i64 (h).day] 27)))
        obtain ⟨b0, b1, b2, b3, b4, b5, c0, c1, c2, c3, c4, r0, r1, r2, r3, r4, r5, fr0, fr1, fr2, fr3, fr4, fr5⟩ := MK.out _ B1.out
        go_wp2_with fail
        refine (specHouseOk _ _ _ _ h _ (RI.out.below BX.out)).mono ?_
        rw [h1]
        rintro e w2 ⟨rfl, hb2⟩
        have OX := Lib.hid (bnext OX.out hb2)
        have BX := Lib.hid (bnext BX.out hb2)
        clear b0 b1 b2 b3 b4 b5 c0 c1 c2 c3 c4 r0 r1 r2 r3 r4 r5 fr0 fr1 fr2 fr3 fr4 fr5 hb2
        obtain ⟨b0, b1, b2, b3, b4, b5, c0, c1, c2, c3, c4, r0, r1, r2, r3, r4, r5, fr0, fr1, fr2, fr3, fr4, fr5⟩ := MK.out _ BX.out
        obtain ⟨x0, x1, x2, x3, x4, x5, fx0, fx1, fx2, fx3, fx4, fx5⟩ := KX.out _ OX.out
        have zx2 : w1.heap.size + 1 ≤ w2.heap.size := by have q := OX.out.size; simp at q; omega
        go_wp2_with fail
        refine (specActOk_any 2 a b c d _).mono ?_
        rw [h2]
        rintro e w3 ⟨rfl, hb3⟩
        have OX := Lib.hid (bnext OX.out hb3)
        have BX := Lib.hid (bnext BX.out hb3)
        clear b0 b1 b2 b3 b4 b5 c0 c1 c2 c3 c4 r0 r1 r2 r3 r4 r5 fr0 fr1 fr2 fr3 fr4 fr5 hb3
        obtain ⟨b0, b1, b2, b3, b4, b5, c0, c1, c2, c3, c4, r0, r1, r2, r3, r4, r5, fr0, fr1, fr2, fr3, fr4, fr5⟩ := MK.out _ BX.out
        obtain ⟨x0, x1, x2, x3, x4, x5, fx0, fx1, fx2, fx3, fx4, fx5⟩ := KX.out _ OX.out
        have zx3 : w1.heap.size + 1 ≤ w3.heap.size := by have q := OX.out.size; simp at q; omega
        go_wp2_with fail
        refine (specPassDays _ _ _ _ h a _ (RI.out.below BX.out) hn hB).mono ?_
        rintro e w4 ⟨ac8, cc8, am8, cm8, ao8, co8, at8, ct8, rfl, hO, hb4⟩
        generalize hg1 : (passDays h a).1 = g at *
        clear hg1
        generalize hg2 : (passDays h a).2 = y at *
        clear hg2
        have BL := Lib.hid (bnext BX.out hb4)
        have OG := Lib.hid hO
        have zl := hb4.size
        have OX := Lib.hid (bnext OX.out hb4)
        clear b0 b1 b2 b3 b4 b5 c0 c1 c2 c3 c4 r0 r1 r2 r3 r4 r5 fr0 fr1 fr2 fr3 fr4 fr5 hb4 hO x0 x1 x2 x3 x4 x5 fx0 fx1 fx2 fx3 fx4 fx5
        obtain ⟨b0, b1, b2, b3, b4, b5, c0, c1, c2, c3, c4, r0, r1, r2, r3, r4, r5, fr0, fr1, fr2, fr3, fr4, fr5⟩ := MK.out _ BL.out
        obtain ⟨x0, x1, x2, x3, x4, x5, fx0, fx1, fx2, fx3, fx4, fx5⟩ := KX.out _ OX.out
        have DL := Lib.hid (bnext DI.out BL.out)
        have yy0 : w.heap.size < w4.heap.size := by omega
        have yy1 : w.heap.size + 1 < w4.heap.size := by omega
        have yy2 : w.heap.size + 1 + 1 < w4.heap.size := by omega
        go_upto_region 19 with fail
        have oX : Only w1.heap.size (w1.heap.size + 1) w4 (put6 w4 w1.heap.size (.slice ac8 (g).n cc8) (.slice am8 (g).ms.length cm8) (.slice ao8 (g).os.length co8) (.slice at8 (g).ts.length ct8) (.int .i64 g.sent) (.int .i64 g.day)) := only_put6 _ _ _ _ _ _ _ _
        have S6 : Six w1.heap.size w4 (.slice ac9 h.n cc9) (.slice am9 h.ms.length cm9) (.slice ao9 h.os.length co9) (.slice at9 h.ts.length ct9) (.int .i64 h.sent) (.int .i64 h.day) := ⟨x0, x1, x2, x3, x4, x5, fx0, fx1, fx2, fx3, fx4, fx5⟩
        have S7 := Lib.hid (S6.put (a' := .slice ac8 g.n cc8) (b' := .slice am8 g.ms.length cm8) (c' := .slice ao8 g.os.length co8) (d' := .slice at8 g.ts.length ct8) (e' := .int .i64 g.sent) (f' := .int .i64 g.day))
        have OG2 := Lib.hid (OG.out.only oX (off_r (by omega)))
        have DL := Lib.hid (Only.below DL.out oX (by omega))
        have y1 : w1.heap.size < w4.heap.size := by omega
        have zo := Lib.hid oX.size
        clear S6 oX
        go_region_with (go_at_call 34; refine (l39Bool_any _ _).mono ?_; rintro e w' ⟨rfl, rfl⟩)
        all_goals
          go_wp2_with fail
          refine bodyPost_ret (v := .tuple #[.agg #[.slice ac8 (g).n cc8, .slice am8 (g).ms.length cm8, .slice ao8 (g).os.length co8, .slice at8 (g).ts.length ct8, .int .i64 (g).sent, .int .i64 (g).day], .int .i64 (bit y)]) (by simp [results, Try.results7, go_sem, r0, r1, r2, r3, r4, r5]) rfl ?_
          rw [H.out]
          have fin : ∀ WF : World, Only w.heap.size (w.heap.size + 3) (put6 w4 w1.heap.size (.slice ac8 (g).n cc8) (.slice am8 (g).ms.length cm8) (.slice ao8 (g).os.length co8) (.slice at8 (g).ts.length ct8) (.int .i64 g.sent) (.int .i64 g.day)) WF → HouseO w.heap.size WF.heap.size WF (.slice ac8 (g).n cc8) (.slice am8 (g).ms.length cm8) (.slice ao8 (g).os.length co8) (.slice at8 (g).ts.length ct8) (g) ∧ Below w.heap.size w WF := fun WF oF =>
            ⟨((OG2.out).only oF (off_r (by omega))).wide (by omega) (by have := oF.size; have := zo.out; omega), Only.below (DL.out) oF (Nat.le_refl _)⟩
          refine ⟨_, _, _, _, _, _, _, _, rfl, fin _ ?_⟩
          repeat (first | with_reducible exact Only.refl _ _ _ | with_reducible refine only_drew ?_ | with_reducible refine Only.alloc ?_ _ | with_reducible refine Only.set ?_ (by simp only []; omega) (by simp only []; omega) _)
      · skip
        have HH : Hid ((withdraw h a b).2.2 = false → doAct h 3 a b c d = ((withdraw h a b).1, -1)) := fun q => by rw [doAct_3 h1 h2, q]; rfl
        have HK : Hid ((withdraw h a b).2.2 = true → doAct h 3 a b c d = ((withdraw h a b).1, (((withdraw h a b).2.1.length : Nat) : Int))) := fun q => by rw [doAct_3 h1 h2, q]; rfl
        have MK : Hid (∀ W : World, Below (((w.alloc (.cells #[.slice adc h.n capc, .slice adm h.ms.length capm, .slice ado h.os.length capo, .slice adt h.ts.length capt, .int .i64 h.sent, .int .i64 h.day] 27)).alloc (.cells #[.int .i64 3, .int .i64 a, .int .i64 b, .int .i64 c, .int .i64 d] 34)).alloc (.cells #[.slice none 0 0, .slice none 0 0, .slice none 0 0, .slice none 0 0, .int .i64 0, .int .i64 0] 27)).heap.size (((w.alloc (.cells #[.slice adc h.n capc, .slice adm h.ms.length capm, .slice ado h.os.length capo, .slice adt h.ts.length capt, .int .i64 h.sent, .int .i64 h.day] 27)).alloc (.cells #[.int .i64 3, .int .i64 a, .int .i64 b, .int .i64 c, .int .i64 d] 34)).alloc (.cells #[.slice none 0 0, .slice none 0 0, .slice none 0 0, .slice none 0 0, .int .i64 0, .int .i64 0] 27)) W → W.cell? ⟨w.heap.size, 0, none⟩ = some (Value.slice adc h.n capc) ∧ W.cell? ⟨w.heap.size, 1, none⟩ = some (Value.slice adm h.ms.length capm) ∧ W.cell? ⟨w.heap.size, 2, none⟩ = some (Value.slice ado h.os.length capo) ∧ W.cell? ⟨w.heap.size, 3, none⟩ = some (Value.slice adt h.ts.length capt) ∧ W.cell? ⟨w.heap.size, 4, none⟩ = some (Value.int .i64 h.sent) ∧ W.cell? ⟨w.heap.size, 5, none⟩ = some (Value.int .i64 h.day) ∧ W.cell? ⟨w.heap.size + 1, 0, none⟩ = some (Value.int .i64 3) ∧ W.cell? ⟨w.heap.size + 1, 1, none⟩ = some (Value.int .i64 a) ∧ W.cell? ⟨w.heap.size + 1, 2, none⟩ = some (Value.int .i64 b) ∧ W.cell? ⟨w.heap.size + 1, 3, none⟩ = some (Value.int .i64 c) ∧ W.cell? ⟨w.heap.size + 1, 4, none⟩ = some (Value.int .i64 d) ∧ W.cell? ⟨w.heap.size + 1 + 1, 0, none⟩ = some (Value.slice none 0 0) ∧ W.cell? ⟨w.heap.size + 1 + 1, 1, none⟩ = some (Value.slice none 0 0) ∧ W.cell? ⟨w.heap.size + 1 + 1, 2, none⟩ = some (Value.slice none 0 0) ∧ W.cell? ⟨w.heap.size + 1 + 1, 3, none⟩ = some (Value.slice none 0 0) ∧ W.cell? ⟨w.heap.size + 1 + 1, 4, none⟩ = some (Value.int .i64 0) ∧ W.cell? ⟨w.heap.size + 1 + 1, 5, none⟩ = some (Value.int .i64 0) ∧ W.frozen? ⟨w.heap.size + 1 + 1, 0, none⟩ = false ∧ W.frozen? ⟨w.heap.size + 1 + 1, 1, none⟩ = false ∧ W.frozen? ⟨w.heap.size + 1 + 1, 2, none⟩ = false ∧ W.frozen? ⟨w.heap.size + 1 + 1, 3, none⟩ = false ∧ W.frozen? ⟨w.heap.size + 1 + 1, 4, none⟩ = false ∧ W.frozen? ⟨w.heap.size + 1 + 1, 5, none⟩ = false) := fun W hb => ⟨(hb.cell (p := ⟨w.heap.size, 0, none⟩) (by first | (simp; done) | (simp; omega))).trans (by go_simp), (hb.cell (p := ⟨w.heap.size, 1, none⟩) (by first | (simp; done) | (simp; omega))).trans (by go_simp), (hb.cell (p := ⟨w.heap.size, 2, none⟩) (by first | (simp; done) | (simp; omega))).trans (by go_simp), (hb.cell (p := ⟨w.heap.size, 3, none⟩) (by first | (simp; done) | (simp; omega))).trans (by go_simp), (hb.cell (p := ⟨w.heap.size, 4, none⟩) (by first | (simp; done) | (simp; omega))).trans (by go_simp), (hb.cell (p := ⟨w.heap.size, 5, none⟩) (by first | (simp; done) | (simp; omega))).trans (by go_simp), (hb.cell (p := ⟨w.heap.size + 1, 0, none⟩) (by first | (simp; done) | (simp; omega))).trans (by go_simp), (hb.cell (p := ⟨w.heap.size + 1, 1, none⟩) (by first | (simp; done) | (simp; omega))).trans (by go_simp), (hb.cell (p := ⟨w.heap.size + 1, 2, none⟩) (by first | (simp; done) | (simp; omega))).trans (by go_simp), (hb.cell (p := ⟨w.heap.size + 1, 3, none⟩) (by first | (simp; done) | (simp; omega))).trans (by go_simp), (hb.cell (p := ⟨w.heap.size + 1, 4, none⟩) (by first | (simp; done) | (simp; omega))).trans (by go_simp), (hb.cell (p := ⟨w.heap.size + 1 + 1, 0, none⟩) (by first | (simp; done) | (simp; omega))).trans (by go_simp), (hb.cell (p := ⟨w.heap.size + 1 + 1, 1, none⟩) (by first | (simp; done) | (simp; omega))).trans (by go_simp), (hb.cell (p := ⟨w.heap.size + 1 + 1, 2, none⟩) (by first | (simp; done) | (simp; omega))).trans (by go_simp), (hb.cell (p := ⟨w.heap.size + 1 + 1, 3, none⟩) (by first | (simp; done) | (simp; omega))).trans (by go_simp), (hb.cell (p := ⟨w.heap.size + 1 + 1, 4, none⟩) (by first | (simp; done) | (simp; omega))).trans (by go_simp), (hb.cell (p := ⟨w.heap.size + 1 + 1, 5, none⟩) (by first | (simp; done) | (simp; omega))).trans (by go_simp), (hb.frozen (p := ⟨w.heap.size + 1 + 1, 0, none⟩) (by first | (simp; done) | (simp; omega))).trans (by go_simp), (hb.frozen (p := ⟨w.heap.size + 1 + 1, 1, none⟩) (by first | (simp; done) | (simp; omega))).trans (by go_simp), (hb.frozen (p := ⟨w.heap.size + 1 + 1, 2, none⟩) (by first | (simp; done) | (simp; omega))).trans (by go_simp), (hb.frozen (p := ⟨w.heap.size + 1 + 1, 3, none⟩) (by first | (simp; done) | (simp; omega))).trans (by go_simp), (hb.frozen (p := ⟨w.heap.size + 1 + 1, 4, none⟩) (by first | (simp; done) | (simp; omega))).trans (by go_simp), (hb.frozen (p := ⟨w.heap.size + 1 + 1, 5, none⟩) (by first | (simp; done) | (simp; omega))).trans (by go_simp)⟩
        have DI := Lib.hid (show Below w.heap.size w (((w.alloc (.cells #[.slice adc h.n capc, .slice adm h.ms.length capm, .slice ado h.os.length capo, .slice adt h.ts.length capt, .int .i64 h.sent, .int .i64 h.day] 27)).alloc (.cells #[.int .i64 3, .int .i64 a, .int .i64 b, .int .i64 c, .int .i64 d] 34)).alloc (.cells #[.slice none 0 0, .slice none 0 0, .slice none 0 0, .slice none 0 0, .int .i64 0, .int .i64 0] 27)) from balloc (balloc (balloc (bref w) _) _) _)
        have RI := Lib.hid (((hr.alloc (.cells #[.slice adc h.n capc, .slice adm h.ms.length capm, .slice ado h.os.length capo, .slice adt h.ts.length capt, .int .i64 h.sent, .int .i64 h.day] 27)).alloc (.cells #[.int .i64 3, .int .i64 a, .int .i64 b, .int .i64 c, .int .i64 d] 34)).alloc (.cells #[.slice none 0 0, .slice none 0 0, .slice none 0 0, .slice none 0 0, .int .i64 0, .int .i64 0] 27))
        clear hr
        go_enter Try.func7, Try.ntmps7
        go_wp2_with fail
        refine (l38Copy_any _ _ _ _ h _ RI.out hn hB).mono ?_
        rintro e w1 ⟨ac9, cc9, am9, cm9, ao9, co9, at9, ct9, rfl, hO, hb1⟩
        have B1 := Lib.hid hb1
        have OH := Lib.hid ((hO.wide (lo' := w.heap.size + 3) (by simp) (Nat.le_refl _)).below (balloc (bref w1) (.cells #[.slice ac9 (h).n cc9, .slice am9 (h).ms.length cm9, .slice ao9 (h).os.length co9, .slice at9 (h).ts.length ct9, .int .i64 (h).sent, .int .i64 (h).day] 27)))
        clear hb1 hO
        have z1 : w.heap.size + 3 ≤ w1.heap.size := by have q := B1.out.size; simp at q; omega
        have yy0 : w.heap.size < w1.heap.size := by omega
        have yy1 : w.heap.size + 1 < w1.heap.size := by omega
        have yy2 : w.heap.size + 1 + 1 < w1.heap.size := by omega
        have BX := Lib.hid (balloc B1.out (.cells #[.slice ac9 (h).n cc9, .slice am9 (h).ms.length cm9, .slice ao9 (h).os.length co9, .slice at9 (h).ts.length ct9, .int .i64 (h).sent, .int .i64 (h).day] 27))
        have KX : Hid (∀ W : World, Below (w1.alloc (.cells #[.slice ac9 (h).n cc9, .slice am9 (h).ms.length cm9, .slice ao9 (h).os.length co9, .slice at9 (h).ts.length ct9, .int .i64 (h).sent, .int .i64 (h).day] 27)).heap.size (w1.alloc (.cells #[.slice ac9 (h).n cc9, .slice am9 (h).ms.length cm9, .slice ao9 (h).os.length co9, .slice at9 (h).ts.length ct9, .int .i64 (h).sent, .int .i64 (h).day] 27)) W → W.cell? ⟨w1.heap.size, 0, none⟩ = some (Value.slice ac9 (h).n cc9) ∧ W.cell? ⟨w1.heap.size, 1, none⟩ = some (Value.slice am9 (h).ms.length cm9) ∧ W.cell? ⟨w1.heap.size, 2, none⟩ = some (Value.slice ao9 (h).os.length co9) ∧ W.cell? ⟨w1.heap.size, 3, none⟩ = some (Value.slice at9 (h).ts.length ct9) ∧ W.cell? ⟨w1.heap.size, 4, none⟩ = some (Value.int .i64 (h).sent) ∧ W.cell? ⟨w1.heap.size, 5, none⟩ = some (Value.int .i64 (h).day) ∧ W.frozen? ⟨w1.heap.size, 0, none⟩ = false ∧ W.frozen? ⟨w1.heap.size, 1, none⟩ = false ∧ W.frozen? ⟨w1.heap.size, 2, none⟩ = false ∧ W.frozen? ⟨w1.heap.size, 3, none⟩ = false ∧ W.frozen? ⟨w1.heap.size, 4, none⟩ = false ∧ W.frozen? ⟨w1.heap.size, 5, none⟩ = false) := fun W hb => ⟨(hb.cell (p := ⟨w1.heap.size, 0, none⟩) (by simp)).trans (by go_simp), (hb.cell (p := ⟨w1.heap.size, 1, none⟩) (by simp)).trans (by go_simp), (hb.cell (p := ⟨w1.heap.size, 2, none⟩) (by simp)).trans (by go_simp), (hb.cell (p := ⟨w1.heap.size, 3, none⟩) (by simp)).trans (by go_simp), (hb.cell (p := ⟨w1.heap.size, 4, none⟩) (by simp)).trans (by go_simp), (hb.cell (p := ⟨w1.heap.size, 5, none⟩) (by simp)).trans (by go_simp), (hb.frozen (p := ⟨w1.heap.size, 0, none⟩) (by simp)).trans (by go_simp), (hb.frozen (p := ⟨w1.heap.size, 1, none⟩) (by simp)).trans (by go_simp), (hb.frozen (p := ⟨w1.heap.size, 2, none⟩) (by simp)).trans (by go_simp), (hb.frozen (p := ⟨w1.heap.size, 3, none⟩) (by simp)).trans (by go_simp), (hb.frozen (p := ⟨w1.heap.size, 4, none⟩) (by simp)).trans (by go_simp), (hb.frozen (p := ⟨w1.heap.size, 5, none⟩) (by simp)).trans (by go_simp)⟩
        have OX := Lib.hid (bref (w1.alloc (.cells #[.slice ac9 (h).n cc9, .slice am9 (h).ms.length cm9, .slice ao9 (h).os.length co9, .slice at9 (h).ts.length ct9, .int .i64 (h).sent, .int .i64 (h).day] 27)))
        obtain ⟨b0, b1, b2, b3, b4, b5, c0, c1, c2, c3, c4, r0, r1, r2, r3, r4, r5, fr0, fr1, fr2, fr3, fr4, fr5⟩ := MK.out _ B1.out
        go_wp2_with fail
        refine (specHouseOk _ _ _ _ h _ (RI.out.below BX.out)).mono ?_
        rw [h1]
        rintro e w2 ⟨rfl, hb2⟩
        have OX := Lib.hid (bnext OX.out hb2)
        have BX := Lib.hid (bnext BX.out hb2)
        clear b0 b1 b2 b3 b4 b5 c0 c1 c2 c3 c4 r0 r1 r2 r3 r4 r5 fr0 fr1 fr2 fr3 fr4 fr5 hb2
        obtain ⟨b0, b1, b2, b3, b4, b5, c0, c1, c2, c3, c4, r0, r1, r2, r3, r4, r5, fr0, fr1, fr2, fr3, fr4, fr5⟩ := MK.out _ BX.out
        obtain ⟨x0, x1, x2, x3, x4, x5, fx0, fx1, fx2, fx3, fx4, fx5⟩ := KX.out _ OX.out
        have zx2 : w1.heap.size + 1 ≤ w2.heap.size := by have q := OX.out.size; simp at q; omega
        go_wp2_with fail
        refine (specActOk_any 3 a b c d _).mono ?_
        rw [h2]
        rintro e w3 ⟨rfl, hb3⟩
        have OX := Lib.hid (bnext OX.out hb3)
        have BX := Lib.hid (bnext BX.out hb3)
        clear b0 b1 b2 b3 b4 b5 c0 c1 c2 c3 c4 r0 r1 r2 r3 r4 r5 fr0 fr1 fr2 fr3 fr4 fr5 hb3
        obtain ⟨b0, b1, b2, b3, b4, b5, c0, c1, c2, c3, c4, r0, r1, r2, r3, r4, r5, fr0, fr1, fr2, fr3, fr4, fr5⟩ := MK.out _ BX.out
        obtain ⟨x0, x1, x2, x3, x4, x5, fx0, fx1, fx2, fx3, fx4, fx5⟩ := KX.out _ OX.out
        have zx3 : w1.heap.size + 1 ≤ w3.heap.size := by have q := OX.out.size; simp at q; omega
        go_wp2_with fail
        refine (specWithdraw _ _ _ _ h a b _ (RI.out.below BX.out) hn hB).mono ?_
        rintro e w4 ⟨ac8, cc8, am8, cm8, ao8, co8, at8, ct8, al8, cl8, rfl, hW⟩
        have hO := hW.house
        have hb4 := hW.below
        clear hW
        generalize hg1 : (withdraw h a b).1 = g at *
        clear hg1
        generalize hg2 : (withdraw h a b).2.2 = y at *
        clear hg2
        generalize hg3 : (withdraw h a b).2.1.length = m at *
        clear hg3
        have BL := Lib.hid (bnext BX.out hb4)
        have OG := Lib.hid hO
        have zl := hb4.size
        have OX := Lib.hid (bnext OX.out hb4)
        clear b0 b1 b2 b3 b4 b5 c0 c1 c2 c3 c4 r0 r1 r2 r3 r4 r5 fr0 fr1 fr2 fr3 fr4 fr5 hb4 hO x0 x1 x2 x3 x4 x5 fx0 fx1 fx2 fx3 fx4 fx5
        obtain ⟨b0, b1, b2, b3, b4, b5, c0, c1, c2, c3, c4, r0, r1, r2, r3, r4, r5, fr0, fr1, fr2, fr3, fr4, fr5⟩ := MK.out _ BL.out
        obtain ⟨x0, x1, x2, x3, x4, x5, fx0, fx1, fx2, fx3, fx4, fx5⟩ := KX.out _ OX.out
        have DL := Lib.hid (bnext DI.out BL.out)
        have yy0 : w.heap.size < w4.heap.size := by omega
        have yy1 : w.heap.size + 1 < w4.heap.size := by omega
        have yy2 : w.heap.size + 1 + 1 < w4.heap.size := by omega
        cases y with
        | false =>
          have H : Hid (doAct h 3 a b c d = (g, -1)) := HH.out rfl
          go_wp2_with fail
          refine bodyPost_ret (v := .tuple #[.agg #[.slice ac8 (g).n cc8, .slice am8 (g).ms.length cm8, .slice ao8 (g).os.length co8, .slice at8 (g).ts.length ct8, .int .i64 (g).sent, .int .i64 (g).day], .int .i64 (-1)]) (by simp [results, Try.results7, go_sem, yy2, r0, r1, r2, r3, r4, r5]) rfl ?_
          rw [H.out]
          have fin : ∀ WF : World, Only w.heap.size (w.heap.size + 3) w4 WF → HouseO w.heap.size WF.heap.size WF (.slice ac8 (g).n cc8) (.slice am8 (g).ms.length cm8) (.slice ao8 (g).os.length co8) (.slice at8 (g).ts.length ct8) (g) ∧ Below w.heap.size w WF := fun WF oF =>
            ⟨((OG.out).only oF (off_r (by omega))).wide (by omega) (by have := oF.size; omega), Only.below (DL.out) oF (Nat.le_refl _)⟩
          refine ⟨_, _, _, _, _, _, _, _, rfl, fin _ ?_⟩
          repeat (first | with_reducible exact Only.refl _ _ _ | with_reducible refine only_drew ?_ | with_reducible refine Only.alloc ?_ _ | with_reducible refine Only.set ?_ (by simp only []; omega) (by simp only []; omega) _)
        | true =>
          have H : Hid (doAct h 3 a b c d = (g, (m : Int))) := HK.out rfl
          go_wp2_with fail
          refine bodyPost_ret (v := .tuple #[.agg #[.slice ac8 (g).n cc8, .slice am8 (g).ms.length cm8, .slice ao8 (g).os.length co8, .slice at8 (g).ts.length ct8, .int .i64 (g).sent, .int .i64 (g).day], .int .i64 ((m : Int))]) (by simp [results, Try.results7, go_sem, yy2, r0, r1, r2, r3, r4, r5]) rfl ?_
          rw [H.out]
          have fin : ∀ WF : World, Only w.heap.size (w.heap.size + 3) w4 WF → HouseO w.heap.size WF.heap.size WF (.slice ac8 (g).n cc8) (.slice am8 (g).ms.length cm8) (.slice ao8 (g).os.length co8) (.slice at8 (g).ts.length ct8) (g) ∧ Below w.heap.size w WF := fun WF oF =>
            ⟨((OG.out).only oF (off_r (by omega))).wide (by omega) (by have := oF.size; omega), Only.below (DL.out) oF (Nat.le_refl _)⟩
          refine ⟨_, _, _, _, _, _, _, _, rfl, fin _ ?_⟩
          repeat (first | with_reducible exact Only.refl _ _ _ | with_reducible refine only_drew ?_ | with_reducible refine Only.alloc ?_ _ | with_reducible refine Only.set ?_ (by simp only []; omega) (by simp only []; omega) _)
      · skip
        have H := Lib.hid (doAct_4 h1 h2)
        have MK : Hid (∀ W : World, Below (((w.alloc (.cells #[.slice adc h.n capc, .slice adm h.ms.length capm, .slice ado h.os.length capo, .slice adt h.ts.length capt, .int .i64 h.sent, .int .i64 h.day] 27)).alloc (.cells #[.int .i64 4, .int .i64 a, .int .i64 b, .int .i64 c, .int .i64 d] 34)).alloc (.cells #[.slice none 0 0, .slice none 0 0, .slice none 0 0, .slice none 0 0, .int .i64 0, .int .i64 0] 27)).heap.size (((w.alloc (.cells #[.slice adc h.n capc, .slice adm h.ms.length capm, .slice ado h.os.length capo, .slice adt h.ts.length capt, .int .i64 h.sent, .int .i64 h.day] 27)).alloc (.cells #[.int .i64 4, .int .i64 a, .int .i64 b, .int .i64 c, .int .i64 d] 34)).alloc (.cells #[.slice none 0 0, .slice none 0 0, .slice none 0 0, .slice none 0 0, .int .i64 0, .int .i64 0] 27)) W → W.cell? ⟨w.heap.size, 0, none⟩ = some (Value.slice adc h.n capc) ∧ W.cell? ⟨w.heap.size, 1, none⟩ = some (Value.slice adm h.ms.length capm) ∧ W.cell? ⟨w.heap.size, 2, none⟩ = some (Value.slice ado h.os.length capo) ∧ W.cell? ⟨w.heap.size, 3, none⟩ = some (Value.slice adt h.ts.length capt) ∧ W.cell? ⟨w.heap.size, 4, none⟩ = some (Value.int .i64 h.sent) ∧ W.cell? ⟨w.heap.size, 5, none⟩ = some (Value.int .i64 h.day) ∧ W.cell? ⟨w.heap.size + 1, 0, none⟩ = some (Value.int .i64 4) ∧ W.cell? ⟨w.heap.size + 1, 1, none⟩ = some (Value.int .i64 a) ∧ W.cell? ⟨w.heap.size + 1, 2, none⟩ = some (Value.int .i64 b) ∧ W.cell? ⟨w.heap.size + 1, 3, none⟩ = some (Value.int .i64 c) ∧ W.cell? ⟨w.heap.size + 1, 4, none⟩ = some (Value.int .i64 d) ∧ W.cell? ⟨w.heap.size + 1 + 1, 0, none⟩ = some (Value.slice none 0 0) ∧ W.cell? ⟨w.heap.size + 1 + 1, 1, none⟩ = some (Value.slice none 0 0) ∧ W.cell? ⟨w.heap.size + 1 + 1, 2, none⟩ = some (Value.slice none 0 0) ∧ W.cell? ⟨w.heap.size + 1 + 1, 3, none⟩ = some (Value.slice none 0 0) ∧ W.cell? ⟨w.heap.size + 1 + 1, 4, none⟩ = some (Value.int .i64 0) ∧ W.cell? ⟨w.heap.size + 1 + 1, 5, none⟩ = some (Value.int .i64 0) ∧ W.frozen? ⟨w.heap.size + 1 + 1, 0, none⟩ = false ∧ W.frozen? ⟨w.heap.size + 1 + 1, 1, none⟩ = false ∧ W.frozen? ⟨w.heap.size + 1 + 1, 2, none⟩ = false ∧ W.frozen? ⟨w.heap.size + 1 + 1, 3, none⟩ = false ∧ W.frozen? ⟨w.heap.size + 1 + 1, 4, none⟩ = false ∧ W.frozen? ⟨w.heap.size + 1 + 1, 5, none⟩ = false) := fun W hb => ⟨(hb.cell (p := ⟨w.heap.size, 0, none⟩) (by first | (simp; done) | (simp; omega))).trans (by go_simp), (hb.cell (p := ⟨w.heap.size, 1, none⟩) (by first | (simp; done) | (simp; omega))).trans (by go_simp), (hb.cell (p := ⟨w.heap.size, 2, none⟩) (by first | (simp; done) | (simp; omega))).trans (by go_simp), (hb.cell (p := ⟨w.heap.size, 3, none⟩) (by first | (simp; done) | (simp; omega))).trans (by go_simp), (hb.cell (p := ⟨w.heap.size, 4, none⟩) (by first | (simp; done) | (simp; omega))).trans (by go_simp), (hb.cell (p := ⟨w.heap.size, 5, none⟩) (by first | (simp; done) | (simp; omega))).trans (by go_simp), (hb.cell (p := ⟨w.heap.size + 1, 0, none⟩) (by first | (simp; done) | (simp; omega))).trans (by go_simp), (hb.cell (p := ⟨w.heap.size + 1, 1, none⟩) (by first | (simp; done) | (simp; omega))).trans (by go_simp), (hb.cell (p := ⟨w.heap.size + 1, 2, none⟩) (by first | (simp; done) | (simp; omega))).trans (by go_simp), (hb.cell (p := ⟨w.heap.size + 1, 3, none⟩) (by first | (simp; done) | (simp; omega))).trans (by go_simp), (hb.cell (p := ⟨w.heap.size + 1, 4, none⟩) (by first | (simp; done) | (simp; omega))).trans (by go_simp), (hb.cell (p := ⟨w.heap.size + 1 + 1, 0, none⟩) (by first | (simp; done) | (simp; omega))).trans (by go_simp), (hb.cell (p := ⟨w.heap.size + 1 + 1, 1, none⟩) (by first | (simp; done) | (simp; omega))).trans (by go_simp), (hb.cell (p := ⟨w.heap.size + 1 + 1, 2, none⟩) (by first | (simp; done) | (simp; omega))).trans (by go_simp), (hb.cell (p := ⟨w.heap.size + 1 + 1, 3, none⟩) (by first | (simp; done) | (simp; omega))).trans (by go_simp), (hb.cell (p := ⟨w.heap.size + 1 + 1, 4, none⟩) (by first | (simp; done) | (simp; omega))).trans (by go_simp), (hb.cell (p := ⟨w.heap.size + 1 + 1, 5, none⟩) (by first | (simp; done) | (simp; omega))).trans (by go_simp), (hb.frozen (p := ⟨w.heap.size + 1 + 1, 0, none⟩) (by first | (simp; done) | (simp; omega))).trans (by go_simp), (hb.frozen (p := ⟨w.heap.size + 1 + 1, 1, none⟩) (by first | (simp; done) | (simp; omega))).trans (by go_simp), (hb.frozen (p := ⟨w.heap.size + 1 + 1, 2, none⟩) (by first | (simp; done) | (simp; omega))).trans (by go_simp), (hb.frozen (p := ⟨w.heap.size + 1 + 1, 3, none⟩) (by first | (simp; done) | (simp; omega))).trans (by go_simp), (hb.frozen (p := ⟨w.heap.size + 1 + 1, 4, none⟩) (by first | (simp; done) | (simp; omega))).trans (by go_simp), (hb.frozen (p := ⟨w.heap.size + 1 + 1, 5, none⟩) (by first | (simp; done) | (simp; omega))).trans (by go_simp)⟩
        have DI := Lib.hid (show Below w.heap.size w (((w.alloc (.cells #[.slice adc h.n capc, .slice adm h.ms.length capm, .slice ado h.os.length capo, .slice adt h.ts.length capt, .int .i64 h.sent, .int .i64 h.day] 27)).alloc (.cells #[.int .i64 4, .int .i64 a, .int .i64 b, .int .i64 c, .int .i64 d] 34)).alloc (.cells #[.slice none 0 0, .slice none 0 0, .slice none 0 0, .slice none 0 0, .int .i64 0, .int .i64 0] 27)) from balloc (balloc (balloc (bref w) _) _) _)
        have RI := Lib.hid (((hr.alloc (.cells #[.slice adc h.n capc, .slice adm h.ms.length capm, .slice ado h.os.length capo, .slice adt h.ts.length capt, .int .i64 h.sent, .int .i64 h.day] 27)).alloc (.cells #[.int .i64 4, .int .i64 a, .int .i64 b, .int .i64 c, .int .i64 d] 34)).alloc (.cells #[.slice none 0 0, .slice none 0 0, .slice none 0 0, .slice none 0 0, .int .i64 0, .int .i64 0] 27))
        have HR0 := Lib.hid hr
        clear hr
        go_enter Try.func7, Try.ntmps7
        go_wp2_with fail
        refine (l38Copy_any _ _ _ _ h _ RI.out hn hB).mono ?_
        rintro e w1 ⟨ac9, cc9, am9, cm9, ao9, co9, at9, ct9, rfl, hO, hb1⟩
        have B1 := Lib.hid hb1
        have OH := Lib.hid ((hO.wide (lo' := w.heap.size + 3) (by simp) (Nat.le_refl _)).below (balloc (bref w1) (.cells #[.slice ac9 (h).n cc9, .slice am9 (h).ms.length cm9, .slice ao9 (h).os.length co9, .slice at9 (h).ts.length ct9, .int .i64 (h).sent, .int .i64 (h).day] 27)))
        clear hb1 hO
        have z1 : w.heap.size + 3 ≤ w1.heap.size := by have q := B1.out.size; simp at q; omega
        have yy0 : w.heap.size < w1.heap.size := by omega
        have yy1 : w.heap.size + 1 < w1.heap.size := by omega
        have yy2 : w.heap.size + 1 + 1 < w1.heap.size := by omega
        have BX := Lib.hid (balloc B1.out (.cells #[.slice ac9 (h).n cc9, .slice am9 (h).ms.length cm9, .slice ao9 (h).os.length co9, .slice at9 (h).ts.length ct9, .int .i64 (h).sent, .int .i64 (h).day] 27))
        have KX : Hid (∀ W : World, Below (w1.alloc (.cells #[.slice ac9 (h).n cc9, .slice am9 (h).ms.length cm9, .slice ao9 (h).os.length co9, .slice at9 (h).ts.length ct9, .int .i64 (h).sent, .int .i64 (h).day] 27)).heap.size (w1.alloc (.cells #[.slice ac9 (h).n cc9, .slice am9 (h).ms.length cm9, .slice ao9 (h).os.length co9, .slice at9 (h).ts.length ct9, .int .i64 (h).sent, .int .i64 (h).day] 27)) W → W.cell? ⟨w1.heap.size, 0, none⟩ = some (Value.slice ac9 (h).n cc9) ∧ W.cell? ⟨w1.heap.size, 1, none⟩ = some (Value.slice am9 (h).ms.length cm9) ∧ W.cell? ⟨w1.heap.size, 2, none⟩ = some (Value.slice ao9 (h).os.length co9) ∧ W.cell? ⟨w1.heap.size, 3, none⟩ = some (Value.slice at9 (h).ts.length ct9) ∧ W.cell? ⟨w1.heap.size, 4, none⟩ = some (Value.int .i64 (h).sent) ∧ W.cell? ⟨w1.heap.size, 5, none⟩ = some (Value.int .i64 (h).day) ∧ W.frozen? ⟨w1.heap.size, 0, none⟩ = false ∧ W.frozen? ⟨w1.heap.size, 1, none⟩ = false ∧ W.frozen? ⟨w1.heap.size, 2, none⟩ = false ∧ W.frozen? ⟨w1.heap.size, 3, none⟩ = false ∧ W.frozen? ⟨w1.heap.size, 4, none⟩ = false ∧ W.frozen? ⟨w1.heap.size, 5, none⟩ = false) := fun W hb => ⟨(hb.cell (p := ⟨w1.heap.size, 0, none⟩) (by simp)).trans (by go_simp), (hb.cell (p := ⟨w1.heap.size, 1, none⟩) (by simp)).trans (by go_simp), (hb.cell (p := ⟨w1.heap.size, 2, none⟩) (by simp)).trans (by go_simp), (hb.cell (p := ⟨w1.heap.size, 3, none⟩) (by simp)).trans (by go_simp), (hb.cell (p := ⟨w1.heap.size, 4, none⟩) (by simp)).trans (by go_simp), (hb.cell (p := ⟨w1.heap.size, 5, none⟩) (by simp)).trans (by go_simp), (hb.frozen (p := ⟨w1.heap.size, 0, none⟩) (by simp)).trans (by go_simp), (hb.frozen (p := ⟨w1.heap.size, 1, none⟩) (by simp)).trans (by go_simp), (hb.frozen (p := ⟨w1.heap.size, 2, none⟩) (by simp)).trans (by go_simp), (hb.frozen (p := ⟨w1.heap.size, 3, none⟩) (by simp)).trans (by go_simp), (hb.frozen (p := ⟨w1.heap.size, 4, none⟩) (by simp)).trans (by go_simp), (hb.frozen (p := ⟨w1.heap.size, 5, none⟩) (by simp)).trans (by go_simp)⟩
        have OX := Lib.hid (bref (w1.alloc (.cells #[.slice ac9 (h).n cc9, .slice am9 (h).ms.length cm9, .slice ao9 (h).os.length co9, .slice at9 (h).ts.length ct9, .int .i64 (h).sent, .int .i64 (h).day] 27)))
        obtain ⟨b0, b1, b2, b3, b4, b5, c0, c1, c2, c3, c4, r0, r1, r2, r3, r4, r5, fr0, fr1, fr2, fr3, fr4, fr5⟩ := MK.out _ B1.out
        go_wp2_with fail
        refine (specHouseOk _ _ _ _ h _ (RI.out.below BX.out)).mono ?_
        rw [h1]
        rintro e w2 ⟨rfl, hb2⟩
        have OX := Lib.hid (bnext OX.out hb2)
        have BX := Lib.hid (bnext BX.out hb2)
        clear b0 b1 b2 b3 b4 b5 c0 c1 c2 c3 c4 r0 r1 r2 r3 r4 r5 fr0 fr1 fr2 fr3 fr4 fr5 hb2
        obtain ⟨b0, b1, b2, b3, b4, b5, c0, c1, c2, c3, c4, r0, r1, r2, r3, r4, r5, fr0, fr1, fr2, fr3, fr4, fr5⟩ := MK.out _ BX.out
        obtain ⟨x0, x1, x2, x3, x4, x5, fx0, fx1, fx2, fx3, fx4, fx5⟩ := KX.out _ OX.out
        have zx2 : w1.heap.size + 1 ≤ w2.heap.size := by have q := OX.out.size; simp at q; omega
        go_wp2_with fail
        refine (specActOk_any 4 a b c d _).mono ?_
        rw [h2]
        rintro e w3 ⟨rfl, hb3⟩
        have OX := Lib.hid (bnext OX.out hb3)
        have BX := Lib.hid (bnext BX.out hb3)
        clear b0 b1 b2 b3 b4 b5 c0 c1 c2 c3 c4 r0 r1 r2 r3 r4 r5 fr0 fr1 fr2 fr3 fr4 fr5 hb3
        obtain ⟨b0, b1, b2, b3, b4, b5, c0, c1, c2, c3, c4, r0, r1, r2, r3, r4, r5, fr0, fr1, fr2, fr3, fr4, fr5⟩ := MK.out _ BX.out
        obtain ⟨x0, x1, x2, x3, x4, x5, fx0, fx1, fx2, fx3, fx4, fx5⟩ := KX.out _ OX.out
        have zx3 : w1.heap.size + 1 ≤ w3.heap.size := by have q := OX.out.size; simp at q; omega
        go_upto_region 16 with fail
        generalize hv : weightIn h.n h.xs a = q at *
        have HV := Lib.hid hv
        clear hv
        have SK : Hid (∀ W : World, Below w3.heap.size w3 W → W.cell? ⟨w.heap.size, 0, none⟩ = some (Value.slice adc h.n capc) ∧ W.cell? ⟨w.heap.size, 1, none⟩ = some (Value.slice adm h.ms.length capm) ∧ W.cell? ⟨w.heap.size, 2, none⟩ = some (Value.slice ado h.os.length capo) ∧ W.cell? ⟨w.heap.size, 3, none⟩ = some (Value.slice adt h.ts.length capt) ∧ W.cell? ⟨w.heap.size, 4, none⟩ = some (Value.int .i64 h.sent) ∧ W.cell? ⟨w.heap.size, 5, none⟩ = some (Value.int .i64 h.day) ∧ W.cell? ⟨w.heap.size + 1, 0, none⟩ = some (Value.int .i64 4) ∧ W.cell? ⟨w.heap.size + 1, 1, none⟩ = some (Value.int .i64 a) ∧ W.cell? ⟨w.heap.size + 1, 2, none⟩ = some (Value.int .i64 b) ∧ W.cell? ⟨w.heap.size + 1, 3, none⟩ = some (Value.int .i64 c) ∧ W.cell? ⟨w.heap.size + 1, 4, none⟩ = some (Value.int .i64 d) ∧ W.cell? ⟨w.heap.size + 1 + 1, 0, none⟩ = some (Value.slice none 0 0) ∧ W.cell? ⟨w.heap.size + 1 + 1, 1, none⟩ = some (Value.slice none 0 0) ∧ W.cell? ⟨w.heap.size + 1 + 1, 2, none⟩ = some (Value.slice none 0 0) ∧ W.cell? ⟨w.heap.size + 1 + 1, 3, none⟩ = some (Value.slice none 0 0) ∧ W.cell? ⟨w.heap.size + 1 + 1, 4, none⟩ = some (Value.int .i64 0) ∧ W.cell? ⟨w.heap.size + 1 + 1, 5, none⟩ = some (Value.int .i64 0) ∧ W.frozen? ⟨w.heap.size + 1 + 1, 0, none⟩ = false ∧ W.frozen? ⟨w.heap.size + 1 + 1, 1, none⟩ = false ∧ W.frozen? ⟨w.heap.size + 1 + 1, 2, none⟩ = false ∧ W.frozen? ⟨w.heap.size + 1 + 1, 3, none⟩ = false ∧ W.frozen? ⟨w.heap.size + 1 + 1, 4, none⟩ = false ∧ W.frozen? ⟨w.heap.size + 1 + 1, 5, none⟩ = false) := fun W q => MK.out _ (bnext BX.out q)
        have XK : Hid (∀ W : World, Below w3.heap.size w3 W → W.cell? ⟨w1.heap.size, 0, none⟩ = some (Value.slice ac9 (h).n cc9) ∧ W.cell? ⟨w1.heap.size, 1, none⟩ = some (Value.slice am9 (h).ms.length cm9) ∧ W.cell? ⟨w1.heap.size, 2, none⟩ = some (Value.slice ao9 (h).os.length co9) ∧ W.cell? ⟨w1.heap.size, 3, none⟩ = some (Value.slice at9 (h).ts.length ct9) ∧ W.cell? ⟨w1.heap.size, 4, none⟩ = some (Value.int .i64 (h).sent) ∧ W.cell? ⟨w1.heap.size, 5, none⟩ = some (Value.int .i64 (h).day) ∧ W.frozen? ⟨w1.heap.size, 0, none⟩ = false ∧ W.frozen? ⟨w1.heap.size, 1, none⟩ = false ∧ W.frozen? ⟨w1.heap.size, 2, none⟩ = false ∧ W.frozen? ⟨w1.heap.size, 3, none⟩ = false ∧ W.frozen? ⟨w1.heap.size, 4, none⟩ = false ∧ W.frozen? ⟨w1.heap.size, 5, none⟩ = false) := fun W q => KX.out _ (bnext OX.out q)
        have zw := OX.out.size
        simp at zw
        clear b0 b1 b2 b3 b4 b5 c0 c1 c2 c3 c4 r0 r1 r2 r3 r4 r5 fr0 fr1 fr2 fr3 fr4 fr5 x0 x1 x2 x3 x4 x5 fx0 fx1 fx2 fx3 fx4 fx5
        have SS : Hid (∀ w' : World, Below w3.heap.size w3 w' → w'.cell? ⟨w1.heap.size, 0, none⟩ = some (Value.slice ac9 (h).n cc9) ∧ w'.cell? ⟨w1.heap.size, 1, none⟩ = some (Value.slice am9 (h).ms.length cm9) ∧ w'.cell? ⟨w1.heap.size, 2, none⟩ = some (Value.slice ao9 (h).os.length co9) ∧ w'.cell? ⟨w1.heap.size, 3, none⟩ = some (Value.slice at9 (h).ts.length ct9) ∧ w'.cell? ⟨w1.heap.size, 4, none⟩ = some (Value.int .i64 (h).sent) ∧ w'.cell? ⟨w1.heap.size, 5, none⟩ = some (Value.int .i64 (h).day) ∧ w'.cell? ⟨w.heap.size, 0, none⟩ = some (Value.slice adc h.n capc) ∧ w'.cell? ⟨w.heap.size + 1, 1, none⟩ = some (Value.int .i64 a) ∧ Below w.heap.size w w') := fun W q => by
          obtain ⟨b0, b1, b2, b3, b4, b5, c0, c1, c2, c3, c4, r0, r1, r2, r3, r4, r5, fr0, fr1, fr2, fr3, fr4, fr5⟩ := SK.out _ q
          obtain ⟨x0, x1, x2, x3, x4, x5, fx0, fx1, fx2, fx3, fx4, fx5⟩ := XK.out _ q
          exact ⟨x0, x1, x2, x3, x4, x5, b0, c1, bnext (bnext DI.out BX.out) q⟩
        have RH := Lib.hid (fun (W : World) (q : Below w.heap.size w W) => HR0.out.below q)
        have yy0 : w.heap.size < w3.heap.size := by omega
        have yy1 : w.heap.size + 1 < w3.heap.size := by omega
        have yy2 : w.heap.size + 1 + 1 < w3.heap.size := by omega
        have hDr : Below w3.heap.size w3 w3.drew := bdrew (bref _)
        go_region_held3 (fun w' => w'.cell? ⟨w1.heap.size, 0, none⟩ = some (Value.slice ac9 (h).n cc9) ∧ w'.cell? ⟨w1.heap.size, 1, none⟩ = some (Value.slice am9 (h).ms.length cm9) ∧ w'.cell? ⟨w1.heap.size, 2, none⟩ = some (Value.slice ao9 (h).os.length co9) ∧ w'.cell? ⟨w1.heap.size, 3, none⟩ = some (Value.slice at9 (h).ts.length ct9) ∧ w'.cell? ⟨w1.heap.size, 4, none⟩ = some (Value.int .i64 (h).sent) ∧ w'.cell? ⟨w1.heap.size, 5, none⟩ = some (Value.int .i64 (h).day) ∧ w'.cell? ⟨w.heap.size, 0, none⟩ = some (Value.slice adc h.n capc) ∧ w'.cell? ⟨w.heap.size + 1, 1, none⟩ = some (Value.int .i64 a) ∧ Below w.heap.size w w')
          (first | with_reducible exact SS.out _ hDr | with_reducible exact SS.out _ q4 | (refine ⟨?_, ?_, ?_, ?_, ?_, ?_, ?_, ?_, bset (bset (bset (bset (bset (bset DQ (by simp only []; omega) _) (by simp only []; omega) _) (by simp only []; omega) _) (by simp only []; omega) _) (by simp only []; omega) _) (by simp only []; omega) _⟩ <;> go_simp))
          (first
          | (go_at_call 32; go_split_ands; refine (specWeightIn _ h.n h.xs a _ (RH.out _ (by assumption)).c).mono ?_; rw [HV.out]; rintro e ww ⟨rfl, hbw⟩; have q4 : Below w3.heap.size w3 ww := bnext (bdrew (bref _)) hbw; (try clear b0 b1 b2 b3 b4 b5 c0 c1 c2 c3 c4 r0 r1 r2 r3 r4 r5 fr0 fr1 fr2 fr3 fr4 fr5 x0 x1 x2 x3 x4 x5 fx0 fx1 fx2 fx3 fx4 fx5); have DQ := bnext (bnext DI.out BX.out) q4; obtain ⟨b0, b1, b2, b3, b4, b5, c0, c1, c2, c3, c4, r0, r1, r2, r3, r4, r5, fr0, fr1, fr2, fr3, fr4, fr5⟩ := SK.out _ q4; obtain ⟨x0, x1, x2, x3, x4, x5, fx0, fx1, fx2, fx3, fx4, fx5⟩ := XK.out _ q4; have yx : w1.heap.size < ww.heap.size := (by have := q4.size; omega)))
        all_goals
          have hO := OH.out.below (bnext OX.out q4)
          have DL := Lib.hid (bnext (bnext DI.out BX.out) q4)
          go_wp2_with fail
          refine bodyPost_ret (v := .tuple #[.agg #[.slice ac9 (h).n cc9, .slice am9 (h).ms.length cm9, .slice ao9 (h).os.length co9, .slice at9 (h).ts.length ct9, .int .i64 (h).sent, .int .i64 (h).day], .int .i64 (q)]) (by simp [results, Try.results7, go_sem, r0, r1, r2, r3, r4, r5]) rfl ?_
          rw [H.out]
          have fin : ∀ WF : World, Only w.heap.size (w.heap.size + 3) ww WF → HouseO w.heap.size WF.heap.size WF (.slice ac9 (h).n cc9) (.slice am9 (h).ms.length cm9) (.slice ao9 (h).os.length co9) (.slice at9 (h).ts.length ct9) (h) ∧ Below w.heap.size w WF := fun WF oF =>
            ⟨((hO).only oF (off_r (by omega))).wide (by omega) (by have := oF.size; omega), Only.below (DL.out) oF (Nat.le_refl _)⟩
          refine ⟨_, _, _, _, _, _, _, _, rfl, fin _ ?_⟩
          repeat (first | with_reducible exact Only.refl _ _ _ | with_reducible refine only_drew ?_ | with_reducible refine Only.alloc ?_ _ | with_reducible refine Only.set ?_ (by simp only []; omega) (by simp only []; omega) _)
      · skip
        have H := Lib.hid (doAct_5 h1 h2)
        have MK : Hid (∀ W : World, Below (((w.alloc (.cells #[.slice adc h.n capc, .slice adm h.ms.length capm, .slice ado h.os.length capo, .slice adt h.ts.length capt, .int .i64 h.sent, .int .i64 h.day] 27)).alloc (.cells #[.int .i64 5, .int .i64 a, .int .i64 b, .int .i64 c, .int .i64 d] 34)).alloc (.cells #[.slice none 0 0, .slice none 0 0, .slice none 0 0, .slice none 0 0, .int .i64 0, .int .i64 0] 27)).heap.size (((w.alloc (.cells #[.slice adc h.n capc, .slice adm h.ms.length capm, .slice ado h.os.length capo, .slice adt h.ts.length capt, .int .i64 h.sent, .int .i64 h.day] 27)).alloc (.cells #[.int .i64 5, .int .i64 a, .int .i64 b, .int .i64 c, .int .i64 d] 34)).alloc (.cells #[.slice none 0 0, .slice none 0 0, .slice none 0 0, .slice none 0 0, .int .i64 0, .int .i64 0] 27)) W → W.cell? ⟨w.heap.size, 0, none⟩ = some (Value.slice adc h.n capc) ∧ W.cell? ⟨w.heap.size, 1, none⟩ = some (Value.slice adm h.ms.length capm) ∧ W.cell? ⟨w.heap.size, 2, none⟩ = some (Value.slice ado h.os.length capo) ∧ W.cell? ⟨w.heap.size, 3, none⟩ = some (Value.slice adt h.ts.length capt) ∧ W.cell? ⟨w.heap.size, 4, none⟩ = some (Value.int .i64 h.sent) ∧ W.cell? ⟨w.heap.size, 5, none⟩ = some (Value.int .i64 h.day) ∧ W.cell? ⟨w.heap.size + 1, 0, none⟩ = some (Value.int .i64 5) ∧ W.cell? ⟨w.heap.size + 1, 1, none⟩ = some (Value.int .i64 a) ∧ W.cell? ⟨w.heap.size + 1, 2, none⟩ = some (Value.int .i64 b) ∧ W.cell? ⟨w.heap.size + 1, 3, none⟩ = some (Value.int .i64 c) ∧ W.cell? ⟨w.heap.size + 1, 4, none⟩ = some (Value.int .i64 d) ∧ W.cell? ⟨w.heap.size + 1 + 1, 0, none⟩ = some (Value.slice none 0 0) ∧ W.cell? ⟨w.heap.size + 1 + 1, 1, none⟩ = some (Value.slice none 0 0) ∧ W.cell? ⟨w.heap.size + 1 + 1, 2, none⟩ = some (Value.slice none 0 0) ∧ W.cell? ⟨w.heap.size + 1 + 1, 3, none⟩ = some (Value.slice none 0 0) ∧ W.cell? ⟨w.heap.size + 1 + 1, 4, none⟩ = some (Value.int .i64 0) ∧ W.cell? ⟨w.heap.size + 1 + 1, 5, none⟩ = some (Value.int .i64 0) ∧ W.frozen? ⟨w.heap.size + 1 + 1, 0, none⟩ = false ∧ W.frozen? ⟨w.heap.size + 1 + 1, 1, none⟩ = false ∧ W.frozen? ⟨w.heap.size + 1 + 1, 2, none⟩ = false ∧ W.frozen? ⟨w.heap.size + 1 + 1, 3, none⟩ = false ∧ W.frozen? ⟨w.heap.size + 1 + 1, 4, none⟩ = false ∧ W.frozen? ⟨w.heap.size + 1 + 1, 5, none⟩ = false) := fun W hb => ⟨(hb.cell (p := ⟨w.heap.size, 0, none⟩) (by first | (simp; done) | (simp; omega))).trans (by go_simp), (hb.cell (p := ⟨w.heap.size, 1, none⟩) (by first | (simp; done) | (simp; omega))).trans (by go_simp), (hb.cell (p := ⟨w.heap.size, 2, none⟩) (by first | (simp; done) | (simp; omega))).trans (by go_simp), (hb.cell (p := ⟨w.heap.size, 3, none⟩) (by first | (simp; done) | (simp; omega))).trans (by go_simp), (hb.cell (p := ⟨w.heap.size, 4, none⟩) (by first | (simp; done) | (simp; omega))).trans (by go_simp), (hb.cell (p := ⟨w.heap.size, 5, none⟩) (by first | (simp; done) | (simp; omega))).trans (by go_simp), (hb.cell (p := ⟨w.heap.size + 1, 0, none⟩) (by first | (simp; done) | (simp; omega))).trans (by go_simp), (hb.cell (p := ⟨w.heap.size + 1, 1, none⟩) (by first | (simp; done) | (simp; omega))).trans (by go_simp), (hb.cell (p := ⟨w.heap.size + 1, 2, none⟩) (by first | (simp; done) | (simp; omega))).trans (by go_simp), (hb.cell (p := ⟨w.heap.size + 1, 3, none⟩) (by first | (simp; done) | (simp; omega))).trans (by go_simp), (hb.cell (p := ⟨w.heap.size + 1, 4, none⟩) (by first | (simp; done) | (simp; omega))).trans (by go_simp), (hb.cell (p := ⟨w.heap.size + 1 + 1, 0, none⟩) (by first | (simp; done) | (simp; omega))).trans (by go_simp), (hb.cell (p := ⟨w.heap.size + 1 + 1, 1, none⟩) (by first | (simp; done) | (simp; omega))).trans (by go_simp), (hb.cell (p := ⟨w.heap.size + 1 + 1, 2, none⟩) (by first | (simp; done) | (simp; omega))).trans (by go_simp), (hb.cell (p := ⟨w.heap.size + 1 + 1, 3, none⟩) (by first | (simp; done) | (simp; omega))).trans (by go_simp), (hb.cell (p := ⟨w.heap.size + 1 + 1, 4, none⟩) (by first | (simp; done) | (simp; omega))).trans (by go_simp), (hb.cell (p := ⟨w.heap.size + 1 + 1, 5, none⟩) (by first | (simp; done) | (simp; omega))).trans (by go_simp), (hb.frozen (p := ⟨w.heap.size + 1 + 1, 0, none⟩) (by first | (simp; done) | (simp; omega))).trans (by go_simp), (hb.frozen (p := ⟨w.heap.size + 1 + 1, 1, none⟩) (by first | (simp; done) | (simp; omega))).trans (by go_simp), (hb.frozen (p := ⟨w.heap.size + 1 + 1, 2, none⟩) (by first | (simp; done) | (simp; omega))).trans (by go_simp), (hb.frozen (p := ⟨w.heap.size + 1 + 1, 3, none⟩) (by first | (simp; done) | (simp; omega))).trans (by go_simp), (hb.frozen (p := ⟨w.heap.size + 1 + 1, 4, none⟩) (by first | (simp; done) | (simp; omega))).trans (by go_simp), (hb.frozen (p := ⟨w.heap.size + 1 + 1, 5, none⟩) (by first | (simp; done) | (simp; omega))).trans (by go_simp)⟩
        have DI := Lib.hid (show Below w.heap.size w (((w.alloc (.cells #[.slice adc h.n capc, .slice adm h.ms.length capm, .slice ado h.os.length capo, .slice adt h.ts.length capt, .int .i64 h.sent, .int .i64 h.day] 27)).alloc (.cells #[.int .i64 5, .int .i64 a, .int .i64 b, .int .i64 c, .int .i64 d] 34)).alloc (.cells #[.slice none 0 0, .slice none 0 0, .slice none 0 0, .slice none 0 0, .int .i64 0, .int .i64 0] 27)) from balloc (balloc (balloc (bref w) _) _) _)
        have RI := Lib.hid (((hr.alloc (.cells #[.slice adc h.n capc, .slice adm h.ms.length capm, .slice ado h.os.length capo, .slice adt h.ts.length capt, .int .i64 h.sent, .int .i64 h.day] 27)).alloc (.cells #[.int .i64 5, .int .i64 a, .int .i64 b, .int .i64 c, .int .i64 d] 34)).alloc (.cells #[.slice none 0 0, .slice none 0 0, .slice none 0 0, .slice none 0 0, .int .i64 0, .int .i64 0] 27))
        have HR0 := Lib.hid hr
        clear hr
        go_enter Try.func7, Try.ntmps7
        go_wp2_with fail
        refine (l38Copy_any _ _ _ _ h _ RI.out hn hB).mono ?_
        rintro e w1 ⟨ac9, cc9, am9, cm9, ao9, co9, at9, ct9, rfl, hO, hb1⟩
        have B1 := Lib.hid hb1
        have OH := Lib.hid ((hO.wide (lo' := w.heap.size + 3) (by simp) (Nat.le_refl _)).below (balloc (bref w1) (.cells #[.slice ac9 (h).n cc9, .slice am9 (h).ms.length cm9, .slice ao9 (h).os.length co9, .slice at9 (h).ts.length ct9, .int .i64 (h).sent, .int .i64 (h).day] 27)))
        clear hb1 hO
        have z1 : w.heap.size + 3 ≤ w1.heap.size := by have q := B1.out.size; simp at q; omega
        have yy0 : w.heap.size < w1.heap.size := by omega
        have yy1 : w.heap.size + 1 < w1.heap.size := by omega
        have yy2 : w.heap.size + 1 + 1 < w1.heap.size := by omega
        have BX := Lib.hid (balloc B1.out (.cells #[.slice ac9 (h).n cc9, .slice am9 (h).ms.length cm9, .slice ao9 (h).os.length co9, .slice at9 (h).ts.length ct9, .int .i64 (h).sent, .int .i64 (h).day] 27))
        have KX : Hid (∀ W : World, Below (w1.alloc (.cells #[.slice ac9 (h).n cc9, .slice am9 (h).ms.length cm9, .slice ao9 (h).os.length co9, .slice at9 (h).ts.length ct9, .int .i64 (h).sent, .int .i64 (h).day] 27)).heap.size (w1.alloc (.cells #[.slice ac9 (h).n cc9, .slice am9 (h).ms.length cm9, .slice ao9 (h).os.length co9, .slice at9 (h).ts.length ct9, .int .i64 (h).sent, .int .i64 (h).day] 27)) W → W.cell? ⟨w1.heap.size, 0, none⟩ = some (Value.slice ac9 (h).n cc9) ∧ W.cell? ⟨w1.heap.size, 1, none⟩ = some (Value.slice am9 (h).ms.length cm9) ∧ W.cell? ⟨w1.heap.size, 2, none⟩ = some (Value.slice ao9 (h).os.length co9) ∧ W.cell? ⟨w1.heap.size, 3, none⟩ = some (Value.slice at9 (h).ts.length ct9) ∧ W.cell? ⟨w1.heap.size, 4, none⟩ = some (Value.int .i64 (h).sent) ∧ W.cell? ⟨w1.heap.size, 5, none⟩ = some (Value.int .i64 (h).day) ∧ W.frozen? ⟨w1.heap.size, 0, none⟩ = false ∧ W.frozen? ⟨w1.heap.size, 1, none⟩ = false ∧ W.frozen? ⟨w1.heap.size, 2, none⟩ = false ∧ W.frozen? ⟨w1.heap.size, 3, none⟩ = false ∧ W.frozen? ⟨w1.heap.size, 4, none⟩ = false ∧ W.frozen? ⟨w1.heap.size, 5, none⟩ = false) := fun W hb => ⟨(hb.cell (p := ⟨w1.heap.size, 0, none⟩) (by simp)).trans (by go_simp), (hb.cell (p := ⟨w1.heap.size, 1, none⟩) (by simp)).trans (by go_simp), (hb.cell (p := ⟨w1.heap.size, 2, none⟩) (by simp)).trans (by go_simp), (hb.cell (p := ⟨w1.heap.size, 3, none⟩) (by simp)).trans (by go_simp), (hb.cell (p := ⟨w1.heap.size, 4, none⟩) (by simp)).trans (by go_simp), (hb.cell (p := ⟨w1.heap.size, 5, none⟩) (by simp)).trans (by go_simp), (hb.frozen (p := ⟨w1.heap.size, 0, none⟩) (by simp)).trans (by go_simp), (hb.frozen (p := ⟨w1.heap.size, 1, none⟩) (by simp)).trans (by go_simp), (hb.frozen (p := ⟨w1.heap.size, 2, none⟩) (by simp)).trans (by go_simp), (hb.frozen (p := ⟨w1.heap.size, 3, none⟩) (by simp)).trans (by go_simp), (hb.frozen (p := ⟨w1.heap.size, 4, none⟩) (by simp)).trans (by go_simp), (hb.frozen (p := ⟨w1.heap.size, 5, none⟩) (by simp)).trans (by go_simp)⟩
        have OX := Lib.hid (bref (w1.alloc (.cells #[.slice ac9 (h).n cc9, .slice am9 (h).ms.length cm9, .slice ao9 (h).os.length co9, .slice at9 (h).ts.length ct9, .int .i64 (h).sent, .int .i64 (h).day] 27)))
        obtain ⟨b0, b1, b2, b3, b4, b5, c0, c1, c2, c3, c4, r0, r1, r2, r3, r4, r5, fr0, fr1, fr2, fr3, fr4, fr5⟩ := MK.out _ B1.out
        go_wp2_with fail
        refine (specHouseOk _ _ _ _ h _ (RI.out.below BX.out)).mono ?_
        rw [h1]
        rintro e w2 ⟨rfl, hb2⟩
        have OX := Lib.hid (bnext OX.out hb2)
        have BX := Lib.hid (bnext BX.out hb2)
        clear b0 b1 b2 b3 b4 b5 c0 c1 c2 c3 c4 r0 r1 r2 r3 r4 r5 fr0 fr1 fr2 fr3 fr4 fr5 hb2
        obtain ⟨b0, b1, b2, b3, b4, b5, c0, c1, c2, c3, c4, r0, r1, r2, r3, r4, r5, fr0, fr1, fr2, fr3, fr4, fr5⟩ := MK.out _ BX.out
        obtain ⟨x0, x1, x2, x3, x4, x5, fx0, fx1, fx2, fx3, fx4, fx5⟩ := KX.out _ OX.out
        have zx2 : w1.heap.size + 1 ≤ w2.heap.size := by have q := OX.out.size; simp at q; omega
        go_wp2_with fail
        refine (specActOk_any 5 a b c d _).mono ?_
        rw [h2]
        rintro e w3 ⟨rfl, hb3⟩
        have OX := Lib.hid (bnext OX.out hb3)
        have BX := Lib.hid (bnext BX.out hb3)
        clear b0 b1 b2 b3 b4 b5 c0 c1 c2 c3 c4 r0 r1 r2 r3 r4 r5 fr0 fr1 fr2 fr3 fr4 fr5 hb3
        obtain ⟨b0, b1, b2, b3, b4, b5, c0, c1, c2, c3, c4, r0, r1, r2, r3, r4, r5, fr0, fr1, fr2, fr3, fr4, fr5⟩ := MK.out _ BX.out
        obtain ⟨x0, x1, x2, x3, x4, x5, fx0, fx1, fx2, fx3, fx4, fx5⟩ := KX.out _ OX.out
        have zx3 : w1.heap.size + 1 ≤ w3.heap.size := by have q := OX.out.size; simp at q; omega
        go_upto_region 18 with fail
        generalize hv : diffError h.n h.xs a b = q at *
        have HV := Lib.hid hv
        clear hv
        have SK : Hid (∀ W : World, Below w3.heap.size w3 W → W.cell? ⟨w.heap.size, 0, none⟩ = some (Value.slice adc h.n capc) ∧ W.cell? ⟨w.heap.size, 1, none⟩ = some (Value.slice adm h.ms.length capm) ∧ W.cell? ⟨w.heap.size, 2, none⟩ = some (Value.slice ado h.os.length capo) ∧ W.cell? ⟨w.heap.size, 3, none⟩ = some (Value.slice adt h.ts.length capt) ∧ W.cell? ⟨w.heap.size, 4, none⟩ = some (Value.int .i64 h.sent) ∧ W.cell? ⟨w.heap.size, 5, none⟩ = some (Value.int .i64 h.day) ∧ W.cell? ⟨w.heap.size + 1, 0, none⟩ = some (Value.int .i64 5) ∧ W.cell? ⟨w.heap.size + 1, 1, none⟩ = some (Value.int .i64 a) ∧ W.cell? ⟨w.heap.size + 1, 2, none⟩ = some (Value.int .i64 b) ∧ W.cell? ⟨w.heap.size + 1, 3, none⟩ = some (Value.int .i64 c) ∧ W.cell? ⟨w.heap.size + 1, 4, none⟩ = some (Value.int .i64 d) ∧ W.cell? ⟨w.heap.size + 1 + 1, 0, none⟩ = some (Value.slice none 0 0) ∧ W.cell? ⟨w.heap.size + 1 + 1, 1, none⟩ = some (Value.slice none 0 0) ∧ W.cell? ⟨w.heap.size + 1 + 1, 2, none⟩ = some (Value.slice none 0 0) ∧ W.cell? ⟨w.heap.size + 1 + 1, 3, none⟩ = some (Value.slice none 0 0) ∧ W.cell? ⟨w.heap.size + 1 + 1, 4, none⟩ = some (Value.int .i64 0) ∧ W.cell? ⟨w.heap.size + 1 + 1, 5, none⟩ = some (Value.int .i64 0) ∧ W.frozen? ⟨w.heap.size + 1 + 1, 0, none⟩ = false ∧ W.frozen? ⟨w.heap.size + 1 + 1, 1, none⟩ = false ∧ W.frozen? ⟨w.heap.size + 1 + 1, 2, none⟩ = false ∧ W.frozen? ⟨w.heap.size + 1 + 1, 3, none⟩ = false ∧ W.frozen? ⟨w.heap.size + 1 + 1, 4, none⟩ = false ∧ W.frozen? ⟨w.heap.size + 1 + 1, 5, none⟩ = false) := fun W q => MK.out _ (bnext BX.out q)
        have XK : Hid (∀ W : World, Below w3.heap.size w3 W → W.cell? ⟨w1.heap.size, 0, none⟩ = some (Value.slice ac9 (h).n cc9) ∧ W.cell? ⟨w1.heap.size, 1, none⟩ = some (Value.slice am9 (h).ms.length cm9) ∧ W.cell? ⟨w1.heap.size, 2, none⟩ = some (Value.slice ao9 (h).os.length co9) ∧ W.cell? ⟨w1.heap.size, 3, none⟩ = some (Value.slice at9 (h).ts.length ct9) ∧ W.cell? ⟨w1.heap.size, 4, none⟩ = some (Value.int .i64 (h).sent) ∧ W.cell? ⟨w1.heap.size, 5, none⟩ = some (Value.int .i64 (h).day) ∧ W.frozen? ⟨w1.heap.size, 0, none⟩ = false ∧ W.frozen? ⟨w1.heap.size, 1, none⟩ = false ∧ W.frozen? ⟨w1.heap.size, 2, none⟩ = false ∧ W.frozen? ⟨w1.heap.size, 3, none⟩ = false ∧ W.frozen? ⟨w1.heap.size, 4, none⟩ = false ∧ W.frozen? ⟨w1.heap.size, 5, none⟩ = false) := fun W q => KX.out _ (bnext OX.out q)
        have zw := OX.out.size
        simp at zw
        clear b0 b1 b2 b3 b4 b5 c0 c1 c2 c3 c4 r0 r1 r2 r3 r4 r5 fr0 fr1 fr2 fr3 fr4 fr5 x0 x1 x2 x3 x4 x5 fx0 fx1 fx2 fx3 fx4 fx5
        have SS : Hid (∀ w' : World, Below w3.heap.size w3 w' → w'.cell? ⟨w1.heap.size, 0, none⟩ = some (Value.slice ac9 (h).n cc9) ∧ w'.cell? ⟨w1.heap.size, 1, none⟩ = some (Value.slice am9 (h).ms.length cm9) ∧ w'.cell? ⟨w1.heap.size, 2, none⟩ = some (Value.slice ao9 (h).os.length co9) ∧ w'.cell? ⟨w1.heap.size, 3, none⟩ = some (Value.slice at9 (h).ts.length ct9) ∧ w'.cell? ⟨w1.heap.size, 4, none⟩ = some (Value.int .i64 (h).sent) ∧ w'.cell? ⟨w1.heap.size, 5, none⟩ = some (Value.int .i64 (h).day) ∧ w'.cell? ⟨w.heap.size, 0, none⟩ = some (Value.slice adc h.n capc) ∧ w'.cell? ⟨w.heap.size + 1, 1, none⟩ = some (Value.int .i64 a) ∧ w'.cell? ⟨w.heap.size + 1, 2, none⟩ = some (Value.int .i64 b) ∧ Below w.heap.size w w') := fun W q => by
          obtain ⟨b0, b1, b2, b3, b4, b5, c0, c1, c2, c3, c4, r0, r1, r2, r3, r4, r5, fr0, fr1, fr2, fr3, fr4, fr5⟩ := SK.out _ q
          obtain ⟨x0, x1, x2, x3, x4, x5, fx0, fx1, fx2, fx3, fx4, fx5⟩ := XK.out _ q
          exact ⟨x0, x1, x2, x3, x4, x5, b0, c1, c2, bnext (bnext DI.out BX.out) q⟩
        have RH := Lib.hid (fun (W : World) (q : Below w.heap.size w W) => HR0.out.below q)
        have yy0 : w.heap.size < w3.heap.size := by omega
        have yy1 : w.heap.size + 1 < w3.heap.size := by omega
        have yy2 : w.heap.size + 1 + 1 < w3.heap.size := by omega
        have hDr : Below w3.heap.size w3 w3.drew := bdrew (bref _)
        go_region_held3 (fun w' => w'.cell? ⟨w1.heap.size, 0, none⟩ = some (Value.slice ac9 (h).n cc9) ∧ w'.cell? ⟨w1.heap.size, 1, none⟩ = some (Value.slice am9 (h).ms.length cm9) ∧ w'.cell? ⟨w1.heap.size, 2, none⟩ = some (Value.slice ao9 (h).os.length co9) ∧ w'.cell? ⟨w1.heap.size, 3, none⟩ = some (Value.slice at9 (h).ts.length ct9) ∧ w'.cell? ⟨w1.heap.size, 4, none⟩ = some (Value.int .i64 (h).sent) ∧ w'.cell? ⟨w1.heap.size, 5, none⟩ = some (Value.int .i64 (h).day) ∧ w'.cell? ⟨w.heap.size, 0, none⟩ = some (Value.slice adc h.n capc) ∧ w'.cell? ⟨w.heap.size + 1, 1, none⟩ = some (Value.int .i64 a) ∧ w'.cell? ⟨w.heap.size + 1, 2, none⟩ = some (Value.int .i64 b) ∧ Below w.heap.size w w')
          (first | with_reducible exact SS.out _ hDr | with_reducible exact SS.out _ q4 | (refine ⟨?_, ?_, ?_, ?_, ?_, ?_, ?_, ?_, ?_, bset (bset (bset (bset (bset (bset DQ (by simp only []; omega) _) (by simp only []; omega) _) (by simp only []; omega) _) (by simp only []; omega) _) (by simp only []; omega) _) (by simp only []; omega) _⟩ <;> go_simp))
          (first
          | (go_at_call 33; go_split_ands; refine (specDifferenceError _ h.n h.xs a b _ (RH.out _ (by assumption)).c).mono ?_; rw [HV.out]; rintro e ww ⟨rfl, hbw⟩; have q4 : Below w3.heap.size w3 ww := bnext (bdrew (bref _)) hbw; (try clear b0 b1 b2 b3 b4 b5 c0 c1 c2 c3 c4 r0 r1 r2 r3 r4 r5 fr0 fr1 fr2 fr3 fr4 fr5 x0 x1 x2 x3 x4 x5 fx0 fx1 fx2 fx3 fx4 fx5); have DQ := bnext (bnext DI.out BX.out) q4; obtain ⟨b0, b1, b2, b3, b4, b5, c0, c1, c2, c3, c4, r0, r1, r2, r3, r4, r5, fr0, fr1, fr2, fr3, fr4, fr5⟩ := SK.out _ q4; obtain ⟨x0, x1, x2, x3, x4, x5, fx0, fx1, fx2, fx3, fx4, fx5⟩ := XK.out _ q4; have yx : w1.heap.size < ww.heap.size := (by have := q4.size; omega)))
        all_goals
          have hO := OH.out.below (bnext OX.out q4)
          have DL := Lib.hid (bnext (bnext DI.out BX.out) q4)
          go_wp2_with fail
          refine bodyPost_ret (v := .tuple #[.agg #[.slice ac9 (h).n cc9, .slice am9 (h).ms.length cm9, .slice ao9 (h).os.length co9, .slice at9 (h).ts.length ct9, .int .i64 (h).sent, .int .i64 (h).day], .int .i64 (q)]) (by simp [results, Try.results7, go_sem, r0, r1, r2, r3, r4, r5]) rfl ?_
          rw [H.out]
          have fin : ∀ WF : World, Only w.heap.size (w.heap.size + 3) ww WF → HouseO w.heap.size WF.heap.size WF (.slice ac9 (h).n cc9) (.slice am9 (h).ms.length cm9) (.slice ao9 (h).os.length co9) (.slice at9 (h).ts.length ct9) (h) ∧ Below w.heap.size w WF := fun WF oF =>
            ⟨((hO).only oF (off_r (by omega))).wide (by omega) (by have := oF.size; omega), Only.below (DL.out) oF (Nat.le_refl _)⟩
          refine ⟨_, _, _, _, _, _, _, _, rfl, fin _ ?_⟩
          repeat (first | with_reducible exact Only.refl _ _ _ | with_reducible refine only_drew ?_ | with_reducible refine Only.alloc ?_ _ | with_reducible refine Only.set ?_ (by simp only []; omega) (by simp only []; omega) _)
end Go.Proofs.Ytlipfkalehikkaa
