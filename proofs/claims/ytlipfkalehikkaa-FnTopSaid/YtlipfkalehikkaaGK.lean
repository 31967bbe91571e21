/- Texts laid together: WithO, WithdrawI, WithdrawS. -/
import Derived.Lib.SliceRun
import Derived.Test.YtlipfkalehikkaaGG
import Derived.Test.YtlipfkalehikkaaGE
import Derived.Test.YtlipfkalehikkaaGF
import Derived.Test.YtlipfkalehikkaaAffected
import Derived.Test.YtlipfkalehikkaaGD
/- The walks of Withdraw, in the program and in the reference. -/
namespace Go.Proofs.Ytlipfkalehikkaa
open Go.ChangeShapes Go.WideShapes Go.ChangeAt Go.RowKit

/-- v's block lies outside of [p, q) -/
def Out (p q : Nat) (v : Value) : Prop := ∀ b, v.ownBlock = some b → b < p ∨ q ≤ b
/-- a house and letters that a call made; the letters in an interval of their own -/
structure WithO (w w' : World) (vc vm vo vt vl : Value) (h : HD) (L : List (Int × List Int)) : Prop where
  house : HouseO w.heap.size w'.heap.size w' vc vm vo vt h
  letters : ∃ p q, w.heap.size ≤ p ∧ q ≤ w'.heap.size ∧ LetO p q w' vl L ∧ Out p q vc ∧ Out p q vm ∧ Out p q vo ∧ Out p q vt
  below : Below w.heap.size w w'
theorem out_l {lo hi p q : Nat} {w : World} {e : TypeId} {m : Nat} {v : Value} {n : Nat} {xs : List Int} (h : RowO lo hi w e m v n xs) (hp : hi ≤ p) : Out p q v := fun b hb => .inl (Nat.lt_of_lt_of_le (h.at b hb).2 hp)
theorem out_r {lo hi p q : Nat} {w : World} {e : TypeId} {m : Nat} {v : Value} {n : Nat} {xs : List Int} (h : RowO lo hi w e m v n xs) (hp : q ≤ lo) : Out p q v := fun b hb => .inr (Nat.le_trans hp (h.at b hb).1)
theorem cell_two {lo hi : Nat} {a b c : World} (ho : Only lo hi a b) (hb : Below b.heap.size b c) {p o : Nat} (hp : p < a.heap.size) (hn : ¬ (lo ≤ p ∧ p < hi)) : c.cell? ⟨p, o, none⟩ = a.cell? ⟨p, o, none⟩ :=
  (hb.cell (p := ⟨p, o, none⟩) (Nat.lt_of_lt_of_le hp ho.size)).trans (World.cell?_of_block (ho.block p hp hn))
theorem frozen_two {lo hi : Nat} {a b c : World} (ho : Only lo hi a b) (hb : Below b.heap.size b c) {p o : Nat} (hp : p < a.heap.size) (hn : ¬ (lo ≤ p ∧ p < hi)) : c.frozen? ⟨p, o, none⟩ = a.frozen? ⟨p, o, none⟩ :=
  (hb.frozen (p := ⟨p, o, none⟩) (Nat.lt_of_lt_of_le hp ho.size)).trans (World.frozen?_of_block (ho.block p hp hn))
theorem let_lit (w : World) : LetO w.heap.size (w.heap.size + 1) (w.alloc (.cells #[] 76)) (.slice (some ⟨w.heap.size, 0, none⟩) 0 0) [] :=
  ⟨[], rfl, World.ownsRow_lit (e := 76) (size := 2) w #[] 0 (Nat.le_refl _) (by decide) rfl, (fun b h => by cases h; exact Nat.lt_succ_self _), fun i hi => absurd hi (by simp), fun i hi => absurd hi (by simp), fun i j _ hj => absurd hj (by simp)⟩
end Go.Proofs.Ytlipfkalehikkaa

/- The walk of Withdraw in the program. -/
namespace Go.Proofs.Ytlipfkalehikkaa
open Go.ChangeShapes Go.WideShapes Go.ChangeAt Go.RowKit

set_option maxRecDepth 100000 in
set_option maxHeartbeats 8000000 in
theorem implWithdraw (vc vm vo vt : Value) (h : HD) (bd sn : Int) (w : World) (hr : HouseR w vc vm vo vt h) (hn : HouseN vc vm vo vt) (hB : HouseB h 1048576) : Calls Try.prog 25 #[.agg #[vc, vm, vo, vt, .int .i64 h.sent, .int .i64 h.day], .int .i64 bd, .int .i64 sn] w (fun e w' => ∃ ac cc am cm ao co at_ ct al cl, e = .returned (.tuple #[.agg #[.slice ac ((withdraw h bd sn).1).n cc, .slice am ((withdraw h bd sn).1).ms.length cm, .slice ao ((withdraw h bd sn).1).os.length co, .slice at_ ((withdraw h bd sn).1).ts.length ct, .int .i64 ((withdraw h bd sn).1).sent, .int .i64 ((withdraw h bd sn).1).day], .slice al (withdraw h bd sn).2.1.length cl, .bool (withdraw h bd sn).2.2]) ∧ WithO w w' (.slice ac ((withdraw h bd sn).1).n cc) (.slice am ((withdraw h bd sn).1).ms.length cm) (.slice ao ((withdraw h bd sn).1).os.length co) (.slice at_ ((withdraw h bd sn).1).ts.length ct) (.slice al (withdraw h bd sn).2.1.length cl) ((withdraw h bd sn).1) (withdraw h bd sn).2.1) := by
  obtain ⟨j0, hj, jz0, jz1, jz2⟩ := info_parts infoInt'
  obtain ⟨adc, capc, rfl⟩ : ∃ ad cap, vc = .slice ad h.n cap := by obtain ⟨_, _, ad, cap, hh, _⟩ := hr.c; exact ⟨ad, cap, hh⟩
  obtain ⟨adm, capm, rfl⟩ : ∃ ad cap, vm = .slice ad h.ms.length cap := by obtain ⟨_, ad, cap, hh, _⟩ := hr.m; exact ⟨ad, cap, hh⟩
  obtain ⟨ado, capo, rfl⟩ : ∃ ad cap, vo = .slice ad h.os.length cap := by obtain ⟨_, ad, cap, hh, _⟩ := hr.o; exact ⟨ad, cap, hh⟩
  obtain ⟨adt, capt, rfl⟩ : ∃ ad cap, vt = .slice ad h.ts.length cap := by obtain ⟨_, ad, cap, hh, _⟩ := hr.t; exact ⟨ad, cap, hh⟩
  have hnl : ∀ (w : World) (a : Option Addr) (n c n' c' : Nat), (binOp .eql 25 (.slice a n c) (.slice none n' c')).run Try.prog w = .ok (.bool a.isNone) w := fun w a n c n' c' => Lib.run_eql_slice_nil w _ _ a n c n' c' Try.underlying25
  cases h1 : houseOk h with
  | false =>
    have H := Lib.hid (withdraw_1 (b := bd) (s := sn) h1)
    go_enter Try.func25, Try.ntmps25
    go_wp2_with fail
    refine (copyHouse_any _ _ _ _ h _ ((hr.alloc _).alloc _) hn hB).mono ?_
    rintro e w1 ⟨ac, cc, am, cm, ao, co, at_, ct, rfl, hO, hb1⟩
    have z1 : w.heap.size + 2 ≤ w1.heap.size := by have q := hb1.size; simp at q; omega
    have y0 : w.heap.size < w1.heap.size := by omega
    have y1 : w.heap.size + 1 < w1.heap.size := by omega
    replace hO := hO.wide (lo' := w.heap.size + 2) (by simp) (Nat.le_refl _)
    have b0 : w1.cell? ⟨w.heap.size, 0, none⟩ = some (Value.slice adc h.n capc) := (hb1.cell (p := ⟨w.heap.size, 0, none⟩) (by first | (simp; done) | (simp; omega))).trans (by go_simp)
    have b1 : w1.cell? ⟨w.heap.size, 1, none⟩ = some (Value.slice adm h.ms.length capm) := (hb1.cell (p := ⟨w.heap.size, 1, none⟩) (by first | (simp; done) | (simp; omega))).trans (by go_simp)
    have b2 : w1.cell? ⟨w.heap.size, 2, none⟩ = some (Value.slice ado h.os.length capo) := (hb1.cell (p := ⟨w.heap.size, 2, none⟩) (by first | (simp; done) | (simp; omega))).trans (by go_simp)
    have b3 : w1.cell? ⟨w.heap.size, 3, none⟩ = some (Value.slice adt h.ts.length capt) := (hb1.cell (p := ⟨w.heap.size, 3, none⟩) (by first | (simp; done) | (simp; omega))).trans (by go_simp)
    have b4 : w1.cell? ⟨w.heap.size, 4, none⟩ = some (Value.int .i64 h.sent) := (hb1.cell (p := ⟨w.heap.size, 4, none⟩) (by first | (simp; done) | (simp; omega))).trans (by go_simp)
    have b5 : w1.cell? ⟨w.heap.size, 5, none⟩ = some (Value.int .i64 h.day) := (hb1.cell (p := ⟨w.heap.size, 5, none⟩) (by first | (simp; done) | (simp; omega))).trans (by go_simp)
    have r0 : w1.cell? ⟨w.heap.size + 1, 0, none⟩ = some (Value.slice none 0 0) := (hb1.cell (p := ⟨w.heap.size + 1, 0, none⟩) (by first | (simp; done) | (simp; omega))).trans (by go_simp)
    have r1 : w1.cell? ⟨w.heap.size + 1, 1, none⟩ = some (Value.slice none 0 0) := (hb1.cell (p := ⟨w.heap.size + 1, 1, none⟩) (by first | (simp; done) | (simp; omega))).trans (by go_simp)
    have r2 : w1.cell? ⟨w.heap.size + 1, 2, none⟩ = some (Value.slice none 0 0) := (hb1.cell (p := ⟨w.heap.size + 1, 2, none⟩) (by first | (simp; done) | (simp; omega))).trans (by go_simp)
    have r3 : w1.cell? ⟨w.heap.size + 1, 3, none⟩ = some (Value.slice none 0 0) := (hb1.cell (p := ⟨w.heap.size + 1, 3, none⟩) (by first | (simp; done) | (simp; omega))).trans (by go_simp)
    have r4 : w1.cell? ⟨w.heap.size + 1, 4, none⟩ = some (Value.int .i64 0) := (hb1.cell (p := ⟨w.heap.size + 1, 4, none⟩) (by first | (simp; done) | (simp; omega))).trans (by go_simp)
    have r5 : w1.cell? ⟨w.heap.size + 1, 5, none⟩ = some (Value.int .i64 0) := (hb1.cell (p := ⟨w.heap.size + 1, 5, none⟩) (by first | (simp; done) | (simp; omega))).trans (by go_simp)
    have fr0 : w1.frozen? ⟨w.heap.size + 1, 0, none⟩ = false := (hb1.frozen (p := ⟨w.heap.size + 1, 0, none⟩) (by first | (simp; done) | (simp; omega))).trans (by go_simp)
    have fr1 : w1.frozen? ⟨w.heap.size + 1, 1, none⟩ = false := (hb1.frozen (p := ⟨w.heap.size + 1, 1, none⟩) (by first | (simp; done) | (simp; omega))).trans (by go_simp)
    have fr2 : w1.frozen? ⟨w.heap.size + 1, 2, none⟩ = false := (hb1.frozen (p := ⟨w.heap.size + 1, 2, none⟩) (by first | (simp; done) | (simp; omega))).trans (by go_simp)
    have fr3 : w1.frozen? ⟨w.heap.size + 1, 3, none⟩ = false := (hb1.frozen (p := ⟨w.heap.size + 1, 3, none⟩) (by first | (simp; done) | (simp; omega))).trans (by go_simp)
    have fr4 : w1.frozen? ⟨w.heap.size + 1, 4, none⟩ = false := (hb1.frozen (p := ⟨w.heap.size + 1, 4, none⟩) (by first | (simp; done) | (simp; omega))).trans (by go_simp)
    have fr5 : w1.frozen? ⟨w.heap.size + 1, 5, none⟩ = false := (hb1.frozen (p := ⟨w.heap.size + 1, 5, none⟩) (by first | (simp; done) | (simp; omega))).trans (by go_simp)
    have MK : Hid (∀ W : World, Below ((w1.alloc (.cells #[.slice ac h.n cc, .slice am h.ms.length cm, .slice ao h.os.length co, .slice at_ h.ts.length ct, .int .i64 h.sent, .int .i64 h.day] 27))).heap.size (w1.alloc (.cells #[.slice ac h.n cc, .slice am h.ms.length cm, .slice ao h.os.length co, .slice at_ h.ts.length ct, .int .i64 h.sent, .int .i64 h.day] 27)) W → (W.cell? ⟨w.heap.size, 0, none⟩ = some (Value.slice adc h.n capc) ∧ W.cell? ⟨w.heap.size, 1, none⟩ = some (Value.slice adm h.ms.length capm) ∧ W.cell? ⟨w.heap.size, 2, none⟩ = some (Value.slice ado h.os.length capo) ∧ W.cell? ⟨w.heap.size, 3, none⟩ = some (Value.slice adt h.ts.length capt) ∧ W.cell? ⟨w.heap.size, 4, none⟩ = some (Value.int .i64 h.sent) ∧ W.cell? ⟨w.heap.size, 5, none⟩ = some (Value.int .i64 h.day)) ∧ (W.cell? ⟨w.heap.size + 1, 0, none⟩ = some (Value.slice none 0 0) ∧ W.cell? ⟨w.heap.size + 1, 1, none⟩ = some (Value.slice none 0 0) ∧ W.cell? ⟨w.heap.size + 1, 2, none⟩ = some (Value.slice none 0 0) ∧ W.cell? ⟨w.heap.size + 1, 3, none⟩ = some (Value.slice none 0 0) ∧ W.cell? ⟨w.heap.size + 1, 4, none⟩ = some (Value.int .i64 0) ∧ W.cell? ⟨w.heap.size + 1, 5, none⟩ = some (Value.int .i64 0)) ∧ (W.frozen? ⟨w.heap.size + 1, 0, none⟩ = false ∧ W.frozen? ⟨w.heap.size + 1, 1, none⟩ = false ∧ W.frozen? ⟨w.heap.size + 1, 2, none⟩ = false ∧ W.frozen? ⟨w.heap.size + 1, 3, none⟩ = false ∧ W.frozen? ⟨w.heap.size + 1, 4, none⟩ = false ∧ W.frozen? ⟨w.heap.size + 1, 5, none⟩ = false) ∧ (W.cell? ⟨w1.heap.size, 0, none⟩ = some (Value.slice ac h.n cc) ∧ W.cell? ⟨w1.heap.size, 1, none⟩ = some (Value.slice am h.ms.length cm) ∧ W.cell? ⟨w1.heap.size, 2, none⟩ = some (Value.slice ao h.os.length co) ∧ W.cell? ⟨w1.heap.size, 3, none⟩ = some (Value.slice at_ h.ts.length ct) ∧ W.cell? ⟨w1.heap.size, 4, none⟩ = some (Value.int .i64 h.sent) ∧ W.cell? ⟨w1.heap.size, 5, none⟩ = some (Value.int .i64 h.day)) ∧ (W.frozen? ⟨w1.heap.size, 0, none⟩ = false ∧ W.frozen? ⟨w1.heap.size, 1, none⟩ = false ∧ W.frozen? ⟨w1.heap.size, 2, none⟩ = false ∧ W.frozen? ⟨w1.heap.size, 3, none⟩ = false ∧ W.frozen? ⟨w1.heap.size, 4, none⟩ = false ∧ W.frozen? ⟨w1.heap.size, 5, none⟩ = false)) := fun W hb => ⟨⟨(hb.cell (p := ⟨w.heap.size, 0, none⟩) (by first | (simp; done) | (simp; omega))).trans (by go_simp), (hb.cell (p := ⟨w.heap.size, 1, none⟩) (by first | (simp; done) | (simp; omega))).trans (by go_simp), (hb.cell (p := ⟨w.heap.size, 2, none⟩) (by first | (simp; done) | (simp; omega))).trans (by go_simp), (hb.cell (p := ⟨w.heap.size, 3, none⟩) (by first | (simp; done) | (simp; omega))).trans (by go_simp), (hb.cell (p := ⟨w.heap.size, 4, none⟩) (by first | (simp; done) | (simp; omega))).trans (by go_simp), (hb.cell (p := ⟨w.heap.size, 5, none⟩) (by first | (simp; done) | (simp; omega))).trans (by go_simp)⟩, ⟨(hb.cell (p := ⟨w.heap.size + 1, 0, none⟩) (by first | (simp; done) | (simp; omega))).trans (by go_simp), (hb.cell (p := ⟨w.heap.size + 1, 1, none⟩) (by first | (simp; done) | (simp; omega))).trans (by go_simp), (hb.cell (p := ⟨w.heap.size + 1, 2, none⟩) (by first | (simp; done) | (simp; omega))).trans (by go_simp), (hb.cell (p := ⟨w.heap.size + 1, 3, none⟩) (by first | (simp; done) | (simp; omega))).trans (by go_simp), (hb.cell (p := ⟨w.heap.size + 1, 4, none⟩) (by first | (simp; done) | (simp; omega))).trans (by go_simp), (hb.cell (p := ⟨w.heap.size + 1, 5, none⟩) (by first | (simp; done) | (simp; omega))).trans (by go_simp)⟩, ⟨(hb.frozen (p := ⟨w.heap.size + 1, 0, none⟩) (by first | (simp; done) | (simp; omega))).trans (by go_simp), (hb.frozen (p := ⟨w.heap.size + 1, 1, none⟩) (by first | (simp; done) | (simp; omega))).trans (by go_simp), (hb.frozen (p := ⟨w.heap.size + 1, 2, none⟩) (by first | (simp; done) | (simp; omega))).trans (by go_simp), (hb.frozen (p := ⟨w.heap.size + 1, 3, none⟩) (by first | (simp; done) | (simp; omega))).trans (by go_simp), (hb.frozen (p := ⟨w.heap.size + 1, 4, none⟩) (by first | (simp; done) | (simp; omega))).trans (by go_simp), (hb.frozen (p := ⟨w.heap.size + 1, 5, none⟩) (by first | (simp; done) | (simp; omega))).trans (by go_simp)⟩, ⟨(hb.cell (p := ⟨w1.heap.size, 0, none⟩) (by first | (simp; done) | (simp; omega))).trans (by go_simp), (hb.cell (p := ⟨w1.heap.size, 1, none⟩) (by first | (simp; done) | (simp; omega))).trans (by go_simp), (hb.cell (p := ⟨w1.heap.size, 2, none⟩) (by first | (simp; done) | (simp; omega))).trans (by go_simp), (hb.cell (p := ⟨w1.heap.size, 3, none⟩) (by first | (simp; done) | (simp; omega))).trans (by go_simp), (hb.cell (p := ⟨w1.heap.size, 4, none⟩) (by first | (simp; done) | (simp; omega))).trans (by go_simp), (hb.cell (p := ⟨w1.heap.size, 5, none⟩) (by first | (simp; done) | (simp; omega))).trans (by go_simp)⟩, ⟨(hb.frozen (p := ⟨w1.heap.size, 0, none⟩) (by first | (simp; done) | (simp; omega))).trans (by go_simp), (hb.frozen (p := ⟨w1.heap.size, 1, none⟩) (by first | (simp; done) | (simp; omega))).trans (by go_simp), (hb.frozen (p := ⟨w1.heap.size, 2, none⟩) (by first | (simp; done) | (simp; omega))).trans (by go_simp), (hb.frozen (p := ⟨w1.heap.size, 3, none⟩) (by first | (simp; done) | (simp; omega))).trans (by go_simp), (hb.frozen (p := ⟨w1.heap.size, 4, none⟩) (by first | (simp; done) | (simp; omega))).trans (by go_simp), (hb.frozen (p := ⟨w1.heap.size, 5, none⟩) (by first | (simp; done) | (simp; omega))).trans (by go_simp)⟩⟩
    have D1 := Lib.hid (bnext (balloc (balloc (bref w) _) _) hb1)
    have OH := Lib.hid hO
    skip
    skip
    clear hb1 hO 
    go_wp2_with fail
    refine (implHouseOk _ _ _ _ h _ ((hr.below D1.out).below (balloc (bref w1) _))).mono ?_
    rintro e w2 ⟨rfl, hb2⟩
    rw [h1]
    have z2 : w1.heap.size + 1 ≤ w2.heap.size := by have q := hb2.size; simp at q; omega
    have B2 := Lib.hid hb2
    clear hb2 b0 b1 b2 b3 b4 b5 r0 r1 r2 r3 r4 r5 fr0 fr1 fr2 fr3 fr4 fr5
    obtain ⟨⟨b0, b1, b2, b3, b4, b5⟩, ⟨r0, r1, r2, r3, r4, r5⟩, ⟨fr0, fr1, fr2, fr3, fr4, fr5⟩, ⟨x0, x1, x2, x3, x4, x5⟩, ⟨fx0, fx1, fx2, fx3, fx4, fx5⟩⟩ := MK.out _ B2.out
    have OW := Lib.hid (OH.out.below (bnext (balloc (bref w1) _) B2.out))
    have DW := Lib.hid (bnext D1.out (bnext (balloc (bref w1) _) B2.out))
    go_wp2
    refine bodyPost_ret (v := .tuple #[.agg #[.slice ac h.n cc, .slice am h.ms.length cm, .slice ao h.os.length co, .slice at_ h.ts.length ct, .int .i64 h.sent, .int .i64 h.day], .slice none 0 0, .bool false]) (by simp [results, Try.results25, go_sem, r0, r1, r2, r3, r4, r5]) rfl ?_
    rw [H.out]
    have fin : ∀ WF : World, Only w.heap.size (w.heap.size + 2) w2 WF → WithO w WF (.slice ac h.n cc) (.slice am h.ms.length cm) (.slice ao h.os.length co) (.slice at_ h.ts.length ct) (.slice none 0 0) h [] := fun WF oF => by
      have sF := oF.size
      have oh := OW.out.only oF (off_r (by omega))
      have rc := oh.c
      have rm := oh.m
      have ro := oh.o
      have rt := oh.t
      exact ⟨oh.wide (by omega) (by omega), ⟨WF.heap.size, WF.heap.size, by omega, Nat.le_refl _, ⟨[], LetV.nil _ _ _⟩, out_l rc (by omega), out_l rm (by omega), out_l ro (by omega), out_l rt (by omega)⟩, Only.below DW.out oF (Nat.le_refl _)⟩
    refine ⟨_, _, _, _, _, _, _, _, _, _, rfl, fin _ ?_⟩
    repeat (first | with_reducible exact Only.refl _ _ _ | with_reducible refine Only.alloc ?_ _ | with_reducible refine Only.set ?_ (by simp only []; omega) (by simp only []; omega) _)
  | true =>
    by_cases hA : wA h bd sn = []
    · have H := Lib.hid (withdraw_2 hA)
      go_enter Try.func25, Try.ntmps25
      go_wp2_with fail
      refine (copyHouse_any _ _ _ _ h _ ((hr.alloc _).alloc _) hn hB).mono ?_
      rintro e w1 ⟨ac, cc, am, cm, ao, co, at_, ct, rfl, hO, hb1⟩
      have z1 : w.heap.size + 2 ≤ w1.heap.size := by have q := hb1.size; simp at q; omega
      have y0 : w.heap.size < w1.heap.size := by omega
      have y1 : w.heap.size + 1 < w1.heap.size := by omega
      replace hO := hO.wide (lo' := w.heap.size + 2) (by simp) (Nat.le_refl _)
      have b0 : w1.cell? ⟨w.heap.size, 0, none⟩ = some (Value.slice adc h.n capc) := (hb1.cell (p := ⟨w.heap.size, 0, none⟩) (by first | (simp; done) | (simp; omega))).trans (by go_simp)
      have b1 : w1.cell? ⟨w.heap.size, 1, none⟩ = some (Value.slice adm h.ms.length capm) := (hb1.cell (p := ⟨w.heap.size, 1, none⟩) (by first | (simp; done) | (simp; omega))).trans (by go_simp)
      have b2 : w1.cell? ⟨w.heap.size, 2, none⟩ = some (Value.slice ado h.os.length capo) := (hb1.cell (p := ⟨w.heap.size, 2, none⟩) (by first | (simp; done) | (simp; omega))).trans (by go_simp)
      have b3 : w1.cell? ⟨w.heap.size, 3, none⟩ = some (Value.slice adt h.ts.length capt) := (hb1.cell (p := ⟨w.heap.size, 3, none⟩) (by first | (simp; done) | (simp; omega))).trans (by go_simp)
      have b4 : w1.cell? ⟨w.heap.size, 4, none⟩ = some (Value.int .i64 h.sent) := (hb1.cell (p := ⟨w.heap.size, 4, none⟩) (by first | (simp; done) | (simp; omega))).trans (by go_simp)
      have b5 : w1.cell? ⟨w.heap.size, 5, none⟩ = some (Value.int .i64 h.day) := (hb1.cell (p := ⟨w.heap.size, 5, none⟩) (by first | (simp; done) | (simp; omega))).trans (by go_simp)
      have r0 : w1.cell? ⟨w.heap.size + 1, 0, none⟩ = some (Value.slice none 0 0) := (hb1.cell (p := ⟨w.heap.size + 1, 0, none⟩) (by first | (simp; done) | (simp; omega))).trans (by go_simp)
      have r1 : w1.cell? ⟨w.heap.size + 1, 1, none⟩ = some (Value.slice none 0 0) := (hb1.cell (p := ⟨w.heap.size + 1, 1, none⟩) (by first | (simp; done) | (simp; omega))).trans (by go_simp)
      have r2 : w1.cell? ⟨w.heap.size + 1, 2, none⟩ = some (Value.slice none 0 0) := (hb1.cell (p := ⟨w.heap.size + 1, 2, none⟩) (by first | (simp; done) | (simp; omega))).trans (by go_simp)
      have r3 : w1.cell? ⟨w.heap.size + 1, 3, none⟩ = some (Value.slice none 0 0) := (hb1.cell (p := ⟨w.heap.size + 1, 3, none⟩) (by first | (simp; done) | (simp; omega))).trans (by go_simp)
      have r4 : w1.cell? ⟨w.heap.size + 1, 4, none⟩ = some (Value.int .i64 0) := (hb1.cell (p := ⟨w.heap.size + 1, 4, none⟩) (by first | (simp; done) | (simp; omega))).trans (by go_simp)
      have r5 : w1.cell? ⟨w.heap.size + 1, 5, none⟩ = some (Value.int .i64 0) := (hb1.cell (p := ⟨w.heap.size + 1, 5, none⟩) (by first | (simp; done) | (simp; omega))).trans (by go_simp)
      have fr0 : w1.frozen? ⟨w.heap.size + 1, 0, none⟩ = false := (hb1.frozen (p := ⟨w.heap.size + 1, 0, none⟩) (by first | (simp; done) | (simp; omega))).trans (by go_simp)
      have fr1 : w1.frozen? ⟨w.heap.size + 1, 1, none⟩ = false := (hb1.frozen (p := ⟨w.heap.size + 1, 1, none⟩) (by first | (simp; done) | (simp; omega))).trans (by go_simp)
      have fr2 : w1.frozen? ⟨w.heap.size + 1, 2, none⟩ = false := (hb1.frozen (p := ⟨w.heap.size + 1, 2, none⟩) (by first | (simp; done) | (simp; omega))).trans (by go_simp)
      have fr3 : w1.frozen? ⟨w.heap.size + 1, 3, none⟩ = false := (hb1.frozen (p := ⟨w.heap.size + 1, 3, none⟩) (by first | (simp; done) | (simp; omega))).trans (by go_simp)
      have fr4 : w1.frozen? ⟨w.heap.size + 1, 4, none⟩ = false := (hb1.frozen (p := ⟨w.heap.size + 1, 4, none⟩) (by first | (simp; done) | (simp; omega))).trans (by go_simp)
      have fr5 : w1.frozen? ⟨w.heap.size + 1, 5, none⟩ = false := (hb1.frozen (p := ⟨w.heap.size + 1, 5, none⟩) (by first | (simp; done) | (simp; omega))).trans (by go_simp)
      have MK : Hid (∀ W : World, Below ((w1.alloc (.cells #[.slice ac h.n cc, .slice am h.ms.length cm, .slice ao h.os.length co, .slice at_ h.ts.length ct, .int .i64 h.sent, .int .i64 h.day] 27))).heap.size (w1.alloc (.cells #[.slice ac h.n cc, .slice am h.ms.length cm, .slice ao h.os.length co, .slice at_ h.ts.length ct, .int .i64 h.sent, .int .i64 h.day] 27)) W → (W.cell? ⟨w.heap.size, 0, none⟩ = some (Value.slice adc h.n capc) ∧ W.cell? ⟨w.heap.size, 1, none⟩ = some (Value.slice adm h.ms.length capm) ∧ W.cell? ⟨w.heap.size, 2, none⟩ = some (Value.slice ado h.os.length capo) ∧ W.cell? ⟨w.heap.size, 3, none⟩ = some (Value.slice adt h.ts.length capt) ∧ W.cell? ⟨w.heap.size, 4, none⟩ = some (Value.int .i64 h.sent) ∧ W.cell? ⟨w.heap.size, 5, none⟩ = some (Value.int .i64 h.day)) ∧ (W.cell? ⟨w.heap.size + 1, 0, none⟩ = some (Value.slice none 0 0) ∧ W.cell? ⟨w.heap.size + 1, 1, none⟩ = some (Value.slice none 0 0) ∧ W.cell? ⟨w.heap.size + 1, 2, none⟩ = some (Value.slice none 0 0) ∧ W.cell? ⟨w.heap.size + 1, 3, none⟩ = some (Value.slice none 0 0) ∧ W.cell? ⟨w.heap.size + 1, 4, none⟩ = some (Value.int .i64 0) ∧ W.cell? ⟨w.heap.size + 1, 5, none⟩ = some (Value.int .i64 0)) ∧ (W.frozen? ⟨w.heap.size + 1, 0, none⟩ = false ∧ W.frozen? ⟨w.heap.size + 1, 1, none⟩ = false ∧ W.frozen? ⟨w.heap.size + 1, 2, none⟩ = false ∧ W.frozen? ⟨w.heap.size + 1, 3, none⟩ = false ∧ W.frozen? ⟨w.heap.size + 1, 4, none⟩ = false ∧ W.frozen? ⟨w.heap.size + 1, 5, none⟩ = false) ∧ (W.cell? ⟨w1.heap.size, 0, none⟩ = some (Value.slice ac h.n cc) ∧ W.cell? ⟨w1.heap.size, 1, none⟩ = some (Value.slice am h.ms.length cm) ∧ W.cell? ⟨w1.heap.size, 2, none⟩ = some (Value.slice ao h.os.length co) ∧ W.cell? ⟨w1.heap.size, 3, none⟩ = some (Value.slice at_ h.ts.length ct) ∧ W.cell? ⟨w1.heap.size, 4, none⟩ = some (Value.int .i64 h.sent) ∧ W.cell? ⟨w1.heap.size, 5, none⟩ = some (Value.int .i64 h.day)) ∧ (W.frozen? ⟨w1.heap.size, 0, none⟩ = false ∧ W.frozen? ⟨w1.heap.size, 1, none⟩ = false ∧ W.frozen? ⟨w1.heap.size, 2, none⟩ = false ∧ W.frozen? ⟨w1.heap.size, 3, none⟩ = false ∧ W.frozen? ⟨w1.heap.size, 4, none⟩ = false ∧ W.frozen? ⟨w1.heap.size, 5, none⟩ = false)) := fun W hb => ⟨⟨(hb.cell (p := ⟨w.heap.size, 0, none⟩) (by first | (simp; done) | (simp; omega))).trans (by go_simp), (hb.cell (p := ⟨w.heap.size, 1, none⟩) (by first | (simp; done) | (simp; omega))).trans (by go_simp), (hb.cell (p := ⟨w.heap.size, 2, none⟩) (by first | (simp; done) | (simp; omega))).trans (by go_simp), (hb.cell (p := ⟨w.heap.size, 3, none⟩) (by first | (simp; done) | (simp; omega))).trans (by go_simp), (hb.cell (p := ⟨w.heap.size, 4, none⟩) (by first | (simp; done) | (simp; omega))).trans (by go_simp), (hb.cell (p := ⟨w.heap.size, 5, none⟩) (by first | (simp; done) | (simp; omega))).trans (by go_simp)⟩, ⟨(hb.cell (p := ⟨w.heap.size + 1, 0, none⟩) (by first | (simp; done) | (simp; omega))).trans (by go_simp), (hb.cell (p := ⟨w.heap.size + 1, 1, none⟩) (by first | (simp; done) | (simp; omega))).trans (by go_simp), (hb.cell (p := ⟨w.heap.size + 1, 2, none⟩) (by first | (simp; done) | (simp; omega))).trans (by go_simp), (hb.cell (p := ⟨w.heap.size + 1, 3, none⟩) (by first | (simp; done) | (simp; omega))).trans (by go_simp), (hb.cell (p := ⟨w.heap.size + 1, 4, none⟩) (by first | (simp; done) | (simp; omega))).trans (by go_simp), (hb.cell (p := ⟨w.heap.size + 1, 5, none⟩) (by first | (simp; done) | (simp; omega))).trans (by go_simp)⟩, ⟨(hb.frozen (p := ⟨w.heap.size + 1, 0, none⟩) (by first | (simp; done) | (simp; omega))).trans (by go_simp), (hb.frozen (p := ⟨w.heap.size + 1, 1, none⟩) (by first | (simp; done) | (simp; omega))).trans (by go_simp), (hb.frozen (p := ⟨w.heap.size + 1, 2, none⟩) (by first | (simp; done) | (simp; omega))).trans (by go_simp), (hb.frozen (p := ⟨w.heap.size + 1, 3, none⟩) (by first | (simp; done) | (simp; omega))).trans (by go_simp), (hb.frozen (p := ⟨w.heap.size + 1, 4, none⟩) (by first | (simp; done) | (simp; omega))).trans (by go_simp), (hb.frozen (p := ⟨w.heap.size + 1, 5, none⟩) (by first | (simp; done) | (simp; omega))).trans (by go_simp)⟩, ⟨(hb.cell (p := ⟨w1.heap.size, 0, none⟩) (by first | (simp; done) | (simp; omega))).trans (by go_simp), (hb.cell (p := ⟨w1.heap.size, 1, none⟩) (by first | (simp; done) | (simp; omega))).trans (by go_simp), (hb.cell (p := ⟨w1.heap.size, 2, none⟩) (by first | (simp; done) | (simp; omega))).trans (by go_simp), (hb.cell (p := ⟨w1.heap.size, 3, none⟩) (by first | (simp; done) | (simp; omega))).trans (by go_simp), (hb.cell (p := ⟨w1.heap.size, 4, none⟩) (by first | (simp; done) | (simp; omega))).trans (by go_simp), (hb.cell (p := ⟨w1.heap.size, 5, none⟩) (by first | (simp; done) | (simp; omega))).trans (by go_simp)⟩, ⟨(hb.frozen (p := ⟨w1.heap.size, 0, none⟩) (by first | (simp; done) | (simp; omega))).trans (by go_simp), (hb.frozen (p := ⟨w1.heap.size, 1, none⟩) (by first | (simp; done) | (simp; omega))).trans (by go_simp), (hb.frozen (p := ⟨w1.heap.size, 2, none⟩) (by first | (simp; done) | (simp; omega))).trans (by go_simp), (hb.frozen (p := ⟨w1.heap.size, 3, none⟩) (by first | (simp; done) | (simp; omega))).trans (by go_simp), (hb.frozen (p := ⟨w1.heap.size, 4, none⟩) (by first | (simp; done) | (simp; omega))).trans (by go_simp), (hb.frozen (p := ⟨w1.heap.size, 5, none⟩) (by first | (simp; done) | (simp; omega))).trans (by go_simp)⟩⟩
      have D1 := Lib.hid (bnext (balloc (balloc (bref w) _) _) hb1)
      have OH := Lib.hid hO
      skip
      skip
      clear hb1 hO 
      go_wp2_with fail
      refine (implHouseOk _ _ _ _ h _ ((hr.below D1.out).below (balloc (bref w1) _))).mono ?_
      rintro e w2 ⟨rfl, hb2⟩
      rw [h1]
      have z2 : w1.heap.size + 1 ≤ w2.heap.size := by have q := hb2.size; simp at q; omega
      have B2 := Lib.hid hb2
      clear hb2 b0 b1 b2 b3 b4 b5 r0 r1 r2 r3 r4 r5 fr0 fr1 fr2 fr3 fr4 fr5
      obtain ⟨b0, b1, b2, b3, b4, b5⟩ := (MK.out _ B2.out).1
      have HR := Lib.hid (hr.below D1.out)
      have R2 := Lib.hid (HR.out.below (bnext (balloc (bref w1) _) B2.out))
      go_wp2_with fail
      refine (implAffectedBy _ h.n h.xs _ h.ms bd sn _ R2.out.c R2.out.m).mono ?_
      rintro e w3 ⟨va, rfl, hoa, hna, hb3⟩
      replace hoa : w3.ownsRow w2.heap.size 3 1 va (wA h bd sn).length ((wA h bd sn).map (Value.int .i64)) := hoa
      have z3 : w2.heap.size ≤ w3.heap.size := hb3.size
      have B3 := Lib.hid (bnext B2.out hb3)
      have R3 := Lib.hid (HR.out.below (bnext (balloc (bref w1) _) B3.out))
      clear b0 b1 b2 b3 b4 b5 hb3
      obtain rfl : va = .slice none 0 0 := hna.2 hA
      clear hna hoa hA
      obtain ⟨⟨b0, b1, b2, b3, b4, b5⟩, ⟨r0, r1, r2, r3, r4, r5⟩, ⟨fr0, fr1, fr2, fr3, fr4, fr5⟩, ⟨x0, x1, x2, x3, x4, x5⟩, ⟨fx0, fx1, fx2, fx3, fx4, fx5⟩⟩ := MK.out _ B3.out
      have OW := Lib.hid (OH.out.below (bnext (balloc (bref w1) _) B3.out))
      have DW := Lib.hid (bnext D1.out (bnext (balloc (bref w1) _) B3.out))
      go_wp2
      refine bodyPost_ret (v := .tuple #[.agg #[.slice ac h.n cc, .slice am h.ms.length cm, .slice ao h.os.length co, .slice at_ h.ts.length ct, .int .i64 h.sent, .int .i64 h.day], .slice none 0 0, .bool false]) (by simp [results, Try.results25, go_sem, r0, r1, r2, r3, r4, r5]) rfl ?_
      rw [H.out]
      have fin : ∀ WF : World, Only w.heap.size (w.heap.size + 2) w3 WF → WithO w WF (.slice ac h.n cc) (.slice am h.ms.length cm) (.slice ao h.os.length co) (.slice at_ h.ts.length ct) (.slice none 0 0) h [] := fun WF oF => by
        have sF := oF.size
        have oh := OW.out.only oF (off_r (by omega))
        have rc := oh.c
        have rm := oh.m
        have ro := oh.o
        have rt := oh.t
        exact ⟨oh.wide (by omega) (by omega), ⟨WF.heap.size, WF.heap.size, by omega, Nat.le_refl _, ⟨[], LetV.nil _ _ _⟩, out_l rc (by omega), out_l rm (by omega), out_l ro (by omega), out_l rt (by omega)⟩, Only.below DW.out oF (Nat.le_refl _)⟩
      refine ⟨_, _, _, _, _, _, _, _, _, _, rfl, fin _ ?_⟩
      repeat (first | with_reducible exact Only.refl _ _ _ | with_reducible refine Only.alloc ?_ _ | with_reducible refine Only.set ?_ (by simp only []; omega) (by simp only []; omega) _)
    · by_cases hS : h.sent + ((wL h bd sn).length : Int) ≤ 1000
      · have H := Lib.hid (withdraw_t h1 hA hS)
        go_enter Try.func25, Try.ntmps25
        go_wp2_with fail
        refine (copyHouse_any _ _ _ _ h _ ((hr.alloc _).alloc _) hn hB).mono ?_
        rintro e w1 ⟨ac, cc, am, cm, ao, co, at_, ct, rfl, hO, hb1⟩
        have z1 : w.heap.size + 2 ≤ w1.heap.size := by have q := hb1.size; simp at q; omega
        have y0 : w.heap.size < w1.heap.size := by omega
        have y1 : w.heap.size + 1 < w1.heap.size := by omega
        replace hO := hO.wide (lo' := w.heap.size + 2) (by simp) (Nat.le_refl _)
        have b0 : w1.cell? ⟨w.heap.size, 0, none⟩ = some (Value.slice adc h.n capc) := (hb1.cell (p := ⟨w.heap.size, 0, none⟩) (by first | (simp; done) | (simp; omega))).trans (by go_simp)
        have b1 : w1.cell? ⟨w.heap.size, 1, none⟩ = some (Value.slice adm h.ms.length capm) := (hb1.cell (p := ⟨w.heap.size, 1, none⟩) (by first | (simp; done) | (simp; omega))).trans (by go_simp)
        have b2 : w1.cell? ⟨w.heap.size, 2, none⟩ = some (Value.slice ado h.os.length capo) := (hb1.cell (p := ⟨w.heap.size, 2, none⟩) (by first | (simp; done) | (simp; omega))).trans (by go_simp)
        have b3 : w1.cell? ⟨w.heap.size, 3, none⟩ = some (Value.slice adt h.ts.length capt) := (hb1.cell (p := ⟨w.heap.size, 3, none⟩) (by first | (simp; done) | (simp; omega))).trans (by go_simp)
        have b4 : w1.cell? ⟨w.heap.size, 4, none⟩ = some (Value.int .i64 h.sent) := (hb1.cell (p := ⟨w.heap.size, 4, none⟩) (by first | (simp; done) | (simp; omega))).trans (by go_simp)
        have b5 : w1.cell? ⟨w.heap.size, 5, none⟩ = some (Value.int .i64 h.day) := (hb1.cell (p := ⟨w.heap.size, 5, none⟩) (by first | (simp; done) | (simp; omega))).trans (by go_simp)
        have r0 : w1.cell? ⟨w.heap.size + 1, 0, none⟩ = some (Value.slice none 0 0) := (hb1.cell (p := ⟨w.heap.size + 1, 0, none⟩) (by first | (simp; done) | (simp; omega))).trans (by go_simp)
        have r1 : w1.cell? ⟨w.heap.size + 1, 1, none⟩ = some (Value.slice none 0 0) := (hb1.cell (p := ⟨w.heap.size + 1, 1, none⟩) (by first | (simp; done) | (simp; omega))).trans (by go_simp)
        have r2 : w1.cell? ⟨w.heap.size + 1, 2, none⟩ = some (Value.slice none 0 0) := (hb1.cell (p := ⟨w.heap.size + 1, 2, none⟩) (by first | (simp; done) | (simp; omega))).trans (by go_simp)
        have r3 : w1.cell? ⟨w.heap.size + 1, 3, none⟩ = some (Value.slice none 0 0) := (hb1.cell (p := ⟨w.heap.size + 1, 3, none⟩) (by first | (simp; done) | (simp; omega))).trans (by go_simp)
        have r4 : w1.cell? ⟨w.heap.size + 1, 4, none⟩ = some (Value.int .i64 0) := (hb1.cell (p := ⟨w.heap.size + 1, 4, none⟩) (by first | (simp; done) | (simp; omega))).trans (by go_simp)
        have r5 : w1.cell? ⟨w.heap.size + 1, 5, none⟩ = some (Value.int .i64 0) := (hb1.cell (p := ⟨w.heap.size + 1, 5, none⟩) (by first | (simp; done) | (simp; omega))).trans (by go_simp)
        have fr0 : w1.frozen? ⟨w.heap.size + 1, 0, none⟩ = false := (hb1.frozen (p := ⟨w.heap.size + 1, 0, none⟩) (by first | (simp; done) | (simp; omega))).trans (by go_simp)
        have fr1 : w1.frozen? ⟨w.heap.size + 1, 1, none⟩ = false := (hb1.frozen (p := ⟨w.heap.size + 1, 1, none⟩) (by first | (simp; done) | (simp; omega))).trans (by go_simp)
        have fr2 : w1.frozen? ⟨w.heap.size + 1, 2, none⟩ = false := (hb1.frozen (p := ⟨w.heap.size + 1, 2, none⟩) (by first | (simp; done) | (simp; omega))).trans (by go_simp)
        have fr3 : w1.frozen? ⟨w.heap.size + 1, 3, none⟩ = false := (hb1.frozen (p := ⟨w.heap.size + 1, 3, none⟩) (by first | (simp; done) | (simp; omega))).trans (by go_simp)
        have fr4 : w1.frozen? ⟨w.heap.size + 1, 4, none⟩ = false := (hb1.frozen (p := ⟨w.heap.size + 1, 4, none⟩) (by first | (simp; done) | (simp; omega))).trans (by go_simp)
        have fr5 : w1.frozen? ⟨w.heap.size + 1, 5, none⟩ = false := (hb1.frozen (p := ⟨w.heap.size + 1, 5, none⟩) (by first | (simp; done) | (simp; omega))).trans (by go_simp)
        have MK : Hid (∀ W : World, Below ((w1.alloc (.cells #[.slice ac h.n cc, .slice am h.ms.length cm, .slice ao h.os.length co, .slice at_ h.ts.length ct, .int .i64 h.sent, .int .i64 h.day] 27))).heap.size (w1.alloc (.cells #[.slice ac h.n cc, .slice am h.ms.length cm, .slice ao h.os.length co, .slice at_ h.ts.length ct, .int .i64 h.sent, .int .i64 h.day] 27)) W → (W.cell? ⟨w.heap.size, 0, none⟩ = some (Value.slice adc h.n capc) ∧ W.cell? ⟨w.heap.size, 1, none⟩ = some (Value.slice adm h.ms.length capm) ∧ W.cell? ⟨w.heap.size, 2, none⟩ = some (Value.slice ado h.os.length capo) ∧ W.cell? ⟨w.heap.size, 3, none⟩ = some (Value.slice adt h.ts.length capt) ∧ W.cell? ⟨w.heap.size, 4, none⟩ = some (Value.int .i64 h.sent) ∧ W.cell? ⟨w.heap.size, 5, none⟩ = some (Value.int .i64 h.day)) ∧ (W.cell? ⟨w.heap.size + 1, 0, none⟩ = some (Value.slice none 0 0) ∧ W.cell? ⟨w.heap.size + 1, 1, none⟩ = some (Value.slice none 0 0) ∧ W.cell? ⟨w.heap.size + 1, 2, none⟩ = some (Value.slice none 0 0) ∧ W.cell? ⟨w.heap.size + 1, 3, none⟩ = some (Value.slice none 0 0) ∧ W.cell? ⟨w.heap.size + 1, 4, none⟩ = some (Value.int .i64 0) ∧ W.cell? ⟨w.heap.size + 1, 5, none⟩ = some (Value.int .i64 0)) ∧ (W.frozen? ⟨w.heap.size + 1, 0, none⟩ = false ∧ W.frozen? ⟨w.heap.size + 1, 1, none⟩ = false ∧ W.frozen? ⟨w.heap.size + 1, 2, none⟩ = false ∧ W.frozen? ⟨w.heap.size + 1, 3, none⟩ = false ∧ W.frozen? ⟨w.heap.size + 1, 4, none⟩ = false ∧ W.frozen? ⟨w.heap.size + 1, 5, none⟩ = false) ∧ (W.cell? ⟨w1.heap.size, 0, none⟩ = some (Value.slice ac h.n cc) ∧ W.cell? ⟨w1.heap.size, 1, none⟩ = some (Value.slice am h.ms.length cm) ∧ W.cell? ⟨w1.heap.size, 2, none⟩ = some (Value.slice ao h.os.length co) ∧ W.cell? ⟨w1.heap.size, 3, none⟩ = some (Value.slice at_ h.ts.length ct) ∧ W.cell? ⟨w1.heap.size, 4, none⟩ = some (Value.int .i64 h.sent) ∧ W.cell? ⟨w1.heap.size, 5, none⟩ = some (Value.int .i64 h.day)) ∧ (W.frozen? ⟨w1.heap.size, 0, none⟩ = false ∧ W.frozen? ⟨w1.heap.size, 1, none⟩ = false ∧ W.frozen? ⟨w1.heap.size, 2, none⟩ = false ∧ W.frozen? ⟨w1.heap.size, 3, none⟩ = false ∧ W.frozen? ⟨w1.heap.size, 4, none⟩ = false ∧ W.frozen? ⟨w1.heap.size, 5, none⟩ = false)) := fun W hb => ⟨⟨(hb.cell (p := ⟨w.heap.size, 0, none⟩) (by first | (simp; done) | (simp; omega))).trans (by go_simp), (hb.cell (p := ⟨w.heap.size, 1, none⟩) (by first | (simp; done) | (simp; omega))).trans (by go_simp), (hb.cell (p := ⟨w.heap.size, 2, none⟩) (by first | (simp; done) | (simp; omega))).trans (by go_simp), (hb.cell (p := ⟨w.heap.size, 3, none⟩) (by first | (simp; done) | (simp; omega))).trans (by go_simp), (hb.cell (p := ⟨w.heap.size, 4, none⟩) (by first | (simp; done) | (simp; omega))).trans (by go_simp), (hb.cell (p := ⟨w.heap.size, 5, none⟩) (by first | (simp; done) | (simp; omega))).trans (by go_simp)⟩, ⟨(hb.cell (p := ⟨w.heap.size + 1, 0, none⟩) (by first | (simp; done) | (simp; omega))).trans (by go_simp), (hb.cell (p := ⟨w.heap.size + 1, 1, none⟩) (by first | (simp; done) | (simp; omega))).trans (by go_simp), (hb.cell (p := ⟨w.heap.size + 1, 2, none⟩) (by first | (simp; done) | (simp; omega))).trans (by go_simp), (hb.cell (p := ⟨w.heap.size + 1, 3, none⟩) (by first | (simp; done) | (simp; omega))).trans (by go_simp), (hb.cell (p := ⟨w.heap.size + 1, 4, none⟩) (by first | (simp; done) | (simp; omega))).trans (by go_simp), (hb.cell (p := ⟨w.heap.size + 1, 5, none⟩) (by first | (simp; done) | (simp; omega))).trans (by go_simp)⟩, ⟨(hb.frozen (p := ⟨w.heap.size + 1, 0, none⟩) (by first | (simp; done) | (simp; omega))).trans (by go_simp), (hb.frozen (p := ⟨w.heap.size + 1, 1, none⟩) (by first | (simp; done) | (simp; omega))).trans (by go_simp), (hb.frozen (p := ⟨w.heap.size + 1, 2, none⟩) (by first | (simp; done) | (simp; omega))).trans (by go_simp), (hb.frozen (p := ⟨w.heap.size + 1, 3, none⟩) (by first | (simp; done) | (simp; omega))).trans (by go_simp), (hb.frozen (p := ⟨w.heap.size + 1, 4, none⟩) (by first | (simp; done) | (simp; omega))).trans (by go_simp), (hb.frozen (p := ⟨w.heap.size + 1, 5, none⟩) (by first | (simp; done) | (simp; omega))).trans (by go_simp)⟩, ⟨(hb.cell (p := ⟨w1.heap.size, 0, none⟩) (by first | (simp; done) | (simp; omega))).trans (by go_simp), (hb.cell (p := ⟨w1.heap.size, 1, none⟩) (by first | (simp; done) | (simp; omega))).trans (by go_simp), (hb.cell (p := ⟨w1.heap.size, 2, none⟩) (by first | (simp; done) | (simp; omega))).trans (by go_simp), (hb.cell (p := ⟨w1.heap.size, 3, none⟩) (by first | (simp; done) | (simp; omega))).trans (by go_simp), (hb.cell (p := ⟨w1.heap.size, 4, none⟩) (by first | (simp; done) | (simp; omega))).trans (by go_simp), (hb.cell (p := ⟨w1.heap.size, 5, none⟩) (by first | (simp; done) | (simp; omega))).trans (by go_simp)⟩, ⟨(hb.frozen (p := ⟨w1.heap.size, 0, none⟩) (by first | (simp; done) | (simp; omega))).trans (by go_simp), (hb.frozen (p := ⟨w1.heap.size, 1, none⟩) (by first | (simp; done) | (simp; omega))).trans (by go_simp), (hb.frozen (p := ⟨w1.heap.size, 2, none⟩) (by first | (simp; done) | (simp; omega))).trans (by go_simp), (hb.frozen (p := ⟨w1.heap.size, 3, none⟩) (by first | (simp; done) | (simp; omega))).trans (by go_simp), (hb.frozen (p := ⟨w1.heap.size, 4, none⟩) (by first | (simp; done) | (simp; omega))).trans (by go_simp), (hb.frozen (p := ⟨w1.heap.size, 5, none⟩) (by first | (simp; done) | (simp; omega))).trans (by go_simp)⟩⟩
        have D1 := Lib.hid (bnext (balloc (balloc (bref w) _) _) hb1)
        have OH := Lib.hid hO
        skip
        skip
        clear hb1 hO 
        go_wp2_with fail
        refine (implHouseOk _ _ _ _ h _ ((hr.below D1.out).below (balloc (bref w1) _))).mono ?_
        rintro e w2 ⟨rfl, hb2⟩
        rw [h1]
        have z2 : w1.heap.size + 1 ≤ w2.heap.size := by have q := hb2.size; simp at q; omega
        have B2 := Lib.hid hb2
        clear hb2 b0 b1 b2 b3 b4 b5 r0 r1 r2 r3 r4 r5 fr0 fr1 fr2 fr3 fr4 fr5
        obtain ⟨b0, b1, b2, b3, b4, b5⟩ := (MK.out _ B2.out).1
        have HR := Lib.hid (hr.below D1.out)
        have R2 := Lib.hid (HR.out.below (bnext (balloc (bref w1) _) B2.out))
        go_wp2_with fail
        refine (implAffectedBy _ h.n h.xs _ h.ms bd sn _ R2.out.c R2.out.m).mono ?_
        rintro e w3 ⟨va, rfl, hoa, hna, hb3⟩
        replace hoa : w3.ownsRow w2.heap.size 3 1 va (wA h bd sn).length ((wA h bd sn).map (Value.int .i64)) := hoa
        have z3 : w2.heap.size ≤ w3.heap.size := hb3.size
        have B3 := Lib.hid (bnext B2.out hb3)
        have R3 := Lib.hid (HR.out.below (bnext (balloc (bref w1) _) B3.out))
        clear b0 b1 b2 b3 b4 b5 hb3
        obtain ⟨ga, ca, rfl⟩ : ∃ g c, va = .slice (some ⟨g, 0, none⟩) (wA h bd sn).length c := by
          rcases hoa.2 with ⟨q, z⟩ | ⟨g, cp, _, q, _⟩
          · exact absurd (List.eq_nil_of_length_eq_zero z) hA
          · exact ⟨g, cp, q⟩
        have la := wA_len h bd sn
        have IA := Lib.hid (own_ints hoa (by omega))
        have NA := nilOk_own hoa
        clear hoa hna
        obtain ⟨b0, b1, b2, b3, b4, b5⟩ := (MK.out _ B3.out).1
        go_wp2_with fail
        refine (implNewOnesV _ h.ts _ (wA h bd sn) _ R3.out.t IA.out NA (by omega)).mono ?_
        rintro e w4 ⟨vf, rfl, hof, hb4⟩
        obtain ⟨af, cf, rfl⟩ := own_form hof
        replace hof : w4.ownsRow w3.heap.size 3 1 (.slice af (wF h bd sn).length cf) (wF h bd sn).length ((wF h bd sn).map (Value.int .i64)) := hof
        have z4 : w3.heap.size ≤ w4.heap.size := hb4.size
        have B4 := Lib.hid (bnext B3.out hb4)
        have R4 := Lib.hid (HR.out.below (bnext (balloc (bref w1) _) B4.out))
        have lf := wF_len h bd sn
        have IF := Lib.hid (own_ints hof (by omega))
        have NF := nilOk_own hof
        clear b0 b1 b2 b3 b4 b5 hb4 hof NA
        obtain ⟨b0, b1, b2, b3, b4, b5⟩ := (MK.out _ B4.out).1
        go_wp2_with fail
        refine (implLettersFor _ h.n h.xs _ h.os _ (wF h bd sn) _ R4.out.c R4.out.o IF.out NF (by omega)).mono ?_
        rintro e w5 ⟨al, cl, rfl, hol, hb5⟩
        have LB := (wL_b h bd sn).n
        replace hol : LetO w4.heap.size w5.heap.size w5 (.slice al (wL h bd sn).length cl) (wL h bd sn) := hol
        have HL := Lib.hid hol
        have IF5 := Lib.hid (IF.out.below hb5)
        have z5 : w4.heap.size ≤ w5.heap.size := hb5.size
        have B5 := Lib.hid (bnext B4.out hb5)
        have R5 := Lib.hid (HR.out.below (bnext (balloc (bref w1) _) B5.out))
        have ts := (houseOk_facts h1).sent
        obtain ⟨ts0, ts1⟩ := ts
        have hll : lettersFor h.n h.xs h.os (wF h bd sn) = wL h bd sn := rfl
        have haa : affected h.n h.xs h.ms bd sn = wA h bd sn := rfl
        simp only [hll]
        clear b0 b1 b2 b3 b4 b5 hb5 hol hll haa
        obtain ⟨⟨b0, b1, b2, b3, b4, b5⟩, ⟨r0, r1, r2, r3, r4, r5⟩, ⟨fr0, fr1, fr2, fr3, fr4, fr5⟩, ⟨x0, x1, x2, x3, x4, x5⟩, ⟨fx0, fx1, fx2, fx3, fx4, fx5⟩⟩ := MK.out _ B5.out
        have OW := Lib.hid (OH.out.below (bnext (balloc (bref w1) _) B5.out))
        have hts := hB.ts
        go_wp2_with (at_builtin; refine wpList_append_src _ rfl _ _ 25 rfl (w.heap.size + 2) 3 j0 (.int .i64 0) 1 8 Try.underlying25 hj jz0 jz1 jz2 rfl (by decide) _ _ _ rfl OW.out.t.own _ (wF h bd sn).length (wF h bd sn) rfl (ints_recs IF5.out) NF (by omega) (by decide) (by omega) ?_; intro v6 w6 hown hgrow hat)
        have O56 : Only (w.heap.size + 2) w1.heap.size w5 w6 := Only.of_grown hgrow OW.out.t.at
        have h6 : w6.ownsRow (w.heap.size + 2) 3 1 v6 (h.ts ++ wF h bd sn).length ((h.ts ++ wF h bd sn).map (Value.int .i64)) := by rw [List.map_append, List.length_append]; exact hown
        have z6 : w5.heap.size ≤ w6.heap.size := O56.size
        have C6 := Lib.hid (own_kept OW.out.c.own hgrow OW.out.sct.symm)
        have M6 := Lib.hid (own_kept OW.out.m.own hgrow OW.out.smt.symm)
        have Q6 := Lib.hid (own_kept OW.out.o.own hgrow OW.out.sot.symm)
        have L6 := Lib.hid (HL.out.only O56 (off_r (by omega)))
        have D6 := Lib.hid (Only.below (bnext D1.out (bnext (balloc (bref w1) _) B5.out)) O56 (by omega))
        refine (different_any _ (h.ts ++ wF h bd sn) _ (own_ints h6 (by rw [List.length_append]; omega)) (nilOk_own h6) (by rw [List.length_append]; have := (houseOk_b h1).ts; omega)).mono ?_

        rintro e w7 ⟨a7, c7, rfl, ho7, hb7⟩
        have z7 : w6.heap.size ≤ w7.heap.size := hb7.size
        replace b0 := (cell_two O56 hb7 (o := 0) (p := w.heap.size) (by omega) (by omega)).trans b0
        replace b1 := (cell_two O56 hb7 (o := 1) (p := w.heap.size) (by omega) (by omega)).trans b1
        replace b2 := (cell_two O56 hb7 (o := 2) (p := w.heap.size) (by omega) (by omega)).trans b2
        replace b3 := (cell_two O56 hb7 (o := 3) (p := w.heap.size) (by omega) (by omega)).trans b3
        replace b4 := (cell_two O56 hb7 (o := 4) (p := w.heap.size) (by omega) (by omega)).trans b4
        replace b5 := (cell_two O56 hb7 (o := 5) (p := w.heap.size) (by omega) (by omega)).trans b5
        replace r0 := (cell_two O56 hb7 (o := 0) (p := w.heap.size + 1) (by omega) (by omega)).trans r0
        replace r1 := (cell_two O56 hb7 (o := 1) (p := w.heap.size + 1) (by omega) (by omega)).trans r1
        replace r2 := (cell_two O56 hb7 (o := 2) (p := w.heap.size + 1) (by omega) (by omega)).trans r2
        replace r3 := (cell_two O56 hb7 (o := 3) (p := w.heap.size + 1) (by omega) (by omega)).trans r3
        replace r4 := (cell_two O56 hb7 (o := 4) (p := w.heap.size + 1) (by omega) (by omega)).trans r4
        replace r5 := (cell_two O56 hb7 (o := 5) (p := w.heap.size + 1) (by omega) (by omega)).trans r5
        replace x0 := (cell_two O56 hb7 (o := 0) (p := w1.heap.size) (by omega) (by omega)).trans x0
        replace x1 := (cell_two O56 hb7 (o := 1) (p := w1.heap.size) (by omega) (by omega)).trans x1
        replace x2 := (cell_two O56 hb7 (o := 2) (p := w1.heap.size) (by omega) (by omega)).trans x2
        replace x3 := (cell_two O56 hb7 (o := 3) (p := w1.heap.size) (by omega) (by omega)).trans x3
        replace x4 := (cell_two O56 hb7 (o := 4) (p := w1.heap.size) (by omega) (by omega)).trans x4
        replace x5 := (cell_two O56 hb7 (o := 5) (p := w1.heap.size) (by omega) (by omega)).trans x5
        replace fr0 := (frozen_two O56 hb7 (o := 0) (p := w.heap.size + 1) (by omega) (by omega)).trans fr0
        replace fr1 := (frozen_two O56 hb7 (o := 1) (p := w.heap.size + 1) (by omega) (by omega)).trans fr1
        replace fr2 := (frozen_two O56 hb7 (o := 2) (p := w.heap.size + 1) (by omega) (by omega)).trans fr2
        replace fr3 := (frozen_two O56 hb7 (o := 3) (p := w.heap.size + 1) (by omega) (by omega)).trans fr3
        replace fr4 := (frozen_two O56 hb7 (o := 4) (p := w.heap.size + 1) (by omega) (by omega)).trans fr4
        replace fr5 := (frozen_two O56 hb7 (o := 5) (p := w.heap.size + 1) (by omega) (by omega)).trans fr5
        replace fx0 := (frozen_two O56 hb7 (o := 0) (p := w1.heap.size) (by omega) (by omega)).trans fx0
        replace fx1 := (frozen_two O56 hb7 (o := 1) (p := w1.heap.size) (by omega) (by omega)).trans fx1
        replace fx2 := (frozen_two O56 hb7 (o := 2) (p := w1.heap.size) (by omega) (by omega)).trans fx2
        replace fx3 := (frozen_two O56 hb7 (o := 3) (p := w1.heap.size) (by omega) (by omega)).trans fx3
        replace fx4 := (frozen_two O56 hb7 (o := 4) (p := w1.heap.size) (by omega) (by omega)).trans fx4
        replace fx5 := (frozen_two O56 hb7 (o := 5) (p := w1.heap.size) (by omega) (by omega)).trans fx5
        have T7 := Lib.hid (RowO.of ho7)
        have C7 := Lib.hid (own_below C6.out hb7)
        have M7 := Lib.hid (own_below M6.out hb7)
        have Q7 := Lib.hid (own_below Q6.out hb7)
        have L7 := Lib.hid (L6.out.below hb7)
        have D7 := Lib.hid (bnext D6.out hb7)
        clear hown hgrow hat O56 h6 ho7 hb7
        go_wp2
        refine bodyPost_ret (v := .tuple #[.agg #[.slice ac h.n cc, .slice am h.ms.length cm, .slice ao h.os.length co, .slice a7 (diffL (h.ts ++ wF h bd sn)).length c7, .int .i64 (h.sent + ((wL h bd sn).length : Int)), .int .i64 h.day], .slice al (wL h bd sn).length cl, .bool true]) (by simp [results, Try.results25, go_sem, r0, r1, r2, r3, r4, r5]) rfl ?_
        rw [H.out]
        have fin : ∀ WY WF : World, Only w1.heap.size (w1.heap.size + 1) w7 WY → Only w.heap.size (w.heap.size + 2) WY WF → WithO w WF (.slice ac h.n cc) (.slice am h.ms.length cm) (.slice ao h.os.length co) (.slice a7 (diffL (h.ts ++ wF h bd sn)).length c7) (.slice al (wL h bd sn).length cl) (wH h bd sn) (wL h bd sn) := fun WY WF oY oF => by
          have sY := oY.size
          have sF := oF.size
          have rc := ((RowO.mk C7.out OW.out.c.top).only oY (off_l (by omega))).only oF (off_r (by omega))
          have rm := ((RowO.mk M7.out OW.out.m.top).only oY (off_l (by omega))).only oF (off_r (by omega))
          have ro := ((RowO.mk Q7.out OW.out.o.top).only oY (off_l (by omega))).only oF (off_r (by omega))
          have rt := (T7.out.only oY (off_r (by omega))).only oF (off_r (by omega))
          have lt := (L7.out.only oY (off_r (by omega))).only oF (off_r (by omega))
          exact ⟨⟨rc.wide (by omega) (by omega), rm.wide (by omega) (by omega), ro.wide (by omega) (by omega), rt.wide (by omega) (by omega), OW.out.scm, OW.out.sco, rc.sep rt (off_l (by omega)), OW.out.smo, rm.sep rt (off_l (by omega)), ro.sep rt (off_l (by omega))⟩,
            ⟨w4.heap.size, w5.heap.size, by omega, by omega, lt, out_l rc (by omega), out_l rm (by omega), out_l ro (by omega), out_r rt (by omega)⟩, Only.below (Only.below D7.out oY (by omega)) oF (Nat.le_refl _)⟩
        refine ⟨_, _, _, _, _, _, _, _, _, _, rfl, fin ((w7.setCell ⟨w1.heap.size, 3, none⟩ (.slice a7 (diffL (h.ts ++ wF h bd sn)).length c7)).setCell ⟨w1.heap.size, 4, none⟩ (.int .i64 (h.sent + ((wL h bd sn).length : Int)))) _ ?_ ?_⟩
        · exact ((Only.refl w1.heap.size (w1.heap.size + 1) w7).set (Nat.le_refl _) (Nat.lt_succ_self _) _).set (Nat.le_refl _) (Nat.lt_succ_self _) _
        · repeat (first | with_reducible exact Only.refl _ _ _ | with_reducible refine Only.alloc ?_ _ | with_reducible refine Only.set ?_ (by simp only []; omega) (by simp only []; omega) _)
      · have H := Lib.hid (withdraw_3 (h := h) (b := bd) (s := sn) (by omega))
        go_enter Try.func25, Try.ntmps25
        go_wp2_with fail
        refine (copyHouse_any _ _ _ _ h _ ((hr.alloc _).alloc _) hn hB).mono ?_
        rintro e w1 ⟨ac, cc, am, cm, ao, co, at_, ct, rfl, hO, hb1⟩
        have z1 : w.heap.size + 2 ≤ w1.heap.size := by have q := hb1.size; simp at q; omega
        have y0 : w.heap.size < w1.heap.size := by omega
        have y1 : w.heap.size + 1 < w1.heap.size := by omega
        replace hO := hO.wide (lo' := w.heap.size + 2) (by simp) (Nat.le_refl _)
        have b0 : w1.cell? ⟨w.heap.size, 0, none⟩ = some (Value.slice adc h.n capc) := (hb1.cell (p := ⟨w.heap.size, 0, none⟩) (by first | (simp; done) | (simp; omega))).trans (by go_simp)
        have b1 : w1.cell? ⟨w.heap.size, 1, none⟩ = some (Value.slice adm h.ms.length capm) := (hb1.cell (p := ⟨w.heap.size, 1, none⟩) (by first | (simp; done) | (simp; omega))).trans (by go_simp)
        have b2 : w1.cell? ⟨w.heap.size, 2, none⟩ = some (Value.slice ado h.os.length capo) := (hb1.cell (p := ⟨w.heap.size, 2, none⟩) (by first | (simp; done) | (simp; omega))).trans (by go_simp)
        have b3 : w1.cell? ⟨w.heap.size, 3, none⟩ = some (Value.slice adt h.ts.length capt) := (hb1.cell (p := ⟨w.heap.size, 3, none⟩) (by first | (simp; done) | (simp; omega))).trans (by go_simp)
        have b4 : w1.cell? ⟨w.heap.size, 4, none⟩ = some (Value.int .i64 h.sent) := (hb1.cell (p := ⟨w.heap.size, 4, none⟩) (by first | (simp; done) | (simp; omega))).trans (by go_simp)
        have b5 : w1.cell? ⟨w.heap.size, 5, none⟩ = some (Value.int .i64 h.day) := (hb1.cell (p := ⟨w.heap.size, 5, none⟩) (by first | (simp; done) | (simp; omega))).trans (by go_simp)
        have r0 : w1.cell? ⟨w.heap.size + 1, 0, none⟩ = some (Value.slice none 0 0) := (hb1.cell (p := ⟨w.heap.size + 1, 0, none⟩) (by first | (simp; done) | (simp; omega))).trans (by go_simp)
        have r1 : w1.cell? ⟨w.heap.size + 1, 1, none⟩ = some (Value.slice none 0 0) := (hb1.cell (p := ⟨w.heap.size + 1, 1, none⟩) (by first | (simp; done) | (simp; omega))).trans (by go_simp)
        have r2 : w1.cell? ⟨w.heap.size + 1, 2, none⟩ = some (Value.slice none 0 0) := (hb1.cell (p := ⟨w.heap.size + 1, 2, none⟩) (by first | (simp; done) | (simp; omega))).trans (by go_simp)
        have r3 : w1.cell? ⟨w.heap.size + 1, 3, none⟩ = some (Value.slice none 0 0) := (hb1.cell (p := ⟨w.heap.size + 1, 3, none⟩) (by first | (simp; done) | (simp; omega))).trans (by go_simp)
        have r4 : w1.cell? ⟨w.heap.size + 1, 4, none⟩ = some (Value.int .i64 0) := (hb1.cell (p := ⟨w.heap.size + 1, 4, none⟩) (by first | (simp; done) | (simp; omega))).trans (by go_simp)
        have r5 : w1.cell? ⟨w.heap.size + 1, 5, none⟩ = some (Value.int .i64 0) := (hb1.cell (p := ⟨w.heap.size + 1, 5, none⟩) (by first | (simp; done) | (simp; omega))).trans (by go_simp)
        have fr0 : w1.frozen? ⟨w.heap.size + 1, 0, none⟩ = false := (hb1.frozen (p := ⟨w.heap.size + 1, 0, none⟩) (by first | (simp; done) | (simp; omega))).trans (by go_simp)
        have fr1 : w1.frozen? ⟨w.heap.size + 1, 1, none⟩ = false := (hb1.frozen (p := ⟨w.heap.size + 1, 1, none⟩) (by first | (simp; done) | (simp; omega))).trans (by go_simp)
        have fr2 : w1.frozen? ⟨w.heap.size + 1, 2, none⟩ = false := (hb1.frozen (p := ⟨w.heap.size + 1, 2, none⟩) (by first | (simp; done) | (simp; omega))).trans (by go_simp)
        have fr3 : w1.frozen? ⟨w.heap.size + 1, 3, none⟩ = false := (hb1.frozen (p := ⟨w.heap.size + 1, 3, none⟩) (by first | (simp; done) | (simp; omega))).trans (by go_simp)
        have fr4 : w1.frozen? ⟨w.heap.size + 1, 4, none⟩ = false := (hb1.frozen (p := ⟨w.heap.size + 1, 4, none⟩) (by first | (simp; done) | (simp; omega))).trans (by go_simp)
        have fr5 : w1.frozen? ⟨w.heap.size + 1, 5, none⟩ = false := (hb1.frozen (p := ⟨w.heap.size + 1, 5, none⟩) (by first | (simp; done) | (simp; omega))).trans (by go_simp)
        have MK : Hid (∀ W : World, Below ((w1.alloc (.cells #[.slice ac h.n cc, .slice am h.ms.length cm, .slice ao h.os.length co, .slice at_ h.ts.length ct, .int .i64 h.sent, .int .i64 h.day] 27))).heap.size (w1.alloc (.cells #[.slice ac h.n cc, .slice am h.ms.length cm, .slice ao h.os.length co, .slice at_ h.ts.length ct, .int .i64 h.sent, .int .i64 h.day] 27)) W → (W.cell? ⟨w.heap.size, 0, none⟩ = some (Value.slice adc h.n capc) ∧ W.cell? ⟨w.heap.size, 1, none⟩ = some (Value.slice adm h.ms.length capm) ∧ W.cell? ⟨w.heap.size, 2, none⟩ = some (Value.slice ado h.os.length capo) ∧ W.cell? ⟨w.heap.size, 3, none⟩ = some (Value.slice adt h.ts.length capt) ∧ W.cell? ⟨w.heap.size, 4, none⟩ = some (Value.int .i64 h.sent) ∧ W.cell? ⟨w.heap.size, 5, none⟩ = some (Value.int .i64 h.day)) ∧ (W.cell? ⟨w.heap.size + 1, 0, none⟩ = some (Value.slice none 0 0) ∧ W.cell? ⟨w.heap.size + 1, 1, none⟩ = some (Value.slice none 0 0) ∧ W.cell? ⟨w.heap.size + 1, 2, none⟩ = some (Value.slice none 0 0) ∧ W.cell? ⟨w.heap.size + 1, 3, none⟩ = some (Value.slice none 0 0) ∧ W.cell? ⟨w.heap.size + 1, 4, none⟩ = some (Value.int .i64 0) ∧ W.cell? ⟨w.heap.size + 1, 5, none⟩ = some (Value.int .i64 0)) ∧ (W.frozen? ⟨w.heap.size + 1, 0, none⟩ = false ∧ W.frozen? ⟨w.heap.size + 1, 1, none⟩ = false ∧ W.frozen? ⟨w.heap.size + 1, 2, none⟩ = false ∧ W.frozen? ⟨w.heap.size + 1, 3, none⟩ = false ∧ W.frozen? ⟨w.heap.size + 1, 4, none⟩ = false ∧ W.frozen? ⟨w.heap.size + 1, 5, none⟩ = false) ∧ (W.cell? ⟨w1.heap.size, 0, none⟩ = some (Value.slice ac h.n cc) ∧ W.cell? ⟨w1.heap.size, 1, none⟩ = some (Value.slice am h.ms.length cm) ∧ W.cell? ⟨w1.heap.size, 2, none⟩ = some (Value.slice ao h.os.length co) ∧ W.cell? ⟨w1.heap.size, 3, none⟩ = some (Value.slice at_ h.ts.length ct) ∧ W.cell? ⟨w1.heap.size, 4, none⟩ = some (Value.int .i64 h.sent) ∧ W.cell? ⟨w1.heap.size, 5, none⟩ = some (Value.int .i64 h.day)) ∧ (W.frozen? ⟨w1.heap.size, 0, none⟩ = false ∧ W.frozen? ⟨w1.heap.size, 1, none⟩ = false ∧ W.frozen? ⟨w1.heap.size, 2, none⟩ = false ∧ W.frozen? ⟨w1.heap.size, 3, none⟩ = false ∧ W.frozen? ⟨w1.heap.size, 4, none⟩ = false ∧ W.frozen? ⟨w1.heap.size, 5, none⟩ = false)) := fun W hb => ⟨⟨(hb.cell (p := ⟨w.heap.size, 0, none⟩) (by first | (simp; done) | (simp; omega))).trans (by go_simp), (hb.cell (p := ⟨w.heap.size, 1, none⟩) (by first | (simp; done) | (simp; omega))).trans (by go_simp), (hb.cell (p := ⟨w.heap.size, 2, none⟩) (by first | (simp; done) | (simp; omega))).trans (by go_simp), (hb.cell (p := ⟨w.heap.size, 3, none⟩) (by first | (simp; done) | (simp; omega))).trans (by go_simp), (hb.cell (p := ⟨w.heap.size, 4, none⟩) (by first | (simp; done) | (simp; omega))).trans (by go_simp), (hb.cell (p := ⟨w.heap.size, 5, none⟩) (by first | (simp; done) | (simp; omega))).trans (by go_simp)⟩, ⟨(hb.cell (p := ⟨w.heap.size + 1, 0, none⟩) (by first | (simp; done) | (simp; omega))).trans (by go_simp), (hb.cell (p := ⟨w.heap.size + 1, 1, none⟩) (by first | (simp; done) | (simp; omega))).trans (by go_simp), (hb.cell (p := ⟨w.heap.size + 1, 2, none⟩) (by first | (simp; done) | (simp; omega))).trans (by go_simp), (hb.cell (p := ⟨w.heap.size + 1, 3, none⟩) (by first | (simp; done) | (simp; omega))).trans (by go_simp), (hb.cell (p := ⟨w.heap.size + 1, 4, none⟩) (by first | (simp; done) | (simp; omega))).trans (by go_simp), (hb.cell (p := ⟨w.heap.size + 1, 5, none⟩) (by first | (simp; done) | (simp; omega))).trans (by go_simp)⟩, ⟨(hb.frozen (p := ⟨w.heap.size + 1, 0, none⟩) (by first | (simp; done) | (simp; omega))).trans (by go_simp), (hb.frozen (p := ⟨w.heap.size + 1, 1, none⟩) (by first | (simp; done) | (simp; omega))).trans (by go_simp), (hb.frozen (p := ⟨w.heap.size + 1, 2, none⟩) (by first | (simp; done) | (simp; omega))).trans (by go_simp), (hb.frozen (p := ⟨w.heap.size + 1, 3, none⟩) (by first | (simp; done) | (simp; omega))).trans (by go_simp), (hb.frozen (p := ⟨w.heap.size + 1, 4, none⟩) (by first | (simp; done) | (simp; omega))).trans (by go_simp), (hb.frozen (p := ⟨w.heap.size + 1, 5, none⟩) (by first | (simp; done) | (simp; omega))).trans (by go_simp)⟩, ⟨(hb.cell (p := ⟨w1.heap.size, 0, none⟩) (by first | (simp; done) | (simp; omega))).trans (by go_simp), (hb.cell (p := ⟨w1.heap.size, 1, none⟩) (by first | (simp; done) | (simp; omega))).trans (by go_simp), (hb.cell (p := ⟨w1.heap.size, 2, none⟩) (by first | (simp; done) | (simp; omega))).trans (by go_simp), (hb.cell (p := ⟨w1.heap.size, 3, none⟩) (by first | (simp; done) | (simp; omega))).trans (by go_simp), (hb.cell (p := ⟨w1.heap.size, 4, none⟩) (by first | (simp; done) | (simp; omega))).trans (by go_simp), (hb.cell (p := ⟨w1.heap.size, 5, none⟩) (by first | (simp; done) | (simp; omega))).trans (by go_simp)⟩, ⟨(hb.frozen (p := ⟨w1.heap.size, 0, none⟩) (by first | (simp; done) | (simp; omega))).trans (by go_simp), (hb.frozen (p := ⟨w1.heap.size, 1, none⟩) (by first | (simp; done) | (simp; omega))).trans (by go_simp), (hb.frozen (p := ⟨w1.heap.size, 2, none⟩) (by first | (simp; done) | (simp; omega))).trans (by go_simp), (hb.frozen (p := ⟨w1.heap.size, 3, none⟩) (by first | (simp; done) | (simp; omega))).trans (by go_simp), (hb.frozen (p := ⟨w1.heap.size, 4, none⟩) (by first | (simp; done) | (simp; omega))).trans (by go_simp), (hb.frozen (p := ⟨w1.heap.size, 5, none⟩) (by first | (simp; done) | (simp; omega))).trans (by go_simp)⟩⟩
        have D1 := Lib.hid (bnext (balloc (balloc (bref w) _) _) hb1)
        have OH := Lib.hid hO
        skip
        skip
        clear hb1 hO 
        go_wp2_with fail
        refine (implHouseOk _ _ _ _ h _ ((hr.below D1.out).below (balloc (bref w1) _))).mono ?_
        rintro e w2 ⟨rfl, hb2⟩
        rw [h1]
        have z2 : w1.heap.size + 1 ≤ w2.heap.size := by have q := hb2.size; simp at q; omega
        have B2 := Lib.hid hb2
        clear hb2 b0 b1 b2 b3 b4 b5 r0 r1 r2 r3 r4 r5 fr0 fr1 fr2 fr3 fr4 fr5
        obtain ⟨b0, b1, b2, b3, b4, b5⟩ := (MK.out _ B2.out).1
        have HR := Lib.hid (hr.below D1.out)
        have R2 := Lib.hid (HR.out.below (bnext (balloc (bref w1) _) B2.out))
        go_wp2_with fail
        refine (implAffectedBy _ h.n h.xs _ h.ms bd sn _ R2.out.c R2.out.m).mono ?_
        rintro e w3 ⟨va, rfl, hoa, hna, hb3⟩
        replace hoa : w3.ownsRow w2.heap.size 3 1 va (wA h bd sn).length ((wA h bd sn).map (Value.int .i64)) := hoa
        have z3 : w2.heap.size ≤ w3.heap.size := hb3.size
        have B3 := Lib.hid (bnext B2.out hb3)
        have R3 := Lib.hid (HR.out.below (bnext (balloc (bref w1) _) B3.out))
        clear b0 b1 b2 b3 b4 b5 hb3
        obtain ⟨ga, ca, rfl⟩ : ∃ g c, va = .slice (some ⟨g, 0, none⟩) (wA h bd sn).length c := by
          rcases hoa.2 with ⟨q, z⟩ | ⟨g, cp, _, q, _⟩
          · exact absurd (List.eq_nil_of_length_eq_zero z) hA
          · exact ⟨g, cp, q⟩
        have la := wA_len h bd sn
        have IA := Lib.hid (own_ints hoa (by omega))
        have NA := nilOk_own hoa
        clear hoa hna
        obtain ⟨b0, b1, b2, b3, b4, b5⟩ := (MK.out _ B3.out).1
        go_wp2_with fail
        refine (implNewOnesV _ h.ts _ (wA h bd sn) _ R3.out.t IA.out NA (by omega)).mono ?_
        rintro e w4 ⟨vf, rfl, hof, hb4⟩
        obtain ⟨af, cf, rfl⟩ := own_form hof
        replace hof : w4.ownsRow w3.heap.size 3 1 (.slice af (wF h bd sn).length cf) (wF h bd sn).length ((wF h bd sn).map (Value.int .i64)) := hof
        have z4 : w3.heap.size ≤ w4.heap.size := hb4.size
        have B4 := Lib.hid (bnext B3.out hb4)
        have R4 := Lib.hid (HR.out.below (bnext (balloc (bref w1) _) B4.out))
        have lf := wF_len h bd sn
        have IF := Lib.hid (own_ints hof (by omega))
        have NF := nilOk_own hof
        clear b0 b1 b2 b3 b4 b5 hb4 hof NA
        obtain ⟨b0, b1, b2, b3, b4, b5⟩ := (MK.out _ B4.out).1
        go_wp2_with fail
        refine (implLettersFor _ h.n h.xs _ h.os _ (wF h bd sn) _ R4.out.c R4.out.o IF.out NF (by omega)).mono ?_
        rintro e w5 ⟨al, cl, rfl, hol, hb5⟩
        have LB := (wL_b h bd sn).n
        replace hol : LetO w4.heap.size w5.heap.size w5 (.slice al (wL h bd sn).length cl) (wL h bd sn) := hol
        have HL := Lib.hid hol
        have IF5 := Lib.hid (IF.out.below hb5)
        have z5 : w4.heap.size ≤ w5.heap.size := hb5.size
        have B5 := Lib.hid (bnext B4.out hb5)
        have R5 := Lib.hid (HR.out.below (bnext (balloc (bref w1) _) B5.out))
        have ts := (houseOk_facts h1).sent
        obtain ⟨ts0, ts1⟩ := ts
        have hll : lettersFor h.n h.xs h.os (wF h bd sn) = wL h bd sn := rfl
        have haa : affected h.n h.xs h.ms bd sn = wA h bd sn := rfl
        simp only [hll]
        clear b0 b1 b2 b3 b4 b5 hb5 hol hll haa
        obtain ⟨⟨b0, b1, b2, b3, b4, b5⟩, ⟨r0, r1, r2, r3, r4, r5⟩, ⟨fr0, fr1, fr2, fr3, fr4, fr5⟩, ⟨x0, x1, x2, x3, x4, x5⟩, ⟨fx0, fx1, fx2, fx3, fx4, fx5⟩⟩ := MK.out _ B5.out
        have OW := Lib.hid (OH.out.below (bnext (balloc (bref w1) _) B5.out))
        have DW := Lib.hid (bnext D1.out (bnext (balloc (bref w1) _) B5.out))
        go_wp2
        refine bodyPost_ret (v := .tuple #[.agg #[.slice ac h.n cc, .slice am h.ms.length cm, .slice ao h.os.length co, .slice at_ h.ts.length ct, .int .i64 h.sent, .int .i64 h.day], .slice none 0 0, .bool false]) (by simp [results, Try.results25, go_sem, r0, r1, r2, r3, r4, r5]) rfl ?_
        rw [H.out]
        have fin : ∀ WF : World, Only w.heap.size (w.heap.size + 2) w5 WF → WithO w WF (.slice ac h.n cc) (.slice am h.ms.length cm) (.slice ao h.os.length co) (.slice at_ h.ts.length ct) (.slice none 0 0) h [] := fun WF oF => by
          have sF := oF.size
          have oh := OW.out.only oF (off_r (by omega))
          have rc := oh.c
          have rm := oh.m
          have ro := oh.o
          have rt := oh.t
          exact ⟨oh.wide (by omega) (by omega), ⟨WF.heap.size, WF.heap.size, by omega, Nat.le_refl _, ⟨[], LetV.nil _ _ _⟩, out_l rc (by omega), out_l rm (by omega), out_l ro (by omega), out_l rt (by omega)⟩, Only.below DW.out oF (Nat.le_refl _)⟩
        refine ⟨_, _, _, _, _, _, _, _, _, _, rfl, fin _ ?_⟩
        repeat (first | with_reducible exact Only.refl _ _ _ | with_reducible refine Only.alloc ?_ _ | with_reducible refine Only.set ?_ (by simp only []; omega) (by simp only []; omega) _)
end Go.Proofs.Ytlipfkalehikkaa

/- The walk of Withdraw in the reference. -/
namespace Go.Proofs.Ytlipfkalehikkaa
open Go.ChangeShapes Go.WideShapes Go.ChangeAt Go.RowKit

set_option maxRecDepth 100000 in
set_option maxHeartbeats 8000000 in
theorem specWithdraw (vc vm vo vt : Value) (h : HD) (bd sn : Int) (w : World) (hr : HouseR w vc vm vo vt h) (hn : HouseN vc vm vo vt) (hB : HouseB h 1048576) : Calls Try.prog 31 #[.agg #[vc, vm, vo, vt, .int .i64 h.sent, .int .i64 h.day], .int .i64 bd, .int .i64 sn] w (fun e w' => ∃ ac cc am cm ao co at_ ct al cl, e = .returned (.tuple #[.agg #[.slice ac ((withdraw h bd sn).1).n cc, .slice am ((withdraw h bd sn).1).ms.length cm, .slice ao ((withdraw h bd sn).1).os.length co, .slice at_ ((withdraw h bd sn).1).ts.length ct, .int .i64 ((withdraw h bd sn).1).sent, .int .i64 ((withdraw h bd sn).1).day], .slice al (withdraw h bd sn).2.1.length cl, .bool (withdraw h bd sn).2.2]) ∧ WithO w w' (.slice ac ((withdraw h bd sn).1).n cc) (.slice am ((withdraw h bd sn).1).ms.length cm) (.slice ao ((withdraw h bd sn).1).os.length co) (.slice at_ ((withdraw h bd sn).1).ts.length ct) (.slice al (withdraw h bd sn).2.1.length cl) ((withdraw h bd sn).1) (withdraw h bd sn).2.1) := by
  obtain ⟨j0, hj, jz0, jz1, jz2⟩ := info_parts infoInt'
  obtain ⟨adc, capc, rfl⟩ : ∃ ad cap, vc = .slice ad h.n cap := by obtain ⟨_, _, ad, cap, hh, _⟩ := hr.c; exact ⟨ad, cap, hh⟩
  obtain ⟨adm, capm, rfl⟩ : ∃ ad cap, vm = .slice ad h.ms.length cap := by obtain ⟨_, ad, cap, hh, _⟩ := hr.m; exact ⟨ad, cap, hh⟩
  obtain ⟨ado, capo, rfl⟩ : ∃ ad cap, vo = .slice ad h.os.length cap := by obtain ⟨_, ad, cap, hh, _⟩ := hr.o; exact ⟨ad, cap, hh⟩
  obtain ⟨adt, capt, rfl⟩ : ∃ ad cap, vt = .slice ad h.ts.length cap := by obtain ⟨_, ad, cap, hh, _⟩ := hr.t; exact ⟨ad, cap, hh⟩
  cases h1 : houseOk h with
  | false =>
    have H := Lib.hid (withdraw_1 (b := bd) (s := sn) h1)
    go_enter Try.func31, Try.ntmps31
    go_wp2_with fail
    refine (l38Copy_any _ _ _ _ h _ ((hr.alloc _).alloc _) hn hB).mono ?_
    rintro e w1 ⟨ac, cc, am, cm, ao, co, at_, ct, rfl, hO, hb1⟩
    have z1 : w.heap.size + 2 ≤ w1.heap.size := by have q := hb1.size; simp at q; omega
    have y0 : w.heap.size < w1.heap.size := by omega
    have y1 : w.heap.size + 1 < w1.heap.size := by omega
    replace hO := hO.wide (lo' := w.heap.size + 2) (by simp) (Nat.le_refl _)
    have b0 : w1.cell? ⟨w.heap.size, 0, none⟩ = some (Value.slice adc h.n capc) := (hb1.cell (p := ⟨w.heap.size, 0, none⟩) (by first | (simp; done) | (simp; omega))).trans (by go_simp)
    have b1 : w1.cell? ⟨w.heap.size, 1, none⟩ = some (Value.slice adm h.ms.length capm) := (hb1.cell (p := ⟨w.heap.size, 1, none⟩) (by first | (simp; done) | (simp; omega))).trans (by go_simp)
    have b2 : w1.cell? ⟨w.heap.size, 2, none⟩ = some (Value.slice ado h.os.length capo) := (hb1.cell (p := ⟨w.heap.size, 2, none⟩) (by first | (simp; done) | (simp; omega))).trans (by go_simp)
    have b3 : w1.cell? ⟨w.heap.size, 3, none⟩ = some (Value.slice adt h.ts.length capt) := (hb1.cell (p := ⟨w.heap.size, 3, none⟩) (by first | (simp; done) | (simp; omega))).trans (by go_simp)
    have b4 : w1.cell? ⟨w.heap.size, 4, none⟩ = some (Value.int .i64 h.sent) := (hb1.cell (p := ⟨w.heap.size, 4, none⟩) (by first | (simp; done) | (simp; omega))).trans (by go_simp)
    have b5 : w1.cell? ⟨w.heap.size, 5, none⟩ = some (Value.int .i64 h.day) := (hb1.cell (p := ⟨w.heap.size, 5, none⟩) (by first | (simp; done) | (simp; omega))).trans (by go_simp)
    have r0 : w1.cell? ⟨w.heap.size + 1, 0, none⟩ = some (Value.slice none 0 0) := (hb1.cell (p := ⟨w.heap.size + 1, 0, none⟩) (by first | (simp; done) | (simp; omega))).trans (by go_simp)
    have r1 : w1.cell? ⟨w.heap.size + 1, 1, none⟩ = some (Value.slice none 0 0) := (hb1.cell (p := ⟨w.heap.size + 1, 1, none⟩) (by first | (simp; done) | (simp; omega))).trans (by go_simp)
    have r2 : w1.cell? ⟨w.heap.size + 1, 2, none⟩ = some (Value.slice none 0 0) := (hb1.cell (p := ⟨w.heap.size + 1, 2, none⟩) (by first | (simp; done) | (simp; omega))).trans (by go_simp)
    have r3 : w1.cell? ⟨w.heap.size + 1, 3, none⟩ = some (Value.slice none 0 0) := (hb1.cell (p := ⟨w.heap.size + 1, 3, none⟩) (by first | (simp; done) | (simp; omega))).trans (by go_simp)
    have r4 : w1.cell? ⟨w.heap.size + 1, 4, none⟩ = some (Value.int .i64 0) := (hb1.cell (p := ⟨w.heap.size + 1, 4, none⟩) (by first | (simp; done) | (simp; omega))).trans (by go_simp)
    have r5 : w1.cell? ⟨w.heap.size + 1, 5, none⟩ = some (Value.int .i64 0) := (hb1.cell (p := ⟨w.heap.size + 1, 5, none⟩) (by first | (simp; done) | (simp; omega))).trans (by go_simp)
    have fr0 : w1.frozen? ⟨w.heap.size + 1, 0, none⟩ = false := (hb1.frozen (p := ⟨w.heap.size + 1, 0, none⟩) (by first | (simp; done) | (simp; omega))).trans (by go_simp)
    have fr1 : w1.frozen? ⟨w.heap.size + 1, 1, none⟩ = false := (hb1.frozen (p := ⟨w.heap.size + 1, 1, none⟩) (by first | (simp; done) | (simp; omega))).trans (by go_simp)
    have fr2 : w1.frozen? ⟨w.heap.size + 1, 2, none⟩ = false := (hb1.frozen (p := ⟨w.heap.size + 1, 2, none⟩) (by first | (simp; done) | (simp; omega))).trans (by go_simp)
    have fr3 : w1.frozen? ⟨w.heap.size + 1, 3, none⟩ = false := (hb1.frozen (p := ⟨w.heap.size + 1, 3, none⟩) (by first | (simp; done) | (simp; omega))).trans (by go_simp)
    have fr4 : w1.frozen? ⟨w.heap.size + 1, 4, none⟩ = false := (hb1.frozen (p := ⟨w.heap.size + 1, 4, none⟩) (by first | (simp; done) | (simp; omega))).trans (by go_simp)
    have fr5 : w1.frozen? ⟨w.heap.size + 1, 5, none⟩ = false := (hb1.frozen (p := ⟨w.heap.size + 1, 5, none⟩) (by first | (simp; done) | (simp; omega))).trans (by go_simp)
    have MK : Hid (∀ W : World, Below (((w1.alloc (.cells #[.slice ac h.n cc, .slice am h.ms.length cm, .slice ao h.os.length co, .slice at_ h.ts.length ct, .int .i64 h.sent, .int .i64 h.day] 27)).alloc (.cells #[] 76))).heap.size ((w1.alloc (.cells #[.slice ac h.n cc, .slice am h.ms.length cm, .slice ao h.os.length co, .slice at_ h.ts.length ct, .int .i64 h.sent, .int .i64 h.day] 27)).alloc (.cells #[] 76)) W → (W.cell? ⟨w.heap.size, 0, none⟩ = some (Value.slice adc h.n capc) ∧ W.cell? ⟨w.heap.size, 1, none⟩ = some (Value.slice adm h.ms.length capm) ∧ W.cell? ⟨w.heap.size, 2, none⟩ = some (Value.slice ado h.os.length capo) ∧ W.cell? ⟨w.heap.size, 3, none⟩ = some (Value.slice adt h.ts.length capt) ∧ W.cell? ⟨w.heap.size, 4, none⟩ = some (Value.int .i64 h.sent) ∧ W.cell? ⟨w.heap.size, 5, none⟩ = some (Value.int .i64 h.day)) ∧ (W.cell? ⟨w.heap.size + 1, 0, none⟩ = some (Value.slice none 0 0) ∧ W.cell? ⟨w.heap.size + 1, 1, none⟩ = some (Value.slice none 0 0) ∧ W.cell? ⟨w.heap.size + 1, 2, none⟩ = some (Value.slice none 0 0) ∧ W.cell? ⟨w.heap.size + 1, 3, none⟩ = some (Value.slice none 0 0) ∧ W.cell? ⟨w.heap.size + 1, 4, none⟩ = some (Value.int .i64 0) ∧ W.cell? ⟨w.heap.size + 1, 5, none⟩ = some (Value.int .i64 0)) ∧ (W.frozen? ⟨w.heap.size + 1, 0, none⟩ = false ∧ W.frozen? ⟨w.heap.size + 1, 1, none⟩ = false ∧ W.frozen? ⟨w.heap.size + 1, 2, none⟩ = false ∧ W.frozen? ⟨w.heap.size + 1, 3, none⟩ = false ∧ W.frozen? ⟨w.heap.size + 1, 4, none⟩ = false ∧ W.frozen? ⟨w.heap.size + 1, 5, none⟩ = false) ∧ (W.cell? ⟨w1.heap.size, 0, none⟩ = some (Value.slice ac h.n cc) ∧ W.cell? ⟨w1.heap.size, 1, none⟩ = some (Value.slice am h.ms.length cm) ∧ W.cell? ⟨w1.heap.size, 2, none⟩ = some (Value.slice ao h.os.length co) ∧ W.cell? ⟨w1.heap.size, 3, none⟩ = some (Value.slice at_ h.ts.length ct) ∧ W.cell? ⟨w1.heap.size, 4, none⟩ = some (Value.int .i64 h.sent) ∧ W.cell? ⟨w1.heap.size, 5, none⟩ = some (Value.int .i64 h.day)) ∧ (W.frozen? ⟨w1.heap.size, 0, none⟩ = false ∧ W.frozen? ⟨w1.heap.size, 1, none⟩ = false ∧ W.frozen? ⟨w1.heap.size, 2, none⟩ = false ∧ W.frozen? ⟨w1.heap.size, 3, none⟩ = false ∧ W.frozen? ⟨w1.heap.size, 4, none⟩ = false ∧ W.frozen? ⟨w1.heap.size, 5, none⟩ = false)) := fun W hb => ⟨⟨(hb.cell (p := ⟨w.heap.size, 0, none⟩) (by first | (simp; done) | (simp; omega))).trans (by go_simp), (hb.cell (p := ⟨w.heap.size, 1, none⟩) (by first | (simp; done) | (simp; omega))).trans (by go_simp), (hb.cell (p := ⟨w.heap.size, 2, none⟩) (by first | (simp; done) | (simp; omega))).trans (by go_simp), (hb.cell (p := ⟨w.heap.size, 3, none⟩) (by first | (simp; done) | (simp; omega))).trans (by go_simp), (hb.cell (p := ⟨w.heap.size, 4, none⟩) (by first | (simp; done) | (simp; omega))).trans (by go_simp), (hb.cell (p := ⟨w.heap.size, 5, none⟩) (by first | (simp; done) | (simp; omega))).trans (by go_simp)⟩, ⟨(hb.cell (p := ⟨w.heap.size + 1, 0, none⟩) (by first | (simp; done) | (simp; omega))).trans (by go_simp), (hb.cell (p := ⟨w.heap.size + 1, 1, none⟩) (by first | (simp; done) | (simp; omega))).trans (by go_simp), (hb.cell (p := ⟨w.heap.size + 1, 2, none⟩) (by first | (simp; done) | (simp; omega))).trans (by go_simp), (hb.cell (p := ⟨w.heap.size + 1, 3, none⟩) (by first | (simp; done) | (simp; omega))).trans (by go_simp), (hb.cell (p := ⟨w.heap.size + 1, 4, none⟩) (by first | (simp; done) | (simp; omega))).trans (by go_simp), (hb.cell (p := ⟨w.heap.size + 1, 5, none⟩) (by first | (simp; done) | (simp; omega))).trans (by go_simp)⟩, ⟨(hb.frozen (p := ⟨w.heap.size + 1, 0, none⟩) (by first | (simp; done) | (simp; omega))).trans (by go_simp), (hb.frozen (p := ⟨w.heap.size + 1, 1, none⟩) (by first | (simp; done) | (simp; omega))).trans (by go_simp), (hb.frozen (p := ⟨w.heap.size + 1, 2, none⟩) (by first | (simp; done) | (simp; omega))).trans (by go_simp), (hb.frozen (p := ⟨w.heap.size + 1, 3, none⟩) (by first | (simp; done) | (simp; omega))).trans (by go_simp), (hb.frozen (p := ⟨w.heap.size + 1, 4, none⟩) (by first | (simp; done) | (simp; omega))).trans (by go_simp), (hb.frozen (p := ⟨w.heap.size + 1, 5, none⟩) (by first | (simp; done) | (simp; omega))).trans (by go_simp)⟩, ⟨(hb.cell (p := ⟨w1.heap.size, 0, none⟩) (by first | (simp; done) | (simp; omega))).trans (by go_simp), (hb.cell (p := ⟨w1.heap.size, 1, none⟩) (by first | (simp; done) | (simp; omega))).trans (by go_simp), (hb.cell (p := ⟨w1.heap.size, 2, none⟩) (by first | (simp; done) | (simp; omega))).trans (by go_simp), (hb.cell (p := ⟨w1.heap.size, 3, none⟩) (by first | (simp; done) | (simp; omega))).trans (by go_simp), (hb.cell (p := ⟨w1.heap.size, 4, none⟩) (by first | (simp; done) | (simp; omega))).trans (by go_simp), (hb.cell (p := ⟨w1.heap.size, 5, none⟩) (by first | (simp; done) | (simp; omega))).trans (by go_simp)⟩, ⟨(hb.frozen (p := ⟨w1.heap.size, 0, none⟩) (by first | (simp; done) | (simp; omega))).trans (by go_simp), (hb.frozen (p := ⟨w1.heap.size, 1, none⟩) (by first | (simp; done) | (simp; omega))).trans (by go_simp), (hb.frozen (p := ⟨w1.heap.size, 2, none⟩) (by first | (simp; done) | (simp; omega))).trans (by go_simp), (hb.frozen (p := ⟨w1.heap.size, 3, none⟩) (by first | (simp; done) | (simp; omega))).trans (by go_simp), (hb.frozen (p := ⟨w1.heap.size, 4, none⟩) (by first | (simp; done) | (simp; omega))).trans (by go_simp), (hb.frozen (p := ⟨w1.heap.size, 5, none⟩) (by first | (simp; done) | (simp; omega))).trans (by go_simp)⟩⟩
    have D1 := Lib.hid (bnext (balloc (balloc (bref w) _) _) hb1)
    have OH := Lib.hid hO
    have EL0 : LetO (w1.heap.size + 1) (w1.heap.size + 2) ((w1.alloc (.cells #[.slice ac h.n cc, .slice am h.ms.length cm, .slice ao h.os.length co, .slice at_ h.ts.length ct, .int .i64 h.sent, .int .i64 h.day] 27)).alloc (.cells #[] 76)) (.slice (some ⟨w1.heap.size + 1, 0, none⟩) 0 0) [] := by have q := let_lit (w1.alloc (.cells #[.slice ac h.n cc, .slice am h.ms.length cm, .slice ao h.os.length co, .slice at_ h.ts.length ct, .int .i64 h.sent, .int .i64 h.day] 27)); simpa using q
    have EL := Lib.hid EL0
    clear EL0
    clear hb1 hO 
    go_wp2_with fail
    refine (specHouseOk _ _ _ _ h _ ((hr.below D1.out).below (balloc (balloc (bref w1) _) _))).mono ?_
    rintro e w2 ⟨rfl, hb2⟩
    rw [h1]
    have z2 : w1.heap.size + 2 ≤ w2.heap.size := by have q := hb2.size; simp at q; omega
    have B2 := Lib.hid hb2
    clear hb2 b0 b1 b2 b3 b4 b5 r0 r1 r2 r3 r4 r5 fr0 fr1 fr2 fr3 fr4 fr5
    obtain ⟨⟨b0, b1, b2, b3, b4, b5⟩, ⟨r0, r1, r2, r3, r4, r5⟩, ⟨fr0, fr1, fr2, fr3, fr4, fr5⟩, ⟨x0, x1, x2, x3, x4, x5⟩, ⟨fx0, fx1, fx2, fx3, fx4, fx5⟩⟩ := MK.out _ B2.out
    have OW := Lib.hid (OH.out.below (bnext (balloc (balloc (bref w1) _) _) B2.out))
    have DW := Lib.hid (bnext D1.out (bnext (balloc (balloc (bref w1) _) _) B2.out))
    go_wp2
    refine bodyPost_ret (v := .tuple #[.agg #[.slice ac h.n cc, .slice am h.ms.length cm, .slice ao h.os.length co, .slice at_ h.ts.length ct, .int .i64 h.sent, .int .i64 h.day], .slice (some ⟨w1.heap.size + 1, 0, none⟩) 0 0, .bool false]) (by simp [results, Try.results31, go_sem, r0, r1, r2, r3, r4, r5]) rfl ?_
    rw [H.out]
    have fin : ∀ WF : World, Only w.heap.size (w.heap.size + 2) w2 WF → WithO w WF (.slice ac h.n cc) (.slice am h.ms.length cm) (.slice ao h.os.length co) (.slice at_ h.ts.length ct) (.slice (some ⟨w1.heap.size + 1, 0, none⟩) 0 0) h [] := fun WF oF => by
      have sF := oF.size
      have oh := OW.out.only oF (off_r (by omega))
      have rc := oh.c
      have rm := oh.m
      have ro := oh.o
      have rt := oh.t
      exact ⟨oh.wide (by omega) (by omega), ⟨w1.heap.size + 1, w1.heap.size + 2, by omega, by omega, (EL.out.below B2.out).only oF (off_r (by omega)), out_l rc (by omega), out_l rm (by omega), out_l ro (by omega), out_l rt (by omega)⟩, Only.below DW.out oF (Nat.le_refl _)⟩
    refine ⟨_, _, _, _, _, _, _, _, _, _, rfl, fin _ ?_⟩
    repeat (first | with_reducible exact Only.refl _ _ _ | with_reducible refine Only.alloc ?_ _ | with_reducible refine Only.set ?_ (by simp only []; omega) (by simp only []; omega) _)
  | true =>
    by_cases hA : wA h bd sn = []
    · have H := Lib.hid (withdraw_2 hA)
      have hq : (((wA h bd sn).length : Int) == 0) = true := by rw [hA]; rfl
      clear hA
      go_enter Try.func31, Try.ntmps31
      go_wp2_with fail
      refine (l38Copy_any _ _ _ _ h _ ((hr.alloc _).alloc _) hn hB).mono ?_
      rintro e w1 ⟨ac, cc, am, cm, ao, co, at_, ct, rfl, hO, hb1⟩
      have z1 : w.heap.size + 2 ≤ w1.heap.size := by have q := hb1.size; simp at q; omega
      have y0 : w.heap.size < w1.heap.size := by omega
      have y1 : w.heap.size + 1 < w1.heap.size := by omega
      replace hO := hO.wide (lo' := w.heap.size + 2) (by simp) (Nat.le_refl _)
      have b0 : w1.cell? ⟨w.heap.size, 0, none⟩ = some (Value.slice adc h.n capc) := (hb1.cell (p := ⟨w.heap.size, 0, none⟩) (by first | (simp; done) | (simp; omega))).trans (by go_simp)
      have b1 : w1.cell? ⟨w.heap.size, 1, none⟩ = some (Value.slice adm h.ms.length capm) := (hb1.cell (p := ⟨w.heap.size, 1, none⟩) (by first | (simp; done) | (simp; omega))).trans (by go_simp)
      have b2 : w1.cell? ⟨w.heap.size, 2, none⟩ = some (Value.slice ado h.os.length capo) := (hb1.cell (p := ⟨w.heap.size, 2, none⟩) (by first | (simp; done) | (simp; omega))).trans (by go_simp)
      have b3 : w1.cell? ⟨w.heap.size, 3, none⟩ = some (Value.slice adt h.ts.length capt) := (hb1.cell (p := ⟨w.heap.size, 3, none⟩) (by first | (simp; done) | (simp; omega))).trans (by go_simp)
      have b4 : w1.cell? ⟨w.heap.size, 4, none⟩ = some (Value.int .i64 h.sent) := (hb1.cell (p := ⟨w.heap.size, 4, none⟩) (by first | (simp; done) | (simp; omega))).trans (by go_simp)
      have b5 : w1.cell? ⟨w.heap.size, 5, none⟩ = some (Value.int .i64 h.day) := (hb1.cell (p := ⟨w.heap.size, 5, none⟩) (by first | (simp; done) | (simp; omega))).trans (by go_simp)
      have r0 : w1.cell? ⟨w.heap.size + 1, 0, none⟩ = some (Value.slice none 0 0) := (hb1.cell (p := ⟨w.heap.size + 1, 0, none⟩) (by first | (simp; done) | (simp; omega))).trans (by go_simp)
      have r1 : w1.cell? ⟨w.heap.size + 1, 1, none⟩ = some (Value.slice none 0 0) := (hb1.cell (p := ⟨w.heap.size + 1, 1, none⟩) (by first | (simp; done) | (simp; omega))).trans (by go_simp)
      have r2 : w1.cell? ⟨w.heap.size + 1, 2, none⟩ = some (Value.slice none 0 0) := (hb1.cell (p := ⟨w.heap.size + 1, 2, none⟩) (by first | (simp; done) | (simp; omega))).trans (by go_simp)
      have r3 : w1.cell? ⟨w.heap.size + 1, 3, none⟩ = some (Value.slice none 0 0) := (hb1.cell (p := ⟨w.heap.size + 1, 3, none⟩) (by first | (simp; done) | (simp; omega))).trans (by go_simp)
      have r4 : w1.cell? ⟨w.heap.size + 1, 4, none⟩ = some (Value.int .i64 0) := (hb1.cell (p := ⟨w.heap.size + 1, 4, none⟩) (by first | (simp; done) | (simp; omega))).trans (by go_simp)
      have r5 : w1.cell? ⟨w.heap.size + 1, 5, none⟩ = some (Value.int .i64 0) := (hb1.cell (p := ⟨w.heap.size + 1, 5, none⟩) (by first | (simp; done) | (simp; omega))).trans (by go_simp)
      have fr0 : w1.frozen? ⟨w.heap.size + 1, 0, none⟩ = false := (hb1.frozen (p := ⟨w.heap.size + 1, 0, none⟩) (by first | (simp; done) | (simp; omega))).trans (by go_simp)
      have fr1 : w1.frozen? ⟨w.heap.size + 1, 1, none⟩ = false := (hb1.frozen (p := ⟨w.heap.size + 1, 1, none⟩) (by first | (simp; done) | (simp; omega))).trans (by go_simp)
      have fr2 : w1.frozen? ⟨w.heap.size + 1, 2, none⟩ = false := (hb1.frozen (p := ⟨w.heap.size + 1, 2, none⟩) (by first | (simp; done) | (simp; omega))).trans (by go_simp)
      have fr3 : w1.frozen? ⟨w.heap.size + 1, 3, none⟩ = false := (hb1.frozen (p := ⟨w.heap.size + 1, 3, none⟩) (by first | (simp; done) | (simp; omega))).trans (by go_simp)
      have fr4 : w1.frozen? ⟨w.heap.size + 1, 4, none⟩ = false := (hb1.frozen (p := ⟨w.heap.size + 1, 4, none⟩) (by first | (simp; done) | (simp; omega))).trans (by go_simp)
      have fr5 : w1.frozen? ⟨w.heap.size + 1, 5, none⟩ = false := (hb1.frozen (p := ⟨w.heap.size + 1, 5, none⟩) (by first | (simp; done) | (simp; omega))).trans (by go_simp)
      have MK : Hid (∀ W : World, Below (((w1.alloc (.cells #[.slice ac h.n cc, .slice am h.ms.length cm, .slice ao h.os.length co, .slice at_ h.ts.length ct, .int .i64 h.sent, .int .i64 h.day] 27)).alloc (.cells #[] 76))).heap.size ((w1.alloc (.cells #[.slice ac h.n cc, .slice am h.ms.length cm, .slice ao h.os.length co, .slice at_ h.ts.length ct, .int .i64 h.sent, .int .i64 h.day] 27)).alloc (.cells #[] 76)) W → (W.cell? ⟨w.heap.size, 0, none⟩ = some (Value.slice adc h.n capc) ∧ W.cell? ⟨w.heap.size, 1, none⟩ = some (Value.slice adm h.ms.length capm) ∧ W.cell? ⟨w.heap.size, 2, none⟩ = some (Value.slice ado h.os.length capo) ∧ W.cell? ⟨w.heap.size, 3, none⟩ = some (Value.slice adt h.ts.length capt) ∧ W.cell? ⟨w.heap.size, 4, none⟩ = some (Value.int .i64 h.sent) ∧ W.cell? ⟨w.heap.size, 5, none⟩ = some (Value.int .i64 h.day)) ∧ (W.cell? ⟨w.heap.size + 1, 0, none⟩ = some (Value.slice none 0 0) ∧ W.cell? ⟨w.heap.size + 1, 1, none⟩ = some (Value.slice none 0 0) ∧ W.cell? ⟨w.heap.size + 1, 2, none⟩ = some (Value.slice none 0 0) ∧ W.cell? ⟨w.heap.size + 1, 3, none⟩ = some (Value.slice none 0 0) ∧ W.cell? ⟨w.heap.size + 1, 4, none⟩ = some (Value.int .i64 0) ∧ W.cell? ⟨w.heap.size + 1, 5, none⟩ = some (Value.int .i64 0)) ∧ (W.frozen? ⟨w.heap.size + 1, 0, none⟩ = false ∧ W.frozen? ⟨w.heap.size + 1, 1, none⟩ = false ∧ W.frozen? ⟨w.heap.size + 1, 2, none⟩ = false ∧ W.frozen? ⟨w.heap.size + 1, 3, none⟩ = false ∧ W.frozen? ⟨w.heap.size + 1, 4, none⟩ = false ∧ W.frozen? ⟨w.heap.size + 1, 5, none⟩ = false) ∧ (W.cell? ⟨w1.heap.size, 0, none⟩ = some (Value.slice ac h.n cc) ∧ W.cell? ⟨w1.heap.size, 1, none⟩ = some (Value.slice am h.ms.length cm) ∧ W.cell? ⟨w1.heap.size, 2, none⟩ = some (Value.slice ao h.os.length co) ∧ W.cell? ⟨w1.heap.size, 3, none⟩ = some (Value.slice at_ h.ts.length ct) ∧ W.cell? ⟨w1.heap.size, 4, none⟩ = some (Value.int .i64 h.sent) ∧ W.cell? ⟨w1.heap.size, 5, none⟩ = some (Value.int .i64 h.day)) ∧ (W.frozen? ⟨w1.heap.size, 0, none⟩ = false ∧ W.frozen? ⟨w1.heap.size, 1, none⟩ = false ∧ W.frozen? ⟨w1.heap.size, 2, none⟩ = false ∧ W.frozen? ⟨w1.heap.size, 3, none⟩ = false ∧ W.frozen? ⟨w1.heap.size, 4, none⟩ = false ∧ W.frozen? ⟨w1.heap.size, 5, none⟩ = false)) := fun W hb => ⟨⟨(hb.cell (p := ⟨w.heap.size, 0, none⟩) (by first | (simp; done) | (simp; omega))).trans (by go_simp), (hb.cell (p := ⟨w.heap.size, 1, none⟩) (by first | (simp; done) | (simp; omega))).trans (by go_simp), (hb.cell (p := ⟨w.heap.size, 2, none⟩) (by first | (simp; done) | (simp; omega))).trans (by go_simp), (hb.cell (p := ⟨w.heap.size, 3, none⟩) (by first | (simp; done) | (simp; omega))).trans (by go_simp), (hb.cell (p := ⟨w.heap.size, 4, none⟩) (by first | (simp; done) | (simp; omega))).trans (by go_simp), (hb.cell (p := ⟨w.heap.size, 5, none⟩) (by first | (simp; done) | (simp; omega))).trans (by go_simp)⟩, ⟨(hb.cell (p := ⟨w.heap.size + 1, 0, none⟩) (by first | (simp; done) | (simp; omega))).trans (by go_simp), (hb.cell (p := ⟨w.heap.size + 1, 1, none⟩) (by first | (simp; done) | (simp; omega))).trans (by go_simp), (hb.cell (p := ⟨w.heap.size + 1, 2, none⟩) (by first | (simp; done) | (simp; omega))).trans (by go_simp), (hb.cell (p := ⟨w.heap.size + 1, 3, none⟩) (by first | (simp; done) | (simp; omega))).trans (by go_simp), (hb.cell (p := ⟨w.heap.size + 1, 4, none⟩) (by first | (simp; done) | (simp; omega))).trans (by go_simp), (hb.cell (p := ⟨w.heap.size + 1, 5, none⟩) (by first | (simp; done) | (simp; omega))).trans (by go_simp)⟩, ⟨(hb.frozen (p := ⟨w.heap.size + 1, 0, none⟩) (by first | (simp; done) | (simp; omega))).trans (by go_simp), (hb.frozen (p := ⟨w.heap.size + 1, 1, none⟩) (by first | (simp; done) | (simp; omega))).trans (by go_simp), (hb.frozen (p := ⟨w.heap.size + 1, 2, none⟩) (by first | (simp; done) | (simp; omega))).trans (by go_simp), (hb.frozen (p := ⟨w.heap.size + 1, 3, none⟩) (by first | (simp; done) | (simp; omega))).trans (by go_simp), (hb.frozen (p := ⟨w.heap.size + 1, 4, none⟩) (by first | (simp; done) | (simp; omega))).trans (by go_simp), (hb.frozen (p := ⟨w.heap.size + 1, 5, none⟩) (by first | (simp; done) | (simp; omega))).trans (by go_simp)⟩, ⟨(hb.cell (p := ⟨w1.heap.size, 0, none⟩) (by first | (simp; done) | (simp; omega))).trans (by go_simp), (hb.cell (p := ⟨w1.heap.size, 1, none⟩) (by first | (simp; done) | (simp; omega))).trans (by go_simp), (hb.cell (p := ⟨w1.heap.size, 2, none⟩) (by first | (simp; done) | (simp; omega))).trans (by go_simp), (hb.cell (p := ⟨w1.heap.size, 3, none⟩) (by first | (simp; done) | (simp; omega))).trans (by go_simp), (hb.cell (p := ⟨w1.heap.size, 4, none⟩) (by first | (simp; done) | (simp; omega))).trans (by go_simp), (hb.cell (p := ⟨w1.heap.size, 5, none⟩) (by first | (simp; done) | (simp; omega))).trans (by go_simp)⟩, ⟨(hb.frozen (p := ⟨w1.heap.size, 0, none⟩) (by first | (simp; done) | (simp; omega))).trans (by go_simp), (hb.frozen (p := ⟨w1.heap.size, 1, none⟩) (by first | (simp; done) | (simp; omega))).trans (by go_simp), (hb.frozen (p := ⟨w1.heap.size, 2, none⟩) (by first | (simp; done) | (simp; omega))).trans (by go_simp), (hb.frozen (p := ⟨w1.heap.size, 3, none⟩) (by first | (simp; done) | (simp; omega))).trans (by go_simp), (hb.frozen (p := ⟨w1.heap.size, 4, none⟩) (by first | (simp; done) | (simp; omega))).trans (by go_simp), (hb.frozen (p := ⟨w1.heap.size, 5, none⟩) (by first | (simp; done) | (simp; omega))).trans (by go_simp)⟩⟩
      have D1 := Lib.hid (bnext (balloc (balloc (bref w) _) _) hb1)
      have OH := Lib.hid hO
      have EL0 : LetO (w1.heap.size + 1) (w1.heap.size + 2) ((w1.alloc (.cells #[.slice ac h.n cc, .slice am h.ms.length cm, .slice ao h.os.length co, .slice at_ h.ts.length ct, .int .i64 h.sent, .int .i64 h.day] 27)).alloc (.cells #[] 76)) (.slice (some ⟨w1.heap.size + 1, 0, none⟩) 0 0) [] := by have q := let_lit (w1.alloc (.cells #[.slice ac h.n cc, .slice am h.ms.length cm, .slice ao h.os.length co, .slice at_ h.ts.length ct, .int .i64 h.sent, .int .i64 h.day] 27)); simpa using q
      have EL := Lib.hid EL0
      clear EL0
      clear hb1 hO 
      go_wp2_with fail
      refine (specHouseOk _ _ _ _ h _ ((hr.below D1.out).below (balloc (balloc (bref w1) _) _))).mono ?_
      rintro e w2 ⟨rfl, hb2⟩
      rw [h1]
      have z2 : w1.heap.size + 2 ≤ w2.heap.size := by have q := hb2.size; simp at q; omega
      have B2 := Lib.hid hb2
      clear hb2 b0 b1 b2 b3 b4 b5 r0 r1 r2 r3 r4 r5 fr0 fr1 fr2 fr3 fr4 fr5
      obtain ⟨b0, b1, b2, b3, b4, b5⟩ := (MK.out _ B2.out).1
      have HR := Lib.hid (hr.below D1.out)
      have R2 := Lib.hid (HR.out.below (bnext (balloc (balloc (bref w1) _) _) B2.out))
      go_wp2_with fail
      refine (specAffectedBy _ h.n h.xs _ h.ms bd sn _ R2.out.c R2.out.m).mono ?_
      rintro e w3 ⟨va, rfl, hoa, hb3⟩
      replace hoa : w3.ownsRow w2.heap.size 3 1 va (wA h bd sn).length ((wA h bd sn).map (Value.int .i64)) := hoa
      have z3 : w2.heap.size ≤ w3.heap.size := hb3.size
      have B3 := Lib.hid (bnext B2.out hb3)
      have R3 := Lib.hid (HR.out.below (bnext (balloc (balloc (bref w1) _) _) B3.out))
      clear b0 b1 b2 b3 b4 b5 hb3
      obtain ⟨aa, ca, rfl⟩ := own_form hoa
      have la := wA_len h bd sn
      have IA := Lib.hid (own_ints hoa (by omega))
      have NA := nilOk_own hoa
      clear hoa
      obtain ⟨b0, b1, b2, b3, b4, b5⟩ := (MK.out _ B3.out).1
      go_wp2_with fail
      refine (specNewOnesV _ h.ts _ (wA h bd sn) _ R3.out.t IA.out NA (by omega)).mono ?_
      rintro e w4 ⟨vf, rfl, hof, hb4⟩
      obtain ⟨af, cf, rfl⟩ := own_form hof
      replace hof : w4.ownsRow w3.heap.size 3 1 (.slice af (wF h bd sn).length cf) (wF h bd sn).length ((wF h bd sn).map (Value.int .i64)) := hof
      have z4 : w3.heap.size ≤ w4.heap.size := hb4.size
      have B4 := Lib.hid (bnext B3.out hb4)
      have R4 := Lib.hid (HR.out.below (bnext (balloc (balloc (bref w1) _) _) B4.out))
      have lf := wF_len h bd sn
      have IF := Lib.hid (own_ints hof (by omega))
      have NF := nilOk_own hof
      clear b0 b1 b2 b3 b4 b5 hb4 hof NA
      obtain ⟨b0, b1, b2, b3, b4, b5⟩ := (MK.out _ B4.out).1
      go_wp2_with fail
      refine (specLettersFor _ h.n h.xs _ h.os _ (wF h bd sn) _ R4.out.c R4.out.o IF.out).mono ?_
      rintro e w5 ⟨al, cl, rfl, hol, hb5⟩
      have LB := (wL_b h bd sn).n
      replace hol : LetO w4.heap.size w5.heap.size w5 (.slice al (wL h bd sn).length cl) (wL h bd sn) := hol
      have HL := Lib.hid hol
      have IF5 := Lib.hid (IF.out.below hb5)
      have z5 : w4.heap.size ≤ w5.heap.size := hb5.size
      have B5 := Lib.hid (bnext B4.out hb5)
      have R5 := Lib.hid (HR.out.below (bnext (balloc (balloc (bref w1) _) _) B5.out))
      have ts := (houseOk_facts h1).sent
      obtain ⟨ts0, ts1⟩ := ts
      have hll : lettersFor h.n h.xs h.os (wF h bd sn) = wL h bd sn := rfl
      have haa : affected h.n h.xs h.ms bd sn = wA h bd sn := rfl
      simp only [hll]
      clear b0 b1 b2 b3 b4 b5 hb5 hol hll haa
      obtain ⟨⟨b0, b1, b2, b3, b4, b5⟩, ⟨r0, r1, r2, r3, r4, r5⟩, ⟨fr0, fr1, fr2, fr3, fr4, fr5⟩, ⟨x0, x1, x2, x3, x4, x5⟩, ⟨fx0, fx1, fx2, fx3, fx4, fx5⟩⟩ := MK.out _ B5.out
      have OW := Lib.hid (OH.out.below (bnext (balloc (balloc (bref w1) _) _) B5.out))
      have DW := Lib.hid (bnext D1.out (bnext (balloc (balloc (bref w1) _) _) B5.out))
      go_wp2
      refine bodyPost_ret (v := .tuple #[.agg #[.slice ac h.n cc, .slice am h.ms.length cm, .slice ao h.os.length co, .slice at_ h.ts.length ct, .int .i64 h.sent, .int .i64 h.day], .slice (some ⟨w1.heap.size + 1, 0, none⟩) 0 0, .bool false]) (by simp [results, Try.results31, go_sem, r0, r1, r2, r3, r4, r5]) rfl ?_
      rw [H.out]
      have fin : ∀ WF : World, Only w.heap.size (w.heap.size + 2) w5 WF → WithO w WF (.slice ac h.n cc) (.slice am h.ms.length cm) (.slice ao h.os.length co) (.slice at_ h.ts.length ct) (.slice (some ⟨w1.heap.size + 1, 0, none⟩) 0 0) h [] := fun WF oF => by
        have sF := oF.size
        have oh := OW.out.only oF (off_r (by omega))
        have rc := oh.c
        have rm := oh.m
        have ro := oh.o
        have rt := oh.t
        exact ⟨oh.wide (by omega) (by omega), ⟨w1.heap.size + 1, w1.heap.size + 2, by omega, by omega, (EL.out.below B5.out).only oF (off_r (by omega)), out_l rc (by omega), out_l rm (by omega), out_l ro (by omega), out_l rt (by omega)⟩, Only.below DW.out oF (Nat.le_refl _)⟩
      refine ⟨_, _, _, _, _, _, _, _, _, _, rfl, fin _ ?_⟩
      repeat (first | with_reducible exact Only.refl _ _ _ | with_reducible refine Only.alloc ?_ _ | with_reducible refine Only.set ?_ (by simp only []; omega) (by simp only []; omega) _)
    · have hq : (((wA h bd sn).length : Int) == 0) = false := by rw [beq_eq_false_iff_ne]; intro z; exact hA (List.eq_nil_of_length_eq_zero (by omega))
      by_cases hS : h.sent + ((wL h bd sn).length : Int) ≤ 1000
      · have H := Lib.hid (withdraw_t h1 hA hS)
        go_enter Try.func31, Try.ntmps31
        go_wp2_with fail
        refine (l38Copy_any _ _ _ _ h _ ((hr.alloc _).alloc _) hn hB).mono ?_
        rintro e w1 ⟨ac, cc, am, cm, ao, co, at_, ct, rfl, hO, hb1⟩
        have z1 : w.heap.size + 2 ≤ w1.heap.size := by have q := hb1.size; simp at q; omega
        have y0 : w.heap.size < w1.heap.size := by omega
        have y1 : w.heap.size + 1 < w1.heap.size := by omega
        replace hO := hO.wide (lo' := w.heap.size + 2) (by simp) (Nat.le_refl _)
        have b0 : w1.cell? ⟨w.heap.size, 0, none⟩ = some (Value.slice adc h.n capc) := (hb1.cell (p := ⟨w.heap.size, 0, none⟩) (by first | (simp; done) | (simp; omega))).trans (by go_simp)
        have b1 : w1.cell? ⟨w.heap.size, 1, none⟩ = some (Value.slice adm h.ms.length capm) := (hb1.cell (p := ⟨w.heap.size, 1, none⟩) (by first | (simp; done) | (simp; omega))).trans (by go_simp)
        have b2 : w1.cell? ⟨w.heap.size, 2, none⟩ = some (Value.slice ado h.os.length capo) := (hb1.cell (p := ⟨w.heap.size, 2, none⟩) (by first | (simp; done) | (simp; omega))).trans (by go_simp)
        have b3 : w1.cell? ⟨w.heap.size, 3, none⟩ = some (Value.slice adt h.ts.length capt) := (hb1.cell (p := ⟨w.heap.size, 3, none⟩) (by first | (simp; done) | (simp; omega))).trans (by go_simp)
        have b4 : w1.cell? ⟨w.heap.size, 4, none⟩ = some (Value.int .i64 h.sent) := (hb1.cell (p := ⟨w.heap.size, 4, none⟩) (by first | (simp; done) | (simp; omega))).trans (by go_simp)
        have b5 : w1.cell? ⟨w.heap.size, 5, none⟩ = some (Value.int .i64 h.day) := (hb1.cell (p := ⟨w.heap.size, 5, none⟩) (by first | (simp; done) | (simp; omega))).trans (by go_simp)
        have r0 : w1.cell? ⟨w.heap.size + 1, 0, none⟩ = some (Value.slice none 0 0) := (hb1.cell (p := ⟨w.heap.size + 1, 0, none⟩) (by first | (simp; done) | (simp; omega))).trans (by go_simp)
        have r1 : w1.cell? ⟨w.heap.size + 1, 1, none⟩ = some (Value.slice none 0 0) := (hb1.cell (p := ⟨w.heap.size + 1, 1, none⟩) (by first | (simp; done) | (simp; omega))).trans (by go_simp)
        have r2 : w1.cell? ⟨w.heap.size + 1, 2, none⟩ = some (Value.slice none 0 0) := (hb1.cell (p := ⟨w.heap.size + 1, 2, none⟩) (by first | (simp; done) | (simp; omega))).trans (by go_simp)
        have r3 : w1.cell? ⟨w.heap.size + 1, 3, none⟩ = some (Value.slice none 0 0) := (hb1.cell (p := ⟨w.heap.size + 1, 3, none⟩) (by first | (simp; done) | (simp; omega))).trans (by go_simp)
        have r4 : w1.cell? ⟨w.heap.size + 1, 4, none⟩ = some (Value.int .i64 0) := (hb1.cell (p := ⟨w.heap.size + 1, 4, none⟩) (by first | (simp; done) | (simp; omega))).trans (by go_simp)
        have r5 : w1.cell? ⟨w.heap.size + 1, 5, none⟩ = some (Value.int .i64 0) := (hb1.cell (p := ⟨w.heap.size + 1, 5, none⟩) (by first | (simp; done) | (simp; omega))).trans (by go_simp)
        have fr0 : w1.frozen? ⟨w.heap.size + 1, 0, none⟩ = false := (hb1.frozen (p := ⟨w.heap.size + 1, 0, none⟩) (by first | (simp; done) | (simp; omega))).trans (by go_simp)
        have fr1 : w1.frozen? ⟨w.heap.size + 1, 1, none⟩ = false := (hb1.frozen (p := ⟨w.heap.size + 1, 1, none⟩) (by first | (simp; done) | (simp; omega))).trans (by go_simp)
        have fr2 : w1.frozen? ⟨w.heap.size + 1, 2, none⟩ = false := (hb1.frozen (p := ⟨w.heap.size + 1, 2, none⟩) (by first | (simp; done) | (simp; omega))).trans (by go_simp)
        have fr3 : w1.frozen? ⟨w.heap.size + 1, 3, none⟩ = false := (hb1.frozen (p := ⟨w.heap.size + 1, 3, none⟩) (by first | (simp; done) | (simp; omega))).trans (by go_simp)
        have fr4 : w1.frozen? ⟨w.heap.size + 1, 4, none⟩ = false := (hb1.frozen (p := ⟨w.heap.size + 1, 4, none⟩) (by first | (simp; done) | (simp; omega))).trans (by go_simp)
        have fr5 : w1.frozen? ⟨w.heap.size + 1, 5, none⟩ = false := (hb1.frozen (p := ⟨w.heap.size + 1, 5, none⟩) (by first | (simp; done) | (simp; omega))).trans (by go_simp)
        have MK : Hid (∀ W : World, Below (((w1.alloc (.cells #[.slice ac h.n cc, .slice am h.ms.length cm, .slice ao h.os.length co, .slice at_ h.ts.length ct, .int .i64 h.sent, .int .i64 h.day] 27)).alloc (.cells #[] 76))).heap.size ((w1.alloc (.cells #[.slice ac h.n cc, .slice am h.ms.length cm, .slice ao h.os.length co, .slice at_ h.ts.length ct, .int .i64 h.sent, .int .i64 h.day] 27)).alloc (.cells #[] 76)) W → (W.cell? ⟨w.heap.size, 0, none⟩ = some (Value.slice adc h.n capc) ∧ W.cell? ⟨w.heap.size, 1, none⟩ = some (Value.slice adm h.ms.length capm) ∧ W.cell? ⟨w.heap.size, 2, none⟩ = some (Value.slice ado h.os.length capo) ∧ W.cell? ⟨w.heap.size, 3, none⟩ = some (Value.slice adt h.ts.length capt) ∧ W.cell? ⟨w.heap.size, 4, none⟩ = some (Value.int .i64 h.sent) ∧ W.cell? ⟨w.heap.size, 5, none⟩ = some (Value.int .i64 h.day)) ∧ (W.cell? ⟨w.heap.size + 1, 0, none⟩ = some (Value.slice none 0 0) ∧ W.cell? ⟨w.heap.size + 1, 1, none⟩ = some (Value.slice none 0 0) ∧ W.cell? ⟨w.heap.size + 1, 2, none⟩ = some (Value.slice none 0 0) ∧ W.cell? ⟨w.heap.size + 1, 3, none⟩ = some (Value.slice none 0 0) ∧ W.cell? ⟨w.heap.size + 1, 4, none⟩ = some (Value.int .i64 0) ∧ W.cell? ⟨w.heap.size + 1, 5, none⟩ = some (Value.int .i64 0)) ∧ (W.frozen? ⟨w.heap.size + 1, 0, none⟩ = false ∧ W.frozen? ⟨w.heap.size + 1, 1, none⟩ = false ∧ W.frozen? ⟨w.heap.size + 1, 2, none⟩ = false ∧ W.frozen? ⟨w.heap.size + 1, 3, none⟩ = false ∧ W.frozen? ⟨w.heap.size + 1, 4, none⟩ = false ∧ W.frozen? ⟨w.heap.size + 1, 5, none⟩ = false) ∧ (W.cell? ⟨w1.heap.size, 0, none⟩ = some (Value.slice ac h.n cc) ∧ W.cell? ⟨w1.heap.size, 1, none⟩ = some (Value.slice am h.ms.length cm) ∧ W.cell? ⟨w1.heap.size, 2, none⟩ = some (Value.slice ao h.os.length co) ∧ W.cell? ⟨w1.heap.size, 3, none⟩ = some (Value.slice at_ h.ts.length ct) ∧ W.cell? ⟨w1.heap.size, 4, none⟩ = some (Value.int .i64 h.sent) ∧ W.cell? ⟨w1.heap.size, 5, none⟩ = some (Value.int .i64 h.day)) ∧ (W.frozen? ⟨w1.heap.size, 0, none⟩ = false ∧ W.frozen? ⟨w1.heap.size, 1, none⟩ = false ∧ W.frozen? ⟨w1.heap.size, 2, none⟩ = false ∧ W.frozen? ⟨w1.heap.size, 3, none⟩ = false ∧ W.frozen? ⟨w1.heap.size, 4, none⟩ = false ∧ W.frozen? ⟨w1.heap.size, 5, none⟩ = false)) := fun W hb => ⟨⟨(hb.cell (p := ⟨w.heap.size, 0, none⟩) (by first | (simp; done) | (simp; omega))).trans (by go_simp), (hb.cell (p := ⟨w.heap.size, 1, none⟩) (by first | (simp; done) | (simp; omega))).trans (by go_simp), (hb.cell (p := ⟨w.heap.size, 2, none⟩) (by first | (simp; done) | (simp; omega))).trans (by go_simp), (hb.cell (p := ⟨w.heap.size, 3, none⟩) (by first | (simp; done) | (simp; omega))).trans (by go_simp), (hb.cell (p := ⟨w.heap.size, 4, none⟩) (by first | (simp; done) | (simp; omega))).trans (by go_simp), (hb.cell (p := ⟨w.heap.size, 5, none⟩) (by first | (simp; done) | (simp; omega))).trans (by go_simp)⟩, ⟨(hb.cell (p := ⟨w.heap.size + 1, 0, none⟩) (by first | (simp; done) | (simp; omega))).trans (by go_simp), (hb.cell (p := ⟨w.heap.size + 1, 1, none⟩) (by first | (simp; done) | (simp; omega))).trans (by go_simp), (hb.cell (p := ⟨w.heap.size + 1, 2, none⟩) (by first | (simp; done) | (simp; omega))).trans (by go_simp), (hb.cell (p := ⟨w.heap.size + 1, 3, none⟩) (by first | (simp; done) | (simp; omega))).trans (by go_simp), (hb.cell (p := ⟨w.heap.size + 1, 4, none⟩) (by first | (simp; done) | (simp; omega))).trans (by go_simp), (hb.cell (p := ⟨w.heap.size + 1, 5, none⟩) (by first | (simp; done) | (simp; omega))).trans (by go_simp)⟩, ⟨(hb.frozen (p := ⟨w.heap.size + 1, 0, none⟩) (by first | (simp; done) | (simp; omega))).trans (by go_simp), (hb.frozen (p := ⟨w.heap.size + 1, 1, none⟩) (by first | (simp; done) | (simp; omega))).trans (by go_simp), (hb.frozen (p := ⟨w.heap.size + 1, 2, none⟩) (by first | (simp; done) | (simp; omega))).trans (by go_simp), (hb.frozen (p := ⟨w.heap.size + 1, 3, none⟩) (by first | (simp; done) | (simp; omega))).trans (by go_simp), (hb.frozen (p := ⟨w.heap.size + 1, 4, none⟩) (by first | (simp; done) | (simp; omega))).trans (by go_simp), (hb.frozen (p := ⟨w.heap.size + 1, 5, none⟩) (by first | (simp; done) | (simp; omega))).trans (by go_simp)⟩, ⟨(hb.cell (p := ⟨w1.heap.size, 0, none⟩) (by first | (simp; done) | (simp; omega))).trans (by go_simp), (hb.cell (p := ⟨w1.heap.size, 1, none⟩) (by first | (simp; done) | (simp; omega))).trans (by go_simp), (hb.cell (p := ⟨w1.heap.size, 2, none⟩) (by first | (simp; done) | (simp; omega))).trans (by go_simp), (hb.cell (p := ⟨w1.heap.size, 3, none⟩) (by first | (simp; done) | (simp; omega))).trans (by go_simp), (hb.cell (p := ⟨w1.heap.size, 4, none⟩) (by first | (simp; done) | (simp; omega))).trans (by go_simp), (hb.cell (p := ⟨w1.heap.size, 5, none⟩) (by first | (simp; done) | (simp; omega))).trans (by go_simp)⟩, ⟨(hb.frozen (p := ⟨w1.heap.size, 0, none⟩) (by first | (simp; done) | (simp; omega))).trans (by go_simp), (hb.frozen (p := ⟨w1.heap.size, 1, none⟩) (by first | (simp; done) | (simp; omega))).trans (by go_simp), (hb.frozen (p := ⟨w1.heap.size, 2, none⟩) (by first | (simp; done) | (simp; omega))).trans (by go_simp), (hb.frozen (p := ⟨w1.heap.size, 3, none⟩) (by first | (simp; done) | (simp; omega))).trans (by go_simp), (hb.frozen (p := ⟨w1.heap.size, 4, none⟩) (by first | (simp; done) | (simp; omega))).trans (by go_simp), (hb.frozen (p := ⟨w1.heap.size, 5, none⟩) (by first | (simp; done) | (simp; omega))).trans (by go_simp)⟩⟩
        have D1 := Lib.hid (bnext (balloc (balloc (bref w) _) _) hb1)
        have OH := Lib.hid hO
        have EL0 : LetO (w1.heap.size + 1) (w1.heap.size + 2) ((w1.alloc (.cells #[.slice ac h.n cc, .slice am h.ms.length cm, .slice ao h.os.length co, .slice at_ h.ts.length ct, .int .i64 h.sent, .int .i64 h.day] 27)).alloc (.cells #[] 76)) (.slice (some ⟨w1.heap.size + 1, 0, none⟩) 0 0) [] := by have q := let_lit (w1.alloc (.cells #[.slice ac h.n cc, .slice am h.ms.length cm, .slice ao h.os.length co, .slice at_ h.ts.length ct, .int .i64 h.sent, .int .i64 h.day] 27)); simpa using q
        have EL := Lib.hid EL0
        clear EL0
        clear hb1 hO 
        go_wp2_with fail
        refine (specHouseOk _ _ _ _ h _ ((hr.below D1.out).below (balloc (balloc (bref w1) _) _))).mono ?_
        rintro e w2 ⟨rfl, hb2⟩
        rw [h1]
        have z2 : w1.heap.size + 2 ≤ w2.heap.size := by have q := hb2.size; simp at q; omega
        have B2 := Lib.hid hb2
        clear hb2 b0 b1 b2 b3 b4 b5 r0 r1 r2 r3 r4 r5 fr0 fr1 fr2 fr3 fr4 fr5
        obtain ⟨b0, b1, b2, b3, b4, b5⟩ := (MK.out _ B2.out).1
        have HR := Lib.hid (hr.below D1.out)
        have R2 := Lib.hid (HR.out.below (bnext (balloc (balloc (bref w1) _) _) B2.out))
        go_wp2_with fail
        refine (specAffectedBy _ h.n h.xs _ h.ms bd sn _ R2.out.c R2.out.m).mono ?_
        rintro e w3 ⟨va, rfl, hoa, hb3⟩
        replace hoa : w3.ownsRow w2.heap.size 3 1 va (wA h bd sn).length ((wA h bd sn).map (Value.int .i64)) := hoa
        have z3 : w2.heap.size ≤ w3.heap.size := hb3.size
        have B3 := Lib.hid (bnext B2.out hb3)
        have R3 := Lib.hid (HR.out.below (bnext (balloc (balloc (bref w1) _) _) B3.out))
        clear b0 b1 b2 b3 b4 b5 hb3
        obtain ⟨aa, ca, rfl⟩ := own_form hoa
        have la := wA_len h bd sn
        have IA := Lib.hid (own_ints hoa (by omega))
        have NA := nilOk_own hoa
        clear hoa
        obtain ⟨b0, b1, b2, b3, b4, b5⟩ := (MK.out _ B3.out).1
        go_wp2_with fail
        refine (specNewOnesV _ h.ts _ (wA h bd sn) _ R3.out.t IA.out NA (by omega)).mono ?_
        rintro e w4 ⟨vf, rfl, hof, hb4⟩
        obtain ⟨af, cf, rfl⟩ := own_form hof
        replace hof : w4.ownsRow w3.heap.size 3 1 (.slice af (wF h bd sn).length cf) (wF h bd sn).length ((wF h bd sn).map (Value.int .i64)) := hof
        have z4 : w3.heap.size ≤ w4.heap.size := hb4.size
        have B4 := Lib.hid (bnext B3.out hb4)
        have R4 := Lib.hid (HR.out.below (bnext (balloc (balloc (bref w1) _) _) B4.out))
        have lf := wF_len h bd sn
        have IF := Lib.hid (own_ints hof (by omega))
        have NF := nilOk_own hof
        clear b0 b1 b2 b3 b4 b5 hb4 hof NA
        obtain ⟨b0, b1, b2, b3, b4, b5⟩ := (MK.out _ B4.out).1
        go_wp2_with fail
        refine (specLettersFor _ h.n h.xs _ h.os _ (wF h bd sn) _ R4.out.c R4.out.o IF.out).mono ?_
        rintro e w5 ⟨al, cl, rfl, hol, hb5⟩
        have LB := (wL_b h bd sn).n
        replace hol : LetO w4.heap.size w5.heap.size w5 (.slice al (wL h bd sn).length cl) (wL h bd sn) := hol
        have HL := Lib.hid hol
        have IF5 := Lib.hid (IF.out.below hb5)
        have z5 : w4.heap.size ≤ w5.heap.size := hb5.size
        have B5 := Lib.hid (bnext B4.out hb5)
        have R5 := Lib.hid (HR.out.below (bnext (balloc (balloc (bref w1) _) _) B5.out))
        have ts := (houseOk_facts h1).sent
        obtain ⟨ts0, ts1⟩ := ts
        have hll : lettersFor h.n h.xs h.os (wF h bd sn) = wL h bd sn := rfl
        have haa : affected h.n h.xs h.ms bd sn = wA h bd sn := rfl
        simp only [hll]
        clear b0 b1 b2 b3 b4 b5 hb5 hol hll haa
        obtain ⟨⟨b0, b1, b2, b3, b4, b5⟩, ⟨r0, r1, r2, r3, r4, r5⟩, ⟨fr0, fr1, fr2, fr3, fr4, fr5⟩, ⟨x0, x1, x2, x3, x4, x5⟩, ⟨fx0, fx1, fx2, fx3, fx4, fx5⟩⟩ := MK.out _ B5.out
        have OW := Lib.hid (OH.out.below (bnext (balloc (balloc (bref w1) _) _) B5.out))
        have hts := hB.ts
        go_wp2_with (at_builtin; refine wpList_append_src _ rfl _ _ 25 rfl (w.heap.size + 2) 3 j0 (.int .i64 0) 1 8 Try.underlying25 hj jz0 jz1 jz2 rfl (by decide) _ _ _ rfl OW.out.t.own _ (wF h bd sn).length (wF h bd sn) rfl (ints_recs IF5.out) NF (by omega) (by decide) (by omega) ?_; intro v6 w6 hown hgrow hat)
        have O56 : Only (w.heap.size + 2) w1.heap.size w5 w6 := Only.of_grown hgrow OW.out.t.at
        have h6 : w6.ownsRow (w.heap.size + 2) 3 1 v6 (h.ts ++ wF h bd sn).length ((h.ts ++ wF h bd sn).map (Value.int .i64)) := by rw [List.map_append, List.length_append]; exact hown
        have z6 : w5.heap.size ≤ w6.heap.size := O56.size
        have C6 := Lib.hid (own_kept OW.out.c.own hgrow OW.out.sct.symm)
        have M6 := Lib.hid (own_kept OW.out.m.own hgrow OW.out.smt.symm)
        have Q6 := Lib.hid (own_kept OW.out.o.own hgrow OW.out.sot.symm)
        have L6 := Lib.hid (HL.out.only O56 (off_r (by omega)))
        have D6 := Lib.hid (Only.below (bnext D1.out (bnext (balloc (balloc (bref w1) _) _) B5.out)) O56 (by omega))
        refine (l10Sorted_any _ (h.ts ++ wF h bd sn) _ (own_ints h6 (by rw [List.length_append]; omega)) (nilOk_own h6) (by rw [List.length_append]; have := (houseOk_b h1).ts; omega)).mono ?_
        rw [told_sort h1]
        rintro e w7 ⟨a7, c7, rfl, ho7, hb7⟩
        have z7 : w6.heap.size ≤ w7.heap.size := hb7.size
        replace b0 := (cell_two O56 hb7 (o := 0) (p := w.heap.size) (by omega) (by omega)).trans b0
        replace b1 := (cell_two O56 hb7 (o := 1) (p := w.heap.size) (by omega) (by omega)).trans b1
        replace b2 := (cell_two O56 hb7 (o := 2) (p := w.heap.size) (by omega) (by omega)).trans b2
        replace b3 := (cell_two O56 hb7 (o := 3) (p := w.heap.size) (by omega) (by omega)).trans b3
        replace b4 := (cell_two O56 hb7 (o := 4) (p := w.heap.size) (by omega) (by omega)).trans b4
        replace b5 := (cell_two O56 hb7 (o := 5) (p := w.heap.size) (by omega) (by omega)).trans b5
        replace r0 := (cell_two O56 hb7 (o := 0) (p := w.heap.size + 1) (by omega) (by omega)).trans r0
        replace r1 := (cell_two O56 hb7 (o := 1) (p := w.heap.size + 1) (by omega) (by omega)).trans r1
        replace r2 := (cell_two O56 hb7 (o := 2) (p := w.heap.size + 1) (by omega) (by omega)).trans r2
        replace r3 := (cell_two O56 hb7 (o := 3) (p := w.heap.size + 1) (by omega) (by omega)).trans r3
        replace r4 := (cell_two O56 hb7 (o := 4) (p := w.heap.size + 1) (by omega) (by omega)).trans r4
        replace r5 := (cell_two O56 hb7 (o := 5) (p := w.heap.size + 1) (by omega) (by omega)).trans r5
        replace x0 := (cell_two O56 hb7 (o := 0) (p := w1.heap.size) (by omega) (by omega)).trans x0
        replace x1 := (cell_two O56 hb7 (o := 1) (p := w1.heap.size) (by omega) (by omega)).trans x1
        replace x2 := (cell_two O56 hb7 (o := 2) (p := w1.heap.size) (by omega) (by omega)).trans x2
        replace x3 := (cell_two O56 hb7 (o := 3) (p := w1.heap.size) (by omega) (by omega)).trans x3
        replace x4 := (cell_two O56 hb7 (o := 4) (p := w1.heap.size) (by omega) (by omega)).trans x4
        replace x5 := (cell_two O56 hb7 (o := 5) (p := w1.heap.size) (by omega) (by omega)).trans x5
        replace fr0 := (frozen_two O56 hb7 (o := 0) (p := w.heap.size + 1) (by omega) (by omega)).trans fr0
        replace fr1 := (frozen_two O56 hb7 (o := 1) (p := w.heap.size + 1) (by omega) (by omega)).trans fr1
        replace fr2 := (frozen_two O56 hb7 (o := 2) (p := w.heap.size + 1) (by omega) (by omega)).trans fr2
        replace fr3 := (frozen_two O56 hb7 (o := 3) (p := w.heap.size + 1) (by omega) (by omega)).trans fr3
        replace fr4 := (frozen_two O56 hb7 (o := 4) (p := w.heap.size + 1) (by omega) (by omega)).trans fr4
        replace fr5 := (frozen_two O56 hb7 (o := 5) (p := w.heap.size + 1) (by omega) (by omega)).trans fr5
        replace fx0 := (frozen_two O56 hb7 (o := 0) (p := w1.heap.size) (by omega) (by omega)).trans fx0
        replace fx1 := (frozen_two O56 hb7 (o := 1) (p := w1.heap.size) (by omega) (by omega)).trans fx1
        replace fx2 := (frozen_two O56 hb7 (o := 2) (p := w1.heap.size) (by omega) (by omega)).trans fx2
        replace fx3 := (frozen_two O56 hb7 (o := 3) (p := w1.heap.size) (by omega) (by omega)).trans fx3
        replace fx4 := (frozen_two O56 hb7 (o := 4) (p := w1.heap.size) (by omega) (by omega)).trans fx4
        replace fx5 := (frozen_two O56 hb7 (o := 5) (p := w1.heap.size) (by omega) (by omega)).trans fx5
        have T7 := Lib.hid (RowO.of ho7)
        have C7 := Lib.hid (own_below C6.out hb7)
        have M7 := Lib.hid (own_below M6.out hb7)
        have Q7 := Lib.hid (own_below Q6.out hb7)
        have L7 := Lib.hid (L6.out.below hb7)
        have D7 := Lib.hid (bnext D6.out hb7)
        clear hown hgrow hat O56 h6 ho7 hb7
        go_wp2
        refine bodyPost_ret (v := .tuple #[.agg #[.slice ac h.n cc, .slice am h.ms.length cm, .slice ao h.os.length co, .slice a7 (diffL (h.ts ++ wF h bd sn)).length c7, .int .i64 (h.sent + ((wL h bd sn).length : Int)), .int .i64 h.day], .slice al (wL h bd sn).length cl, .bool true]) (by simp [results, Try.results31, go_sem, r0, r1, r2, r3, r4, r5]) rfl ?_
        rw [H.out]
        have fin : ∀ WY WF : World, Only w1.heap.size (w1.heap.size + 1) w7 WY → Only w.heap.size (w.heap.size + 2) WY WF → WithO w WF (.slice ac h.n cc) (.slice am h.ms.length cm) (.slice ao h.os.length co) (.slice a7 (diffL (h.ts ++ wF h bd sn)).length c7) (.slice al (wL h bd sn).length cl) (wH h bd sn) (wL h bd sn) := fun WY WF oY oF => by
          have sY := oY.size
          have sF := oF.size
          have rc := ((RowO.mk C7.out OW.out.c.top).only oY (off_l (by omega))).only oF (off_r (by omega))
          have rm := ((RowO.mk M7.out OW.out.m.top).only oY (off_l (by omega))).only oF (off_r (by omega))
          have ro := ((RowO.mk Q7.out OW.out.o.top).only oY (off_l (by omega))).only oF (off_r (by omega))
          have rt := (T7.out.only oY (off_r (by omega))).only oF (off_r (by omega))
          have lt := (L7.out.only oY (off_r (by omega))).only oF (off_r (by omega))
          exact ⟨⟨rc.wide (by omega) (by omega), rm.wide (by omega) (by omega), ro.wide (by omega) (by omega), rt.wide (by omega) (by omega), OW.out.scm, OW.out.sco, rc.sep rt (off_l (by omega)), OW.out.smo, rm.sep rt (off_l (by omega)), ro.sep rt (off_l (by omega))⟩,
            ⟨w4.heap.size, w5.heap.size, by omega, by omega, lt, out_l rc (by omega), out_l rm (by omega), out_l ro (by omega), out_r rt (by omega)⟩, Only.below (Only.below D7.out oY (by omega)) oF (Nat.le_refl _)⟩
        refine ⟨_, _, _, _, _, _, _, _, _, _, rfl, fin ((w7.setCell ⟨w1.heap.size, 3, none⟩ (.slice a7 (diffL (h.ts ++ wF h bd sn)).length c7)).setCell ⟨w1.heap.size, 4, none⟩ (.int .i64 (h.sent + ((wL h bd sn).length : Int)))) _ ?_ ?_⟩
        · exact ((Only.refl w1.heap.size (w1.heap.size + 1) w7).set (Nat.le_refl _) (Nat.lt_succ_self _) _).set (Nat.le_refl _) (Nat.lt_succ_self _) _
        · repeat (first | with_reducible exact Only.refl _ _ _ | with_reducible refine Only.alloc ?_ _ | with_reducible refine Only.set ?_ (by simp only []; omega) (by simp only []; omega) _)
      · have H := Lib.hid (withdraw_3 (h := h) (b := bd) (s := sn) (by omega))
        go_enter Try.func31, Try.ntmps31
        go_wp2_with fail
        refine (l38Copy_any _ _ _ _ h _ ((hr.alloc _).alloc _) hn hB).mono ?_
        rintro e w1 ⟨ac, cc, am, cm, ao, co, at_, ct, rfl, hO, hb1⟩
        have z1 : w.heap.size + 2 ≤ w1.heap.size := by have q := hb1.size; simp at q; omega
        have y0 : w.heap.size < w1.heap.size := by omega
        have y1 : w.heap.size + 1 < w1.heap.size := by omega
        replace hO := hO.wide (lo' := w.heap.size + 2) (by simp) (Nat.le_refl _)
        have b0 : w1.cell? ⟨w.heap.size, 0, none⟩ = some (Value.slice adc h.n capc) := (hb1.cell (p := ⟨w.heap.size, 0, none⟩) (by first | (simp; done) | (simp; omega))).trans (by go_simp)
        have b1 : w1.cell? ⟨w.heap.size, 1, none⟩ = some (Value.slice adm h.ms.length capm) := (hb1.cell (p := ⟨w.heap.size, 1, none⟩) (by first | (simp; done) | (simp; omega))).trans (by go_simp)
        have b2 : w1.cell? ⟨w.heap.size, 2, none⟩ = some (Value.slice ado h.os.length capo) := (hb1.cell (p := ⟨w.heap.size, 2, none⟩) (by first | (simp; done) | (simp; omega))).trans (by go_simp)
        have b3 : w1.cell? ⟨w.heap.size, 3, none⟩ = some (Value.slice adt h.ts.length capt) := (hb1.cell (p := ⟨w.heap.size, 3, none⟩) (by first | (simp; done) | (simp; omega))).trans (by go_simp)
        have b4 : w1.cell? ⟨w.heap.size, 4, none⟩ = some (Value.int .i64 h.sent) := (hb1.cell (p := ⟨w.heap.size, 4, none⟩) (by first | (simp; done) | (simp; omega))).trans (by go_simp)
        have b5 : w1.cell? ⟨w.heap.size, 5, none⟩ = some (Value.int .i64 h.day) := (hb1.cell (p := ⟨w.heap.size, 5, none⟩) (by first | (simp; done) | (simp; omega))).trans (by go_simp)
        have r0 : w1.cell? ⟨w.heap.size + 1, 0, none⟩ = some (Value.slice none 0 0) := (hb1.cell (p := ⟨w.heap.size + 1, 0, none⟩) (by first | (simp; done) | (simp; omega))).trans (by go_simp)
        have r1 : w1.cell? ⟨w.heap.size + 1, 1, none⟩ = some (Value.slice none 0 0) := (hb1.cell (p := ⟨w.heap.size + 1, 1, none⟩) (by first | (simp; done) | (simp; omega))).trans (by go_simp)
        have r2 : w1.cell? ⟨w.heap.size + 1, 2, none⟩ = some (Value.slice none 0 0) := (hb1.cell (p := ⟨w.heap.size + 1, 2, none⟩) (by first | (simp; done) | (simp; omega))).trans (by go_simp)
        have r3 : w1.cell? ⟨w.heap.size + 1, 3, none⟩ = some (Value.slice none 0 0) := (hb1.cell (p := ⟨w.heap.size + 1, 3, none⟩) (by first | (simp; done) | (simp; omega))).trans (by go_simp)
        have r4 : w1.cell? ⟨w.heap.size + 1, 4, none⟩ = some (Value.int .i64 0) := (hb1.cell (p := ⟨w.heap.size + 1, 4, none⟩) (by first | (simp; done) | (simp; omega))).trans (by go_simp)
        have r5 : w1.cell? ⟨w.heap.size + 1, 5, none⟩ = some (Value.int .i64 0) := (hb1.cell (p := ⟨w.heap.size + 1, 5, none⟩) (by first | (simp; done) | (simp; omega))).trans (by go_simp)
        have fr0 : w1.frozen? ⟨w.heap.size + 1, 0, none⟩ = false := (hb1.frozen (p := ⟨w.heap.size + 1, 0, none⟩) (by first | (simp; done) | (simp; omega))).trans (by go_simp)
        have fr1 : w1.frozen? ⟨w.heap.size + 1, 1, none⟩ = false := (hb1.frozen (p := ⟨w.heap.size + 1, 1, none⟩) (by first | (simp; done) | (simp; omega))).trans (by go_simp)
        have fr2 : w1.frozen? ⟨w.heap.size + 1, 2, none⟩ = false := (hb1.frozen (p := ⟨w.heap.size + 1, 2, none⟩) (by first | (simp; done) | (simp; omega))).trans (by go_simp)
        have fr3 : w1.frozen? ⟨w.heap.size + 1, 3, none⟩ = false := (hb1.frozen (p := ⟨w.heap.size + 1, 3, none⟩) (by first | (simp; done) | (simp; omega))).trans (by go_simp)
        have fr4 : w1.frozen? ⟨w.heap.size + 1, 4, none⟩ = false := (hb1.frozen (p := ⟨w.heap.size + 1, 4, none⟩) (by first | (simp; done) | (simp; omega))).trans (by go_simp)
        have fr5 : w1.frozen? ⟨w.heap.size + 1, 5, none⟩ = false := (hb1.frozen (p := ⟨w.heap.size + 1, 5, none⟩) (by first | (simp; done) | (simp; omega))).trans (by go_simp)
        have MK : Hid (∀ W : World, Below (((w1.alloc (.cells #[.slice ac h.n cc, .slice am h.ms.length cm, .slice ao h.os.length co, .slice at_ h.ts.length ct, .int .i64 h.sent, .int .i64 h.day] 27)).alloc (.cells #[] 76))).heap.size ((w1.alloc (.cells #[.slice ac h.n cc, .slice am h.ms.length cm, .slice ao h.os.length co, .slice at_ h.ts.length ct, .int .i64 h.sent, .int .i64 h.day] 27)).alloc (.cells #[] 76)) W → (W.cell? ⟨w.heap.size, 0, none⟩ = some (Value.slice adc h.n capc) ∧ W.cell? ⟨w.heap.size, 1, none⟩ = some (Value.slice adm h.ms.length capm) ∧ W.cell? ⟨w.heap.size, 2, none⟩ = some (Value.slice ado h.os.length capo) ∧ W.cell? ⟨w.heap.size, 3, none⟩ = some (Value.slice adt h.ts.length capt) ∧ W.cell? ⟨w.heap.size, 4, none⟩ = some (Value.int .i64 h.sent) ∧ W.cell? ⟨w.heap.size, 5, none⟩ = some (Value.int .i64 h.day)) ∧ (W.cell? ⟨w.heap.size + 1, 0, none⟩ = some (Value.slice none 0 0) ∧ W.cell? ⟨w.heap.size + 1, 1, none⟩ = some (Value.slice none 0 0) ∧ W.cell? ⟨w.heap.size + 1, 2, none⟩ = some (Value.slice none 0 0) ∧ W.cell? ⟨w.heap.size + 1, 3, none⟩ = some (Value.slice none 0 0) ∧ W.cell? ⟨w.heap.size + 1, 4, none⟩ = some (Value.int .i64 0) ∧ W.cell? ⟨w.heap.size + 1, 5, none⟩ = some (Value.int .i64 0)) ∧ (W.frozen? ⟨w.heap.size + 1, 0, none⟩ = false ∧ W.frozen? ⟨w.heap.size + 1, 1, none⟩ = false ∧ W.frozen? ⟨w.heap.size + 1, 2, none⟩ = false ∧ W.frozen? ⟨w.heap.size + 1, 3, none⟩ = false ∧ W.frozen? ⟨w.heap.size + 1, 4, none⟩ = false ∧ W.frozen? ⟨w.heap.size + 1, 5, none⟩ = false) ∧ (W.cell? ⟨w1.heap.size, 0, none⟩ = some (Value.slice ac h.n cc) ∧ W.cell? ⟨w1.heap.size, 1, none⟩ = some (Value.slice am h.ms.length cm) ∧ W.cell? ⟨w1.heap.size, 2, none⟩ = some (Value.slice ao h.os.length co) ∧ W.cell? ⟨w1.heap.size, 3, none⟩ = some (Value.slice at_ h.ts.length ct) ∧ W.cell? ⟨w1.heap.size, 4, none⟩ = some (Value.int .i64 h.sent) ∧ W.cell? ⟨w1.heap.size, 5, none⟩ = some (Value.int .i64 h.day)) ∧ (W.frozen? ⟨w1.heap.size, 0, none⟩ = false ∧ W.frozen? ⟨w1.heap.size, 1, none⟩ = false ∧ W.frozen? ⟨w1.heap.size, 2, none⟩ = false ∧ W.frozen? ⟨w1.heap.size, 3, none⟩ = false ∧ W.frozen? ⟨w1.heap.size, 4, none⟩ = false ∧ W.frozen? ⟨w1.heap.size, 5, none⟩ = false)) := fun W hb => ⟨⟨(hb.cell (p := ⟨w.heap.size, 0, none⟩) (by first | (simp; done) | (simp; omega))).trans (by go_simp), (hb.cell (p := ⟨w.heap.size, 1, none⟩) (by first | (simp; done) | (simp; omega))).trans (by go_simp), (hb.cell (p := ⟨w.heap.size, 2, none⟩) (by first | (simp; done) | (simp; omega))).trans (by go_simp), (hb.cell (p := ⟨w.heap.size, 3, none⟩) (by first | (simp; done) | (simp; omega))).trans (by go_simp), (hb.cell (p := ⟨w.heap.size, 4, none⟩) (by first | (simp; done) | (simp; omega))).trans (by go_simp), (hb.cell (p := ⟨w.heap.size, 5, none⟩) (by first | (simp; done) | (simp; omega))).trans (by go_simp)⟩, ⟨(hb.cell (p := ⟨w.heap.size + 1, 0, none⟩) (by first | (simp; done) | (simp; omega))).trans (by go_simp), (hb.cell (p := ⟨w.heap.size + 1, 1, none⟩) (by first | (simp; done) | (simp; omega))).trans (by go_simp), (hb.cell (p := ⟨w.heap.size + 1, 2, none⟩) (by first | (simp; done) | (simp; omega))).trans (by go_simp), (hb.cell (p := ⟨w.heap.size + 1, 3, none⟩) (by first | (simp; done) | (simp; omega))).trans (by go_simp), (hb.cell (p := ⟨w.heap.size + 1, 4, none⟩) (by first | (simp; done) | (simp; omega))).trans (by go_simp), (hb.cell (p := ⟨w.heap.size + 1, 5, none⟩) (by first | (simp; done) | (simp; omega))).trans (by go_simp)⟩, ⟨(hb.frozen (p := ⟨w.heap.size + 1, 0, none⟩) (by first | (simp; done) | (simp; omega))).trans (by go_simp), (hb.frozen (p := ⟨w.heap.size + 1, 1, none⟩) (by first | (simp; done) | (simp; omega))).trans (by go_simp), (hb.frozen (p := ⟨w.heap.size + 1, 2, none⟩) (by first | (simp; done) | (simp; omega))).trans (by go_simp), (hb.frozen (p := ⟨w.heap.size + 1, 3, none⟩) (by first | (simp; done) | (simp; omega))).trans (by go_simp), (hb.frozen (p := ⟨w.heap.size + 1, 4, none⟩) (by first | (simp; done) | (simp; omega))).trans (by go_simp), (hb.frozen (p := ⟨w.heap.size + 1, 5, none⟩) (by first | (simp; done) | (simp; omega))).trans (by go_simp)⟩, ⟨(hb.cell (p := ⟨w1.heap.size, 0, none⟩) (by first | (simp; done) | (simp; omega))).trans (by go_simp), (hb.cell (p := ⟨w1.heap.size, 1, none⟩) (by first | (simp; done) | (simp; omega))).trans (by go_simp), (hb.cell (p := ⟨w1.heap.size, 2, none⟩) (by first | (simp; done) | (simp; omega))).trans (by go_simp), (hb.cell (p := ⟨w1.heap.size, 3, none⟩) (by first | (simp; done) | (simp; omega))).trans (by go_simp), (hb.cell (p := ⟨w1.heap.size, 4, none⟩) (by first | (simp; done) | (simp; omega))).trans (by go_simp), (hb.cell (p := ⟨w1.heap.size, 5, none⟩) (by first | (simp; done) | (simp; omega))).trans (by go_simp)⟩, ⟨(hb.frozen (p := ⟨w1.heap.size, 0, none⟩) (by first | (simp; done) | (simp; omega))).trans (by go_simp), (hb.frozen (p := ⟨w1.heap.size, 1, none⟩) (by first | (simp; done) | (simp; omega))).trans (by go_simp), (hb.frozen (p := ⟨w1.heap.size, 2, none⟩) (by first | (simp; done) | (simp; omega))).trans (by go_simp), (hb.frozen (p := ⟨w1.heap.size, 3, none⟩) (by first | (simp; done) | (simp; omega))).trans (by go_simp), (hb.frozen (p := ⟨w1.heap.size, 4, none⟩) (by first | (simp; done) | (simp; omega))).trans (by go_simp), (hb.frozen (p := ⟨w1.heap.size, 5, none⟩) (by first | (simp; done) | (simp; omega))).trans (by go_simp)⟩⟩
        have D1 := Lib.hid (bnext (balloc (balloc (bref w) _) _) hb1)
        have OH := Lib.hid hO
        have EL0 : LetO (w1.heap.size + 1) (w1.heap.size + 2) ((w1.alloc (.cells #[.slice ac h.n cc, .slice am h.ms.length cm, .slice ao h.os.length co, .slice at_ h.ts.length ct, .int .i64 h.sent, .int .i64 h.day] 27)).alloc (.cells #[] 76)) (.slice (some ⟨w1.heap.size + 1, 0, none⟩) 0 0) [] := by have q := let_lit (w1.alloc (.cells #[.slice ac h.n cc, .slice am h.ms.length cm, .slice ao h.os.length co, .slice at_ h.ts.length ct, .int .i64 h.sent, .int .i64 h.day] 27)); simpa using q
        have EL := Lib.hid EL0
        clear EL0
        clear hb1 hO 
        go_wp2_with fail
        refine (specHouseOk _ _ _ _ h _ ((hr.below D1.out).below (balloc (balloc (bref w1) _) _))).mono ?_
        rintro e w2 ⟨rfl, hb2⟩
        rw [h1]
        have z2 : w1.heap.size + 2 ≤ w2.heap.size := by have q := hb2.size; simp at q; omega
        have B2 := Lib.hid hb2
        clear hb2 b0 b1 b2 b3 b4 b5 r0 r1 r2 r3 r4 r5 fr0 fr1 fr2 fr3 fr4 fr5
        obtain ⟨b0, b1, b2, b3, b4, b5⟩ := (MK.out _ B2.out).1
        have HR := Lib.hid (hr.below D1.out)
        have R2 := Lib.hid (HR.out.below (bnext (balloc (balloc (bref w1) _) _) B2.out))
        go_wp2_with fail
        refine (specAffectedBy _ h.n h.xs _ h.ms bd sn _ R2.out.c R2.out.m).mono ?_
        rintro e w3 ⟨va, rfl, hoa, hb3⟩
        replace hoa : w3.ownsRow w2.heap.size 3 1 va (wA h bd sn).length ((wA h bd sn).map (Value.int .i64)) := hoa
        have z3 : w2.heap.size ≤ w3.heap.size := hb3.size
        have B3 := Lib.hid (bnext B2.out hb3)
        have R3 := Lib.hid (HR.out.below (bnext (balloc (balloc (bref w1) _) _) B3.out))
        clear b0 b1 b2 b3 b4 b5 hb3
        obtain ⟨aa, ca, rfl⟩ := own_form hoa
        have la := wA_len h bd sn
        have IA := Lib.hid (own_ints hoa (by omega))
        have NA := nilOk_own hoa
        clear hoa
        obtain ⟨b0, b1, b2, b3, b4, b5⟩ := (MK.out _ B3.out).1
        go_wp2_with fail
        refine (specNewOnesV _ h.ts _ (wA h bd sn) _ R3.out.t IA.out NA (by omega)).mono ?_
        rintro e w4 ⟨vf, rfl, hof, hb4⟩
        obtain ⟨af, cf, rfl⟩ := own_form hof
        replace hof : w4.ownsRow w3.heap.size 3 1 (.slice af (wF h bd sn).length cf) (wF h bd sn).length ((wF h bd sn).map (Value.int .i64)) := hof
        have z4 : w3.heap.size ≤ w4.heap.size := hb4.size
        have B4 := Lib.hid (bnext B3.out hb4)
        have R4 := Lib.hid (HR.out.below (bnext (balloc (balloc (bref w1) _) _) B4.out))
        have lf := wF_len h bd sn
        have IF := Lib.hid (own_ints hof (by omega))
        have NF := nilOk_own hof
        clear b0 b1 b2 b3 b4 b5 hb4 hof NA
        obtain ⟨b0, b1, b2, b3, b4, b5⟩ := (MK.out _ B4.out).1
        go_wp2_with fail
        refine (specLettersFor _ h.n h.xs _ h.os _ (wF h bd sn) _ R4.out.c R4.out.o IF.out).mono ?_
        rintro e w5 ⟨al, cl, rfl, hol, hb5⟩
        have LB := (wL_b h bd sn).n
        replace hol : LetO w4.heap.size w5.heap.size w5 (.slice al (wL h bd sn).length cl) (wL h bd sn) := hol
        have HL := Lib.hid hol
        have IF5 := Lib.hid (IF.out.below hb5)
        have z5 : w4.heap.size ≤ w5.heap.size := hb5.size
        have B5 := Lib.hid (bnext B4.out hb5)
        have R5 := Lib.hid (HR.out.below (bnext (balloc (balloc (bref w1) _) _) B5.out))
        have ts := (houseOk_facts h1).sent
        obtain ⟨ts0, ts1⟩ := ts
        have hll : lettersFor h.n h.xs h.os (wF h bd sn) = wL h bd sn := rfl
        have haa : affected h.n h.xs h.ms bd sn = wA h bd sn := rfl
        simp only [hll]
        clear b0 b1 b2 b3 b4 b5 hb5 hol hll haa
        obtain ⟨⟨b0, b1, b2, b3, b4, b5⟩, ⟨r0, r1, r2, r3, r4, r5⟩, ⟨fr0, fr1, fr2, fr3, fr4, fr5⟩, ⟨x0, x1, x2, x3, x4, x5⟩, ⟨fx0, fx1, fx2, fx3, fx4, fx5⟩⟩ := MK.out _ B5.out
        have OW := Lib.hid (OH.out.below (bnext (balloc (balloc (bref w1) _) _) B5.out))
        have DW := Lib.hid (bnext D1.out (bnext (balloc (balloc (bref w1) _) _) B5.out))
        go_wp2
        refine bodyPost_ret (v := .tuple #[.agg #[.slice ac h.n cc, .slice am h.ms.length cm, .slice ao h.os.length co, .slice at_ h.ts.length ct, .int .i64 h.sent, .int .i64 h.day], .slice (some ⟨w1.heap.size + 1, 0, none⟩) 0 0, .bool false]) (by simp [results, Try.results31, go_sem, r0, r1, r2, r3, r4, r5]) rfl ?_
        rw [H.out]
        have fin : ∀ WF : World, Only w.heap.size (w.heap.size + 2) w5 WF → WithO w WF (.slice ac h.n cc) (.slice am h.ms.length cm) (.slice ao h.os.length co) (.slice at_ h.ts.length ct) (.slice (some ⟨w1.heap.size + 1, 0, none⟩) 0 0) h [] := fun WF oF => by
          have sF := oF.size
          have oh := OW.out.only oF (off_r (by omega))
          have rc := oh.c
          have rm := oh.m
          have ro := oh.o
          have rt := oh.t
          exact ⟨oh.wide (by omega) (by omega), ⟨w1.heap.size + 1, w1.heap.size + 2, by omega, by omega, (EL.out.below B5.out).only oF (off_r (by omega)), out_l rc (by omega), out_l rm (by omega), out_l ro (by omega), out_l rt (by omega)⟩, Only.below DW.out oF (Nat.le_refl _)⟩
        refine ⟨_, _, _, _, _, _, _, _, _, _, rfl, fin _ ?_⟩
        repeat (first | with_reducible exact Only.refl _ _ _ | with_reducible refine Only.alloc ?_ _ | with_reducible refine Only.set ?_ (by simp only []; omega) (by simp only []; omega) _)
end Go.Proofs.Ytlipfkalehikkaa
