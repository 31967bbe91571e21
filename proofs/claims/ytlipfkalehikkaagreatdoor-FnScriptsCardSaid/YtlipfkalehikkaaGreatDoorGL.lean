/- Texts laid together: MarkW, RunS, RunActsI, RunActsS, MarkI, IsReplay, ReplayV. -/
import Derived.Deep.RegionWith
import Derived.Deep.DeepCutAuto
import Derived.Test.YtlipfkalehikkaaGreatDoorGI
import Derived.Test.YtlipfkalehikkaaGreatDoorGC
import Derived.Test.YtlipfkalehikkaaGreatDoorGK
import Derived.Test.YtlipfkalehikkaaGreatDoorGJ
import Derived.Test.YtlipfkalehikkaaGreatDoorDrawHouse
import Derived.Test.YtlipfkalehikkaaGreatDoorDoActI
import Derived.Test.YtlipfkalehikkaaGreatDoorDoActS
import Derived.Test.YtlipfkalehikkaaGreatDoorGB
/- The marks of a house and of letters that one call made. -/
namespace Go.Proofs.YtlipfkalehikkaaGreatDoor
open Go.ChangeShapes Go.WideShapes Go.ChangeAt Go.RowKit

/-- the blocks of [p, q) are as they were -/
def Keep (p q : Nat) (w w' : World) : Prop := ∀ b, b < w.heap.size → p ≤ b → b < q → w'.heap[b]? = w.heap[b]?
theorem Keep.of_below {p q : Nat} {w w' : World} (h : Below w.heap.size w w') : Keep p q w w' := fun b hb _ _ => h.block b hb
theorem Keep.of_grown {p q : Nat} {w w' : World} {v : Value} (h : w.grownBy w' v.ownBlock) (u : Out p q v) : Keep p q w w' := fun b hb h1 h2 => h.block b hb fun e => by have := u b e.symm; omega
theorem Keep.trans {p q : Nat} {a b c : World} (h : Keep p q a b) (hs : a.heap.size ≤ b.heap.size) (k : Keep p q b c) : Keep p q a c := fun i hi h1 h2 => (k i (Nat.lt_of_lt_of_le hi hs) h1 h2).trans (h i hi h1 h2)
theorem own_keep {p q : Nat} {w w' : World} {B : Nat} {e : TypeId} {s : Nat} {v : Value} {n : Nat} {xs : List Value} (h : w.ownsRow B e s v n xs) (hk : Keep p q w w') (hs : ∀ b, v.ownBlock = some b → p ≤ b ∧ b < q) : w'.ownsRow B e s v n xs := by
  refine ⟨h.1, ?_⟩
  rcases h.2 with hn | ⟨g, cap, cur, rfl, hb, hgg, rest⟩
  · exact .inl hn
  · refine .inr ⟨g, cap, cur, rfl, hb, ?_, rest⟩
    rw [hk g (Array.getElem?_eq_some_iff.1 hgg).1 (hs g rfl).1 (hs g rfl).2]
    exact hgg
theorem LetO.keep {p q : Nat} {w w' : World} {v : Value} {ls : List (Int × List Int)} (h : LetO p q w v ls) (hk : Keep p q w w') : LetO p q w' v ls := by
  obtain ⟨vs, h⟩ := h
  exact ⟨vs, h.len, own_keep h.row hk (fun b hb => ⟨(h.row.lt b hb).1, h.top b hb⟩), h.top, fun i hi => ⟨own_keep (h.each i hi).own hk (h.each i hi).at, (h.each i hi).top⟩, h.sepv, h.seps⟩
theorem RowO.out {p q lo hi : Nat} {w w' : World} {e : TypeId} {m : Nat} {v : Value} {n : Nat} {xs : List Int} (h : RowO lo hi w e m v n xs) (ho : Only p q w w') (u : Out p q v) : RowO lo hi w' e m v n xs :=
  ⟨own_only h.own ho fun b hb => by have := u b hb; omega, h.top⟩
theorem HouseO.out {p q lo hi : Nat} {w w' : World} {vc vm vo vt : Value} {h : HD} (r : HouseO lo hi w vc vm vo vt h) (ho : Only p q w w') (uc : Out p q vc) (um : Out p q vm) (uo : Out p q vo) (ut : Out p q vt) : HouseO lo hi w' vc vm vo vt h :=
  ⟨r.c.out ho uc, r.m.out ho um, r.o.out ho uo, r.t.out ho ut, r.scm, r.sco, r.sct, r.smo, r.smt, r.sot⟩
end Go.Proofs.YtlipfkalehikkaaGreatDoor

/- The state of a run of acts: the house in its box, the numbers in a row that grows. -/
namespace Go.Proofs.YtlipfkalehikkaaGreatDoor
open Go.ChangeShapes Go.WideShapes Go.ChangeAt Go.RowKit

structure RunS (w : World) (X R : Nat) (wr : World) (vc vm vo vt v : Value) (h : HD) (L : List Int) : Prop where
  wr_ : w.heap.size ≤ R
  rx : R < X
  box : BoxH X (R + 1) wr vc vm vo vt h
  res : Six R wr (.slice none 0 0) (.slice none 0 0) (.slice none 0 0) (.slice none 0 0) (.int .i64 0) (.int .i64 0)
  row : wr.ownsRow (R + 1) 3 1 v L.length (L.map (Value.int .i64))
  vx : v.ownBlock ≠ some X
  sc : Sep v vc
  sm : Sep v vm
  so : Sep v vo
  st : Sep v vt
  below : Below w.heap.size w wr
theorem RunS.go {w : World} {X R : Nat} {wr w' : World} {vc vm vo vt v : Value} {h : HD} {L : List Int} (s : RunS w X R wr vc vm vo vt v h L) (hb : Below wr.heap.size wr w') : RunS w X R w' vc vm vo vt v h L :=
  ⟨s.wr_, s.rx, s.box.below hb, s.res.below hb, own_below s.row hb, s.vx, s.sc, s.sm, s.so, s.st, bnext s.below hb⟩
theorem RunS.step {w : World} {X R : Nat} {wr w2 : World} {vc vm vo vt v vc' vm' vo' vt' : Value} {h h' : HD} {L : List Int} (s : RunS w X R wr vc vm vo vt v h L) (hb : Below wr.heap.size wr w2) {lo hi : Nat} (hO : HouseO lo hi w2 vc' vm' vo' vt' h') (hl : wr.heap.size ≤ lo) (hh : hi ≤ w2.heap.size) :
    RunS w X R (put6 w2 X vc' vm' vo' vt' (.int .i64 h'.sent) (.int .i64 h'.day)) vc' vm' vo' vt' v h' L := by
  have oX := only_put6 w2 X vc' vm' vo' vt' (.int .i64 h'.sent) (.int .i64 h'.day)
  have ly := s.box.six.lt
  have hr := s.rx
  have hw := s.wr_
  have far : ∀ {u : Value} {e : TypeId} {m n : Nat} {xs : List Int}, RowO lo hi w2 e m u n xs → Sep v u := fun r b hb hu => by
    have a := (s.row.lt b hb).2
    have c := (r.at b hu).1
    omega
  exact ⟨s.wr_, s.rx, s.box.new hb hO (by omega) (by omega) hh, (s.res.below hb).only oX (by omega), own_only (own_below s.row hb) oX (fun b e z => by
    have : b = X := by omega
    subst this; exact s.vx e), s.vx, far hO.c, far hO.m, far hO.o, far hO.t, Only.below (bnext s.below hb) oX (by omega)⟩
theorem RunS.app {w : World} {X R : Nat} {wr w2 : World} {vc vm vo vt v v' : Value} {h : HD} {L : List Int} {x : Int} {ob : Obj} (s : RunS w X R wr vc vm vo vt v h L) (hown : w2.ownsRow (R + 1) 3 1 v' (L.length + 1) (L.map (Value.int .i64) ++ [.int .i64 x])) (hg : (wr.alloc ob).grownBy w2 v.ownBlock) (hat : v'.ownBlock = v.ownBlock ∨ v'.ownBlock = some (wr.alloc ob).heap.size) :
    RunS w X R w2 vc vm vo vt v' h (L ++ [x]) := by
  have s2 := s.go (balloc (bref wr) ob)
  have lX := s2.box.six.lt
  have lR := s2.res.lt
  have hr := s.rx
  have hw := s.wr_
  have nX : X ≠ (wr.alloc ob).heap.size := by omega
  have hvR : v.ownBlock ≠ some R := fun e => by have := (s.row.lt R e).1; omega
  have hO := s2.box.house
  refine ⟨s.wr_, s.rx, ⟨s2.box.six.same (hg.block X lX fun e => s.vx e.symm), ⟨hO.c.beside hg s.sc (Nat.le_refl _), hO.m.beside hg s.sm (Nat.le_refl _), hO.o.beside hg s.so (Nat.le_refl _), hO.t.beside hg s.st (Nat.le_refl _), hO.scm, hO.sco, hO.sct, hO.smo, hO.smt, hO.sot⟩, s.box.nc, s.box.nm, s.box.no, s.box.nt⟩, s2.res.same (hg.block R lR fun e => hvR e.symm), by simpa using hown, not_app s.vx (fun e => nX e.symm) hat, ?_, ?_, ?_, ?_, ?_⟩
  · exact sep_app s.sc (hO.c.far (Nat.le_refl _)) hat
  · exact sep_app s.sm (hO.m.far (Nat.le_refl _)) hat
  · exact sep_app s.so (hO.o.far (Nat.le_refl _)) hat
  · exact sep_app s.st (hO.t.far (Nat.le_refl _)) hat
  · exact s2.below.grown hg s2.below.size (fun b hb => by have := (s.row.lt b hb).1; omega)
/-- a house and numbers that one call made; the numbers in an interval of their own -/
structure WithI (w w' : World) (vc vm vo vt vl : Value) (h : HD) (L : List Int) : Prop where
  house : HouseO w.heap.size w'.heap.size w' vc vm vo vt h
  nums : ∃ p q, w.heap.size ≤ p ∧ q ≤ w'.heap.size ∧ RowO p q w' 3 1 vl L.length L ∧ Out p q vc ∧ Out p q vm ∧ Out p q vo ∧ Out p q vt
  below : Below w.heap.size w w'
theorem out_sep {g : Nat} {v u : Value} (hv : v.ownBlock = some g) (h : Sep v u) : Out g (g + 1) u := fun b hb => by
  have : b ≠ g := fun e => h g hv (e ▸ hb)
  omega
theorem RunS.done {w : World} {X R : Nat} {wr WF : World} {vc vm vo vt v : Value} {h : HD} {L : List Int} (s : RunS w X R wr vc vm vo vt v h L) (ho : Only w.heap.size (R + 1) wr WF) : WithI w WF vc vm vo vt v h L := by
  have hw := s.wr_
  have sz := ho.size
  have row := own_only s.row ho (fun b e z => by have := (s.row.lt b e).1; omega)
  refine ⟨(s.box.house.only ho (off_r (Nat.le_refl _))).wide (by omega) sz, ?_, Only.below s.below ho (Nat.le_refl _)⟩
  rcases row.2 with ⟨rfl, h0⟩ | ⟨g, cap, cur, rfl, hg, rest⟩
  · exact ⟨w.heap.size, w.heap.size, Nat.le_refl _, Nat.le_trans s.below.size sz, ⟨⟨row.1, .inl ⟨rfl, h0⟩⟩, fun b hb => by cases hb⟩, fun b _ => by omega, fun b _ => by omega, fun b _ => by omega, fun b _ => by omega⟩
  · exact ⟨g, g + 1, by omega, (row.lt g rfl).2, ⟨⟨row.1, .inr ⟨g, cap, cur, rfl, Nat.le_refl _, rest⟩⟩, fun b hb => by cases hb; exact Nat.lt_succ_self _⟩, out_sep rfl s.sc, out_sep rfl s.sm, out_sep rfl s.so, out_sep rfl s.st⟩
theorem RunS.first {w W w1 : World} {vc vm vo vt : Value} {h : HD} (hW : W.heap.size = w.heap.size + 2) (bW : Below w.heap.size w W) (hb : Below W.heap.size W w1) (hR : Six (w.heap.size + 1) W (.slice none 0 0) (.slice none 0 0) (.slice none 0 0) (.slice none 0 0) (.int .i64 0) (.int .i64 0)) (hO : HouseO W.heap.size w1.heap.size w1 vc vm vo vt h) :
    RunS w w1.heap.size (w.heap.size + 1) (w1.alloc (.cells #[vc, vm, vo, vt, .int .i64 h.sent, .int .i64 h.day] 27)) vc vm vo vt (.slice none 0 0) h [] := by
  have z := hb.size
  have sep : ∀ u : Value, Sep (.slice none 0 0) u := fun u b e => by cases e
  exact ⟨by omega, by omega, BoxH.first (hO.wide (by omega) (Nat.le_refl _)) (Nat.le_refl _), (hR.below hb).below (balloc (bref w1) _), World.ownsRow_nil _ _ _ _, by simp [Value.ownBlock], sep _, sep _, sep _, sep _, balloc (bnext bW hb) _⟩
theorem RunS.lit {w : World} {X R : Nat} {wr : World} {vc vm vo vt : Value} {h : HD} (s : RunS w X R wr vc vm vo vt (.slice none 0 0) h []) : RunS w X R (wr.alloc (.cells #[] 3)) vc vm vo vt (.slice (some ⟨wr.heap.size, 0, none⟩) 0 0) h [] := by
  have s2 := s.go (balloc (bref wr) (.cells #[] 3))
  have lX := s.box.six.lt
  have lR := s.res.lt
  have hO := s.box.house
  have far : ∀ {u : Value} {e : TypeId} {m n : Nat} {xs : List Int}, RowO (R + 1) wr.heap.size wr e m u n xs → Sep (.slice (some ⟨wr.heap.size, 0, none⟩) 0 0) u := fun r b hb hu => by
    have hb' : wr.heap.size = b := by simpa [Value.ownBlock] using hb
    have := r.top _ hu
    omega
  have vx : (Value.slice (some ⟨wr.heap.size, 0, none⟩) 0 0).ownBlock ≠ some X := fun e => by
    have e' : wr.heap.size = X := by simpa [Value.ownBlock] using e
    omega
  exact ⟨s.wr_, s.rx, s2.box, s2.res, World.ownsRow_lit (e := 3) (size := 1) wr #[] 0 (by omega) (by decide) rfl, vx, far hO.c, far hO.m, far hO.o, far hO.t, s2.below⟩
end Go.Proofs.YtlipfkalehikkaaGreatDoor

/- The walk of RunActs, in the program. -/
namespace Go.Proofs.YtlipfkalehikkaaGreatDoor
open Go.ChangeShapes Go.WideShapes Go.ChangeAt Go.RowKit

set_option maxRecDepth 100000 in
set_option maxHeartbeats 8000000 in
theorem implRunActs (vc vm vo vt va : Value) (h : HD) (n : Nat) (xs : List Int) (w : World) (hr : HouseR w vc vm vo vt h) (ha : Recs 5 w va n xs) (hn : HouseN vc vm vo vt) (hB : HouseB h 1048576) : Calls Tryz.prog 9 #[.agg #[vc, vm, vo, vt, .int .i64 h.sent, .int .i64 h.day], va] w (fun e w' => ∃ ac cc am cm ao co at_ ct al cl, e = .returned (.tuple #[.agg #[.slice ac ((runActs h n xs).1).n cc, .slice am ((runActs h n xs).1).ms.length cm, .slice ao ((runActs h n xs).1).os.length co, .slice at_ ((runActs h n xs).1).ts.length ct, .int .i64 ((runActs h n xs).1).sent, .int .i64 ((runActs h n xs).1).day], .slice al ((runActs h n xs).2).length cl]) ∧ WithI w w' (.slice ac ((runActs h n xs).1).n cc) (.slice am ((runActs h n xs).1).ms.length cm) (.slice ao ((runActs h n xs).1).os.length co) (.slice at_ ((runActs h n xs).1).ts.length ct) (.slice al ((runActs h n xs).2).length cl) ((runActs h n xs).1) ((runActs h n xs).2)) := by
  obtain ⟨i0, hi, hz0, hz1, hz2⟩ := info_parts Tryz.infoInt
  obtain ⟨adc, capc, rfl⟩ : ∃ ad cap, vc = .slice ad h.n cap := by obtain ⟨_, _, ad, cap, hh, _⟩ := hr.c; exact ⟨ad, cap, hh⟩
  obtain ⟨adm, capm, rfl⟩ : ∃ ad cap, vm = .slice ad h.ms.length cap := by obtain ⟨_, ad, cap, hh, _⟩ := hr.m; exact ⟨ad, cap, hh⟩
  obtain ⟨ado, capo, rfl⟩ : ∃ ad cap, vo = .slice ad h.os.length cap := by obtain ⟨_, ad, cap, hh, _⟩ := hr.o; exact ⟨ad, cap, hh⟩
  obtain ⟨adt, capt, rfl⟩ : ∃ ad cap, vt = .slice ad h.ts.length cap := by obtain ⟨_, ad, cap, hh, _⟩ := hr.t; exact ⟨ad, cap, hh⟩
  obtain ⟨ada, capa, rfl⟩ : ∃ ad cap, va = .slice ad n cap := by obtain ⟨_, _, ad, cap, hh, _⟩ := ha; exact ⟨ad, cap, hh⟩
  have HX := Lib.hid ha.eq
  have hl := ha.len
  cases h1 : houseOk h with
  | false =>
    have H := Lib.hid (runActs_no (h := h) (n := n) (xs := xs) (by simp [h1]))
    have SR := Lib.hid (show Six (w.heap.size + 1) ((w.alloc (.cells #[.slice adc h.n capc, .slice adm h.ms.length capm, .slice ado h.os.length capo, .slice adt h.ts.length capt, .int .i64 h.sent, .int .i64 h.day] 27)).alloc (.cells #[.slice none 0 0, .slice none 0 0, .slice none 0 0, .slice none 0 0, .int .i64 0, .int .i64 0] 27)) (.slice none 0 0) (.slice none 0 0) (.slice none 0 0) (.slice none 0 0) (.int .i64 0) (.int .i64 0) from ⟨by go_simp, by go_simp, by go_simp, by go_simp, by go_simp, by go_simp, by go_simp, by go_simp, by go_simp, by go_simp, by go_simp, by go_simp⟩)
    have BI := Lib.hid (show Below w.heap.size w ((w.alloc (.cells #[.slice adc h.n capc, .slice adm h.ms.length capm, .slice ado h.os.length capo, .slice adt h.ts.length capt, .int .i64 h.sent, .int .i64 h.day] 27)).alloc (.cells #[.slice none 0 0, .slice none 0 0, .slice none 0 0, .slice none 0 0, .int .i64 0, .int .i64 0] 27)) from balloc (balloc (bref w) _) _)
    have KB : Hid (∀ W : World, Below ((w.alloc (.cells #[.slice adc h.n capc, .slice adm h.ms.length capm, .slice ado h.os.length capo, .slice adt h.ts.length capt, .int .i64 h.sent, .int .i64 h.day] 27)).alloc (.cells #[.slice none 0 0, .slice none 0 0, .slice none 0 0, .slice none 0 0, .int .i64 0, .int .i64 0] 27)).heap.size ((w.alloc (.cells #[.slice adc h.n capc, .slice adm h.ms.length capm, .slice ado h.os.length capo, .slice adt h.ts.length capt, .int .i64 h.sent, .int .i64 h.day] 27)).alloc (.cells #[.slice none 0 0, .slice none 0 0, .slice none 0 0, .slice none 0 0, .int .i64 0, .int .i64 0] 27)) W → W.cell? ⟨w.heap.size, 0, none⟩ = some (Value.slice adc h.n capc) ∧ W.cell? ⟨w.heap.size, 1, none⟩ = some (Value.slice adm h.ms.length capm) ∧ W.cell? ⟨w.heap.size, 2, none⟩ = some (Value.slice ado h.os.length capo) ∧ W.cell? ⟨w.heap.size, 3, none⟩ = some (Value.slice adt h.ts.length capt) ∧ W.cell? ⟨w.heap.size, 4, none⟩ = some (Value.int .i64 h.sent) ∧ W.cell? ⟨w.heap.size, 5, none⟩ = some (Value.int .i64 h.day)) := fun W hb => ⟨(hb.cell (p := ⟨w.heap.size, 0, none⟩) (by first | (simp; done) | (simp; omega))).trans (by go_simp), (hb.cell (p := ⟨w.heap.size, 1, none⟩) (by first | (simp; done) | (simp; omega))).trans (by go_simp), (hb.cell (p := ⟨w.heap.size, 2, none⟩) (by first | (simp; done) | (simp; omega))).trans (by go_simp), (hb.cell (p := ⟨w.heap.size, 3, none⟩) (by first | (simp; done) | (simp; omega))).trans (by go_simp), (hb.cell (p := ⟨w.heap.size, 4, none⟩) (by first | (simp; done) | (simp; omega))).trans (by go_simp), (hb.cell (p := ⟨w.heap.size, 5, none⟩) (by first | (simp; done) | (simp; omega))).trans (by go_simp)⟩
    go_enter Tryz.func9, Tryz.ntmps9
    go_wp2_with fail
    refine (copyHouse_any _ _ _ _ h _ (hr.below BI.out) hn hB).mono ?_
    rintro e w1 ⟨ac1, cc1, am1, cm1, ao1, co1, at1, ct1, rfl, hO, hb1⟩
    have z1 : w.heap.size + 2 ≤ w1.heap.size := by have q := hb1.size; simp at q; omega
    have S1 := Lib.hid (RunS.first (w := w) (by simp) BI.out hb1 SR.out hO)
    obtain ⟨b0, b1, b2, b3, b4, b5⟩ := KB.out _ hb1
    have yb : w.heap.size < w1.heap.size := by omega
    have yr : w.heap.size + 1 < w1.heap.size := by omega
    have B1 := Lib.hid (balloc hb1 (.cells #[.slice ac1 (h).n cc1, .slice am1 (h).ms.length cm1, .slice ao1 (h).os.length co1, .slice at1 (h).ts.length ct1, .int .i64 (h).sent, .int .i64 (h).day] 27))
    clear hb1 hO SR BI
    go_wp2_with fail
    refine (implHouseOk _ _ _ _ h _ (hr.below S1.out.below)).mono ?_
    rw [h1]
    rintro e w2 ⟨rfl, hb2⟩
    have S2 := Lib.hid (S1.out.go hb2)
    have B2 := Lib.hid (bnext B1.out hb2)
    have yx : w1.heap.size < w2.heap.size := S2.out.box.six.lt
    clear hb2 S1 B1 b0 b1 b2 b3 b4 b5
    have g0 := S2.out.box.six.c0
    have g1 := S2.out.box.six.c1
    have g2 := S2.out.box.six.c2
    have g3 := S2.out.box.six.c3
    have g4 := S2.out.box.six.c4
    have g5 := S2.out.box.six.c5
    have r0 := S2.out.res.c0
    have r1 := S2.out.res.c1
    have r2 := S2.out.res.c2
    have r3 := S2.out.res.c3
    have r4 := S2.out.res.c4
    have r5 := S2.out.res.c5
    have fr0 := S2.out.res.f0
    have fr1 := S2.out.res.f1
    have fr2 := S2.out.res.f2
    have fr3 := S2.out.res.f3
    have fr4 := S2.out.res.f4
    have fr5 := S2.out.res.f5
    go_wp2_with fail
    refine bodyPost_ret (v := .tuple #[.agg #[.slice ac1 (h).n cc1, .slice am1 (h).ms.length cm1, .slice ao1 (h).os.length co1, .slice at1 (h).ts.length ct1, .int .i64 (h).sent, .int .i64 (h).day], .slice none 0 0]) (by simp [results, Tryz.results9, go_sem, r0, r1, r2, r3, r4, r5]) rfl ?_
    rw [H.out]
    have fin : ∀ WF : World, Only w.heap.size (w.heap.size + 1 + 1) w2 WF → WithI w WF (.slice ac1 (h).n cc1) (.slice am1 (h).ms.length cm1) (.slice ao1 (h).os.length co1) (.slice at1 (h).ts.length ct1) (.slice none 0 0) h [] := fun WF oF => S2.out.done oF
    refine ⟨_, _, _, _, _, _, _, _, _, _, rfl, fin _ ?_⟩
    repeat (first | with_reducible exact Only.refl _ _ _ | with_reducible refine only_drew ?_ | with_reducible refine Only.alloc ?_ _ | with_reducible refine Only.set ?_ (by simp only []; omega) (by simp only []; omega) _)
  | true =>
    by_cases h40 : n ≤ 40
    · have H := Lib.hid (runActs_t (xs := xs) h1 h40)
      have i40 : ¬ (40 : Int) < n := by omega
      have SR := Lib.hid (show Six (w.heap.size + 1) ((w.alloc (.cells #[.slice adc h.n capc, .slice adm h.ms.length capm, .slice ado h.os.length capo, .slice adt h.ts.length capt, .int .i64 h.sent, .int .i64 h.day] 27)).alloc (.cells #[.slice none 0 0, .slice none 0 0, .slice none 0 0, .slice none 0 0, .int .i64 0, .int .i64 0] 27)) (.slice none 0 0) (.slice none 0 0) (.slice none 0 0) (.slice none 0 0) (.int .i64 0) (.int .i64 0) from ⟨by go_simp, by go_simp, by go_simp, by go_simp, by go_simp, by go_simp, by go_simp, by go_simp, by go_simp, by go_simp, by go_simp, by go_simp⟩)
      have BI := Lib.hid (show Below w.heap.size w ((w.alloc (.cells #[.slice adc h.n capc, .slice adm h.ms.length capm, .slice ado h.os.length capo, .slice adt h.ts.length capt, .int .i64 h.sent, .int .i64 h.day] 27)).alloc (.cells #[.slice none 0 0, .slice none 0 0, .slice none 0 0, .slice none 0 0, .int .i64 0, .int .i64 0] 27)) from balloc (balloc (bref w) _) _)
      have KB : Hid (∀ W : World, Below ((w.alloc (.cells #[.slice adc h.n capc, .slice adm h.ms.length capm, .slice ado h.os.length capo, .slice adt h.ts.length capt, .int .i64 h.sent, .int .i64 h.day] 27)).alloc (.cells #[.slice none 0 0, .slice none 0 0, .slice none 0 0, .slice none 0 0, .int .i64 0, .int .i64 0] 27)).heap.size ((w.alloc (.cells #[.slice adc h.n capc, .slice adm h.ms.length capm, .slice ado h.os.length capo, .slice adt h.ts.length capt, .int .i64 h.sent, .int .i64 h.day] 27)).alloc (.cells #[.slice none 0 0, .slice none 0 0, .slice none 0 0, .slice none 0 0, .int .i64 0, .int .i64 0] 27)) W → W.cell? ⟨w.heap.size, 0, none⟩ = some (Value.slice adc h.n capc) ∧ W.cell? ⟨w.heap.size, 1, none⟩ = some (Value.slice adm h.ms.length capm) ∧ W.cell? ⟨w.heap.size, 2, none⟩ = some (Value.slice ado h.os.length capo) ∧ W.cell? ⟨w.heap.size, 3, none⟩ = some (Value.slice adt h.ts.length capt) ∧ W.cell? ⟨w.heap.size, 4, none⟩ = some (Value.int .i64 h.sent) ∧ W.cell? ⟨w.heap.size, 5, none⟩ = some (Value.int .i64 h.day)) := fun W hb => ⟨(hb.cell (p := ⟨w.heap.size, 0, none⟩) (by first | (simp; done) | (simp; omega))).trans (by go_simp), (hb.cell (p := ⟨w.heap.size, 1, none⟩) (by first | (simp; done) | (simp; omega))).trans (by go_simp), (hb.cell (p := ⟨w.heap.size, 2, none⟩) (by first | (simp; done) | (simp; omega))).trans (by go_simp), (hb.cell (p := ⟨w.heap.size, 3, none⟩) (by first | (simp; done) | (simp; omega))).trans (by go_simp), (hb.cell (p := ⟨w.heap.size, 4, none⟩) (by first | (simp; done) | (simp; omega))).trans (by go_simp), (hb.cell (p := ⟨w.heap.size, 5, none⟩) (by first | (simp; done) | (simp; omega))).trans (by go_simp)⟩
      go_enter Tryz.func9, Tryz.ntmps9
      go_wp2_with fail
      refine (copyHouse_any _ _ _ _ h _ (hr.below BI.out) hn hB).mono ?_
      rintro e w1 ⟨ac1, cc1, am1, cm1, ao1, co1, at1, ct1, rfl, hO, hb1⟩
      have z1 : w.heap.size + 2 ≤ w1.heap.size := by have q := hb1.size; simp at q; omega
      have S1 := Lib.hid (RunS.first (w := w) (by simp) BI.out hb1 SR.out hO)
      obtain ⟨b0, b1, b2, b3, b4, b5⟩ := KB.out _ hb1
      have yb : w.heap.size < w1.heap.size := by omega
      have yr : w.heap.size + 1 < w1.heap.size := by omega
      have B1 := Lib.hid (balloc hb1 (.cells #[.slice ac1 (h).n cc1, .slice am1 (h).ms.length cm1, .slice ao1 (h).os.length co1, .slice at1 (h).ts.length ct1, .int .i64 (h).sent, .int .i64 (h).day] 27))
      clear hb1 hO SR BI
      go_wp2_with fail
      refine (implHouseOk _ _ _ _ h _ (hr.below S1.out.below)).mono ?_
      rw [h1]
      rintro e w2 ⟨rfl, hb2⟩
      have S2 := Lib.hid (S1.out.go hb2)
      have B2 := Lib.hid (bnext B1.out hb2)
      have yx : w1.heap.size < w2.heap.size := S2.out.box.six.lt
      clear hb2 S1 B1 b0 b1 b2 b3 b4 b5
      go_wp2_with fail
      go_loopw [7, 25] (fun v i wr => ∃ (k : Nat) (ac0 am0 ao0 at0 : Option Addr) (cc0 cm0 co0 ct0 : Nat), k ≤ n ∧ i = .int .i64 k ∧ Hid (RunS w w1.heap.size (w.heap.size + 1) wr (.slice ac0 (runTo xs h k).n cc0) (.slice am0 (runTo xs h k).ms.length cm0) (.slice ao0 (runTo xs h k).os.length co0) (.slice at0 (runTo xs h k).ts.length ct0) v (runTo xs h k) (numsTo xs h k))) (fun _ i _ => n - (intOf i).toNat)
      case atStart => exact ⟨0, ac1, am1, ao1, at1, cc1, cm1, co1, ct1, Nat.zero_le _, rfl, S2⟩
      case round =>
        clear S2 B2
        obtain ⟨k, ac0, am0, ao0, at0, cc0, cm0, co0, ct0, hk, rfl, SW⟩ := hrel
        have hNB := runTo_b hB xs k
        have hNL := numsTo_len xs h k
        by_cases hlt : k < n
        · have HN1 := Lib.hid (show runTo xs h (k + 1) = (doAct (runTo xs h k) (nth xs (k * 5)) (nth xs (k * 5 + 1)) (nth xs (k * 5 + 2)) (nth xs (k * 5 + 3)) (nth xs (k * 5 + 4))).1 from rfl)
          have HN2 := Lib.hid (show numsTo xs h (k + 1) = numsTo xs h k ++ [(doAct (runTo xs h k) (nth xs (k * 5)) (nth xs (k * 5 + 1)) (nth xs (k * 5 + 2)) (nth xs (k * 5 + 3)) (nth xs (k * 5 + 4))).2] from rfl)
          have hbd := doAct_bd (runTo xs h k) (nth xs (k * 5)) (nth xs (k * 5 + 1)) (nth xs (k * 5 + 2)) (nth xs (k * 5 + 3)) (nth xs (k * 5 + 4))
          obtain ⟨_, _, _, _, hv2, hc2⟩ := ha.below SW.out.below
          cases hv2
          obtain ⟨b2, o2, rfl, f0, f1, f2, f3, f4, l2⟩ := atAct HX.out hc2 k hlt
          clear hc2
          have hkn : (k : Int) < n := by omega
          generalize nth xs (k * 5) = p0 at *
          generalize nth xs (k * 5 + 1) = p1 at *
          generalize nth xs (k * 5 + 2) = p2 at *
          generalize nth xs (k * 5 + 3) = p3 at *
          generalize nth xs (k * 5 + 4) = p4 at *
          generalize runTo xs h k = g at *
          generalize numsTo xs h k = N at *
          have yX : w1.heap.size < wr.heap.size := SW.out.box.six.lt
          have yR : w.heap.size + 1 < wr.heap.size := SW.out.res.lt
          have HNL := Lib.hid hNL
          clear hNL
          have g0 := SW.out.box.six.c0
          have g1 := SW.out.box.six.c1
          have g2 := SW.out.box.six.c2
          have g3 := SW.out.box.six.c3
          have g4 := SW.out.box.six.c4
          have g5 := SW.out.box.six.c5
          go_wp2_with fail
          refine (implDoAct _ _ _ _ g p0 p1 p2 p3 p4 _ ((SW.out.box.house.read hNB).alloc _) SW.out.box.house.nils hNB).mono ?_
          rintro e w2_ ⟨ac5, cc5, am5, cm5, ao5, co5, at5, ct5, rfl, hO, hb2⟩
          generalize (doAct g p0 p1 p2 p3 p4).1 = g' at *
          generalize (doAct g p0 p1 p2 p3 p4).2 = z at *
          have hb := bnext (balloc (bref wr) _) hb2
          have S3 := Lib.hid (SW.out.step hb hO (by simp) (Nat.le_refl _))
          have S4 := Lib.hid (S3.out.go (balloc (bref _) (.cells #[.slice ac5 (g').n cc5, .slice am5 (g').ms.length cm5, .slice ao5 (g').os.length co5, .slice at5 (g').ts.length ct5, .int .i64 (g').sent, .int .i64 (g').day] 27)))
          have SX := (SW.out.box.below hb).six
          have yX2 : w1.heap.size < w2_.heap.size := SX.lt
          have yR2 : w.heap.size + 1 < w2_.heap.size := (SW.out.res.below hb).lt
          clear g0 g1 g2 g3 g4 g5 f0 f1 f2 f3 f4
          have g0 := SX.c0
          have g1 := SX.c1
          have g2 := SX.c2
          have g3 := SX.c3
          have g4 := SX.c4
          have g5 := SX.c5
          have fg0 := SX.f0
          have fg1 := SX.f1
          have fg2 := SX.f2
          have fg3 := SX.f3
          have fg4 := SX.f4
          have fg5 := SX.f5
          clear SX hb hb2 hO
          have hNl : N.length ≤ 40 := by rw [HNL.out]; omega
          go_wp2_with (first | (at_builtin; refine wpList_append_own_at _ rfl _ _ 25 rfl (w.heap.size + 1 + 1) 3 i0 (.int .i64 0) 1 8 Tryz.underlying25 hi hz0 hz1 hz2 rfl (by decide) _ _ _ rfl (S4.out.row.alloc _) ⟨w2_.heap.size + 1, 0, none⟩ 1 1 [.int .i64 z] rfl rfl (cell_one_new' _ _ _ _ (by simp)) (ints_oneCell .i64 [z]) (by unfold maxLen; omega) (by omega) (by simp; omega) ?_; intro v' w6 hown hgrow hnil hat; have S6 := Lib.hid (S4.out.app hown hgrow hat); clear hown hgrow hnil hat))
          go_roundw
          case rel => exact ⟨k + 1, ac5, am5, ao5, at5, cc5, cm5, co5, ct5, by omega, by go_num, by rw [HN1.out, HN2.out]; exact S6⟩
          case measure => simp [intOf]; omega
        · obtain rfl : k = n := by omega
          obtain ⟨adv, capv, rfl⟩ := own_form SW.out.row
          have yX : w1.heap.size < wr.heap.size := SW.out.box.six.lt
          have yR : w.heap.size + 1 < wr.heap.size := SW.out.res.lt
          generalize runTo xs h k = g at *
          generalize numsTo xs h k = N at *
          have g0 := SW.out.box.six.c0
          have g1 := SW.out.box.six.c1
          have g2 := SW.out.box.six.c2
          have g3 := SW.out.box.six.c3
          have g4 := SW.out.box.six.c4
          have g5 := SW.out.box.six.c5
          have r0 := SW.out.res.c0
          have r1 := SW.out.res.c1
          have r2 := SW.out.res.c2
          have r3 := SW.out.res.c3
          have r4 := SW.out.res.c4
          have r5 := SW.out.res.c5
          have fr0 := SW.out.res.f0
          have fr1 := SW.out.res.f1
          have fr2 := SW.out.res.f2
          have fr3 := SW.out.res.f3
          have fr4 := SW.out.res.f4
          have fr5 := SW.out.res.f5
          go_wp2_with fail
          refine bodyPost_ret (v := .tuple #[.agg #[.slice ac0 (g).n cc0, .slice am0 (g).ms.length cm0, .slice ao0 (g).os.length co0, .slice at0 (g).ts.length ct0, .int .i64 (g).sent, .int .i64 (g).day], .slice adv N.length capv]) (by simp [results, Tryz.results9, go_sem, r0, r1, r2, r3, r4, r5]) rfl ?_
          rw [H.out]
          have fin : ∀ WF : World, Only w.heap.size (w.heap.size + 1 + 1) wr WF → WithI w WF (.slice ac0 (g).n cc0) (.slice am0 (g).ms.length cm0) (.slice ao0 (g).os.length co0) (.slice at0 (g).ts.length ct0) (.slice adv N.length capv) g N := fun WF oF => SW.out.done oF
          refine ⟨_, _, _, _, _, _, _, _, _, _, rfl, fin _ ?_⟩
          repeat (first | with_reducible exact Only.refl _ _ _ | with_reducible refine only_drew ?_ | with_reducible refine Only.alloc ?_ _ | with_reducible refine Only.set ?_ (by simp only []; omega) (by simp only []; omega) _)
    · have H := Lib.hid (runActs_no (h := h) (n := n) (xs := xs) (fun z => h40 z.2))
      have i40 : (40 : Int) < n := by omega
      have SR := Lib.hid (show Six (w.heap.size + 1) ((w.alloc (.cells #[.slice adc h.n capc, .slice adm h.ms.length capm, .slice ado h.os.length capo, .slice adt h.ts.length capt, .int .i64 h.sent, .int .i64 h.day] 27)).alloc (.cells #[.slice none 0 0, .slice none 0 0, .slice none 0 0, .slice none 0 0, .int .i64 0, .int .i64 0] 27)) (.slice none 0 0) (.slice none 0 0) (.slice none 0 0) (.slice none 0 0) (.int .i64 0) (.int .i64 0) from ⟨by go_simp, by go_simp, by go_simp, by go_simp, by go_simp, by go_simp, by go_simp, by go_simp, by go_simp, by go_simp, by go_simp, by go_simp⟩)
      have BI := Lib.hid (show Below w.heap.size w ((w.alloc (.cells #[.slice adc h.n capc, .slice adm h.ms.length capm, .slice ado h.os.length capo, .slice adt h.ts.length capt, .int .i64 h.sent, .int .i64 h.day] 27)).alloc (.cells #[.slice none 0 0, .slice none 0 0, .slice none 0 0, .slice none 0 0, .int .i64 0, .int .i64 0] 27)) from balloc (balloc (bref w) _) _)
      have KB : Hid (∀ W : World, Below ((w.alloc (.cells #[.slice adc h.n capc, .slice adm h.ms.length capm, .slice ado h.os.length capo, .slice adt h.ts.length capt, .int .i64 h.sent, .int .i64 h.day] 27)).alloc (.cells #[.slice none 0 0, .slice none 0 0, .slice none 0 0, .slice none 0 0, .int .i64 0, .int .i64 0] 27)).heap.size ((w.alloc (.cells #[.slice adc h.n capc, .slice adm h.ms.length capm, .slice ado h.os.length capo, .slice adt h.ts.length capt, .int .i64 h.sent, .int .i64 h.day] 27)).alloc (.cells #[.slice none 0 0, .slice none 0 0, .slice none 0 0, .slice none 0 0, .int .i64 0, .int .i64 0] 27)) W → W.cell? ⟨w.heap.size, 0, none⟩ = some (Value.slice adc h.n capc) ∧ W.cell? ⟨w.heap.size, 1, none⟩ = some (Value.slice adm h.ms.length capm) ∧ W.cell? ⟨w.heap.size, 2, none⟩ = some (Value.slice ado h.os.length capo) ∧ W.cell? ⟨w.heap.size, 3, none⟩ = some (Value.slice adt h.ts.length capt) ∧ W.cell? ⟨w.heap.size, 4, none⟩ = some (Value.int .i64 h.sent) ∧ W.cell? ⟨w.heap.size, 5, none⟩ = some (Value.int .i64 h.day)) := fun W hb => ⟨(hb.cell (p := ⟨w.heap.size, 0, none⟩) (by first | (simp; done) | (simp; omega))).trans (by go_simp), (hb.cell (p := ⟨w.heap.size, 1, none⟩) (by first | (simp; done) | (simp; omega))).trans (by go_simp), (hb.cell (p := ⟨w.heap.size, 2, none⟩) (by first | (simp; done) | (simp; omega))).trans (by go_simp), (hb.cell (p := ⟨w.heap.size, 3, none⟩) (by first | (simp; done) | (simp; omega))).trans (by go_simp), (hb.cell (p := ⟨w.heap.size, 4, none⟩) (by first | (simp; done) | (simp; omega))).trans (by go_simp), (hb.cell (p := ⟨w.heap.size, 5, none⟩) (by first | (simp; done) | (simp; omega))).trans (by go_simp)⟩
      go_enter Tryz.func9, Tryz.ntmps9
      go_wp2_with fail
      refine (copyHouse_any _ _ _ _ h _ (hr.below BI.out) hn hB).mono ?_
      rintro e w1 ⟨ac1, cc1, am1, cm1, ao1, co1, at1, ct1, rfl, hO, hb1⟩
      have z1 : w.heap.size + 2 ≤ w1.heap.size := by have q := hb1.size; simp at q; omega
      have S1 := Lib.hid (RunS.first (w := w) (by simp) BI.out hb1 SR.out hO)
      obtain ⟨b0, b1, b2, b3, b4, b5⟩ := KB.out _ hb1
      have yb : w.heap.size < w1.heap.size := by omega
      have yr : w.heap.size + 1 < w1.heap.size := by omega
      have B1 := Lib.hid (balloc hb1 (.cells #[.slice ac1 (h).n cc1, .slice am1 (h).ms.length cm1, .slice ao1 (h).os.length co1, .slice at1 (h).ts.length ct1, .int .i64 (h).sent, .int .i64 (h).day] 27))
      clear hb1 hO SR BI
      go_wp2_with fail
      refine (implHouseOk _ _ _ _ h _ (hr.below S1.out.below)).mono ?_
      rw [h1]
      rintro e w2 ⟨rfl, hb2⟩
      have S2 := Lib.hid (S1.out.go hb2)
      have B2 := Lib.hid (bnext B1.out hb2)
      have yx : w1.heap.size < w2.heap.size := S2.out.box.six.lt
      clear hb2 S1 B1 b0 b1 b2 b3 b4 b5
      have g0 := S2.out.box.six.c0
      have g1 := S2.out.box.six.c1
      have g2 := S2.out.box.six.c2
      have g3 := S2.out.box.six.c3
      have g4 := S2.out.box.six.c4
      have g5 := S2.out.box.six.c5
      have r0 := S2.out.res.c0
      have r1 := S2.out.res.c1
      have r2 := S2.out.res.c2
      have r3 := S2.out.res.c3
      have r4 := S2.out.res.c4
      have r5 := S2.out.res.c5
      have fr0 := S2.out.res.f0
      have fr1 := S2.out.res.f1
      have fr2 := S2.out.res.f2
      have fr3 := S2.out.res.f3
      have fr4 := S2.out.res.f4
      have fr5 := S2.out.res.f5
      go_wp2_with fail
      refine bodyPost_ret (v := .tuple #[.agg #[.slice ac1 (h).n cc1, .slice am1 (h).ms.length cm1, .slice ao1 (h).os.length co1, .slice at1 (h).ts.length ct1, .int .i64 (h).sent, .int .i64 (h).day], .slice none 0 0]) (by simp [results, Tryz.results9, go_sem, r0, r1, r2, r3, r4, r5]) rfl ?_
      rw [H.out]
      have fin : ∀ WF : World, Only w.heap.size (w.heap.size + 1 + 1) w2 WF → WithI w WF (.slice ac1 (h).n cc1) (.slice am1 (h).ms.length cm1) (.slice ao1 (h).os.length co1) (.slice at1 (h).ts.length ct1) (.slice none 0 0) h [] := fun WF oF => S2.out.done oF
      refine ⟨_, _, _, _, _, _, _, _, _, _, rfl, fin _ ?_⟩
      repeat (first | with_reducible exact Only.refl _ _ _ | with_reducible refine only_drew ?_ | with_reducible refine Only.alloc ?_ _ | with_reducible refine Only.set ?_ (by simp only []; omega) (by simp only []; omega) _)
end Go.Proofs.YtlipfkalehikkaaGreatDoor

/- The walk of RunActs, in the reference. -/
namespace Go.Proofs.YtlipfkalehikkaaGreatDoor
open Go.ChangeShapes Go.WideShapes Go.ChangeAt Go.RowKit

set_option maxRecDepth 100000 in
set_option maxHeartbeats 8000000 in
theorem specRunActs (vc vm vo vt va : Value) (h : HD) (n : Nat) (xs : List Int) (w : World) (hr : HouseR w vc vm vo vt h) (ha : Recs 5 w va n xs) (hn : HouseN vc vm vo vt) (hB : HouseB h 1048576) : Calls Tryz.prog 35 #[.agg #[vc, vm, vo, vt, .int .i64 h.sent, .int .i64 h.day], va] w (fun e w' => ∃ ac cc am cm ao co at_ ct al cl, e = .returned (.tuple #[.agg #[.slice ac ((runActs h n xs).1).n cc, .slice am ((runActs h n xs).1).ms.length cm, .slice ao ((runActs h n xs).1).os.length co, .slice at_ ((runActs h n xs).1).ts.length ct, .int .i64 ((runActs h n xs).1).sent, .int .i64 ((runActs h n xs).1).day], .slice al ((runActs h n xs).2).length cl]) ∧ WithI w w' (.slice ac ((runActs h n xs).1).n cc) (.slice am ((runActs h n xs).1).ms.length cm) (.slice ao ((runActs h n xs).1).os.length co) (.slice at_ ((runActs h n xs).1).ts.length ct) (.slice al ((runActs h n xs).2).length cl) ((runActs h n xs).1) ((runActs h n xs).2)) := by
  obtain ⟨i0, hi, hz0, hz1, hz2⟩ := info_parts Tryz.infoInt
  obtain ⟨adc, capc, rfl⟩ : ∃ ad cap, vc = .slice ad h.n cap := by obtain ⟨_, _, ad, cap, hh, _⟩ := hr.c; exact ⟨ad, cap, hh⟩
  obtain ⟨adm, capm, rfl⟩ : ∃ ad cap, vm = .slice ad h.ms.length cap := by obtain ⟨_, ad, cap, hh, _⟩ := hr.m; exact ⟨ad, cap, hh⟩
  obtain ⟨ado, capo, rfl⟩ : ∃ ad cap, vo = .slice ad h.os.length cap := by obtain ⟨_, ad, cap, hh, _⟩ := hr.o; exact ⟨ad, cap, hh⟩
  obtain ⟨adt, capt, rfl⟩ : ∃ ad cap, vt = .slice ad h.ts.length cap := by obtain ⟨_, ad, cap, hh, _⟩ := hr.t; exact ⟨ad, cap, hh⟩
  obtain ⟨ada, capa, rfl⟩ : ∃ ad cap, va = .slice ad n cap := by obtain ⟨_, _, ad, cap, hh, _⟩ := ha; exact ⟨ad, cap, hh⟩
  have HX := Lib.hid ha.eq
  have hl := ha.len
  cases h1 : houseOk h with
  | false =>
    have H := Lib.hid (runActs_no (h := h) (n := n) (xs := xs) (by simp [h1]))
    have SR := Lib.hid (show Six (w.heap.size + 1) ((w.alloc (.cells #[.slice adc h.n capc, .slice adm h.ms.length capm, .slice ado h.os.length capo, .slice adt h.ts.length capt, .int .i64 h.sent, .int .i64 h.day] 27)).alloc (.cells #[.slice none 0 0, .slice none 0 0, .slice none 0 0, .slice none 0 0, .int .i64 0, .int .i64 0] 27)) (.slice none 0 0) (.slice none 0 0) (.slice none 0 0) (.slice none 0 0) (.int .i64 0) (.int .i64 0) from ⟨by go_simp, by go_simp, by go_simp, by go_simp, by go_simp, by go_simp, by go_simp, by go_simp, by go_simp, by go_simp, by go_simp, by go_simp⟩)
    have BI := Lib.hid (show Below w.heap.size w ((w.alloc (.cells #[.slice adc h.n capc, .slice adm h.ms.length capm, .slice ado h.os.length capo, .slice adt h.ts.length capt, .int .i64 h.sent, .int .i64 h.day] 27)).alloc (.cells #[.slice none 0 0, .slice none 0 0, .slice none 0 0, .slice none 0 0, .int .i64 0, .int .i64 0] 27)) from balloc (balloc (bref w) _) _)
    have KB : Hid (∀ W : World, Below ((w.alloc (.cells #[.slice adc h.n capc, .slice adm h.ms.length capm, .slice ado h.os.length capo, .slice adt h.ts.length capt, .int .i64 h.sent, .int .i64 h.day] 27)).alloc (.cells #[.slice none 0 0, .slice none 0 0, .slice none 0 0, .slice none 0 0, .int .i64 0, .int .i64 0] 27)).heap.size ((w.alloc (.cells #[.slice adc h.n capc, .slice adm h.ms.length capm, .slice ado h.os.length capo, .slice adt h.ts.length capt, .int .i64 h.sent, .int .i64 h.day] 27)).alloc (.cells #[.slice none 0 0, .slice none 0 0, .slice none 0 0, .slice none 0 0, .int .i64 0, .int .i64 0] 27)) W → W.cell? ⟨w.heap.size, 0, none⟩ = some (Value.slice adc h.n capc) ∧ W.cell? ⟨w.heap.size, 1, none⟩ = some (Value.slice adm h.ms.length capm) ∧ W.cell? ⟨w.heap.size, 2, none⟩ = some (Value.slice ado h.os.length capo) ∧ W.cell? ⟨w.heap.size, 3, none⟩ = some (Value.slice adt h.ts.length capt) ∧ W.cell? ⟨w.heap.size, 4, none⟩ = some (Value.int .i64 h.sent) ∧ W.cell? ⟨w.heap.size, 5, none⟩ = some (Value.int .i64 h.day)) := fun W hb => ⟨(hb.cell (p := ⟨w.heap.size, 0, none⟩) (by first | (simp; done) | (simp; omega))).trans (by go_simp), (hb.cell (p := ⟨w.heap.size, 1, none⟩) (by first | (simp; done) | (simp; omega))).trans (by go_simp), (hb.cell (p := ⟨w.heap.size, 2, none⟩) (by first | (simp; done) | (simp; omega))).trans (by go_simp), (hb.cell (p := ⟨w.heap.size, 3, none⟩) (by first | (simp; done) | (simp; omega))).trans (by go_simp), (hb.cell (p := ⟨w.heap.size, 4, none⟩) (by first | (simp; done) | (simp; omega))).trans (by go_simp), (hb.cell (p := ⟨w.heap.size, 5, none⟩) (by first | (simp; done) | (simp; omega))).trans (by go_simp)⟩
    go_enter Tryz.func35, Tryz.ntmps35
    go_wp2_with fail
    refine (l38Copy_any _ _ _ _ h _ (hr.below BI.out) hn hB).mono ?_
    rintro e w1 ⟨ac1, cc1, am1, cm1, ao1, co1, at1, ct1, rfl, hO, hb1⟩
    have z1 : w.heap.size + 2 ≤ w1.heap.size := by have q := hb1.size; simp at q; omega
    have S1 := Lib.hid (RunS.first (w := w) (by simp) BI.out hb1 SR.out hO)
    obtain ⟨b0, b1, b2, b3, b4, b5⟩ := KB.out _ hb1
    have yb : w.heap.size < w1.heap.size := by omega
    have yr : w.heap.size + 1 < w1.heap.size := by omega
    have B1 := Lib.hid (balloc hb1 (.cells #[.slice ac1 (h).n cc1, .slice am1 (h).ms.length cm1, .slice ao1 (h).os.length co1, .slice at1 (h).ts.length ct1, .int .i64 (h).sent, .int .i64 (h).day] 27))
    clear hb1 hO SR BI
    go_wp2_with fail
    have S1l := S1.out.lit
    rw [show ((w1.alloc (.cells #[.slice ac1 (h).n cc1, .slice am1 (h).ms.length cm1, .slice ao1 (h).os.length co1, .slice at1 (h).ts.length ct1, .int .i64 (h).sent, .int .i64 (h).day] 27))).heap.size = w1.heap.size + 1 by simp] at S1l
    have S1 := Lib.hid S1l
    clear S1l
    have B1 := Lib.hid (balloc B1.out (.cells #[] 3))
    refine (specHouseOk _ _ _ _ h _ (hr.below S1.out.below)).mono ?_
    rw [h1]
    rintro e w2 ⟨rfl, hb2⟩
    have S2 := Lib.hid (S1.out.go hb2)
    have B2 := Lib.hid (bnext B1.out hb2)
    have yx : w1.heap.size < w2.heap.size := S2.out.box.six.lt
    clear hb2 S1 B1 b0 b1 b2 b3 b4 b5
    have g0 := S2.out.box.six.c0
    have g1 := S2.out.box.six.c1
    have g2 := S2.out.box.six.c2
    have g3 := S2.out.box.six.c3
    have g4 := S2.out.box.six.c4
    have g5 := S2.out.box.six.c5
    have r0 := S2.out.res.c0
    have r1 := S2.out.res.c1
    have r2 := S2.out.res.c2
    have r3 := S2.out.res.c3
    have r4 := S2.out.res.c4
    have r5 := S2.out.res.c5
    have fr0 := S2.out.res.f0
    have fr1 := S2.out.res.f1
    have fr2 := S2.out.res.f2
    have fr3 := S2.out.res.f3
    have fr4 := S2.out.res.f4
    have fr5 := S2.out.res.f5
    go_wp2_with fail
    refine bodyPost_ret (v := .tuple #[.agg #[.slice ac1 (h).n cc1, .slice am1 (h).ms.length cm1, .slice ao1 (h).os.length co1, .slice at1 (h).ts.length ct1, .int .i64 (h).sent, .int .i64 (h).day], .slice (some ⟨w1.heap.size + 1, 0, none⟩) 0 0]) (by simp [results, Tryz.results35, go_sem, r0, r1, r2, r3, r4, r5]) rfl ?_
    rw [H.out]
    have fin : ∀ WF : World, Only w.heap.size (w.heap.size + 1 + 1) w2 WF → WithI w WF (.slice ac1 (h).n cc1) (.slice am1 (h).ms.length cm1) (.slice ao1 (h).os.length co1) (.slice at1 (h).ts.length ct1) (.slice (some ⟨w1.heap.size + 1, 0, none⟩) 0 0) h [] := fun WF oF => S2.out.done oF
    refine ⟨_, _, _, _, _, _, _, _, _, _, rfl, fin _ ?_⟩
    repeat (first | with_reducible exact Only.refl _ _ _ | with_reducible refine only_drew ?_ | with_reducible refine Only.alloc ?_ _ | with_reducible refine Only.set ?_ (by simp only []; omega) (by simp only []; omega) _)
  | true =>
    by_cases h40 : n ≤ 40
    · have H := Lib.hid (runActs_t (xs := xs) h1 h40)
      have i40 : ¬ (40 : Int) < n := by omega
      have SR := Lib.hid (show Six (w.heap.size + 1) ((w.alloc (.cells #[.slice adc h.n capc, .slice adm h.ms.length capm, .slice ado h.os.length capo, .slice adt h.ts.length capt, .int .i64 h.sent, .int .i64 h.day] 27)).alloc (.cells #[.slice none 0 0, .slice none 0 0, .slice none 0 0, .slice none 0 0, .int .i64 0, .int .i64 0] 27)) (.slice none 0 0) (.slice none 0 0) (.slice none 0 0) (.slice none 0 0) (.int .i64 0) (.int .i64 0) from ⟨by go_simp, by go_simp, by go_simp, by go_simp, by go_simp, by go_simp, by go_simp, by go_simp, by go_simp, by go_simp, by go_simp, by go_simp⟩)
      have BI := Lib.hid (show Below w.heap.size w ((w.alloc (.cells #[.slice adc h.n capc, .slice adm h.ms.length capm, .slice ado h.os.length capo, .slice adt h.ts.length capt, .int .i64 h.sent, .int .i64 h.day] 27)).alloc (.cells #[.slice none 0 0, .slice none 0 0, .slice none 0 0, .slice none 0 0, .int .i64 0, .int .i64 0] 27)) from balloc (balloc (bref w) _) _)
      have KB : Hid (∀ W : World, Below ((w.alloc (.cells #[.slice adc h.n capc, .slice adm h.ms.length capm, .slice ado h.os.length capo, .slice adt h.ts.length capt, .int .i64 h.sent, .int .i64 h.day] 27)).alloc (.cells #[.slice none 0 0, .slice none 0 0, .slice none 0 0, .slice none 0 0, .int .i64 0, .int .i64 0] 27)).heap.size ((w.alloc (.cells #[.slice adc h.n capc, .slice adm h.ms.length capm, .slice ado h.os.length capo, .slice adt h.ts.length capt, .int .i64 h.sent, .int .i64 h.day] 27)).alloc (.cells #[.slice none 0 0, .slice none 0 0, .slice none 0 0, .slice none 0 0, .int .i64 0, .int .i64 0] 27)) W → W.cell? ⟨w.heap.size, 0, none⟩ = some (Value.slice adc h.n capc) ∧ W.cell? ⟨w.heap.size, 1, none⟩ = some (Value.slice adm h.ms.length capm) ∧ W.cell? ⟨w.heap.size, 2, none⟩ = some (Value.slice ado h.os.length capo) ∧ W.cell? ⟨w.heap.size, 3, none⟩ = some (Value.slice adt h.ts.length capt) ∧ W.cell? ⟨w.heap.size, 4, none⟩ = some (Value.int .i64 h.sent) ∧ W.cell? ⟨w.heap.size, 5, none⟩ = some (Value.int .i64 h.day)) := fun W hb => ⟨(hb.cell (p := ⟨w.heap.size, 0, none⟩) (by first | (simp; done) | (simp; omega))).trans (by go_simp), (hb.cell (p := ⟨w.heap.size, 1, none⟩) (by first | (simp; done) | (simp; omega))).trans (by go_simp), (hb.cell (p := ⟨w.heap.size, 2, none⟩) (by first | (simp; done) | (simp; omega))).trans (by go_simp), (hb.cell (p := ⟨w.heap.size, 3, none⟩) (by first | (simp; done) | (simp; omega))).trans (by go_simp), (hb.cell (p := ⟨w.heap.size, 4, none⟩) (by first | (simp; done) | (simp; omega))).trans (by go_simp), (hb.cell (p := ⟨w.heap.size, 5, none⟩) (by first | (simp; done) | (simp; omega))).trans (by go_simp)⟩
      go_enter Tryz.func35, Tryz.ntmps35
      go_wp2_with fail
      refine (l38Copy_any _ _ _ _ h _ (hr.below BI.out) hn hB).mono ?_
      rintro e w1 ⟨ac1, cc1, am1, cm1, ao1, co1, at1, ct1, rfl, hO, hb1⟩
      have z1 : w.heap.size + 2 ≤ w1.heap.size := by have q := hb1.size; simp at q; omega
      have S1 := Lib.hid (RunS.first (w := w) (by simp) BI.out hb1 SR.out hO)
      obtain ⟨b0, b1, b2, b3, b4, b5⟩ := KB.out _ hb1
      have yb : w.heap.size < w1.heap.size := by omega
      have yr : w.heap.size + 1 < w1.heap.size := by omega
      have B1 := Lib.hid (balloc hb1 (.cells #[.slice ac1 (h).n cc1, .slice am1 (h).ms.length cm1, .slice ao1 (h).os.length co1, .slice at1 (h).ts.length ct1, .int .i64 (h).sent, .int .i64 (h).day] 27))
      clear hb1 hO SR BI
      go_wp2_with fail
      have S1l := S1.out.lit
      rw [show ((w1.alloc (.cells #[.slice ac1 (h).n cc1, .slice am1 (h).ms.length cm1, .slice ao1 (h).os.length co1, .slice at1 (h).ts.length ct1, .int .i64 (h).sent, .int .i64 (h).day] 27))).heap.size = w1.heap.size + 1 by simp] at S1l
      have S1 := Lib.hid S1l
      clear S1l
      have B1 := Lib.hid (balloc B1.out (.cells #[] 3))
      refine (specHouseOk _ _ _ _ h _ (hr.below S1.out.below)).mono ?_
      rw [h1]
      rintro e w2 ⟨rfl, hb2⟩
      have S2 := Lib.hid (S1.out.go hb2)
      have B2 := Lib.hid (bnext B1.out hb2)
      have yx : w1.heap.size < w2.heap.size := S2.out.box.six.lt
      clear hb2 S1 B1 b0 b1 b2 b3 b4 b5
      go_wp2_with fail
      go_loopw [7, 8] (fun v i wr => ∃ (k : Nat) (ac0 am0 ao0 at0 : Option Addr) (cc0 cm0 co0 ct0 : Nat), k ≤ n ∧ i = .int .i64 k ∧ Hid (RunS w w1.heap.size (w.heap.size + 1) wr (.slice ac0 (runTo xs h k).n cc0) (.slice am0 (runTo xs h k).ms.length cm0) (.slice ao0 (runTo xs h k).os.length co0) (.slice at0 (runTo xs h k).ts.length ct0) v (runTo xs h k) (numsTo xs h k))) (fun _ i _ => n - (intOf i).toNat)
      case atStart => exact ⟨0, ac1, am1, ao1, at1, cc1, cm1, co1, ct1, Nat.zero_le _, rfl, S2⟩
      case round =>
        clear S2 B2
        obtain ⟨k, ac0, am0, ao0, at0, cc0, cm0, co0, ct0, hk, rfl, SW⟩ := hrel
        have hNB := runTo_b hB xs k
        have hNL := numsTo_len xs h k
        by_cases hlt : k < n
        · have HN1 := Lib.hid (show runTo xs h (k + 1) = (doAct (runTo xs h k) (nth xs (k * 5)) (nth xs (k * 5 + 1)) (nth xs (k * 5 + 2)) (nth xs (k * 5 + 3)) (nth xs (k * 5 + 4))).1 from rfl)
          have HN2 := Lib.hid (show numsTo xs h (k + 1) = numsTo xs h k ++ [(doAct (runTo xs h k) (nth xs (k * 5)) (nth xs (k * 5 + 1)) (nth xs (k * 5 + 2)) (nth xs (k * 5 + 3)) (nth xs (k * 5 + 4))).2] from rfl)
          have hbd := doAct_bd (runTo xs h k) (nth xs (k * 5)) (nth xs (k * 5 + 1)) (nth xs (k * 5 + 2)) (nth xs (k * 5 + 3)) (nth xs (k * 5 + 4))
          obtain ⟨_, _, _, _, hv2, hc2⟩ := ha.below SW.out.below
          cases hv2
          obtain ⟨b2, o2, rfl, f0, f1, f2, f3, f4, l2⟩ := atAct HX.out hc2 k hlt
          clear hc2
          have hkn : (k : Int) < n := by omega
          generalize nth xs (k * 5) = p0 at *
          generalize nth xs (k * 5 + 1) = p1 at *
          generalize nth xs (k * 5 + 2) = p2 at *
          generalize nth xs (k * 5 + 3) = p3 at *
          generalize nth xs (k * 5 + 4) = p4 at *
          generalize runTo xs h k = g at *
          generalize numsTo xs h k = N at *
          have yX : w1.heap.size < wr.heap.size := SW.out.box.six.lt
          have yR : w.heap.size + 1 < wr.heap.size := SW.out.res.lt
          have HNL := Lib.hid hNL
          clear hNL
          have g0 := SW.out.box.six.c0
          have g1 := SW.out.box.six.c1
          have g2 := SW.out.box.six.c2
          have g3 := SW.out.box.six.c3
          have g4 := SW.out.box.six.c4
          have g5 := SW.out.box.six.c5
          have HRD := Lib.hid (fun (W : World) (q : Below wr.heap.size wr W) => (SW.out.box.house.read hNB).below q)
          have hnil := SW.out.box.house.nils
          have hDr : Below wr.heap.size wr wr.drew := bdrew (bref _)
          have hDa : Below wr.heap.size wr (wr.alloc (.cells #[.slice none 0 0, .slice none 0 0, .slice none 0 0, .slice none 0 0, .int .i64 0, .int .i64 0] 27)).drew := bdrew (balloc (bref _) _)
          have SZ := Lib.hid (show Six wr.heap.size ((wr.alloc (.cells #[.slice none 0 0, .slice none 0 0, .slice none 0 0, .slice none 0 0, .int .i64 0, .int .i64 0] 27)).drew) (.slice none 0 0) (.slice none 0 0) (.slice none 0 0) (.slice none 0 0) (.int .i64 0) (.int .i64 0) from ⟨by go_simp, by go_simp, by go_simp, by go_simp, by go_simp, by go_simp, by go_simp, by go_simp, by go_simp, by go_simp, by go_simp, by go_simp⟩)
          generalize hg1 : (doAct g p0 p1 p2 p3 p4).1 = g' at *
          generalize hg2 : (doAct g p0 p1 p2 p3 p4).2 = z at *
          have HG1 := Lib.hid hg1
          have HG2 := Lib.hid hg2
          clear hg1 hg2
          have SS : Hid (∀ w' : World, Below wr.heap.size wr w' → w'.cell? ⟨w1.heap.size, 0, none⟩ = some (Value.slice ac0 (g).n cc0) ∧ w'.cell? ⟨w1.heap.size, 1, none⟩ = some (Value.slice am0 (g).ms.length cm0) ∧ w'.cell? ⟨w1.heap.size, 2, none⟩ = some (Value.slice ao0 (g).os.length co0) ∧ w'.cell? ⟨w1.heap.size, 3, none⟩ = some (Value.slice at0 (g).ts.length ct0) ∧ w'.cell? ⟨w1.heap.size, 4, none⟩ = some (Value.int .i64 (g).sent) ∧ w'.cell? ⟨w1.heap.size, 5, none⟩ = some (Value.int .i64 (g).day) ∧ w'.cell? ⟨b2, o2 + k * 5, none⟩ = some (.int .i64 p0) ∧ w'.cell? ⟨b2, o2 + k * 5 + 1, none⟩ = some (.int .i64 p1) ∧ w'.cell? ⟨b2, o2 + k * 5 + 2, none⟩ = some (.int .i64 p2) ∧ w'.cell? ⟨b2, o2 + k * 5 + 3, none⟩ = some (.int .i64 p3) ∧ w'.cell? ⟨b2, o2 + k * 5 + 4, none⟩ = some (.int .i64 p4) ∧ Below wr.heap.size wr w') := fun W q => ⟨(q.cell (p := ⟨w1.heap.size, 0, none⟩) yX).trans g0, (q.cell (p := ⟨w1.heap.size, 1, none⟩) yX).trans g1, (q.cell (p := ⟨w1.heap.size, 2, none⟩) yX).trans g2, (q.cell (p := ⟨w1.heap.size, 3, none⟩) yX).trans g3, (q.cell (p := ⟨w1.heap.size, 4, none⟩) yX).trans g4, (q.cell (p := ⟨w1.heap.size, 5, none⟩) yX).trans g5, (q.cell (p := ⟨b2, o2 + k * 5, none⟩) l2).trans f0, (q.cell (p := ⟨b2, o2 + k * 5 + 1, none⟩) l2).trans f1, (q.cell (p := ⟨b2, o2 + k * 5 + 2, none⟩) l2).trans f2, (q.cell (p := ⟨b2, o2 + k * 5 + 3, none⟩) l2).trans f3, (q.cell (p := ⟨b2, o2 + k * 5 + 4, none⟩) l2).trans f4, q⟩
          go_upto_region 8 with fail
          go_cut [9, 10] (fun p q wx => ∃ (P : Nat) (ac5 am5 ao5 at5 : Option Addr) (cc5 cm5 co5 ct5 : Nat), p = .pointer (some ⟨P, 0, none⟩) ∧ q = .int .i64 z ∧ Hid (Six P wx (.slice ac5 (g').n cc5) (.slice am5 (g').ms.length cm5) (.slice ao5 (g').os.length co5) (.slice at5 (g').ts.length ct5) (.int .i64 g'.sent) (.int .i64 g'.day)) ∧ Hid (HouseO wr.heap.size wx.heap.size wx (.slice ac5 (g').n cc5) (.slice am5 (g').ms.length cm5) (.slice ao5 (g').os.length co5) (.slice at5 (g').ts.length ct5) g') ∧ Hid (Below wr.heap.size wr wx))
          case first =>
            go_region_held3 (fun w' => w'.cell? ⟨w1.heap.size, 0, none⟩ = some (Value.slice ac0 (g).n cc0) ∧ w'.cell? ⟨w1.heap.size, 1, none⟩ = some (Value.slice am0 (g).ms.length cm0) ∧ w'.cell? ⟨w1.heap.size, 2, none⟩ = some (Value.slice ao0 (g).os.length co0) ∧ w'.cell? ⟨w1.heap.size, 3, none⟩ = some (Value.slice at0 (g).ts.length ct0) ∧ w'.cell? ⟨w1.heap.size, 4, none⟩ = some (Value.int .i64 (g).sent) ∧ w'.cell? ⟨w1.heap.size, 5, none⟩ = some (Value.int .i64 (g).day) ∧ w'.cell? ⟨b2, o2 + k * 5, none⟩ = some (.int .i64 p0) ∧ w'.cell? ⟨b2, o2 + k * 5 + 1, none⟩ = some (.int .i64 p1) ∧ w'.cell? ⟨b2, o2 + k * 5 + 2, none⟩ = some (.int .i64 p2) ∧ w'.cell? ⟨b2, o2 + k * 5 + 3, none⟩ = some (.int .i64 p3) ∧ w'.cell? ⟨b2, o2 + k * 5 + 4, none⟩ = some (.int .i64 p4) ∧ Below wr.heap.size wr w')
              (first | with_reducible exact SS.out _ hDr | with_reducible exact SS.out _ hDa | with_reducible exact SS.out _ q2 | with_reducible exact SS.out _ qA | with_reducible exact SS.out _ qV | with_reducible exact SS.out _ qP | fail "keep")
              (first | (go_at_call 67; go_split_ands; refine (specDoAct _ _ _ _ g p0 p1 p2 p3 p4 _ (HRD.out _ (by assumption)) hnil hNB).mono ?_; rw [HG1.out, HG2.out]; rintro e w2_ ⟨ac5, cc5, am5, cm5, ao5, co5, at5, ct5, rfl, hO, hb2⟩; have q2 : Below wr.heap.size wr w2_ := (by first | exact bnext hDr hb2 | exact bnext hDa hb2); have qA : Below wr.heap.size wr (w2_.alloc (.cells #[.slice none 0 0, .slice none 0 0, .slice none 0 0, .slice none 0 0, .int .i64 0, .int .i64 0] 27)) := balloc q2 _; have qV : Below wr.heap.size wr (w2_.alloc (.cells #[.slice ac5 (g').n cc5, .slice am5 (g').ms.length cm5, .slice ao5 (g').os.length co5, .slice at5 (g').ts.length ct5, .int .i64 (g').sent, .int .i64 (g').day] 27)) := balloc q2 _; have qP : Below wr.heap.size wr (put6 w2_ wr.heap.size (.slice ac5 (g').n cc5) (.slice am5 (g').ms.length cm5) (.slice ao5 (g').os.length co5) (.slice at5 (g').ts.length ct5) (.int .i64 g'.sent) (.int .i64 g'.day)) := Only.below q2 (only_put6 w2_ wr.heap.size _ _ _ _ _ _) (Nat.le_refl _); have yX2 : w1.heap.size < w2_.heap.size := (by have := q2.size; omega); (try (have SZ2 := SZ.out.below hb2; have SH := Lib.hid SZ2; obtain ⟨s0, s1, s2, s3, s4, s5, fs0, fs1, fs2, fs3, fs4, fs5⟩ := SZ2))))
            all_goals
              go_wp2_with fail
              go_meet
              first
              | (have oB := only_put6 w2_ wr.heap.size (.slice ac5 (g').n cc5) (.slice am5 (g').ms.length cm5) (.slice ao5 (g').os.length co5) (.slice at5 (g').ts.length ct5) (.int .i64 g'.sent) (.int .i64 g'.day)
                 exact ⟨wr.heap.size, ac5, am5, ao5, at5, cc5, cm5, co5, ct5, rfl, rfl, Lib.hid SH.out.put, Lib.hid ((hO.only oB (off_r (by simp))).wide (by simp) oB.size), Lib.hid qP⟩)
              | (have B5 := BoxH.first hO (Nat.le_refl _)
                 exact ⟨w2_.heap.size, ac5, am5, ao5, at5, cc5, cm5, co5, ct5, rfl, rfl, Lib.hid B5.six, Lib.hid (B5.house.wide (by simp) (Nat.le_refl _)), Lib.hid qV⟩)
          case rest =>
            clear SS SZ HG1 HG2 HRD hnil hDr hDa g0 g1 g2 g3 g4 g5 f0 f1 f2 f3 f4
            obtain ⟨P, ac5, am5, ao5, at5, cc5, cm5, co5, ct5, rfl, rfl, H6, HH, HBx⟩ := hcut
            have S3 := Lib.hid (SW.out.step HBx.out HH.out (Nat.le_refl _) (Nat.le_refl _))
            have SX := (SW.out.box.below HBx.out).six
            have yX2 : w1.heap.size < wc.heap.size := SX.lt
            have yR2 : w.heap.size + 1 < wc.heap.size := (SW.out.res.below HBx.out).lt
            have g0 := SX.c0
            have g1 := SX.c1
            have g2 := SX.c2
            have g3 := SX.c3
            have g4 := SX.c4
            have g5 := SX.c5
            have fg0 := SX.f0
            have fg1 := SX.f1
            have fg2 := SX.f2
            have fg3 := SX.f3
            have fg4 := SX.f4
            have fg5 := SX.f5
            have d0 := H6.out.c0
            have d1 := H6.out.c1
            have d2 := H6.out.c2
            have d3 := H6.out.c3
            have d4 := H6.out.c4
            have d5 := H6.out.c5
            clear SX
            have hNl : N.length ≤ 40 := by rw [HNL.out]; omega
            go_wp2_with (first | (at_builtin; refine wpList_append_own_at _ rfl _ _ 25 rfl (w.heap.size + 1 + 1) 3 i0 (.int .i64 0) 1 8 Tryz.underlying25 hi hz0 hz1 hz2 rfl (by decide) _ _ _ rfl (S3.out.row.alloc _) ⟨wc.heap.size, 0, none⟩ 1 1 [.int .i64 z] rfl rfl (cell_one_new' _ _ _ _ (by simp)) (ints_oneCell .i64 [z]) (by unfold maxLen; omega) (by omega) (by simp; omega) ?_; intro v' w6 hown hgrow hnil hat; have S6 := Lib.hid (S3.out.app hown hgrow hat); clear hown hgrow hnil hat))
            go_roundw
            case rel => exact ⟨k + 1, ac5, am5, ao5, at5, cc5, cm5, co5, ct5, by omega, by go_num, by rw [HN1.out, HN2.out]; exact S6⟩
            case measure => simp [intOf]; omega
        · obtain rfl : k = n := by omega
          obtain ⟨adv, capv, rfl⟩ := own_form SW.out.row
          have yX : w1.heap.size < wr.heap.size := SW.out.box.six.lt
          have yR : w.heap.size + 1 < wr.heap.size := SW.out.res.lt
          generalize runTo xs h k = g at *
          generalize numsTo xs h k = N at *
          have g0 := SW.out.box.six.c0
          have g1 := SW.out.box.six.c1
          have g2 := SW.out.box.six.c2
          have g3 := SW.out.box.six.c3
          have g4 := SW.out.box.six.c4
          have g5 := SW.out.box.six.c5
          have r0 := SW.out.res.c0
          have r1 := SW.out.res.c1
          have r2 := SW.out.res.c2
          have r3 := SW.out.res.c3
          have r4 := SW.out.res.c4
          have r5 := SW.out.res.c5
          have fr0 := SW.out.res.f0
          have fr1 := SW.out.res.f1
          have fr2 := SW.out.res.f2
          have fr3 := SW.out.res.f3
          have fr4 := SW.out.res.f4
          have fr5 := SW.out.res.f5
          go_wp2_with fail
          refine bodyPost_ret (v := .tuple #[.agg #[.slice ac0 (g).n cc0, .slice am0 (g).ms.length cm0, .slice ao0 (g).os.length co0, .slice at0 (g).ts.length ct0, .int .i64 (g).sent, .int .i64 (g).day], .slice adv N.length capv]) (by simp [results, Tryz.results35, go_sem, r0, r1, r2, r3, r4, r5]) rfl ?_
          rw [H.out]
          have fin : ∀ WF : World, Only w.heap.size (w.heap.size + 1 + 1) wr WF → WithI w WF (.slice ac0 (g).n cc0) (.slice am0 (g).ms.length cm0) (.slice ao0 (g).os.length co0) (.slice at0 (g).ts.length ct0) (.slice adv N.length capv) g N := fun WF oF => SW.out.done oF
          refine ⟨_, _, _, _, _, _, _, _, _, _, rfl, fin _ ?_⟩
          repeat (first | with_reducible exact Only.refl _ _ _ | with_reducible refine only_drew ?_ | with_reducible refine Only.alloc ?_ _ | with_reducible refine Only.set ?_ (by simp only []; omega) (by simp only []; omega) _)
    · have H := Lib.hid (runActs_no (h := h) (n := n) (xs := xs) (fun z => h40 z.2))
      have i40 : (40 : Int) < n := by omega
      have SR := Lib.hid (show Six (w.heap.size + 1) ((w.alloc (.cells #[.slice adc h.n capc, .slice adm h.ms.length capm, .slice ado h.os.length capo, .slice adt h.ts.length capt, .int .i64 h.sent, .int .i64 h.day] 27)).alloc (.cells #[.slice none 0 0, .slice none 0 0, .slice none 0 0, .slice none 0 0, .int .i64 0, .int .i64 0] 27)) (.slice none 0 0) (.slice none 0 0) (.slice none 0 0) (.slice none 0 0) (.int .i64 0) (.int .i64 0) from ⟨by go_simp, by go_simp, by go_simp, by go_simp, by go_simp, by go_simp, by go_simp, by go_simp, by go_simp, by go_simp, by go_simp, by go_simp⟩)
      have BI := Lib.hid (show Below w.heap.size w ((w.alloc (.cells #[.slice adc h.n capc, .slice adm h.ms.length capm, .slice ado h.os.length capo, .slice adt h.ts.length capt, .int .i64 h.sent, .int .i64 h.day] 27)).alloc (.cells #[.slice none 0 0, .slice none 0 0, .slice none 0 0, .slice none 0 0, .int .i64 0, .int .i64 0] 27)) from balloc (balloc (bref w) _) _)
      have KB : Hid (∀ W : World, Below ((w.alloc (.cells #[.slice adc h.n capc, .slice adm h.ms.length capm, .slice ado h.os.length capo, .slice adt h.ts.length capt, .int .i64 h.sent, .int .i64 h.day] 27)).alloc (.cells #[.slice none 0 0, .slice none 0 0, .slice none 0 0, .slice none 0 0, .int .i64 0, .int .i64 0] 27)).heap.size ((w.alloc (.cells #[.slice adc h.n capc, .slice adm h.ms.length capm, .slice ado h.os.length capo, .slice adt h.ts.length capt, .int .i64 h.sent, .int .i64 h.day] 27)).alloc (.cells #[.slice none 0 0, .slice none 0 0, .slice none 0 0, .slice none 0 0, .int .i64 0, .int .i64 0] 27)) W → W.cell? ⟨w.heap.size, 0, none⟩ = some (Value.slice adc h.n capc) ∧ W.cell? ⟨w.heap.size, 1, none⟩ = some (Value.slice adm h.ms.length capm) ∧ W.cell? ⟨w.heap.size, 2, none⟩ = some (Value.slice ado h.os.length capo) ∧ W.cell? ⟨w.heap.size, 3, none⟩ = some (Value.slice adt h.ts.length capt) ∧ W.cell? ⟨w.heap.size, 4, none⟩ = some (Value.int .i64 h.sent) ∧ W.cell? ⟨w.heap.size, 5, none⟩ = some (Value.int .i64 h.day)) := fun W hb => ⟨(hb.cell (p := ⟨w.heap.size, 0, none⟩) (by first | (simp; done) | (simp; omega))).trans (by go_simp), (hb.cell (p := ⟨w.heap.size, 1, none⟩) (by first | (simp; done) | (simp; omega))).trans (by go_simp), (hb.cell (p := ⟨w.heap.size, 2, none⟩) (by first | (simp; done) | (simp; omega))).trans (by go_simp), (hb.cell (p := ⟨w.heap.size, 3, none⟩) (by first | (simp; done) | (simp; omega))).trans (by go_simp), (hb.cell (p := ⟨w.heap.size, 4, none⟩) (by first | (simp; done) | (simp; omega))).trans (by go_simp), (hb.cell (p := ⟨w.heap.size, 5, none⟩) (by first | (simp; done) | (simp; omega))).trans (by go_simp)⟩
      go_enter Tryz.func35, Tryz.ntmps35
      go_wp2_with fail
      refine (l38Copy_any _ _ _ _ h _ (hr.below BI.out) hn hB).mono ?_
      rintro e w1 ⟨ac1, cc1, am1, cm1, ao1, co1, at1, ct1, rfl, hO, hb1⟩
      have z1 : w.heap.size + 2 ≤ w1.heap.size := by have q := hb1.size; simp at q; omega
      have S1 := Lib.hid (RunS.first (w := w) (by simp) BI.out hb1 SR.out hO)
      obtain ⟨b0, b1, b2, b3, b4, b5⟩ := KB.out _ hb1
      have yb : w.heap.size < w1.heap.size := by omega
      have yr : w.heap.size + 1 < w1.heap.size := by omega
      have B1 := Lib.hid (balloc hb1 (.cells #[.slice ac1 (h).n cc1, .slice am1 (h).ms.length cm1, .slice ao1 (h).os.length co1, .slice at1 (h).ts.length ct1, .int .i64 (h).sent, .int .i64 (h).day] 27))
      clear hb1 hO SR BI
      go_wp2_with fail
      have S1l := S1.out.lit
      rw [show ((w1.alloc (.cells #[.slice ac1 (h).n cc1, .slice am1 (h).ms.length cm1, .slice ao1 (h).os.length co1, .slice at1 (h).ts.length ct1, .int .i64 (h).sent, .int .i64 (h).day] 27))).heap.size = w1.heap.size + 1 by simp] at S1l
      have S1 := Lib.hid S1l
      clear S1l
      have B1 := Lib.hid (balloc B1.out (.cells #[] 3))
      refine (specHouseOk _ _ _ _ h _ (hr.below S1.out.below)).mono ?_
      rw [h1]
      rintro e w2 ⟨rfl, hb2⟩
      have S2 := Lib.hid (S1.out.go hb2)
      have B2 := Lib.hid (bnext B1.out hb2)
      have yx : w1.heap.size < w2.heap.size := S2.out.box.six.lt
      clear hb2 S1 B1 b0 b1 b2 b3 b4 b5
      have g0 := S2.out.box.six.c0
      have g1 := S2.out.box.six.c1
      have g2 := S2.out.box.six.c2
      have g3 := S2.out.box.six.c3
      have g4 := S2.out.box.six.c4
      have g5 := S2.out.box.six.c5
      have r0 := S2.out.res.c0
      have r1 := S2.out.res.c1
      have r2 := S2.out.res.c2
      have r3 := S2.out.res.c3
      have r4 := S2.out.res.c4
      have r5 := S2.out.res.c5
      have fr0 := S2.out.res.f0
      have fr1 := S2.out.res.f1
      have fr2 := S2.out.res.f2
      have fr3 := S2.out.res.f3
      have fr4 := S2.out.res.f4
      have fr5 := S2.out.res.f5
      go_wp2_with fail
      refine bodyPost_ret (v := .tuple #[.agg #[.slice ac1 (h).n cc1, .slice am1 (h).ms.length cm1, .slice ao1 (h).os.length co1, .slice at1 (h).ts.length ct1, .int .i64 (h).sent, .int .i64 (h).day], .slice (some ⟨w1.heap.size + 1, 0, none⟩) 0 0]) (by simp [results, Tryz.results35, go_sem, r0, r1, r2, r3, r4, r5]) rfl ?_
      rw [H.out]
      have fin : ∀ WF : World, Only w.heap.size (w.heap.size + 1 + 1) w2 WF → WithI w WF (.slice ac1 (h).n cc1) (.slice am1 (h).ms.length cm1) (.slice ao1 (h).os.length co1) (.slice at1 (h).ts.length ct1) (.slice (some ⟨w1.heap.size + 1, 0, none⟩) 0 0) h [] := fun WF oF => S2.out.done oF
      refine ⟨_, _, _, _, _, _, _, _, _, _, rfl, fin _ ?_⟩
      repeat (first | with_reducible exact Only.refl _ _ _ | with_reducible refine only_drew ?_ | with_reducible refine Only.alloc ?_ _ | with_reducible refine Only.set ?_ (by simp only []; omega) (by simp only []; omega) _)
end Go.Proofs.YtlipfkalehikkaaGreatDoor

/- The marks of a house and of numbers that one call made. -/
namespace Go.Proofs.YtlipfkalehikkaaGreatDoor
open Go.ChangeShapes Go.WideShapes Go.ChangeAt Go.RowKit

theorem RowO.keep {p q : Nat} {w w' : World} {e : TypeId} {m : Nat} {v : Value} {n : Nat} {xs : List Int} (h : RowO p q w e m v n xs) (hk : Keep p q w w') : RowO p q w' e m v n xs := ⟨own_keep h.own hk (fun b hb => h.at b hb), h.top⟩
theorem implRunActsV (vc vm vo vt : Value) (h : HD) (va : Value) (n : Nat) (xs : List Int) (w : World) (hr : HouseR w vc vm vo vt h) (ha : Recs 5 w va n xs) (hn : HouseN vc vm vo vt) (hB : HouseB h 1048576) : Calls Tryz.prog 9 #[.agg #[vc, vm, vo, vt, .int .i64 h.sent, .int .i64 h.day], va] w (fun e w' => ∃ ac cc am cm ao co at_ ct al cl, e = .returned (.tuple #[.agg #[.slice ac ((runActs h n xs).1).n cc, .slice am ((runActs h n xs).1).ms.length cm, .slice ao ((runActs h n xs).1).os.length co, .slice at_ ((runActs h n xs).1).ts.length ct, .int .i64 ((runActs h n xs).1).sent, .int .i64 ((runActs h n xs).1).day], .slice al ((runActs h n xs).2).length cl]) ∧ WithI w w' (.slice ac ((runActs h n xs).1).n cc) (.slice am ((runActs h n xs).1).ms.length cm) (.slice ao ((runActs h n xs).1).os.length co) (.slice at_ ((runActs h n xs).1).ts.length ct) (.slice al ((runActs h n xs).2).length cl) ((runActs h n xs).1) ((runActs h n xs).2)) := implRunActs vc vm vo vt va h n xs w hr ha hn hB
theorem specRunActsV (vc vm vo vt : Value) (h : HD) (va : Value) (n : Nat) (xs : List Int) (w : World) (hr : HouseR w vc vm vo vt h) (ha : Recs 5 w va n xs) (hn : HouseN vc vm vo vt) (hB : HouseB h 1048576) : Calls Tryz.prog 35 #[.agg #[vc, vm, vo, vt, .int .i64 h.sent, .int .i64 h.day], va] w (fun e w' => ∃ ac cc am cm ao co at_ ct al cl, e = .returned (.tuple #[.agg #[.slice ac ((runActs h n xs).1).n cc, .slice am ((runActs h n xs).1).ms.length cm, .slice ao ((runActs h n xs).1).os.length co, .slice at_ ((runActs h n xs).1).ts.length ct, .int .i64 ((runActs h n xs).1).sent, .int .i64 ((runActs h n xs).1).day], .slice al ((runActs h n xs).2).length cl]) ∧ WithI w w' (.slice ac ((runActs h n xs).1).n cc) (.slice am ((runActs h n xs).1).ms.length cm) (.slice ao ((runActs h n xs).1).os.length co) (.slice at_ ((runActs h n xs).1).ts.length ct) (.slice al ((runActs h n xs).2).length cl) ((runActs h n xs).1) ((runActs h n xs).2)) := specRunActs vc vm vo vt va h n xs w hr ha hn hB
end Go.Proofs.YtlipfkalehikkaaGreatDoor

/- The walks of IsReplay, in the program and in the reference. -/
namespace Go.Proofs.YtlipfkalehikkaaGreatDoor
open Go.ChangeShapes Go.WideShapes Go.ChangeAt Go.RowKit

theorem isReplay_1 {h : HD} {n : Nat} {xs zs : List Int} (e : houseOk h = false) : isReplay h n xs zs = false := by simp [isReplay, e]
theorem isReplay_2 {h : HD} {n : Nat} {xs zs : List Int} (e : ¬ n ≤ 40) : isReplay h n xs zs = false := by simp [isReplay, e]
theorem isReplay_t {h : HD} {n : Nat} {xs zs : List Int} (e : houseOk h = true) (e2 : n ≤ 40) : isReplay h n xs zs = decide (numsTo xs h n = zs) := by simp [isReplay, e, e2]

end Go.Proofs.YtlipfkalehikkaaGreatDoor

/- IsReplay in the law's form. -/
namespace Go.Proofs.YtlipfkalehikkaaGreatDoor
open Go.ChangeShapes Go.WideShapes Go.ChangeAt Go.RowKit
end Go.Proofs.YtlipfkalehikkaaGreatDoor
