/- The marks of a house and of letters that one call made. -/
import Derived.Test.YtdchgbhhlocmdaaHouseS
import Derived.Test.YtdchgbhhlocmdaaLetMark
import Derived.Test.YtdchgbhhlocmdaaWithO
namespace Go.Proofs.Ytdchgbhhlocmdaa
open Go.ChangeShapes Go.WideShapes Go.ChangeAt Go.RowKit

/-- the blocks of [p, q) are as they were -/
def Keep (p q : Nat) (w w' : World) : Prop := ∀ b, b < w.heap.size → p ≤ b → b < q → w'.heap[b]? = w.heap[b]?
theorem Keep.of_below {p q : Nat} {w w' : World} (h : Below w.heap.size w w') : Keep p q w w' := fun b hb _ _ => h.block b hb
theorem Keep.of_grown {p q : Nat} {w w' : World} {v : Value} (h : w.grownBy w' v.ownBlock) (u : Out p q v) : Keep p q w w' := fun b hb h1 h2 => h.block b hb fun e => by have := u b e.symm; omega
theorem Keep.trans {p q : Nat} {a b c : World} (h : Keep p q a b) (hs : a.heap.size ≤ b.heap.size) (k : Keep p q b c) : Keep p q a c := fun i hi h1 h2 => (k i (Nat.lt_of_lt_of_le hi hs) h1 h2).trans (h i hi h1 h2)
theorem own_keep {p q : Nat} {w w' : World} {B : Nat} {e : TypeId} {s : Nat} {v : Value} {n : Nat} {xs : List Value} (h : w.ownsRow B e s v n xs) (hk : Keep p q w w') (hs : ∀ b, v.ownBlock = some b → p ≤ b ∧ b < q) : w'.ownsRow B e s v n xs := by
  refine ⟨h.1, ?_⟩
  rcases h.2 with hn | ⟨g, cap, cur, rfl, hb, hgg, rest⟩
  · exact .inl hn
  · refine .inr ⟨g, cap, cur, rfl, hb, ?_, rest⟩
    rw [hk g (Array.getElem?_eq_some_iff.1 hgg).1 (hs g rfl).1 (hs g rfl).2]
    exact hgg
theorem LetO.keep {p q : Nat} {w w' : World} {v : Value} {ls : List (Int × List Int)} (h : LetO p q w v ls) (hk : Keep p q w w') : LetO p q w' v ls := by
  obtain ⟨vs, h⟩ := h
  exact ⟨vs, h.len, own_keep h.row hk (fun b hb => ⟨(h.row.lt b hb).1, h.top b hb⟩), h.top, fun i hi => ⟨own_keep (h.each i hi).own hk (h.each i hi).at, (h.each i hi).top⟩, h.sepv, h.seps⟩
theorem RowO.out {p q lo hi : Nat} {w w' : World} {e : TypeId} {m : Nat} {v : Value} {n : Nat} {xs : List Int} (h : RowO lo hi w e m v n xs) (ho : Only p q w w') (u : Out p q v) : RowO lo hi w' e m v n xs :=
  ⟨own_only h.own ho fun b hb => by have := u b hb; omega, h.top⟩
theorem HouseO.out {p q lo hi : Nat} {w w' : World} {vc vm vo vt : Value} {h : HD} (r : HouseO lo hi w vc vm vo vt h) (ho : Only p q w w') (uc : Out p q vc) (um : Out p q vm) (uo : Out p q vo) (ut : Out p q vt) : HouseO lo hi w' vc vm vo vt h :=
  ⟨r.c.out ho uc, r.m.out ho um, r.o.out ho uo, r.t.out ho ut, r.scm, r.sco, r.sct, r.smo, r.smt, r.sot⟩
set_option maxRecDepth 100000 in
theorem markHouse_keep (vc vm vo vt : Value) (h : HD) (k : Int) (lo hi : Nat) (w : World) (hr : HouseO lo hi w vc vm vo vt h) (hB : HouseB h 1048576) (hk0 : 0 ≤ k) (hkb : k ≤ 100000000000) (p q : Nat) (uc : Out p q vc) (um : Out p q vm) (uo : Out p q vo) (ut : Out p q vt) :
    Calls Try.prog 48 #[.agg #[vc, vm, vo, vt, .int .i64 h.sent, .int .i64 h.day], .int .i64 k] w fun e w' => e = .returned (.int .i64 (k + h.bulk)) ∧ HouseO lo hi w' vc vm vo vt (h.marked k) ∧ Only lo hi w w' ∧ Keep p q w w' := by
  obtain ⟨adc, capc, rfl⟩ := own_form hr.c.own
  obtain ⟨adm, capm, rfl⟩ := own_form hr.m.own
  obtain ⟨ado, capo, rfl⟩ := own_form hr.o.own
  obtain ⟨adt, capt, rfl⟩ := own_form hr.t.own
  have hb1 := hB.n
  have hb2 := hB.ms
  have hb3 := hB.os
  have hb4 := hB.ts
  have nb : ∀ {v : Value} {e : TypeId} {s n : Nat} {xs : List Int}, RowO lo hi w e s v n xs → v.ownBlock ≠ some w.heap.size := fun r e => by have := (r.own.lt _ e).2; omega
  have nc := nb hr.c
  have nm := nb hr.m
  have no := nb hr.o
  have nt := nb hr.t
  have R := Lib.hid hr
  clear hr nb
  go_enter Try.func48, Try.ntmps48
  go_wp2_with fail
  refine (markCopyS_any _ h.n h.xs k lo _ _ (own_below R.out.c.own (balloc (bref w) _)) hk0 (by omega) (by omega)).mono ?_
  rintro e w1 ⟨rfl, M1, g1⟩
  have m1 := Lib.hid (own_kept (own_below R.out.m.own (balloc (bref w) _)) g1 R.out.scm)
  have o1 := Lib.hid (own_kept (own_below R.out.o.own (balloc (bref w) _)) g1 R.out.sco)
  have t1 := Lib.hid (own_kept (own_below R.out.t.own (balloc (bref w) _)) g1 R.out.sct)
  have C1 := Lib.hid M1
  have b1 := box_kept g1 (by simp) nc
  have z1 := g1.size
  simp at z1
  have O1 := Lib.hid ((Only.of_below (lo := lo) (hi := hi) (balloc (bref w) _)).trans (Only.of_grown g1 R.out.c.at))
  have K1 := Lib.hid ((Keep.of_below (p := p) (q := q) (balloc (bref w) _)).trans (balloc (bref w) _).size (Keep.of_grown g1 uc))
  clear M1 g1
  go_wp2_with fail
  refine (markIntS_any _ h.ms.length h.ms (k + (h.n : Int) * 3) lo _ _ m1.out (by omega) (by omega) (by omega)).mono ?_
  rintro e w2 ⟨rfl, M2, g2⟩
  have C2 := Lib.hid (own_kept C1.out g2 R.out.scm.symm)
  have o2 := Lib.hid (own_kept o1.out g2 R.out.smo)
  have t2 := Lib.hid (own_kept t1.out g2 R.out.smt)
  have m2 := Lib.hid M2
  have b2 := box_kept g2 (by omega) nm
  have z2 := g2.size
  have O2 := Lib.hid (O1.out.trans (Only.of_grown g2 R.out.m.at))
  have K2 := Lib.hid (K1.out.trans O1.out.size (Keep.of_grown g2 um))
  clear M2 g2 C1 m1 o1 t1
  go_wp2_with fail
  refine (markIntS_any _ h.os.length h.os (k + (h.n : Int) * 3 + h.ms.length) lo _ _ o2.out (by omega) (by omega) (by omega)).mono ?_
  rintro e w3 ⟨rfl, M3, g3⟩
  have C3 := Lib.hid (own_kept C2.out g3 R.out.sco.symm)
  have m3 := Lib.hid (own_kept m2.out g3 R.out.smo.symm)
  have t3 := Lib.hid (own_kept t2.out g3 R.out.sot)
  have o3 := Lib.hid M3
  have b3 := box_kept g3 (by omega) no
  have z3 := g3.size
  have O3 := Lib.hid (O2.out.trans (Only.of_grown g3 R.out.o.at))
  have K3 := Lib.hid (K2.out.trans O2.out.size (Keep.of_grown g3 uo))
  clear M3 g3 C2 m2 o2 t2
  go_wp2_with fail
  refine (markIntS_any _ h.ts.length h.ts (k + (h.n : Int) * 3 + h.ms.length + h.os.length) lo _ _ t3.out (by omega) (by omega) (by omega)).mono ?_
  rintro e w4 ⟨rfl, M4, g4⟩
  have C4 := Lib.hid (own_kept C3.out g4 R.out.sct.symm)
  have m4 := Lib.hid (own_kept m3.out g4 R.out.smt.symm)
  have o4 := Lib.hid (own_kept o3.out g4 R.out.sot.symm)
  have t4 := Lib.hid M4
  have O4 := Lib.hid (O3.out.trans (Only.of_grown g4 R.out.t.at))
  have K4 := Lib.hid (K3.out.trans O3.out.size (Keep.of_grown g4 ut))
  clear M4 g4 C3 m3 o3 t3
  go_wp2
  go_ret
  have L : ∀ (j : Int) (n : Nat), (seqL j n).length = n := seqL_len
  refine ⟨ret_int (by unfold HD.bulk; omega), ⟨⟨C4.out, R.out.c.top⟩, ⟨?_, ?_⟩, ⟨?_, ?_⟩, ⟨?_, ?_⟩, R.out.scm, R.out.sco, R.out.sct, R.out.smo, R.out.smt, R.out.sot⟩, O4.out, K4.out⟩
  · have := m4.out; simp only [HD.marked, L]; rw [show ((h.n * 3 : Nat) : Int) = (h.n : Int) * 3 by omega]; exact this
  · exact R.out.m.top
  · have := o4.out; simp only [HD.marked, L]; rw [show ((h.n * 3 : Nat) : Int) = (h.n : Int) * 3 by omega]; exact this
  · exact R.out.o.top
  · have := t4.out; simp only [HD.marked, L]; rw [show ((h.n * 3 : Nat) : Int) = (h.n : Int) * 3 by omega]; exact this
  · exact R.out.t.top

theorem markHouse_w (vc vm vo vt vl : Value) (h : HD) (L : List (Int × List Int)) (k : Int) (lo hi p q : Nat) (w : World) (hr : HouseO lo hi w vc vm vo vt h) (hB : HouseB h 1048576) (hk0 : 0 ≤ k) (hkb : k ≤ 100000000000) (hl : LetO p q w vl L) (uc : Out p q vc) (um : Out p q vm) (uo : Out p q vo) (ut : Out p q vt) :
    Calls Try.prog 48 #[.agg #[vc, vm, vo, vt, .int .i64 h.sent, .int .i64 h.day], .int .i64 k] w fun e w' => e = .returned (.int .i64 (k + h.bulk)) ∧ HouseO lo hi w' vc vm vo vt (h.marked k) ∧ LetO p q w' vl L ∧ Only lo hi w w' :=
  (markHouse_keep vc vm vo vt h k lo hi w hr hB hk0 hkb p q uc um uo ut).mono fun _ _ ⟨he, ho, hy, hk⟩ => ⟨he, ho, hl.keep hk, hy⟩
end Go.Proofs.Ytdchgbhhlocmdaa
