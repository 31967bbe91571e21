/- A house that a call made. -/
import Derived.Test.YtdchgbhhlocmdaaOnly
import Derived.Test.YtdchgbhhlocmdaaHouseFn
namespace Go.Proofs.Ytdchgbhhlocmdaa
open Go.ChangeShapes Go.WideShapes Go.ChangeAt Go.RowKit

structure HouseO (lo hi : Nat) (w : World) (vc vm vo vt : Value) (h : HD) : Prop where
  c : RowO lo hi w 93 3 vc h.n h.xs
  m : RowO lo hi w 3 1 vm h.ms.length h.ms
  o : RowO lo hi w 3 1 vo h.os.length h.os
  t : RowO lo hi w 3 1 vt h.ts.length h.ts
  scm : Sep vc vm
  sco : Sep vc vo
  sct : Sep vc vt
  smo : Sep vm vo
  smt : Sep vm vt
  sot : Sep vo vt
theorem HouseO.below {lo hi : Nat} {w w' : World} {vc vm vo vt : Value} {h : HD} (r : HouseO lo hi w vc vm vo vt h) (hb : Below w.heap.size w w') : HouseO lo hi w' vc vm vo vt h :=
  ⟨r.c.below hb, r.m.below hb, r.o.below hb, r.t.below hb, r.scm, r.sco, r.sct, r.smo, r.smt, r.sot⟩
theorem HouseO.only {lo hi lo' hi' : Nat} {w w' : World} {vc vm vo vt : Value} {h : HD} (r : HouseO lo hi w vc vm vo vt h) (ho : Only lo' hi' w w') (hs : Off lo hi lo' hi') : HouseO lo hi w' vc vm vo vt h :=
  ⟨r.c.only ho hs, r.m.only ho hs, r.o.only ho hs, r.t.only ho hs, r.scm, r.sco, r.sct, r.smo, r.smt, r.sot⟩
theorem HouseO.wide {lo hi lo' hi' : Nat} {w : World} {vc vm vo vt : Value} {h : HD} (r : HouseO lo hi w vc vm vo vt h) (hl : lo' ≤ lo) (hh : hi ≤ hi') : HouseO lo' hi' w vc vm vo vt h :=
  ⟨r.c.wide hl hh, r.m.wide hl hh, r.o.wide hl hh, r.t.wide hl hh, r.scm, r.sco, r.sct, r.smo, r.smt, r.sot⟩
/-- the numbers of its slices are not above the greatest length -/
structure HouseB (h : HD) (N : Nat) : Prop where
  n : h.n ≤ N
  ms : h.ms.length ≤ N
  os : h.os.length ≤ N
  ts : h.ts.length ≤ N
theorem HouseO.read {lo hi : Nat} {w : World} {vc vm vo vt : Value} {h : HD} (r : HouseO lo hi w vc vm vo vt h) (b : HouseB h 1048576) : HouseR w vc vm vo vt h :=
  ⟨r.c.recs (by have := b.n; omega), r.m.ints (by have := b.ms; omega), r.o.ints (by have := b.os; omega), r.t.ints (by have := b.ts; omega)⟩
/-- how many places the laws' marks write -/
def HD.bulk (h : HD) : Nat := h.n * 3 + h.ms.length + h.os.length + h.ts.length
/-- a house with the laws' marks from k on -/
def HD.marked (h : HD) (k : Int) : HD :=
  ⟨h.n, seqL k (h.n * 3), seqL (k + ((h.n * 3 : Nat) : Int)) h.ms.length, seqL (k + ((h.n * 3 : Nat) : Int) + ((h.ms.length : Nat) : Int)) h.os.length, seqL (k + ((h.n * 3 : Nat) : Int) + ((h.ms.length : Nat) : Int) + ((h.os.length : Nat) : Int)) h.ts.length, h.sent, h.day⟩
def HD.size (h : HD) : Nat := h.n + h.ms.length + h.os.length + h.ts.length
theorem bulk_le {h : HD} (b : HouseB h 1048576) : h.bulk ≤ 6291456 := by have := b.n; have := b.ms; have := b.os; have := b.ts; unfold HD.bulk; omega
end Go.Proofs.Ytdchgbhhlocmdaa
