/- A house as data; what the test of a house answers. -/
import Derived.Test.YtdchgbhhlocmdaaDaysFn
namespace Go.Proofs.Ytdchgbhhlocmdaa
open Go.ChangeShapes Go.WideShapes Go.ChangeAt Go.RowKit

structure HD where
  n : Nat
  xs : List Int
  ms : List Int
  os : List Int
  ts : List Int
  sent : Int
  day : Int
def ascAt (ts : List Int) (k : Nat) : Bool := decide (k = 0) || decide (nth ts (k - 1) < nth ts k)
def ascOk (ts : List Int) : Bool := allTo (ascAt ts) ts.length
def toldAt (n : Nat) (ts : List Int) (k : Nat) : Bool := inB (nth ts k) 0 ((n : Int) - 1)
def madeAt (ms : List Int) (day : Int) (k : Nat) : Bool := decide (nth ms k ≤ day)
def houseOk (h : HD) : Bool :=
  daysOk h.n h.xs h.ms && (ownersOk h.n h.xs h.os && (ascOk h.ts && (inB h.sent 0 1000 && (inB h.day 0 10000 && (allTo (toldAt h.n h.ts) h.ts.length && allTo (madeAt h.ms h.day) h.ms.length)))))
theorem house_1 {h : HD} (e : daysOk h.n h.xs h.ms = false) : houseOk h = false := by simp [houseOk, e]
theorem house_2 {h : HD} (e : ownersOk h.n h.xs h.os = false) : houseOk h = false := by simp [houseOk, e]
theorem house_3 {h : HD} (e : ascOk h.ts = false) : houseOk h = false := by simp [houseOk, e]
theorem house_4 {h : HD} (e : inB h.sent 0 1000 = false) : houseOk h = false := by simp [houseOk, e]
theorem house_5 {h : HD} (e : inB h.day 0 10000 = false) : houseOk h = false := by simp [houseOk, e]
theorem house_6 {h : HD} {k : Nat} (hk : k < h.ts.length) (e : toldAt h.n h.ts k = false) : houseOk h = false := by simp [houseOk, allTo_no hk e]
theorem house_7 {h : HD} {k : Nat} (hk : k < h.ms.length) (e : madeAt h.ms h.day k = false) : houseOk h = false := by simp [houseOk, allTo_no hk e]
theorem house_3' {h : HD} {k : Nat} (hk : k < h.ts.length) (e : ascAt h.ts k = false) : houseOk h = false := house_3 (allTo_no hk e)
theorem house_t {h : HD} (e1 : daysOk h.n h.xs h.ms = true) (e2 : ownersOk h.n h.xs h.os = true) (e3 : ascOk h.ts = true) (e6 : allTo (toldAt h.n h.ts) h.ts.length = true) (e7 : allTo (madeAt h.ms h.day) h.ms.length = true) :
    houseOk h = (inB h.sent 0 1000 && inB h.day 0 10000) := by simp [houseOk, e1, e2, e3, e6, e7]
structure HouseFacts (h : HD) : Prop where
  days : daysOk h.n h.xs h.ms = true
  owners : ownersOk h.n h.xs h.os = true
  asc : ascOk h.ts = true
  sent : 0 ≤ h.sent ∧ h.sent ≤ 1000
  day : 0 ≤ h.day ∧ h.day ≤ 10000
  told : ∀ k, k < h.ts.length → 0 ≤ nth h.ts k ∧ nth h.ts k < h.n
  made : ∀ k, k < h.ms.length → nth h.ms k ≤ h.day
theorem houseOk_facts {h : HD} (e : houseOk h = true) : HouseFacts h := by
  simp only [houseOk, Bool.and_eq_true] at e
  obtain ⟨e1, e2, e3, e4, e5, e6, e7⟩ := e
  refine ⟨e1, e2, e3, inB_le e4, inB_le e5, fun k hk => ?_, fun k hk => by simpa [madeAt] using allTo_at e7 hk⟩
  have := inB_le (allTo_at e6 hk)
  omega
/-- the four slices of a house read as its data -/
structure HouseR (w : World) (vc vm vo vt : Value) (h : HD) : Prop where
  c : Recs 3 w vc h.n h.xs
  m : Ints w vm h.ms
  o : Ints w vo h.os
  t : Ints w vt h.ts
theorem HouseR.below {w w' : World} {vc vm vo vt : Value} {h : HD} (r : HouseR w vc vm vo vt h) (hb : Below w.heap.size w w') : HouseR w' vc vm vo vt h :=
  ⟨r.c.below hb, r.m.below hb, r.o.below hb, r.t.below hb⟩
theorem HouseR.alloc {w : World} {vc vm vo vt : Value} {h : HD} (r : HouseR w vc vm vo vt h) (o : Obj) : HouseR (w.alloc o) vc vm vo vt h := r.below (balloc (bref w) o)
end Go.Proofs.Ytdchgbhhlocmdaa
