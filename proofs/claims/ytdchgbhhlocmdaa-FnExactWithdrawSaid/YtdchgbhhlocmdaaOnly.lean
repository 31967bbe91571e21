/- What a call made lies in an interval of block numbers; what changes it leaves the rest. -/
import Derived.Test.YtdchgbhhlocmdaaSeq
namespace Go.Proofs.Ytdchgbhhlocmdaa
open Go.ChangeShapes Go.WideShapes Go.ChangeAt Go.RowKit

/-- of what there is in w only blocks of [lo, hi) may differ in w' -/
structure Only (lo hi : Nat) (w w' : World) : Prop where
  os : w'.os = w.os
  tape : w'.tape = w.tape
  output : w'.output = w.output
  size : w.heap.size ≤ w'.heap.size
  block : ∀ k, k < w.heap.size → ¬ (lo ≤ k ∧ k < hi) → w'.heap[k]? = w.heap[k]?
theorem Only.refl (lo hi : Nat) (w : World) : Only lo hi w w := ⟨rfl, rfl, rfl, Nat.le_refl _, fun _ _ _ => rfl⟩
theorem Only.of_grown {lo hi : Nat} {w w' : World} {row : Option Nat} (hg : w.grownBy w' row) (h : ∀ k, row = some k → lo ≤ k ∧ k < hi) : Only lo hi w w' :=
  ⟨hg.os, hg.tape, hg.output, hg.size, fun k hk hn => hg.block k hk fun e => hn (h k e.symm)⟩
theorem Only.of_below {lo hi : Nat} {w w' : World} (h : Below w.heap.size w w') : Only lo hi w w' := ⟨h.os, h.tape, h.output, h.size, fun k hk _ => h.block k hk⟩
theorem Only.trans {lo hi : Nat} {a b c : World} (h : Only lo hi a b) (k : Only lo hi b c) : Only lo hi a c :=
  ⟨k.os.trans h.os, k.tape.trans h.tape, k.output.trans h.output, Nat.le_trans h.size k.size, fun i hi hn => (k.block i (Nat.lt_of_lt_of_le hi h.size) hn).trans (h.block i hi hn)⟩
/-- marks in what the call made -/
theorem Only.below {lo hi : Nat} {a w w' : World} (h : Below a.heap.size a w) (ho : Only lo hi w w') (hl : a.heap.size ≤ lo) : Below a.heap.size a w' :=
  ⟨ho.os.trans h.os, ho.tape.trans h.tape, ho.output.trans h.output, Nat.le_trans h.size ho.size, fun k hk => (ho.block k (Nat.lt_of_lt_of_le hk h.size) (by omega)).trans (h.block k hk)⟩
theorem Only.set {lo hi : Nat} {a w : World} (h : Only lo hi a w) {p : Addr} (h1 : lo ≤ p.block) (h2 : p.block < hi) (u : Value) : Only lo hi a (w.setCell p u) :=
  h.trans ⟨rfl, rfl, rfl, by simp [World.setCell], fun k _ hn => Below.heap_setCell w p u k (by rintro rfl; exact hn ⟨h1, h2⟩)⟩
theorem Only.step {lo hi : Nat} {a w w' : World} (h : Only lo hi a w) (hb : Below w.heap.size w w') : Only lo hi a w' := h.trans (Only.of_below hb)
theorem Only.alloc {lo hi : Nat} {a w : World} (h : Only lo hi a w) (o : Obj) : Only lo hi a (w.alloc o) := h.trans (Only.of_below (balloc (bref w) o))
theorem lt2 (n : Nat) : n < n + 1 + 1 := by omega
theorem lt3 (n : Nat) : n < n + 1 + 1 + 1 := by omega
theorem lt4 (n : Nat) : n < n + 1 + 1 + 1 + 1 := by omega
theorem lt5 (n : Nat) : n < n + 1 + 1 + 1 + 1 + 1 := by omega
/-- two intervals that do not meet -/
def Off (lo hi lo' hi' : Nat) : Prop := hi ≤ lo' ∨ hi' ≤ lo
theorem off_l {lo hi lo' hi' : Nat} (h : hi ≤ lo') : Off lo hi lo' hi' := .inl h
theorem off_r {lo hi lo' hi' : Nat} (h : hi' ≤ lo) : Off lo hi lo' hi' := .inr h
/-- n elements of m integers each, in a block of [lo, hi), or nil -/
structure RowO (lo hi : Nat) (w : World) (e : TypeId) (m : Nat) (v : Value) (n : Nat) (xs : List Int) : Prop where
  own : w.ownsRow lo e m v n (xs.map (Value.int .i64))
  top : ∀ b, v.ownBlock = some b → b < hi
theorem RowO.of {lo : Nat} {w : World} {e : TypeId} {m : Nat} {v : Value} {n : Nat} {xs : List Int} (h : w.ownsRow lo e m v n (xs.map (Value.int .i64))) : RowO lo w.heap.size w e m v n xs := ⟨h, fun b hb => (h.lt b hb).2⟩
theorem RowO.at {lo hi : Nat} {w : World} {e : TypeId} {m : Nat} {v : Value} {n : Nat} {xs : List Int} (h : RowO lo hi w e m v n xs) : ∀ b, v.ownBlock = some b → lo ≤ b ∧ b < hi := fun b hb => ⟨(h.own.lt b hb).1, h.top b hb⟩
theorem RowO.below {lo hi : Nat} {w w' : World} {e : TypeId} {m : Nat} {v : Value} {n : Nat} {xs : List Int} (h : RowO lo hi w e m v n xs) (hb : Below w.heap.size w w') : RowO lo hi w' e m v n xs := ⟨own_below h.own hb, h.top⟩
theorem own_only {lo hi : Nat} {w w' : World} {B : Nat} {e : TypeId} {s : Nat} {v : Value} {n : Nat} {xs : List Value} (h : w.ownsRow B e s v n xs) (ho : Only lo hi w w') (hs : ∀ b, v.ownBlock = some b → ¬ (lo ≤ b ∧ b < hi)) : w'.ownsRow B e s v n xs := by
  refine ⟨h.1, ?_⟩
  rcases h.2 with hn | ⟨g, cap, cur, rfl, hb, hgg, rest⟩
  · exact .inl hn
  · refine .inr ⟨g, cap, cur, rfl, hb, ?_, rest⟩
    rw [ho.block g (Array.getElem?_eq_some_iff.1 hgg).1 (hs g rfl)]
    exact hgg
theorem RowO.only {lo hi lo' hi' : Nat} {w w' : World} {e : TypeId} {m : Nat} {v : Value} {n : Nat} {xs : List Int} (h : RowO lo hi w e m v n xs) (ho : Only lo' hi' w w') (hs : Off lo hi lo' hi') : RowO lo hi w' e m v n xs :=
  ⟨own_only h.own ho fun b hb => by have := h.at b hb; unfold Off at hs; omega, h.top⟩
theorem RowO.wide {lo hi lo' hi' : Nat} {w : World} {e : TypeId} {m : Nat} {v : Value} {n : Nat} {xs : List Int} (h : RowO lo hi w e m v n xs) (hl : lo' ≤ lo) (hh : hi ≤ hi') : RowO lo' hi' w e m v n xs :=
  ⟨own_base h.own hl, fun b hb => Nat.lt_of_lt_of_le (h.top b hb) hh⟩
theorem RowO.sep {lo hi lo' hi' : Nat} {w w' : World} {e e' : TypeId} {m m' : Nat} {v v' : Value} {n n' : Nat} {xs xs' : List Int} (h : RowO lo hi w e m v n xs) (h' : RowO lo' hi' w' e' m' v' n' xs') (hs : Off lo hi lo' hi') : Sep v v' := fun b hb hb' => by
  have := h.at b hb
  have := h'.at b hb'
  unfold Off at hs
  omega
theorem own_form {w : World} {B : Nat} {e : TypeId} {s : Nat} {v : Value} {n : Nat} {xs : List Value} (h : w.ownsRow B e s v n xs) : ∃ ad cap, v = .slice ad n cap := by
  rcases h.2 with ⟨rfl, rfl⟩ | ⟨g, cap, _, rfl, _⟩
  · exact ⟨_, _, rfl⟩
  · exact ⟨_, _, rfl⟩
theorem RowO.ints {lo hi : Nat} {w : World} {e : TypeId} {v : Value} {xs : List Int} (h : RowO lo hi w e 1 v xs.length xs) (hl : xs.length ≤ 9223372036854775807) : Ints w v xs := Ints.of_own h.own hl
theorem RowO.recs {lo hi : Nat} {w : World} {e : TypeId} {m : Nat} {v : Value} {n : Nat} {xs : List Int} (h : RowO lo hi w e m v n xs) (hl : n ≤ 9223372036854775807) : Recs m w v n xs := Recs.of_own h.own hl
end Go.Proofs.Ytdchgbhhlocmdaa
