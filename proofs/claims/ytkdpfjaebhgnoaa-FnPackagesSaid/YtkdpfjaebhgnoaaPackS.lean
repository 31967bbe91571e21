/- Two lots that the law of packages fills. -/
import Derived.Test.YtkdpfjaebhgnoaaPackFn
import Derived.Test.YtkdpfjaebhgnoaaLeastMore
import Derived.Test.YtkdpfjaebhgnoaaPick
namespace Go.Proofs.Ytkdpfjaebhgnoaa
open Go.ChangeShapes Go.WideShapes Go.ChangeAt Go.RowKit

theorem sep_appP {v v' u : Value} {N : Nat} (h : Sep v u) (hu : ∀ b, u.ownBlock = some b → b < N) (hat : v'.ownBlock = v.ownBlock ∨ v'.ownBlock = some N) : Sep v' u := fun b hb hub => by
  rcases hat with e | e
  · exact h b (by rw [← e]; exact hb) hub
  · rw [e] at hb
    cases hb
    have := hu _ hub
    omega
/-- two lots, their boxes at X1 and X2, their rows from B on -/
structure PackS (B X1 X2 : Nat) (nm : Int) (u1 u2 : Value) (xs1 xs2 : List Int) (w : World) : Prop where
  l1 : X1 < B
  l2 : X2 < B
  ne : X1 ≠ X2
  bl : B ≤ w.heap.size
  a0 : w.cell? ⟨X1, 0, none⟩ = some (.int .i64 nm)
  a1 : w.cell? ⟨X1, 1, none⟩ = some u1
  af : w.frozen? ⟨X1, 1, none⟩ = false
  c0 : w.cell? ⟨X2, 0, none⟩ = some (.int .i64 nm)
  c1 : w.cell? ⟨X2, 1, none⟩ = some u2
  cf : w.frozen? ⟨X2, 1, none⟩ = false
  o1 : w.ownsRow B 3 1 u1 xs1.length (xs1.map (Value.int .i64))
  o2 : w.ownsRow B 3 1 u2 xs2.length (xs2.map (Value.int .i64))
  sep : Sep u1 u2
section
variable {B X1 X2 : Nat} {nm : Int} {u1 u2 : Value} {xs1 xs2 : List Int} {w w' W w1 : World}
theorem PackS.swap (h : PackS B X1 X2 nm u1 u2 xs1 xs2 w) : PackS B X2 X1 nm u2 u1 xs2 xs1 w :=
  ⟨h.l2, h.l1, h.ne.symm, h.bl, h.c0, h.c1, h.cf, h.a0, h.a1, h.af, h.o2, h.o1, h.sep.symm⟩
theorem PackS.below (h : PackS B X1 X2 nm u1 u2 xs1 xs2 w) (hb : Below w.heap.size w w') : PackS B X1 X2 nm u1 u2 xs1 xs2 w' := by
  have q1 : X1 < w.heap.size := Nat.lt_of_lt_of_le h.l1 h.bl
  have q2 : X2 < w.heap.size := Nat.lt_of_lt_of_le h.l2 h.bl
  exact ⟨h.l1, h.l2, h.ne, Nat.le_trans h.bl hb.size, (hb.cell (p := ⟨X1, 0, none⟩) q1).trans h.a0, (hb.cell (p := ⟨X1, 1, none⟩) q1).trans h.a1, (hb.frozen (p := ⟨X1, 1, none⟩) q1).trans h.af, (hb.cell (p := ⟨X2, 0, none⟩) q2).trans h.c0, (hb.cell (p := ⟨X2, 1, none⟩) q2).trans h.c1, (hb.frozen (p := ⟨X2, 1, none⟩) q2).trans h.cf, own_below h.o1 hb, own_below h.o2 hb, h.sep⟩
theorem PackS.grown {o : Obj} (h : PackS B X1 X2 nm u1 u2 xs1 xs2 W) (hg : (W.alloc o).grownBy w1 u1.ownBlock) :
    w1.cell? ⟨X1, 0, none⟩ = some (.int .i64 nm) ∧ w1.cell? ⟨X1, 1, none⟩ = some u1 ∧ w1.frozen? ⟨X1, 1, none⟩ = false ∧ w1.heap[X2]? = W.heap[X2]? ∧ W.heap.size < w1.heap.size := by
  have l1 := h.l1; have l2 := h.l2; have bl := h.bl
  have hne : ∀ k, k < B → u1.ownBlock ≠ some k := fun k hk q => by have := (h.o1.lt _ q).1; omega
  have k1 := hg.block X1 (by simp; omega) (fun q => hne X1 l1 q.symm)
  have k2 := hg.block X2 (by simp; omega) (fun q => hne X2 l2 q.symm)
  have a1 := balloc (bref W) o
  have q1 : X1 < W.heap.size := Nat.lt_of_lt_of_le l1 bl
  refine ⟨(World.cell?_of_block k1).trans ((a1.cell (p := ⟨X1, 0, none⟩) q1).trans h.a0), (World.cell?_of_block k1).trans ((a1.cell (p := ⟨X1, 1, none⟩) q1).trans h.a1), (World.frozen?_of_block k1).trans ((a1.frozen (p := ⟨X1, 1, none⟩) q1).trans h.af), k2.trans (a1.block X2 (by omega)), ?_⟩
  have := hg.size; simp at this; omega
theorem PackS.push {v' : Value} {o : Obj} {x : Int} (h : PackS B X1 X2 nm u1 u2 xs1 xs2 W) (hown : w1.ownsRow B 3 1 v' (xs1.length + 1) (xs1.map (Value.int .i64) ++ [.int .i64 x])) (hg : (W.alloc o).grownBy w1 u1.ownBlock) (hat : v'.ownBlock = u1.ownBlock ∨ v'.ownBlock = some (W.alloc o).heap.size) :
    PackS B X1 X2 nm v' u2 (xs1 ++ [x]) xs2 (w1.setCell ⟨X1, 1, none⟩ v') := by
  obtain ⟨b1, b2, b3, k2, hs⟩ := h.grown hg
  have l1 := h.l1; have l2 := h.l2; have bl := h.bl; have hne := h.ne
  have n1 : v'.ownBlock ≠ some X1 := fun q => by have := (hown.lt _ q).1; omega
  have n2 : u2.ownBlock ≠ some X1 := fun q => by have := (h.o2.lt _ q).1; omega
  have hR : (w1.setCell ⟨X1, 1, none⟩ v').heap[X2]? = W.heap[X2]? := (Below.heap_setCell w1 ⟨X1, 1, none⟩ v' X2 (by show X2 ≠ X1; omega)).trans k2
  have o2' := own_kept (own_below h.o2 (balloc (bref W) o)) hg h.sep
  exact ⟨l1, l2, hne, by simp; omega, by go_simp, by go_simp, by go_simp, (World.cell?_of_block hR).trans h.c0, (World.cell?_of_block hR).trans h.c1, (World.frozen?_of_block hR).trans h.cf, by simpa using own_set hown n1 _, own_set o2' n2 _, sep_appP h.sep (fun b hb => by have := (h.o2.lt b hb).2; simp; omega) hat⟩
theorem PackS.pushB {o : Obj} {a : World} (v' : Value) (h : PackS B X1 X2 nm u1 u2 xs1 xs2 W) (hb : Below a.heap.size a W) (ha : a.heap.size ≤ X1) (hg : (W.alloc o).grownBy w1 u1.ownBlock) : Below a.heap.size a (w1.setCell ⟨X1, 1, none⟩ v') := by
  have l1 := h.l1
  exact Only.below ((balloc hb o).grown hg (by have := hb.size; simp; omega) fun k hk => by have := (h.o1.lt k hk).1; omega) ((Only.refl X1 (X1 + 1) w1).set (p := ⟨X1, 1, none⟩) (Nat.le_refl _) (Nat.lt_succ_self _) v') ha
end
theorem packs_new (w : World) (nm : Int) : PackS (w.heap.size + 2) w.heap.size (w.heap.size + 1) nm (.slice none 0 0) (.slice none 0 0) [] [] ((w.alloc (.cells #[.int .i64 nm, .slice none 0 0] 47)).alloc (.cells #[.int .i64 nm, .slice none 0 0] 47)) :=
  ⟨by omega, by omega, by omega, by simp, by go_simp, by go_simp, by go_simp, by go_simp, by go_simp, by go_simp, World.ownsRow_nil _ _ _ _, World.ownsRow_nil _ _ _ _, fun b hb => by cases hb⟩
theorem shift_push (xs : List Int) (n : Int) {k : Nat} (hk : k < xs.length) : shiftL (xs.take k) n ++ [nth xs k + n] = shiftL (xs.take (k + 1)) n := by
  have e : xs.take (k + 1) = xs.take k ++ [xs[k]] := List.take_succ_eq_append_getElem hk
  have e' : nth xs k = xs[k] := by simp [nth, hk]
  rw [e, e']
  exact (List.map_append (f := (· + n)) (l₁ := xs.take k) (l₂ := [xs[k]])).symm
/-- what the law reads at its end: the drawn lot's box at BL, the others' at X1 and X2 -/
structure FinS (BL X1 X2 : Nat) (nm : Int) (ul u1 u2 : Value) (xs xs1 xs2 : List Int) (w : World) : Prop where
  c0 : w.cell? ⟨BL, 0, none⟩ = some (.int .i64 nm)
  c1 : w.cell? ⟨BL, 1, none⟩ = some ul
  a0 : w.cell? ⟨X1, 0, none⟩ = some (.int .i64 nm)
  a1 : w.cell? ⟨X1, 1, none⟩ = some u1
  b0 : w.cell? ⟨X2, 0, none⟩ = some (.int .i64 nm)
  b1 : w.cell? ⟨X2, 1, none⟩ = some u2
  i0 : Ints w ul xs
  i1 : Ints w u1 xs1
  i2 : Ints w u2 xs2
theorem FinS.below {BL X1 X2 : Nat} {nm : Int} {ul u1 u2 : Value} {xs xs1 xs2 : List Int} {w w' : World} (h : FinS BL X1 X2 nm ul u1 u2 xs xs1 xs2 w) (hb : Below w.heap.size w w') : FinS BL X1 X2 nm ul u1 u2 xs xs1 xs2 w' :=
  ⟨(hb.cell (World.block_lt_of_cell? w _ h.c0)).trans h.c0, (hb.cell (World.block_lt_of_cell? w _ h.c1)).trans h.c1, (hb.cell (World.block_lt_of_cell? w _ h.a0)).trans h.a0, (hb.cell (World.block_lt_of_cell? w _ h.a1)).trans h.a1, (hb.cell (World.block_lt_of_cell? w _ h.b0)).trans h.b0, (hb.cell (World.block_lt_of_cell? w _ h.b1)).trans h.b1, h.i0.below hb, h.i1.below hb, h.i2.below hb⟩
/-- what the law's end computes -/
structure EndL (nm : Int) (xs : List Int) (m : Nat) : Prop where
  g1 : lotGood nm (shiftL xs m) = true
  g0 : lotGood nm xs = decide (m = 0)
  g2 : 0 < m → lotGood nm (shiftL xs ((m : Int) - 1)) = false
  k1 : 0 ≤ countShort nm xs 1
  k2 : countShort nm xs 2 ≤ countShort nm xs 1
  k0 : countShort nm xs 1 ≤ countShort nm xs 0
theorem LotD.ends {nm : Int} {xs : List Int} (h : LotD nm xs) {m : Nat} (hg : lotGood nm (shiftL xs m) = true) (hn : ∀ j : Nat, j < m → lotGood nm (shiftL xs j) = false) : EndL nm xs m := by
  have hok := h.okAt (n := 0) (by omega) (by omega)
  rw [shiftL_zero] at hok
  have hs := h.s0
  refine ⟨hg, ?_, fun hm => ?_, ?_, count_anti hok (by omega) (by omega) (by omega) (by omega), count_anti hok (by omega) (by omega) (by omega) (by omega)⟩
  · rcases Nat.eq_zero_or_pos m with q | q
    · subst q; rw [Int.ofNat_zero, shiftL_zero] at hg; rw [hg]; rfl
    · have := hn 0 q
      rw [Int.ofNat_zero, shiftL_zero] at this
      rw [this]
      exact (decide_eq_false (by omega)).symm
  · have := hn (m - 1) (by omega)
    rw [show ((m - 1 : Nat) : Int) = (m : Int) - 1 by omega] at this
    exact this
  · rw [count_is hok (by omega) (by omega)]
    exact (short_sum _ _ _ _).1
end Go.Proofs.Ytkdpfjaebhgnoaa
