/- A house of the call's own to which one copy is added. -/
import Derived.Test.YtdchgbhhlocmdaaHouseO
import Derived.Maps.AppendAt
namespace Go.Proofs.Ytdchgbhhlocmdaa
open Go.ChangeShapes Go.WideShapes Go.ChangeAt Go.RowKit

theorem sep_app {v v' u : Value} {N : Nat} (h : Sep v u) (hu : ∀ b, u.ownBlock = some b → b < N) (hat : v'.ownBlock = v.ownBlock ∨ v'.ownBlock = some N) : Sep v' u := fun b hb hub => by
  rcases hat with e | e
  · exact h b (by rw [← e]; exact hb) hub
  · rw [e] at hb
    cases hb
    have := hu _ hub
    omega
theorem RowO.far {lo hi N : Nat} {w : World} {e : TypeId} {m : Nat} {v : Value} {n : Nat} {xs : List Int} (h : RowO lo hi w e m v n xs) (hN : w.heap.size ≤ N) : ∀ b, v.ownBlock = some b → b < N := fun b hb => Nat.lt_of_lt_of_le (h.own.lt b hb).2 hN
theorem RowO.beside {lo hi : Nat} {w w' : World} {e : TypeId} {m : Nat} {u v : Value} {n : Nat} {xs : List Int} (h : RowO lo hi w e m u n xs) (hg : w.grownBy w' v.ownBlock) (hs : Sep v u) (hh : hi ≤ w.heap.size) : RowO lo w'.heap.size w' e m u n xs :=
  ⟨own_kept h.own hg hs, fun b hb => Nat.lt_of_lt_of_le (h.top b hb) (Nat.le_trans hh hg.size)⟩
theorem HouseO.addC {lo hi : Nat} {w w' : World} {vc vm vo vt vc' : Value} {h : HD} {p d e : Int} (r : HouseO lo hi w vc vm vo vt h) (hh : hi ≤ w.heap.size) (ho : w'.ownsRow lo 93 3 vc' (h.n + 1) ((h.xs ++ [p, d, e]).map (Value.int .i64)))
    (hg : w.grownBy w' vc.ownBlock) (hat : vc'.ownBlock = vc.ownBlock ∨ vc'.ownBlock = some w.heap.size) : HouseO lo w'.heap.size w' vc' vm vo vt ⟨h.n + 1, h.xs ++ [p, d, e], h.ms, h.os, h.ts, h.sent, h.day⟩ :=
  ⟨RowO.of ho, r.m.beside hg r.scm hh, r.o.beside hg r.sco hh, r.t.beside hg r.sct hh, sep_app r.scm (r.m.far (Nat.le_refl _)) hat, sep_app r.sco (r.o.far (Nat.le_refl _)) hat, sep_app r.sct (r.t.far (Nat.le_refl _)) hat, r.smo, r.smt, r.sot⟩
theorem HouseO.addM {lo hi : Nat} {w w' : World} {vc vm vo vt vm' : Value} {h : HD} {x : Int} (r : HouseO lo hi w vc vm vo vt h) (hh : hi ≤ w.heap.size) (ho : w'.ownsRow lo 3 1 vm' (h.ms ++ [x]).length ((h.ms ++ [x]).map (Value.int .i64)))
    (hg : w.grownBy w' vm.ownBlock) (hat : vm'.ownBlock = vm.ownBlock ∨ vm'.ownBlock = some w.heap.size) : HouseO lo w'.heap.size w' vc vm' vo vt ⟨h.n, h.xs, h.ms ++ [x], h.os, h.ts, h.sent, h.day⟩ :=
  ⟨r.c.beside hg r.scm.symm hh, RowO.of ho, r.o.beside hg r.smo hh, r.t.beside hg r.smt hh, (sep_app r.scm.symm (r.c.far (Nat.le_refl _)) hat).symm, r.sco, r.sct, sep_app r.smo (r.o.far (Nat.le_refl _)) hat, sep_app r.smt (r.t.far (Nat.le_refl _)) hat, r.sot⟩
theorem HouseO.addO {lo hi : Nat} {w w' : World} {vc vm vo vt vo' : Value} {h : HD} {x : Int} (r : HouseO lo hi w vc vm vo vt h) (hh : hi ≤ w.heap.size) (ho : w'.ownsRow lo 3 1 vo' (h.os ++ [x]).length ((h.os ++ [x]).map (Value.int .i64)))
    (hg : w.grownBy w' vo.ownBlock) (hat : vo'.ownBlock = vo.ownBlock ∨ vo'.ownBlock = some w.heap.size) : HouseO lo w'.heap.size w' vc vm vo' vt ⟨h.n, h.xs, h.ms, h.os ++ [x], h.ts, h.sent, h.day⟩ :=
  ⟨r.c.beside hg r.sco.symm hh, r.m.beside hg r.smo.symm hh, RowO.of ho, r.t.beside hg r.sot hh, r.scm, (sep_app r.sco.symm (r.c.far (Nat.le_refl _)) hat).symm, r.sct, (sep_app r.smo.symm (r.m.far (Nat.le_refl _)) hat).symm, r.smt, sep_app r.sot (r.t.far (Nat.le_refl _)) hat⟩
theorem HouseO.setX {lo hi X : Nat} {w : World} {vc vm vo vt : Value} {h : HD} (r : HouseO lo hi w vc vm vo vt h) (xc : vc.ownBlock ≠ some X) (xm : vm.ownBlock ≠ some X) (xo : vo.ownBlock ≠ some X) (xt : vt.ownBlock ≠ some X) (o : Nat) (u : Value) : HouseO lo hi (w.setCell ⟨X, o, none⟩ u) vc vm vo vt h :=
  ⟨⟨own_set r.c.own xc u, r.c.top⟩, ⟨own_set r.m.own xm u, r.m.top⟩, ⟨own_set r.o.own xo u, r.o.top⟩, ⟨own_set r.t.own xt u, r.t.top⟩, r.scm, r.sco, r.sct, r.smo, r.smt, r.sot⟩
theorem not_app {v v' : Value} {N X : Nat} (h : v.ownBlock ≠ some X) (hX : N ≠ X) (hat : v'.ownBlock = v.ownBlock ∨ v'.ownBlock = some N) : v'.ownBlock ≠ some X := fun e => by
  rcases hat with q | q
  · exact h (q ▸ e)
  · rw [q] at e; cases e; exact hX rfl
theorem below_app {a w w' : World} {v u : Value} {X o : Nat} (D : Below a.heap.size a w) (hg : w.grownBy w' v.ownBlock) (hv : ∀ b, v.ownBlock = some b → a.heap.size ≤ b) (hX : a.heap.size ≤ X) : Below a.heap.size a (w'.setCell ⟨X, o, none⟩ u) :=
  Only.below (D.grown hg D.size hv) ((Only.refl X (X + 1) _).set (Nat.le_refl _) (Nat.lt_succ_self _) u) hX
def HD.more (h : HD) (p d e o : Int) : HD := ⟨h.n + 1, h.xs ++ [p, d, e], h.ms ++ [h.day], h.os ++ [o], h.ts, h.sent, h.day⟩
def makeCopy (h : HD) (p d e o : Int) : HD × Bool := if houseOk h = true ∧ inB p 0 ((h.n : Int) - 1) = true ∧ houseOk (h.more p d e o) = true then (h.more p d e o, true) else (h, false)
theorem makeCopy_1 {h : HD} {p d e o : Int} (q : houseOk h = false) : makeCopy h p d e o = (h, false) := if_neg (by simp [q])
theorem makeCopy_2 {h : HD} {p d e o : Int} (q : inB p 0 ((h.n : Int) - 1) = false) : makeCopy h p d e o = (h, false) := if_neg (by simp [q])
theorem makeCopy_3 {h : HD} {p d e o : Int} (q : houseOk (h.more p d e o) = false) : makeCopy h p d e o = (h, false) := if_neg (by simp [q])
theorem makeCopy_t {h : HD} {p d e o : Int} (q1 : houseOk h = true) (q2 : inB p 0 ((h.n : Int) - 1) = true) (q3 : houseOk (h.more p d e o) = true) : makeCopy h p d e o = (h.more p d e o, true) := if_pos ⟨q1, q2, q3⟩
theorem asc_ge {ts : List Int} (h : ascOk ts = true) (h0 : ∀ k, k < ts.length → 0 ≤ nth ts k) : ∀ k, k < ts.length → (k : Int) ≤ nth ts k := by
  intro k
  induction k with
  | zero => intro hk; simpa using h0 0 hk
  | succ k ih =>
    intro hk
    have h1 := ih (by omega)
    have h2 := allTo_at h hk
    simp [ascAt] at h2
    omega
theorem houseOk_b {h : HD} (e : houseOk h = true) : HouseB h 12 := by
  have F := houseOk_facts e
  have c := daysOk_chain F.days
  have n := (chainOk_n c.1).2
  have o := (ownersOk_chain F.owners).2
  refine ⟨n, by omega, by omega, Nat.le_of_not_lt fun q => ?_⟩
  have a := asc_ge F.asc (fun k hk => (F.told k hk).1) 12 q
  have b := (F.told 12 q).2
  omega
theorem makeCopy_b {h : HD} (b : HouseB h 1048576) (p d e o : Int) : HouseB (makeCopy h p d e o).1 1048576 := by
  unfold makeCopy
  split
  next q => have c := houseOk_b q.2.2; exact ⟨Nat.le_trans c.n (by decide), Nat.le_trans c.ms (by decide), Nat.le_trans c.os (by decide), Nat.le_trans c.ts (by decide)⟩
  · exact b
theorem more_b {h : HD} (b : HouseB h 1048575) (p d e o : Int) : HouseB (h.more p d e o) 1048576 := by
  have := b.n; have := b.ms; have := b.os; have := b.ts
  exact ⟨by show h.n + 1 ≤ _; omega, by simp [HD.more]; omega, by simp [HD.more]; omega, by simp [HD.more]; omega⟩
end Go.Proofs.Ytdchgbhhlocmdaa
