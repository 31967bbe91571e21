/- Texts laid together: MakeFn, LetO, LetMark. -/
import Derived.Maps.AppendAt
import Derived.Test.YtlipfkalehikkaaGA
import Derived.Test.YtlipfkalehikkaaGB
/- A house of the call's own to which one copy is added. -/
namespace Go.Proofs.Ytlipfkalehikkaa
open Go.ChangeShapes Go.WideShapes Go.ChangeAt Go.RowKit

theorem sep_app {v v' u : Value} {N : Nat} (h : Sep v u) (hu : ∀ b, u.ownBlock = some b → b < N) (hat : v'.ownBlock = v.ownBlock ∨ v'.ownBlock = some N) : Sep v' u := fun b hb hub => by
  rcases hat with e | e
  · exact h b (by rw [← e]; exact hb) hub
  · rw [e] at hb
    cases hb
    have := hu _ hub
    omega
theorem RowO.far {lo hi N : Nat} {w : World} {e : TypeId} {m : Nat} {v : Value} {n : Nat} {xs : List Int} (h : RowO lo hi w e m v n xs) (hN : w.heap.size ≤ N) : ∀ b, v.ownBlock = some b → b < N := fun b hb => Nat.lt_of_lt_of_le (h.own.lt b hb).2 hN
theorem RowO.beside {lo hi : Nat} {w w' : World} {e : TypeId} {m : Nat} {u v : Value} {n : Nat} {xs : List Int} (h : RowO lo hi w e m u n xs) (hg : w.grownBy w' v.ownBlock) (hs : Sep v u) (hh : hi ≤ w.heap.size) : RowO lo w'.heap.size w' e m u n xs :=
  ⟨own_kept h.own hg hs, fun b hb => Nat.lt_of_lt_of_le (h.top b hb) (Nat.le_trans hh hg.size)⟩
theorem HouseO.addC {lo hi : Nat} {w w' : World} {vc vm vo vt vc' : Value} {h : HD} {p d e : Int} (r : HouseO lo hi w vc vm vo vt h) (hh : hi ≤ w.heap.size) (ho : w'.ownsRow lo 40 3 vc' (h.n + 1) ((h.xs ++ [p, d, e]).map (Value.int .i64)))
    (hg : w.grownBy w' vc.ownBlock) (hat : vc'.ownBlock = vc.ownBlock ∨ vc'.ownBlock = some w.heap.size) : HouseO lo w'.heap.size w' vc' vm vo vt ⟨h.n + 1, h.xs ++ [p, d, e], h.ms, h.os, h.ts, h.sent, h.day⟩ :=
  ⟨RowO.of ho, r.m.beside hg r.scm hh, r.o.beside hg r.sco hh, r.t.beside hg r.sct hh, sep_app r.scm (r.m.far (Nat.le_refl _)) hat, sep_app r.sco (r.o.far (Nat.le_refl _)) hat, sep_app r.sct (r.t.far (Nat.le_refl _)) hat, r.smo, r.smt, r.sot⟩
theorem HouseO.addM {lo hi : Nat} {w w' : World} {vc vm vo vt vm' : Value} {h : HD} {x : Int} (r : HouseO lo hi w vc vm vo vt h) (hh : hi ≤ w.heap.size) (ho : w'.ownsRow lo 3 1 vm' (h.ms ++ [x]).length ((h.ms ++ [x]).map (Value.int .i64)))
    (hg : w.grownBy w' vm.ownBlock) (hat : vm'.ownBlock = vm.ownBlock ∨ vm'.ownBlock = some w.heap.size) : HouseO lo w'.heap.size w' vc vm' vo vt ⟨h.n, h.xs, h.ms ++ [x], h.os, h.ts, h.sent, h.day⟩ :=
  ⟨r.c.beside hg r.scm.symm hh, RowO.of ho, r.o.beside hg r.smo hh, r.t.beside hg r.smt hh, (sep_app r.scm.symm (r.c.far (Nat.le_refl _)) hat).symm, r.sco, r.sct, sep_app r.smo (r.o.far (Nat.le_refl _)) hat, sep_app r.smt (r.t.far (Nat.le_refl _)) hat, r.sot⟩
theorem HouseO.addO {lo hi : Nat} {w w' : World} {vc vm vo vt vo' : Value} {h : HD} {x : Int} (r : HouseO lo hi w vc vm vo vt h) (hh : hi ≤ w.heap.size) (ho : w'.ownsRow lo 3 1 vo' (h.os ++ [x]).length ((h.os ++ [x]).map (Value.int .i64)))
    (hg : w.grownBy w' vo.ownBlock) (hat : vo'.ownBlock = vo.ownBlock ∨ vo'.ownBlock = some w.heap.size) : HouseO lo w'.heap.size w' vc vm vo' vt ⟨h.n, h.xs, h.ms, h.os ++ [x], h.ts, h.sent, h.day⟩ :=
  ⟨r.c.beside hg r.sco.symm hh, r.m.beside hg r.smo.symm hh, RowO.of ho, r.t.beside hg r.sot hh, r.scm, (sep_app r.sco.symm (r.c.far (Nat.le_refl _)) hat).symm, r.sct, (sep_app r.smo.symm (r.m.far (Nat.le_refl _)) hat).symm, r.smt, sep_app r.sot (r.t.far (Nat.le_refl _)) hat⟩
theorem HouseO.setX {lo hi X : Nat} {w : World} {vc vm vo vt : Value} {h : HD} (r : HouseO lo hi w vc vm vo vt h) (xc : vc.ownBlock ≠ some X) (xm : vm.ownBlock ≠ some X) (xo : vo.ownBlock ≠ some X) (xt : vt.ownBlock ≠ some X) (o : Nat) (u : Value) : HouseO lo hi (w.setCell ⟨X, o, none⟩ u) vc vm vo vt h :=
  ⟨⟨own_set r.c.own xc u, r.c.top⟩, ⟨own_set r.m.own xm u, r.m.top⟩, ⟨own_set r.o.own xo u, r.o.top⟩, ⟨own_set r.t.own xt u, r.t.top⟩, r.scm, r.sco, r.sct, r.smo, r.smt, r.sot⟩
theorem not_app {v v' : Value} {N X : Nat} (h : v.ownBlock ≠ some X) (hX : N ≠ X) (hat : v'.ownBlock = v.ownBlock ∨ v'.ownBlock = some N) : v'.ownBlock ≠ some X := fun e => by
  rcases hat with q | q
  · exact h (q ▸ e)
  · rw [q] at e; cases e; exact hX rfl
theorem below_app {a w w' : World} {v u : Value} {X o : Nat} (D : Below a.heap.size a w) (hg : w.grownBy w' v.ownBlock) (hv : ∀ b, v.ownBlock = some b → a.heap.size ≤ b) (hX : a.heap.size ≤ X) : Below a.heap.size a (w'.setCell ⟨X, o, none⟩ u) :=
  Only.below (D.grown hg D.size hv) ((Only.refl X (X + 1) _).set (Nat.le_refl _) (Nat.lt_succ_self _) u) hX
def HD.more (h : HD) (p d e o : Int) : HD := ⟨h.n + 1, h.xs ++ [p, d, e], h.ms ++ [h.day], h.os ++ [o], h.ts, h.sent, h.day⟩
def makeCopy (h : HD) (p d e o : Int) : HD × Bool := if houseOk h = true ∧ inB p 0 ((h.n : Int) - 1) = true ∧ houseOk (h.more p d e o) = true then (h.more p d e o, true) else (h, false)
theorem makeCopy_1 {h : HD} {p d e o : Int} (q : houseOk h = false) : makeCopy h p d e o = (h, false) := if_neg (by simp [q])
theorem makeCopy_2 {h : HD} {p d e o : Int} (q : inB p 0 ((h.n : Int) - 1) = false) : makeCopy h p d e o = (h, false) := if_neg (by simp [q])
theorem makeCopy_3 {h : HD} {p d e o : Int} (q : houseOk (h.more p d e o) = false) : makeCopy h p d e o = (h, false) := if_neg (by simp [q])
theorem makeCopy_t {h : HD} {p d e o : Int} (q1 : houseOk h = true) (q2 : inB p 0 ((h.n : Int) - 1) = true) (q3 : houseOk (h.more p d e o) = true) : makeCopy h p d e o = (h.more p d e o, true) := if_pos ⟨q1, q2, q3⟩
theorem asc_ge {ts : List Int} (h : ascOk ts = true) (h0 : ∀ k, k < ts.length → 0 ≤ nth ts k) : ∀ k, k < ts.length → (k : Int) ≤ nth ts k := by
  intro k
  induction k with
  | zero => intro hk; simpa using h0 0 hk
  | succ k ih =>
    intro hk
    have h1 := ih (by omega)
    have h2 := allTo_at h hk
    simp [ascAt] at h2
    omega
theorem houseOk_b {h : HD} (e : houseOk h = true) : HouseB h 12 := by
  have F := houseOk_facts e
  have c := daysOk_chain F.days
  have n := (chainOk_n c.1).2
  have o := (ownersOk_chain F.owners).2
  refine ⟨n, by omega, by omega, Nat.le_of_not_lt fun q => ?_⟩
  have a := asc_ge F.asc (fun k hk => (F.told k hk).1) 12 q
  have b := (F.told 12 q).2
  omega
theorem makeCopy_b {h : HD} (b : HouseB h 1048576) (p d e o : Int) : HouseB (makeCopy h p d e o).1 1048576 := by
  unfold makeCopy
  split
  next q => have c := houseOk_b q.2.2; exact ⟨Nat.le_trans c.n (by decide), Nat.le_trans c.ms (by decide), Nat.le_trans c.os (by decide), Nat.le_trans c.ts (by decide)⟩
  · exact b
theorem more_b {h : HD} (b : HouseB h 1048575) (p d e o : Int) : HouseB (h.more p d e o) 1048576 := by
  have := b.n; have := b.ms; have := b.os; have := b.ts
  exact ⟨by show h.n + 1 ≤ _; omega, by simp [HD.more]; omega, by simp [HD.more]; omega, by simp [HD.more]; omega⟩
end Go.Proofs.Ytlipfkalehikkaa

/- Letters that a call made: a row of owners and slices, and the slices' own rows. -/
namespace Go.Proofs.Ytlipfkalehikkaa
open Go.ChangeShapes Go.WideShapes Go.ChangeAt Go.RowKit

def vget (vs : List Value) (i : Nat) : Value := vs.getD i (.slice none 0 0)
def hdr (vs : List Value) : List (Int × List Int) → List Value
  | [] => []
  | l :: ls => Value.int .i64 l.1 :: vs.headD (.slice none 0 0) :: hdr vs.tail ls
theorem hdr_len : ∀ (ls : List (Int × List Int)) (vs : List Value), (hdr vs ls).length = ls.length * 2
  | [], _ => rfl
  | l :: ls, vs => by simp only [hdr, List.length_cons, hdr_len ls]; omega
theorem hdr_owner : ∀ (ls : List (Int × List Int)) (vs : List Value) (k : Nat), k < ls.length → (hdr vs ls)[k * 2]? = some (.int .i64 (lOwner ls k))
  | [], _, k, h => by simp at h
  | l :: ls, vs, 0, _ => by simp [hdr, lOwner]
  | l :: ls, vs, k + 1, h => by
    have := hdr_owner ls vs.tail k (by simpa using h)
    rw [show (k + 1) * 2 = k * 2 + 1 + 1 by omega]
    simpa [hdr, lOwner] using this
theorem hdr_slice : ∀ (ls : List (Int × List Int)) (vs : List Value) (k : Nat), k < ls.length → (hdr vs ls)[k * 2 + 1]? = some (vget vs k)
  | [], _, k, h => by simp at h
  | l :: ls, vs, 0, _ => by cases vs <;> simp [hdr, vget]
  | l :: ls, vs, k + 1, h => by
    have := hdr_slice ls vs.tail k (by simpa using h)
    rw [show (k + 1) * 2 + 1 = k * 2 + 1 + 1 + 1 by omega]
    cases vs <;> simpa [hdr, vget] using this
theorem hdr_app : ∀ (ls : List (Int × List Int)) (vs : List Value) (s : Value) (x : Int × List Int), vs.length = ls.length → hdr (vs ++ [s]) (ls ++ [x]) = hdr vs ls ++ [.int .i64 x.1, s]
  | [], [], s, x, _ => by simp [hdr]
  | l :: ls, v :: vs, s, x, h => by
    have := hdr_app ls vs s x (by simpa using h)
    simp [hdr, this]
theorem hdr_set : ∀ (ls : List (Int × List Int)) (vs : List Value) (k : Nat) (x : Int) (ys : List Int), k < ls.length → (hdr vs ls).set (k * 2) (.int .i64 x) = hdr vs (ls.set k (x, ys))
  | [], _, k, _, _, h => by simp at h
  | l :: ls, vs, 0, x, ys, _ => by simp [hdr]
  | l :: ls, vs, k + 1, x, ys, h => by
    have := hdr_set ls vs.tail k x ys (by simpa using h)
    rw [show (k + 1) * 2 = k * 2 + 1 + 1 by omega]
    simpa [hdr] using this
theorem hdr_same : ∀ (ls : List (Int × List Int)) (vs : List Value) (k : Nat) (ys : List Int), k < ls.length → hdr vs (ls.set k (lOwner ls k, ys)) = hdr vs ls
  | [], _, k, _, h => by simp at h
  | l :: ls, vs, 0, ys, _ => by simp [hdr, lOwner]
  | l :: ls, vs, k + 1, ys, h => by
    have := hdr_same ls vs.tail k ys (by simpa using h)
    simp only [List.set_cons_succ, hdr]
    rw [show lOwner (l :: ls) (k + 1) = lOwner ls k from by simp [lOwner], this]
theorem set_owner {ls : List (Int × List Int)} {k i : Nat} {x : Int × List Int} (hk : k < ls.length) : lOwner (ls.set k x) i = (if i = k then x.1 else lOwner ls i) ∧ lCopies (ls.set k x) i = (if i = k then x.2 else lCopies ls i) := by
  by_cases h : i = k
  · subst h; simp [lOwner, lCopies, hk]
  · simp [lOwner, lCopies, h, List.getElem?_set_ne (Ne.symm h)]
structure LetV (lo hi : Nat) (w : World) (v : Value) (vs : List Value) (ls : List (Int × List Int)) : Prop where
  len : vs.length = ls.length
  row : w.ownsRow lo 76 2 v ls.length (hdr vs ls)
  top : ∀ b, v.ownBlock = some b → b < hi
  each : ∀ i, i < ls.length → RowO lo hi w 3 1 (vget vs i) (lCopies ls i).length (lCopies ls i)
  sepv : ∀ i, i < ls.length → Sep v (vget vs i)
  seps : ∀ i j, i < j → j < ls.length → Sep (vget vs i) (vget vs j)
def LetO (lo hi : Nat) (w : World) (v : Value) (ls : List (Int × List Int)) : Prop := ∃ vs, LetV lo hi w v vs ls
theorem LetV.nil (lo hi : Nat) (w : World) : LetV lo hi w (.slice none 0 0) [] [] :=
  ⟨rfl, World.ownsRow_nil _ _ _ _, (fun b h => by cases h), fun i hi => absurd hi (by simp), fun i hi => absurd hi (by simp), fun i j _ hj => absurd hj (by simp)⟩
theorem LetV.below {lo hi : Nat} {w w' : World} {v : Value} {vs : List Value} {ls : List (Int × List Int)} (h : LetV lo hi w v vs ls) (hb : Below w.heap.size w w') : LetV lo hi w' v vs ls :=
  ⟨h.len, own_below h.row hb, h.top, fun i hi => (h.each i hi).below hb, h.sepv, h.seps⟩
theorem LetV.wide {lo hi lo' hi' : Nat} {w : World} {v : Value} {vs : List Value} {ls : List (Int × List Int)} (h : LetV lo hi w v vs ls) (hl : lo' ≤ lo) (hh : hi ≤ hi') : LetV lo' hi' w v vs ls :=
  ⟨h.len, own_base h.row hl, fun b hb => Nat.lt_of_lt_of_le (h.top b hb) hh, fun i hi => (h.each i hi).wide hl hh, h.sepv, h.seps⟩
theorem LetV.only {lo hi lo' hi' : Nat} {w w' : World} {v : Value} {vs : List Value} {ls : List (Int × List Int)} (h : LetV lo hi w v vs ls) (ho : Only lo' hi' w w') (hs : Off lo hi lo' hi') : LetV lo hi w' v vs ls :=
  ⟨h.len, own_only h.row ho fun b hb => by have h1 := (h.row.lt b hb).1; have h2 := h.top b hb; unfold Off at hs; omega, h.top, fun i hi => (h.each i hi).only ho hs, h.sepv, h.seps⟩
theorem LetO.below {lo hi : Nat} {w w' : World} {v : Value} {ls : List (Int × List Int)} (h : LetO lo hi w v ls) (hb : Below w.heap.size w w') : LetO lo hi w' v ls := by obtain ⟨vs, h⟩ := h; exact ⟨vs, h.below hb⟩
theorem LetO.wide {lo hi lo' hi' : Nat} {w : World} {v : Value} {ls : List (Int × List Int)} (h : LetO lo hi w v ls) (hl : lo' ≤ lo) (hh : hi ≤ hi') : LetO lo' hi' w v ls := by obtain ⟨vs, h⟩ := h; exact ⟨vs, h.wide hl hh⟩
theorem LetO.only {lo hi lo' hi' : Nat} {w w' : World} {v : Value} {ls : List (Int × List Int)} (h : LetO lo hi w v ls) (ho : Only lo' hi' w w') (hs : Off lo hi lo' hi') : LetO lo hi w' v ls := by obtain ⟨vs, h⟩ := h; exact ⟨vs, h.only ho hs⟩
theorem vget_app {vs : List Value} {s : Value} {i : Nat} : vget (vs ++ [s]) i = if i < vs.length then vget vs i else if i = vs.length then s else .slice none 0 0 := by
  unfold vget
  simp only [List.getD_eq_getElem?_getD, List.getElem?_append]
  split
  · rfl
  · split
    · rename_i e; subst e; simp
    · rename_i e1 e2
      rw [List.getElem?_eq_none (by simp; omega)]; rfl
theorem ls_app {ls : List (Int × List Int)} {x : Int × List Int} {i : Nat} (h : i < ls.length) : lOwner (ls ++ [x]) i = lOwner ls i ∧ lCopies (ls ++ [x]) i = lCopies ls i := by
  simp [lOwner, lCopies, List.getElem?_append, h]
theorem ls_last {ls : List (Int × List Int)} {x : Int × List Int} : lOwner (ls ++ [x]) ls.length = x.1 ∧ lCopies (ls ++ [x]) ls.length = x.2 := by
  simp [lOwner, lCopies]
/-- one more letter -/
theorem LetV.push {lo : Nat} {w w' : World} {v v' s : Value} {vs : List Value} {ls : List (Int × List Int)} {x : Int} {l : List Int} (h : LetV lo w.heap.size w v vs ls) (hs : RowO lo w.heap.size w 3 1 s l.length l)
    (s1 : Sep v s) (s2 : ∀ i, i < ls.length → Sep (vget vs i) s) (hrow : w'.ownsRow lo 76 2 v' (ls.length + 1) (hdr vs ls ++ [.int .i64 x, s])) (hg : w.grownBy w' v.ownBlock) (hat : v'.ownBlock = v.ownBlock ∨ v'.ownBlock = some w.heap.size) :
    LetV lo w'.heap.size w' v' (vs ++ [s]) (ls ++ [(x, l)]) := by
  have hl := h.len
  refine ⟨by simp [hl], ?_, fun b hb => (hrow.lt b hb).2, fun i hi => ?_, fun i hi => ?_, fun i j hij hj => ?_⟩
  · rw [hdr_app ls vs s (x, l) hl]; simpa using hrow
  · simp at hi
    rw [vget_app, hl]
    rcases Nat.lt_or_ge i ls.length with z | z
    · rw [if_pos z, (ls_app z).2]
      exact (h.each i z).beside hg (h.sepv i z) (Nat.le_refl _)
    · obtain rfl : i = ls.length := by omega
      rw [if_neg (by omega), if_pos rfl, ls_last.2]
      exact hs.beside hg s1 (Nat.le_refl _)
  · simp at hi
    rw [vget_app, hl]
    rcases Nat.lt_or_ge i ls.length with z | z
    · rw [if_pos z]
      exact sep_app (h.sepv i z) ((h.each i z).far (Nat.le_refl _)) hat
    · obtain rfl : i = ls.length := by omega
      rw [if_neg (by omega), if_pos rfl]
      exact sep_app s1 (hs.far (Nat.le_refl _)) hat
  · simp at hj
    rw [vget_app, vget_app, hl, if_pos (by omega)]
    rcases Nat.lt_or_ge j ls.length with z | z
    · rw [if_pos z]; exact h.seps i j hij z
    · obtain rfl : j = ls.length := by omega
      rw [if_neg (by omega), if_pos rfl]
      exact s2 i hij
theorem LetV.reads {lo hi : Nat} {w : World} {v : Value} {vs : List Value} {ls : List (Int × List Int)} (h : LetV lo hi w v vs ls) (hl : ls.length ≤ 1000000000) (hc : ∀ i, i < ls.length → (lCopies ls i).length ≤ 1000000000) : Letters w v ls := by
  refine ⟨by omega, ?_⟩
  have hr := h.row
  rcases hr.2 with ⟨rfl, h0⟩ | ⟨g, cap, cur, rfl, _⟩
  · exact ⟨none, 0, by rw [h0], fun k hk => absurd hk (by omega)⟩
  · refine ⟨_, _, rfl, fun k hk => ⟨g, 0, vget vs k, rfl, ?_, ?_, (h.each k hk).ints (by have := hc k hk; omega)⟩⟩
    · rw [Nat.zero_add, hr.cellAt (k * 2) (by omega)]; exact hdr_owner ls vs k hk
    · rw [Nat.zero_add, hr.cellAt (k * 2 + 1) (by omega)]; exact hdr_slice ls vs k hk
end Go.Proofs.Ytlipfkalehikkaa

/- The laws' marks over letters that a call made. -/
namespace Go.Proofs.Ytlipfkalehikkaa
open Go.ChangeShapes Go.WideShapes Go.ChangeAt Go.RowKit

/-- how many marks the first k letters take -/
def lCount (ls : List (Int × List Int)) (k : Nat) : Int := 1 + ((lCopies ls k).length : Int)
def mB (ls : List (Int × List Int)) (k : Nat) : Int := sumTo (lCount ls) k
def mAll (ls : List (Int × List Int)) : Int := mB ls ls.length
/-- letters whose first k are marked from z on -/
def lmix (z : Int) (ls : List (Int × List Int)) : Nat → List (Int × List Int)
  | 0 => ls
  | k + 1 => (lmix z ls k).set k (z + mB ls k, seqL (z + mB ls k + 1) (lCopies ls k).length)
def lmarked (z : Int) (ls : List (Int × List Int)) : List (Int × List Int) := lmix z ls ls.length
theorem lmix_len (z : Int) (ls : List (Int × List Int)) : ∀ k, (lmix z ls k).length = ls.length
  | 0 => rfl
  | k + 1 => by simp [lmix, lmix_len z ls k]
theorem lmix_at (z : Int) (ls : List (Int × List Int)) : ∀ k, k ≤ ls.length → ∀ i, i < ls.length → lOwner (lmix z ls k) i = (if i < k then z + mB ls i else lOwner ls i) ∧ lCopies (lmix z ls k) i = (if i < k then seqL (z + mB ls i + 1) (lCopies ls i).length else lCopies ls i)
  | 0, _, i, hi => by simp [lmix]
  | k + 1, hk, i, hi => by
    have ih := lmix_at z ls k (by omega) i hi
    have h := set_owner (ls := lmix z ls k) (k := k) (i := i) (x := (z + mB ls k, seqL (z + mB ls k + 1) (lCopies ls k).length)) (by rw [lmix_len]; omega)
    simp only [lmix]
    rw [h.1, h.2, ih.1, ih.2]
    rcases Nat.lt_trichotomy i k with q | q | q
    · simp [show i ≠ k by omega, q, show i < k + 1 by omega]
    · subst q; simp
    · simp [show i ≠ k by omega, show ¬ i < k by omega, show ¬ i < k + 1 by omega]
theorem mB_bd {ls : List (Int × List Int)} (hc : ∀ i, i < ls.length → (lCopies ls i).length ≤ 2000000) : ∀ k, k ≤ ls.length → 0 ≤ mB ls k ∧ mB ls k ≤ 2000001 * k
  | 0, _ => by simp [mB, sumTo]
  | k + 1, hk => by
    have ih := mB_bd hc k (by omega)
    have := hc k (by omega)
    have e : mB ls (k + 1) = mB ls k + (1 + ((lCopies ls k).length : Int)) := rfl
    omega
structure LetB (ls : List (Int × List Int)) : Prop where
  n : ls.length ≤ 1000
  c : ∀ i, i < ls.length → (lCopies ls i).length ≤ 2000000
theorem mAll_bd {ls : List (Int × List Int)} (h : LetB ls) : 0 ≤ mAll ls ∧ mAll ls ≤ 2001000000 := by
  have := mB_bd h.c _ (Nat.le_refl _); have := h.n
  unfold mAll; omega
theorem LetV.putOwner {lo hi g n cap : Nat} {w : World} {vs : List Value} {ls : List (Int × List Int)} (h : LetV lo hi w (.slice (some ⟨g, 0, none⟩) n cap) vs ls) (hn : n = ls.length) {i : Nat} (hik : i < ls.length) (x : Int) : LetV lo hi (w.setCell ⟨g, i * 2, none⟩ (.int .i64 x)) (.slice (some ⟨g, 0, none⟩) n cap) vs (ls.set i (x, lCopies ls i)) := by
  subst hn
  have hs := (h.row.stored (i * 2) (.int .i64 x)).1
  refine ⟨by rw [List.length_set]; exact h.len, ?_, h.top, fun j hj => ?_, fun j hj => h.sepv j (by simpa using hj), fun j q hjq hq => h.seps j q hjq (by simpa using hq)⟩
  · rw [← hdr_set ls vs i x (lCopies ls i) hik]; simpa using hs
  · rw [List.length_set] at hj
    have e := (set_owner (ls := ls) (k := i) (i := j) (x := (x, lCopies ls i)) hik).2
    have e2 : lCopies (ls.set i (x, lCopies ls i)) j = lCopies ls j := by rw [e]; by_cases q : j = i <;> simp [q]
    rw [e2]
    exact ⟨own_set (h.each j hj).own (fun q => h.sepv j hj g rfl q) _, (h.each j hj).top⟩
theorem LetV.putCopies {lo hi : Nat} {w w' : World} {v : Value} {vs : List Value} {ls : List (Int × List Int)} (h : LetV lo hi w v vs ls) {i : Nat} (hik : i < ls.length) {ys : List Int} (hl : ys.length = (lCopies ls i).length) (hrow : w'.ownsRow lo 3 1 (vget vs i) ys.length (ys.map (Value.int .i64))) (hg : w.grownBy w' (vget vs i).ownBlock) : LetV lo hi w' v vs (ls.set i (lOwner ls i, ys)) := by
  refine ⟨by rw [List.length_set]; exact h.len, ?_, h.top, fun j hj => ?_, fun j hj => h.sepv j (by simpa using hj), fun j q hjq hq => h.seps j q hjq (by simpa using hq)⟩
  · rw [hdr_same ls vs i ys hik, List.length_set]
    exact own_kept h.row hg (h.sepv i hik).symm
  · rw [List.length_set] at hj
    have e := (set_owner (ls := ls) (k := i) (i := j) (x := (lOwner ls i, ys)) hik).2
    rw [e]
    split
    next q => subst q; exact ⟨hrow, (h.each j hj).top⟩
    next q =>
      refine ⟨own_kept (h.each j hj).own hg ?_, (h.each j hj).top⟩
      rcases Nat.lt_or_ge i j with z | z
      · exact h.seps i j z hj
      · exact (h.seps j i (by omega) hik).symm
end Go.Proofs.Ytlipfkalehikkaa
