/- A house in a box that a drawing call writes again and again. -/
import Derived.Test.YtlipfkalehikkaaGK
import Derived.Test.YtlipfkalehikkaaPassDays
import Derived.Test.YtlipfkalehikkaaMakeCopy
import Derived.Test.YtlipfkalehikkaaNewHouse
import Derived.Test.YtlipfkalehikkaaGH
namespace Go.Proofs.Ytlipfkalehikkaa
open Go.ChangeShapes Go.WideShapes Go.ChangeAt Go.RowKit

theorem wL_len (h : HD) (b s : Int) : (wL h b s).length ≤ 21 := by
  unfold wL lettersFor
  split
  · exact postTo_len _ _ 21
  · simp
theorem passDays_ok {h : HD} {d : Int} (q : houseOk h = true) (d0 : 0 ≤ d) : houseOk (passDays h d).1 = true := by
  unfold passDays
  split
  next z =>
    have F := houseOk_facts q
    have t1 : allTo (toldAt (h.later d).n (h.later d).ts) (h.later d).ts.length = true := allTo_of fun k hk => by
      have := F.told k hk
      show inB (nth h.ts k) 0 ((h.n : Int) - 1) = true
      simp [inB]; omega
    have t2 : allTo (madeAt (h.later d).ms (h.later d).day) (h.later d).ms.length = true := allTo_of fun k hk => by
      have := F.made k hk
      show decide (nth h.ms k ≤ h.day + d) = true
      rw [decide_eq_true_eq]; omega
    show houseOk (h.later d) = true
    rw [house_t (h := h.later d) F.days F.owners F.asc t1 t2]
    have hs : inB h.sent 0 1000 = true := by have := F.sent; simp [inB]; omega
    have hd : inB (h.day + d) 0 10000 = true := by have := F.day; have := z.2.2; simp [inB]; omega
    show (inB h.sent 0 1000 && inB (h.day + d) 0 10000) = true
    rw [hs, hd]; rfl
  · exact q
theorem passDays_bd {h : HD} {d : Int} (d0 : 0 ≤ d) : (passDays h d).1.sent = h.sent ∧ (passDays h d).1.day ≤ h.day + d := by
  unfold passDays
  split
  · exact ⟨rfl, Int.le_refl _⟩
  · exact ⟨rfl, by show h.day ≤ h.day + d; omega⟩
theorem makeCopy_ok {h : HD} {p d e o : Int} (q : houseOk h = true) : houseOk (makeCopy h p d e o).1 = true := by
  unfold makeCopy
  split
  next z => exact z.2.2
  · exact q
theorem makeCopy_bd {h : HD} {p d e o : Int} : (makeCopy h p d e o).1.sent = h.sent ∧ (makeCopy h p d e o).1.day = h.day := by
  unfold makeCopy
  split <;> exact ⟨rfl, rfl⟩
theorem withdraw_bd {h : HD} {b s : Int} : (withdraw h b s).1.sent ≤ h.sent + 21 ∧ (withdraw h b s).1.day = h.day := by
  unfold withdraw
  split
  · have := wL_len h b s
    exact ⟨by show h.sent + ((wL h b s).length : Int) ≤ _; omega, rfl⟩
  · exact ⟨by show h.sent ≤ h.sent + 21; omega, rfl⟩
/-- six cells written -/
abbrev put6 (w : World) (B : Nat) (a b c d e f : Value) : World := (((((w.setCell ⟨B, 0, none⟩ a).setCell ⟨B, 1, none⟩ b).setCell ⟨B, 2, none⟩ c).setCell ⟨B, 3, none⟩ d).setCell ⟨B, 4, none⟩ e).setCell ⟨B, 5, none⟩ f
structure Six (B : Nat) (w : World) (a b c d e f : Value) : Prop where
  c0 : w.cell? ⟨B, 0, none⟩ = some a
  c1 : w.cell? ⟨B, 1, none⟩ = some b
  c2 : w.cell? ⟨B, 2, none⟩ = some c
  c3 : w.cell? ⟨B, 3, none⟩ = some d
  c4 : w.cell? ⟨B, 4, none⟩ = some e
  c5 : w.cell? ⟨B, 5, none⟩ = some f
  f0 : w.frozen? ⟨B, 0, none⟩ = false
  f1 : w.frozen? ⟨B, 1, none⟩ = false
  f2 : w.frozen? ⟨B, 2, none⟩ = false
  f3 : w.frozen? ⟨B, 3, none⟩ = false
  f4 : w.frozen? ⟨B, 4, none⟩ = false
  f5 : w.frozen? ⟨B, 5, none⟩ = false
theorem Six.lt {B : Nat} {w : World} {a b c d e f : Value} (h : Six B w a b c d e f) : B < w.heap.size := World.block_lt_of_cell? w _ h.c0
theorem Six.same {B : Nat} {w w' : World} {a b c d e f : Value} (h : Six B w a b c d e f) (hk : w'.heap[B]? = w.heap[B]?) : Six B w' a b c d e f :=
  ⟨(World.cell?_of_block hk).trans h.c0, (World.cell?_of_block hk).trans h.c1, (World.cell?_of_block hk).trans h.c2, (World.cell?_of_block hk).trans h.c3, (World.cell?_of_block hk).trans h.c4, (World.cell?_of_block hk).trans h.c5,
   (World.frozen?_of_block hk).trans h.f0, (World.frozen?_of_block hk).trans h.f1, (World.frozen?_of_block hk).trans h.f2, (World.frozen?_of_block hk).trans h.f3, (World.frozen?_of_block hk).trans h.f4, (World.frozen?_of_block hk).trans h.f5⟩
theorem Six.below {B : Nat} {w w' : World} {a b c d e f : Value} (h : Six B w a b c d e f) (hb : Below w.heap.size w w') : Six B w' a b c d e f := h.same (hb.block B h.lt)
theorem Six.only {B lo hi : Nat} {w w' : World} {a b c d e f : Value} (h : Six B w a b c d e f) (ho : Only lo hi w w') (hn : ¬ (lo ≤ B ∧ B < hi)) : Six B w' a b c d e f := h.same (ho.block B h.lt hn)
theorem Six.put {B : Nat} {w : World} {a b c d e f a' b' c' d' e' f' : Value} (h : Six B w a b c d e f) : Six B (put6 w B a' b' c' d' e' f') a' b' c' d' e' f' := by
  obtain ⟨c0, c1, c2, c3, c4, c5, f0, f1, f2, f3, f4, f5⟩ := h
  exact ⟨by go_simp, by go_simp, by go_simp, by go_simp, by go_simp, by go_simp, by go_simp, by go_simp, by go_simp, by go_simp, by go_simp, by go_simp⟩
theorem only_put6 (w : World) (B : Nat) (a b c d e f : Value) : Only B (B + 1) w (put6 w B a b c d e f) :=
  ((((((Only.refl B (B + 1) w).set (Nat.le_refl _) (Nat.lt_succ_self _) _).set (Nat.le_refl _) (Nat.lt_succ_self _) _).set (Nat.le_refl _) (Nat.lt_succ_self _) _).set (Nat.le_refl _) (Nat.lt_succ_self _) _).set (Nat.le_refl _) (Nat.lt_succ_self _) _).set (Nat.le_refl _) (Nat.lt_succ_self _) _
theorem only_pastB {lo hi lo' hi' : Nat} {a w w' : World} (h : Only lo hi a w) (k : Only lo' hi' w w') (hl : a.heap.size ≤ lo') : Only lo hi a w' :=
  ⟨k.os.trans h.os, k.tape.trans h.tape, k.output.trans h.output, Nat.le_trans h.size k.size, fun i hi hn => (k.block i (Nat.lt_of_lt_of_le hi h.size) (by omega)).trans (h.block i hi hn)⟩
/-- the box B holds this house, whose rows the call made -/
structure BoxH (B lo : Nat) (w : World) (vc vm vo vt : Value) (h : HD) : Prop where
  six : Six B w vc vm vo vt (.int .i64 h.sent) (.int .i64 h.day)
  house : HouseO lo w.heap.size w vc vm vo vt h
  nc : vc.ownBlock ≠ some B
  nm : vm.ownBlock ≠ some B
  no : vo.ownBlock ≠ some B
  nt : vt.ownBlock ≠ some B
theorem BoxH.below {B lo : Nat} {w w' : World} {vc vm vo vt : Value} {h : HD} (r : BoxH B lo w vc vm vo vt h) (hb : Below w.heap.size w w') : BoxH B lo w' vc vm vo vt h :=
  ⟨r.six.below hb, (r.house.below hb).wide (Nat.le_refl _) hb.size, r.nc, r.nm, r.no, r.nt⟩
theorem BoxH.cur {B lo X : Nat} {w w' : World} {vc vm vo vt : Value} {h : HD} (r : BoxH B lo w vc vm vo vt h) (ho : Only X (X + 1) w w') (hX : X < lo) (hB : X < B) : BoxH B lo w' vc vm vo vt h :=
  ⟨r.six.only ho (by omega), (r.house.only ho (off_r (by omega))).wide (Nat.le_refl _) ho.size, r.nc, r.nm, r.no, r.nt⟩
theorem row_far {B lo hi : Nat} {w : World} {e : TypeId} {m : Nat} {v : Value} {n : Nat} {xs : List Int} (h : RowO lo hi w e m v n xs) (hB : B < lo) : v.ownBlock ≠ some B := fun e => by have := (h.at B e).1; omega
/-- a new house in the box -/
theorem BoxH.new {B lo hi' lo' : Nat} {w w' : World} {vc vm vo vt vc' vm' vo' vt' : Value} {h h' : HD} (r : BoxH B lo w vc vm vo vt h) (hb : Below w.heap.size w w') (hO : HouseO lo' hi' w' vc' vm' vo' vt' h') (hl : B < lo') (hw : lo ≤ lo') (hh : hi' ≤ w'.heap.size) : BoxH B lo (put6 w' B vc' vm' vo' vt' (.int .i64 h'.sent) (.int .i64 h'.day)) vc' vm' vo' vt' h' := by
  have oB := only_put6 w' B vc' vm' vo' vt' (.int .i64 h'.sent) (.int .i64 h'.day)
  refine ⟨(r.six.below hb).put, (hO.only oB (off_r (by omega))).wide hw (Nat.le_trans hh oB.size), row_far hO.c hl, row_far hO.m hl, row_far hO.o hl, row_far hO.t hl⟩
end Go.Proofs.Ytlipfkalehikkaa
