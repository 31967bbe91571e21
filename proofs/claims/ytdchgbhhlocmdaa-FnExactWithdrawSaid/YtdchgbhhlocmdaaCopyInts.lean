/- append of a whole slice to one of the call's own; copies of slices of integers. -/
import Derived.Test.YtdchgbhhlocmdaaOnly
import Derived.Test.YtdchgbhhlocmdaaOwnL
import Derived.Laws.AppendOwnNone
import Derived.Deep.AppendLies
namespace Go.Proofs.Ytdchgbhhlocmdaa
open Go.ChangeShapes Go.WideShapes Go.ChangeAt Go.RowKit

/-- a slice without memory is the nil slice -/
def NilOk (v : Value) : Prop := ∀ n c, v = .slice none n c → n = 0 ∧ c = 0
theorem nilOk_own {w : World} {B : Nat} {e : TypeId} {s : Nat} {v : Value} {n : Nat} {xs : List Value} (h : w.ownsRow B e s v n xs) : NilOk v := fun n' c hv => by
  rcases h.2 with ⟨rfl, h0⟩ | ⟨g, cap, cur, rfl, _⟩
  · cases hv; exact ⟨rfl, rfl⟩
  · cases hv
theorem nilOk_some (a : Addr) (n c : Nat) : NilOk (.slice (some a) n c) := fun _ _ h => by cases h
theorem grown_refl (w : World) (row : Option Nat) : w.grownBy w row := ⟨rfl, rfl, rfl, Nat.le_refl _, fun _ _ _ => rfl⟩
theorem infoInt' : (Try.prog.info? 3).map (fun i => (i.zero, i.size, i.bytes)) = some (some (.int .i64 0), 1, 8) := by kernel_rfl
theorem infoCopy' : (Try.prog.info? 93).map (fun i => (i.zero, i.size, i.bytes)) = some (some (.agg #[.int .i64 0, .int .i64 0, .int .i64 0]), 3, 24) := by kernel_rfl
/-- 'append(v, x...)', v of the call's own, x any slice of m integers an element -/
theorem run_append_src {P : Program} (w : World) (t ty e : TypeId) (base : Nat) (i : TypeInfo) (z : Value) (size bytes : Nat) (ht : P.underlying t = some (.slice e)) (hi : P.info? e = some i) (hz : i.zero = some z)
    (hsize : i.size = size) (hby : i.bytes = bytes) (hzs : z.cells.size = size) (hsz : 0 < size)
    (v : Value) (n : Nat) (xs : List Value) (hown : w.ownsRow base e size v n xs) (u : Value) (m : Nat) (ys : List Int) (hu : Recs size w u m ys) (hn : NilOk u)
    (hm : n + m ≤ 1000000000) (hb : bytes ≤ 1000) (hbase : base ≤ w.heap.size) :
    ∃ v' w', (Builtin.append_ #[t, t] ty #[v, u]).run P w = .ok v' w' ∧ w'.ownsRow base e size v' (n + m) (xs ++ ys.map (Value.int .i64)) ∧ w.grownBy w' v.ownBlock ∧ (v'.ownBlock = v.ownBlock ∨ v'.ownBlock = some w.heap.size) := by
  obtain ⟨hl, he, ad, cap, rfl, hc⟩ := hu
  cases ad with
  | none =>
    obtain ⟨rfl, rfl⟩ := hn _ _ rfl
    have h0 : ys = [] := List.eq_nil_of_length_eq_zero (by rw [he]; simp)
    subst h0
    refine ⟨v, w, run_append_owned_none (P := P) (w := w) base t ty e i size ht hi v n xs hown, by simpa using hown, grown_refl _ _, .inl rfl⟩
  | some a =>
    have hcell : ∀ j x, (ys.map (Value.int .i64))[j]? = some x → w.cell? (a.add j) = some x := fun j x hj => by
      simp only [List.getElem?_map, Option.map_eq_some_iff] at hj
      obtain ⟨y, hy, rfl⟩ := hj
      obtain ⟨hjl, rfl⟩ := List.getElem?_eq_some_iff.1 hy
      obtain ⟨b, o, ha, hcc⟩ := hc j hjl
      cases ha
      rw [Addr.add_lit, hcc, nth_of_lt ys j hjl]
    obtain ⟨v', w', hr, h2, h3, _, h5⟩ := run_append_own_at (P := P) w base t ty e i z size bytes ht hi hz hsize hby hzs hsz v n xs hown a m cap (ys.map (Value.int .i64)) (by simpa using he) hcell (ints_oneCell .i64 ys) (by unfold maxLen; omega)
      (by have := Nat.mul_le_mul hm hb; omega) hbase
    exact ⟨v', w', hr, h2, h3, h5⟩
theorem wpList_append_src {P : Program} (w : World) {ops : Array Oper} {rest : List Oper} {o : Oper} {a : Act} {Q : Exit → Act → World → Prop} (hgd : o.guard = none) (s x : Operand) (t : TypeId)
    (ho : o.op = .call { callee := .builtin .append, args := #[s, x], argTypes := #[t, t] })
    (base : Nat) (e : TypeId) (i : TypeInfo) (z : Value) (size bytes : Nat) (ht : P.underlying t = some (.slice e)) (hi : P.info? e = some i) (hz : i.zero = some z)
    (hsize : i.size = size) (hby : i.bytes = bytes) (hzs : z.cells.size = size) (hsz : 0 < size)
    (v : Value) (n : Nat) (xs : List Value) (hs : a.eval s = v) (hown : w.ownsRow base e size v n xs) (u : Value) (m : Nat) (ys : List Int) (hx : a.eval x = u) (hu : Recs size w u m ys) (hn : NilOk u)
    (hm : n + m ≤ 1000000000) (hb : bytes ≤ 1000) (hbase : base ≤ w.heap.size)
    (h : ∀ v' w', w'.ownsRow base e size v' (n + m) (xs ++ ys.map (Value.int .i64)) → w.grownBy w' v.ownBlock → (v'.ownBlock = v.ownBlock ∨ v'.ownBlock = some w.heap.size) → wpList P ops Q rest (a.put o.dst v') w') :
    wpList P ops Q (o :: rest) a w := by
  refine wpList_plain hgd fun K hK => ?_
  obtain ⟨v', w', hr, h2, h3, h5⟩ := run_append_src (P := P) w t o.type e base i z size bytes ht hi hz hsize hby hzs hsz v n xs hown u m ys hu hn hm hb hbase
  unfold Oper.wp execOp
  simp only [ho, resolve, invoke, builtin, Sem.run_bind, Sem.run_pure, Result.andThen_ok, List.map_toArray, List.map_cons, List.map_nil, hs, hx, hr]
  exact hK _ _ (h v' w' h2 h3 h5)
theorem step_append_src {P : Program} {ops : Array Oper} {o : Oper} {a : Act} {w : World} {K : Act → World → Prop} {Q : Exit → Act → World → Prop} {E : Prop} (hgd : o.guard = none) (s x : Operand) (t : TypeId)
    (ho : o.op = .call { callee := .builtin .append, args := #[s, x], argTypes := #[t, t] })
    (base : Nat) (e : TypeId) (i : TypeInfo) (z : Value) (size bytes : Nat) (ht : P.underlying t = some (.slice e)) (hi : P.info? e = some i) (hz : i.zero = some z)
    (hsize : i.size = size) (hby : i.bytes = bytes) (hzs : z.cells.size = size) (hsz : 0 < size)
    (v : Value) (n : Nat) (xs : List Value) (hs : a.eval s = v) (hown : w.ownsRow base e size v n xs) (u : Value) (m : Nat) (ys : List Int) (hx : a.eval x = u) (hu : Recs size w u m ys) (hn : NilOk u)
    (hm : n + m ≤ 1000000000) (hb : bytes ≤ 1000) (hbase : base ≤ w.heap.size)
    (h : ∀ v' w', w'.ownsRow base e size v' (n + m) (xs ++ ys.map (Value.int .i64)) → w.grownBy w' v.ownBlock → (v'.ownBlock = v.ownBlock ∨ v'.ownBlock = some w.heap.size) → K (a.put o.dst v') w') :
    if Region.wanted o (yielded ops a.tmps) = true then Oper.wp P o a w K Q else E := by
  have hw : Region.wanted o (yielded ops a.tmps) = true := by simp [Region.wanted, hgd]
  rw [if_pos hw]
  obtain ⟨v', w', hr, h2, h3, h5⟩ := run_append_src (P := P) w t o.type e base i z size bytes ht hi hz hsize hby hzs hsz v n xs hown u m ys hu hn hm hb hbase
  unfold Oper.wp execOp
  simp only [ho, resolve, invoke, builtin, Sem.run_bind, Sem.run_pure, Result.andThen_ok, List.map_toArray, List.map_cons, List.map_nil, hs, hx, hr]
  exact h v' w' h2 h3 h5
theorem ints_recs {w : World} {v : Value} {xs : List Int} (h : Ints w v xs) : Recs 1 w v xs.length xs := ⟨h.len, by simp, h.ex⟩
/-- a copy of a slice of integers -/
def CopyOf (w : World) (xs : List Int) (e : Ending) (w' : World) : Prop :=
  ∃ ad cap, e = .returned (.slice ad xs.length cap) ∧ w'.ownsRow w.heap.size 3 1 (.slice ad xs.length cap) xs.length (xs.map (Value.int .i64)) ∧ Below w.heap.size w w'
theorem below_grown' {w w' : World} (hg : w.grownBy w' none) : Below w.heap.size w w' := (bref w).grown hg (Nat.le_refl _) (fun k hk => by cases hk)
theorem copyInts_any (v : Value) (xs : List Int) (w : World) (h : Ints w v xs) (hn : NilOk v) (h20 : xs.length ≤ 1048576) : Calls Try.prog 97 #[v] w (CopyOf w xs) := by
  obtain ⟨i0, hi, hz0, hz1, hz2⟩ := info_parts infoInt'
  have hr := ints_recs h
  go_enter Try.func97, Try.ntmps97
  go_wp2_with (at_builtin; refine wpList_append_src _ rfl _ _ 24 rfl w.heap.size 3 i0 (.int .i64 0) 1 8 Try.underlying24 hi hz0 hz1 hz2 rfl (by decide) (.slice none 0 0) 0 [] rfl (World.ownsRow_nil _ _ _ _) _ xs.length xs rfl hr hn (by omega) (by decide) (Nat.le_refl _) ?_; intro v' w1 hown hgrow hat)
  obtain ⟨ad, cap, rfl⟩ := own_form hown
  have HO := Lib.hid hown
  have HB := Lib.hid (below_grown' (by simpa [Value.ownBlock] using hgrow))
  clear hown hgrow hat
  go_wp2
  go_ret
  refine ⟨ad, cap, by simp, by simpa using HO.out, HB.out⟩
theorem l38Ints_any (v : Value) (xs : List Int) (w : World) (h : Ints w v xs) (hn : NilOk v) (h20 : xs.length ≤ 1048576) : Calls Try.prog 101 #[v] w (CopyOf w xs) := by
  obtain ⟨i0, hi, hz0, hz1, hz2⟩ := info_parts infoInt'
  have hr := (ints_recs h).alloc (.cells #[] 3)
  have R0 := World.ownsRow_lit (e := 3) (size := 1) w #[] 0 (Nat.le_refl _) (by decide) rfl
  go_enter Try.func101, Try.ntmps101
  go_wp2_with (at_builtin; refine wpList_append_src _ rfl _ _ 24 rfl w.heap.size 3 i0 (.int .i64 0) 1 8 Try.underlying24 hi hz0 hz1 hz2 rfl (by decide) (.slice (some ⟨w.heap.size, 0, none⟩) 0 0) 0 [] rfl R0 _ xs.length xs rfl hr hn (by omega) (by decide) (by simp) ?_; intro v' w1 hown hgrow hat)
  obtain ⟨ad, cap, rfl⟩ := own_form hown
  have HO := Lib.hid hown
  have HB := Lib.hid ((balloc (bref w) _).grown hgrow (by simp) (fun k hk => by cases hk; exact Nat.le_refl _))
  clear hown hgrow hat
  go_wp2
  go_ret
  refine ⟨ad, cap, by simp, by simpa using HO.out, HB.out⟩
end Go.Proofs.Ytdchgbhhlocmdaa
