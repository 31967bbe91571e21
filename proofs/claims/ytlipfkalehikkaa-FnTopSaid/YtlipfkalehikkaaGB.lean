/- Texts laid together: OwnL, Above, CopyInts, SortFn, NewFn, PostFn, Weight, ErrorIn, IntS, LetterS, Same, Depend. -/
import Derived.Maps.AppendAt
import Derived.Laws.NewBlocks
import Derived.Laws.AppendOwnNone
import Derived.Deep.AppendLies
import Derived.Test.YtlipfkalehikkaaGA
import Derived.Test.YtlipfkalehikkaaProg
/- A list of integers that a call makes and hands back. -/
namespace Go.Proofs.Ytlipfkalehikkaa
open Go.ChangeShapes Go.WideShapes Go.ChangeAt Go.RowKit

theorem Try.infoInt : (Try.prog.info? 3).map (fun i => (i.zero, i.size, i.bytes)) = some (some (.int .i64 0), 1, 8) := by kernel_rfl
/-- the call hands back a slice of its own that holds L -/
def Gives (w : World) (L : List Int) (e : Ending) (w' : World) : Prop :=
  ∃ v, e = .returned v ∧ w'.ownsRow w.heap.size 3 1 v L.length (L.map (Value.int .i64)) ∧ Below w.heap.size w w'
/-- likewise, and it is nil just if L is empty -/
def GivesN (w : World) (L : List Int) (e : Ending) (w' : World) : Prop :=
  ∃ v, e = .returned v ∧ w'.ownsRow w.heap.size 3 1 v L.length (L.map (Value.int .i64)) ∧ (v = .slice none 0 0 ↔ L = []) ∧ Below w.heap.size w w'
theorem GivesN.gives {w w' : World} {L : List Int} {e : Ending} (h : GivesN w L e w') : Gives w L e w' := by
  obtain ⟨v, a, b, _, c⟩ := h
  exact ⟨v, a, b, c⟩
theorem app_step {B : Nat} {w wr w1 : World} {e : TypeId} {o : Obj} {v v' : Value} {L : List Int} {k : Int} (hown : wr.ownsRow B e 1 v L.length (L.map (Value.int .i64)))
    (hown' : w1.ownsRow B e 1 v' (L.length + 1) (L.map (Value.int .i64) ++ [.int .i64 k])) (hgrow : (wr.alloc o).grownBy w1 v.ownBlock) (hbel : Below B w wr) (hB : B ≤ w.heap.size) :
    w1.ownsRow B e 1 v' (L ++ [k]).length ((L ++ [k]).map (Value.int .i64)) ∧ Below B w w1 := by
  refine ⟨by simpa using hown', (hbel.alloc (Nat.le_trans hB hbel.size) _).grown hgrow (by have := hbel.size; simp; omega) (fun k hk => (hown.lt k hk).1)⟩
theorem kept_cell {B b p : Nat} {wr w1 : World} {e : TypeId} {o : Obj} {v : Value} {sz n : Nat} {xs : List Value} {x : Value} (hown : wr.ownsRow B e sz v n xs) (hgrow : (wr.alloc o).grownBy w1 v.ownBlock)
    (hb : b < B) (hc : wr.cell? ⟨b, p, none⟩ = some x) : w1.cell? ⟨b, p, none⟩ = some x := by
  have lb := World.block_lt_of_cell? wr _ hc
  refine hgrow.cell (a := ⟨b, p, none⟩) (by rw [World.cell?_alloc_past _ _ _ lb]; exact hc) fun e => ?_
  have := (hown.lt b e.symm).1
  omega
theorem cell_one_new' (w : World) (b : Nat) (x : Value) (t : TypeId) (hb : b = w.heap.size) : ∀ j u, [x][j]? = some u → (w.alloc (.cells #[x] t)).cell? ((⟨b, 0, none⟩ : Addr).add j) = some u := by
  subst hb; exact cell_one_new w x t
theorem nil_step {v v' : Value} {L : List Int} {k : Int} (h : v' = .slice none 0 0 ↔ v = .slice none 0 0 ∧ 1 = 0) : v' = .slice none 0 0 ↔ L ++ [k] = [] := by simp [h]
theorem own_ints {w : World} {B : Nat} {v : Value} {L : List Int} (h : w.ownsRow B 3 1 v L.length (L.map (Value.int .i64))) (hl : L.length ≤ 9223372036854775807) : Ints w v L := Ints.of_own h hl
end Go.Proofs.Ytlipfkalehikkaa

/- The walks of isCopy, above and AboveIn, in the program and in the reference. -/
namespace Go.Proofs.Ytlipfkalehikkaa
open Go.ChangeShapes Go.WideShapes Go.ChangeAt Go.RowKit

theorem isCopy_any (v : Value) (n : Nat) (xs : List Int) (k : Int) (w : World) (h : Recs 3 w v n xs) : Calls Try.prog 41 #[v, .int .i64 k] w fun e w' => e = .returned (.bool (chainOk n xs && inB k 0 ((n : Int) - 1))) ∧ Below w.heap.size w w' := by
  have hv := h
  have hn := h.len
  obtain ⟨hl, he, ad, cap, rfl, hc⟩ := h
  clear hc he
  cases h1 : chainOk n xs with
  | false =>
    go_enter Try.func41, Try.ntmps41
    go_wp2_with fail
    refine (implChainOk_any _ n xs _ hv).mono ?_
    rintro e w1 ⟨rfl, hb1⟩
    rw [h1]
    go_wp2
    go_ret
    exact ⟨rfl, hb1⟩
  | true =>
    go_enter Try.func41, Try.ntmps41
    go_wp2_with fail
    refine (implChainOk_any _ n xs _ hv).mono ?_
    rintro e w1 ⟨rfl, hb1⟩
    rw [h1]
    go_wp2_with (go_at_call 38; refine (in_any _ _ _ _).mono ?_; rintro e w' ⟨rfl, rfl⟩)
    go_ret
    exact ⟨ret_bool (by simp), hb1⟩

set_option maxRecDepth 100000 in
theorem above_any (v : Value) (n : Nat) (xs : List Int) (k0 : Int) (w : World) (h : Recs 3 w v n xs) (hch : chainOk n xs = true) (h0 : 0 ≤ k0) (h1 : k0 < n) : Calls Try.prog 42 #[v, .int .i64 k0] w (GivesN w (upL xs k0)) := by
  obtain ⟨i0, hi, hz0, hz1, hz2⟩ := info_parts Try.infoInt
  have hn12 := (chainOk_n hch).2
  obtain ⟨hl, he, ad, cap, rfl, hc⟩ := h
  have hat := fun k hk => at3 (w := w) he hc k hk
  clear hc he
  go_enter Try.func42, Try.ntmps42
  go_wp2_with fail
  go_loopw [1, 5] (fun kk v wr => ∃ (k : Int) (L : List Int) (f : Nat), kk = .int .i64 k ∧ -1 ≤ k ∧ k < n ∧ k + 1 ≤ f ∧ L.length + f ≤ 12 ∧ Hid (L ++ upFrom xs f k = upL xs k0) ∧
      wr.ownsRow w.heap.size 3 1 v L.length (L.map (Value.int .i64)) ∧ (v = .slice none 0 0 ↔ L = []) ∧ Below w.heap.size w wr) (fun kk _ _ => (intOf kk + 1).toNat)
  case atStart => exact ⟨k0, [], 12, rfl, by omega, by omega, by omega, by simp, rfl, World.ownsRow_nil _ _ _ _, by simp, bref _⟩
  case round =>
    obtain ⟨k, L, f, rfl, hk1, hk2, hkf, hlf, hx, hown, hnl, hbel⟩ := hrel
    by_cases h0 : 0 ≤ k
    · obtain ⟨f, rfl⟩ : ∃ f', f = f' + 1 := ⟨f - 1, by omega⟩
      obtain ⟨b, o, rfl, e0, e1, e2, hb⟩ := hat k.toNat (by omega)
      have hp := chainOk_p hch (k := k.toNat) (by omega)
      obtain ⟨p1, p2⟩ := hp
      have hb' := hbel.cell (p := ⟨b, o + k.toNat * 3, none⟩) hb
      rw [← hb'] at e0
      have z1 := hbel.size
      have lb : b < wr.heap.size := by omega
      have HX := Lib.hid (show (L ++ [k]) ++ upFrom xs f (cP xs k.toNat) = upL xs k0 by rw [← hx.out, upFrom_yes h0]; simp)
      have HC := Lib.hid e0
      clear hat e0 e1 e2 hb'
      have HNL := Lib.hid hnl
      clear hnl
      go_wp2_with (at_builtin; refine wpList_append_own _ rfl _ _ 25 rfl w.heap.size 3 i0 (.int .i64 0) 1 8 Try.underlying25 hi hz0 hz1 hz2 rfl (by decide) _ _ _ rfl (hown.alloc _) ⟨wr.heap.size, 0, none⟩ 1 1 [.int .i64 k] rfl rfl (cell_one_new _ _ _) (ints_oneCell .i64 [k]) (by unfold maxLen; omega) (by omega) (by simp; omega) ?_; intro v' w1 hown' hgrow hnil; have e3 := kept_cell hown hgrow hb HC.out; have HR := Lib.hid (app_step hown hown' hgrow hbel (Nat.le_refl _)); have HN := Lib.hid (nil_step (L := L) (k := k) hnil); clear hown hown' hgrow hbel hnil)
      go_roundw
      case rel => exact ⟨cP xs k.toNat, L ++ [k], f, rfl, p1, by omega, by omega, by simp; omega, HX.out, HR.out.1, HN.out, HR.out.2⟩
      case measure => simp [intOf]; omega
    · have HX := Lib.hid (show L = upL xs k0 by rw [← hx.out, upFrom_no h0]; simp)
      have HO := Lib.hid hown
      have HN := Lib.hid hnl
      have HB := Lib.hid hbel
      clear hat hown hbel hnl
      go_wp2
      go_ret
      rw [← HX.out]
      exact ⟨_, rfl, HO.out, HN.out, HB.out⟩

theorem implAboveIn (v : Value) (n : Nat) (xs : List Int) (k : Int) (w : World) (h : Recs 3 w v n xs) : Calls Try.prog 40 #[v, .int .i64 k] w (GivesN w (aboveL n xs k)) := by
  have hv := h
  obtain ⟨hl, he, ad, cap, rfl, hc⟩ := h
  clear hc he
  cases h1 : chainOk n xs with
  | false =>
    have H := Lib.hid (aboveL_c (k := k) h1)
    go_enter Try.func40, Try.ntmps40
    go_wp2_with fail
    refine (isCopy_any _ n xs k _ hv).mono ?_
    rintro e w1 ⟨rfl, hb1⟩
    rw [h1]
    go_wp2
    go_ret
    rw [H.out]
    exact ⟨_, rfl, World.ownsRow_nil _ _ _ _, by simp, hb1⟩
  | true =>
    cases h2 : inB k 0 ((n : Int) - 1) with
    | false =>
      have H := Lib.hid (aboveL_k (xs := xs) h2)
      go_enter Try.func40, Try.ntmps40
      go_wp2_with fail
      refine (isCopy_any _ n xs k _ hv).mono ?_
      rintro e w1 ⟨rfl, hb1⟩
      rw [h1, h2]
      go_wp2
      go_ret
      rw [H.out]
      exact ⟨_, rfl, World.ownsRow_nil _ _ _ _, by simp, hb1⟩
    | true =>
      have H := Lib.hid (aboveL_t h1 h2)
      have hk := inB_le h2
      obtain ⟨k1, k2⟩ := hk
      go_enter Try.func40, Try.ntmps40
      go_wp2_with fail
      refine (isCopy_any _ n xs k _ hv).mono ?_
      rintro e w1 ⟨rfl, hb1⟩
      rw [h1, h2]
      go_wp2_with fail
      refine (above_any _ n xs k _ (hv.below hb1) h1 k1 (by omega)).mono ?_
      rintro e w2 ⟨v', rfl, hown, hnl, hb2⟩
      have HO := Lib.hid hown
      have HN := Lib.hid hnl
      clear hown hnl
      go_wp2
      go_ret
      rw [H.out]
      exact ⟨_, rfl, own_base HO.out hb1.size, HN.out, bnext hb1 hb2⟩

set_option maxRecDepth 100000 in
theorem specAboveIn (v : Value) (n : Nat) (xs : List Int) (k0 : Int) (w : World) (h : Recs 3 w v n xs) : Calls Try.prog 60 #[v, .int .i64 k0] w (Gives w (aboveL n xs k0)) := by
  obtain ⟨i0, hi, hz0, hz1, hz2⟩ := info_parts Try.infoInt
  have hv := h
  obtain ⟨hl, he, ad, cap, rfl, hc⟩ := h
  have hat := fun k hk => at3 (w := w) he hc k hk
  clear hc he
  go_enter Try.func60, Try.ntmps60
  go_wp2_with fail
  refine (specChainOk_any _ n xs _ (hv.alloc _)).mono ?_
  rintro e w1 ⟨rfl, hb1⟩
  have hown1 := own_below (World.ownsRow_lit (e := 3) (size := 1) w #[] 0 (Nat.le_refl _) (by decide) rfl) hb1
  have HO1 := Lib.hid hown1
  have HB1 := Lib.hid (bnext (balloc (bref w) _) hb1)
  clear hown1 hb1
  cases hch : chainOk n xs with
  | false =>
    have H := Lib.hid (aboveL_c (k := k0) hch)
    clear hat
    go_wp2
    go_ret
    rw [H.out]
    exact ⟨_, rfl, by simpa using HO1.out, HB1.out⟩
  | true =>
    have hn12 := (chainOk_n hch).2
    cases h2 : inB k0 0 ((n : Int) - 1) with
    | false =>
      have H := Lib.hid (aboveL_k (xs := xs) h2)
      clear hat
      go_wp2_with (go_at_call 55; refine (l01In_any _ _ _ _).mono ?_; rintro e w' ⟨rfl, rfl⟩)
      go_ret
      rw [H.out]
      exact ⟨_, rfl, by simpa using HO1.out, HB1.out⟩
    | true =>
      have H := Lib.hid (aboveL_t hch h2)
      have hk := inB_le h2
      obtain ⟨k1, k2⟩ := hk
      go_wp2_with (go_at_call 55; refine (l01In_any _ _ _ _).mono ?_; rintro e w' ⟨rfl, rfl⟩)
      go_loopw [1, 5] (fun kk v wr => ∃ (k : Int) (L : List Int) (f : Nat), kk = .int .i64 k ∧ -1 ≤ k ∧ k < n ∧ k + 1 ≤ f ∧ L.length + f ≤ 12 ∧ Hid (L ++ upFrom xs f k = upL xs k0) ∧
          wr.ownsRow w.heap.size 3 1 v L.length (L.map (Value.int .i64)) ∧ Below w.heap.size w wr) (fun kk _ _ => (intOf kk + 1).toNat)
      case atStart => exact ⟨k0, [], 12, rfl, by omega, by omega, by omega, by simp, rfl, by simpa using HO1.out, HB1.out⟩
      case round =>
        obtain ⟨k, L, f, rfl, hk1, hk2, hkf, hlf, hx, hown, hbel⟩ := hrel
        by_cases h0 : 0 ≤ k
        · obtain ⟨f, rfl⟩ : ∃ f', f = f' + 1 := ⟨f - 1, by omega⟩
          obtain ⟨b, o, rfl, e0, e1, e2, hb⟩ := hat k.toNat (by omega)
          have hp := chainOk_p hch (k := k.toNat) (by omega)
          obtain ⟨p1, p2⟩ := hp
          have hb' := hbel.cell (p := ⟨b, o + k.toNat * 3, none⟩) hb
          rw [← hb'] at e0
          have z1 := hbel.size
          have lb : b < wr.heap.size := by omega
          have HX := Lib.hid (show (L ++ [k]) ++ upFrom xs f (cP xs k.toNat) = upL xs k0 by rw [← hx.out, upFrom_yes h0]; simp)
          have HC := Lib.hid e0
          clear hat e0 e1 e2 hb'
          go_wp2_with (at_builtin; refine wpList_append_own _ rfl _ _ 25 rfl w.heap.size 3 i0 (.int .i64 0) 1 8 Try.underlying25 hi hz0 hz1 hz2 rfl (by decide) _ _ _ rfl (hown.alloc _) ⟨wr.heap.size, 0, none⟩ 1 1 [.int .i64 k] rfl rfl (cell_one_new _ _ _) (ints_oneCell .i64 [k]) (by unfold maxLen; omega) (by omega) (by simp; omega) ?_; intro v' w1 hown' hgrow hnil; have e3 := kept_cell hown hgrow hb HC.out; have HR := Lib.hid (app_step hown hown' hgrow hbel (Nat.le_refl _)); clear hown hown' hgrow hbel hnil)
          go_roundw
          case rel => exact ⟨cP xs k.toNat, L ++ [k], f, rfl, p1, by omega, by omega, by simp; omega, HX.out, HR.out.1, HR.out.2⟩
          case measure => simp [intOf]; omega
        · have HX := Lib.hid (show L = upL xs k0 by rw [← hx.out, upFrom_no h0]; simp)
          have HO := Lib.hid hown
          have HB := Lib.hid hbel
          clear hat hown hbel
          go_wp2
          go_ret
          rw [H.out, ← HX.out]
          exact ⟨_, rfl, HO.out, HB.out⟩


end Go.Proofs.Ytlipfkalehikkaa

/- append of a whole slice to one of the call's own; copies of slices of integers. -/
namespace Go.Proofs.Ytlipfkalehikkaa
open Go.ChangeShapes Go.WideShapes Go.ChangeAt Go.RowKit

/-- a slice without memory is the nil slice -/
def NilOk (v : Value) : Prop := ∀ n c, v = .slice none n c → n = 0 ∧ c = 0
theorem nilOk_own {w : World} {B : Nat} {e : TypeId} {s : Nat} {v : Value} {n : Nat} {xs : List Value} (h : w.ownsRow B e s v n xs) : NilOk v := fun n' c hv => by
  rcases h.2 with ⟨rfl, h0⟩ | ⟨g, cap, cur, rfl, _⟩
  · cases hv; exact ⟨rfl, rfl⟩
  · cases hv
theorem nilOk_some (a : Addr) (n c : Nat) : NilOk (.slice (some a) n c) := fun _ _ h => by cases h
theorem grown_refl (w : World) (row : Option Nat) : w.grownBy w row := ⟨rfl, rfl, rfl, Nat.le_refl _, fun _ _ _ => rfl⟩
theorem infoInt' : (Try.prog.info? 3).map (fun i => (i.zero, i.size, i.bytes)) = some (some (.int .i64 0), 1, 8) := by kernel_rfl
theorem infoCopy' : (Try.prog.info? 40).map (fun i => (i.zero, i.size, i.bytes)) = some (some (.agg #[.int .i64 0, .int .i64 0, .int .i64 0]), 3, 24) := by kernel_rfl
/-- 'append(v, x...)', v of the call's own, x any slice of m integers an element -/
theorem run_append_src {P : Program} (w : World) (t ty e : TypeId) (base : Nat) (i : TypeInfo) (z : Value) (size bytes : Nat) (ht : P.underlying t = some (.slice e)) (hi : P.info? e = some i) (hz : i.zero = some z)
    (hsize : i.size = size) (hby : i.bytes = bytes) (hzs : z.cells.size = size) (hsz : 0 < size)
    (v : Value) (n : Nat) (xs : List Value) (hown : w.ownsRow base e size v n xs) (u : Value) (m : Nat) (ys : List Int) (hu : Recs size w u m ys) (hn : NilOk u)
    (hm : n + m ≤ 1000000000) (hb : bytes ≤ 1000) (hbase : base ≤ w.heap.size) :
    ∃ v' w', (Builtin.append_ #[t, t] ty #[v, u]).run P w = .ok v' w' ∧ w'.ownsRow base e size v' (n + m) (xs ++ ys.map (Value.int .i64)) ∧ w.grownBy w' v.ownBlock ∧ (v'.ownBlock = v.ownBlock ∨ v'.ownBlock = some w.heap.size) := by
  obtain ⟨hl, he, ad, cap, rfl, hc⟩ := hu
  cases ad with
  | none =>
    obtain ⟨rfl, rfl⟩ := hn _ _ rfl
    have h0 : ys = [] := List.eq_nil_of_length_eq_zero (by rw [he]; simp)
    subst h0
    refine ⟨v, w, run_append_owned_none (P := P) (w := w) base t ty e i size ht hi v n xs hown, by simpa using hown, grown_refl _ _, .inl rfl⟩
  | some a =>
    have hcell : ∀ j x, (ys.map (Value.int .i64))[j]? = some x → w.cell? (a.add j) = some x := fun j x hj => by
      simp only [List.getElem?_map, Option.map_eq_some_iff] at hj
      obtain ⟨y, hy, rfl⟩ := hj
      obtain ⟨hjl, rfl⟩ := List.getElem?_eq_some_iff.1 hy
      obtain ⟨b, o, ha, hcc⟩ := hc j hjl
      cases ha
      rw [Addr.add_lit, hcc, nth_of_lt ys j hjl]
    obtain ⟨v', w', hr, h2, h3, _, h5⟩ := run_append_own_at (P := P) w base t ty e i z size bytes ht hi hz hsize hby hzs hsz v n xs hown a m cap (ys.map (Value.int .i64)) (by simpa using he) hcell (ints_oneCell .i64 ys) (by unfold maxLen; omega)
      (by have := Nat.mul_le_mul hm hb; omega) hbase
    exact ⟨v', w', hr, h2, h3, h5⟩
theorem wpList_append_src {P : Program} (w : World) {ops : Array Oper} {rest : List Oper} {o : Oper} {a : Act} {Q : Exit → Act → World → Prop} (hgd : o.guard = none) (s x : Operand) (t : TypeId)
    (ho : o.op = .call { callee := .builtin .append, args := #[s, x], argTypes := #[t, t] })
    (base : Nat) (e : TypeId) (i : TypeInfo) (z : Value) (size bytes : Nat) (ht : P.underlying t = some (.slice e)) (hi : P.info? e = some i) (hz : i.zero = some z)
    (hsize : i.size = size) (hby : i.bytes = bytes) (hzs : z.cells.size = size) (hsz : 0 < size)
    (v : Value) (n : Nat) (xs : List Value) (hs : a.eval s = v) (hown : w.ownsRow base e size v n xs) (u : Value) (m : Nat) (ys : List Int) (hx : a.eval x = u) (hu : Recs size w u m ys) (hn : NilOk u)
    (hm : n + m ≤ 1000000000) (hb : bytes ≤ 1000) (hbase : base ≤ w.heap.size)
    (h : ∀ v' w', w'.ownsRow base e size v' (n + m) (xs ++ ys.map (Value.int .i64)) → w.grownBy w' v.ownBlock → (v'.ownBlock = v.ownBlock ∨ v'.ownBlock = some w.heap.size) → wpList P ops Q rest (a.put o.dst v') w') :
    wpList P ops Q (o :: rest) a w := by
  refine wpList_plain hgd fun K hK => ?_
  obtain ⟨v', w', hr, h2, h3, h5⟩ := run_append_src (P := P) w t o.type e base i z size bytes ht hi hz hsize hby hzs hsz v n xs hown u m ys hu hn hm hb hbase
  unfold Oper.wp execOp
  simp only [ho, resolve, invoke, builtin, Sem.run_bind, Sem.run_pure, Result.andThen_ok, List.map_toArray, List.map_cons, List.map_nil, hs, hx, hr]
  exact hK _ _ (h v' w' h2 h3 h5)
theorem step_append_src {P : Program} {ops : Array Oper} {o : Oper} {a : Act} {w : World} {K : Act → World → Prop} {Q : Exit → Act → World → Prop} {E : Prop} (hgd : o.guard = none) (s x : Operand) (t : TypeId)
    (ho : o.op = .call { callee := .builtin .append, args := #[s, x], argTypes := #[t, t] })
    (base : Nat) (e : TypeId) (i : TypeInfo) (z : Value) (size bytes : Nat) (ht : P.underlying t = some (.slice e)) (hi : P.info? e = some i) (hz : i.zero = some z)
    (hsize : i.size = size) (hby : i.bytes = bytes) (hzs : z.cells.size = size) (hsz : 0 < size)
    (v : Value) (n : Nat) (xs : List Value) (hs : a.eval s = v) (hown : w.ownsRow base e size v n xs) (u : Value) (m : Nat) (ys : List Int) (hx : a.eval x = u) (hu : Recs size w u m ys) (hn : NilOk u)
    (hm : n + m ≤ 1000000000) (hb : bytes ≤ 1000) (hbase : base ≤ w.heap.size)
    (h : ∀ v' w', w'.ownsRow base e size v' (n + m) (xs ++ ys.map (Value.int .i64)) → w.grownBy w' v.ownBlock → (v'.ownBlock = v.ownBlock ∨ v'.ownBlock = some w.heap.size) → K (a.put o.dst v') w') :
    if Region.wanted o (yielded ops a.tmps) = true then Oper.wp P o a w K Q else E := by
  have hw : Region.wanted o (yielded ops a.tmps) = true := by simp [Region.wanted, hgd]
  rw [if_pos hw]
  obtain ⟨v', w', hr, h2, h3, h5⟩ := run_append_src (P := P) w t o.type e base i z size bytes ht hi hz hsize hby hzs hsz v n xs hown u m ys hu hn hm hb hbase
  unfold Oper.wp execOp
  simp only [ho, resolve, invoke, builtin, Sem.run_bind, Sem.run_pure, Result.andThen_ok, List.map_toArray, List.map_cons, List.map_nil, hs, hx, hr]
  exact h v' w' h2 h3 h5
theorem ints_recs {w : World} {v : Value} {xs : List Int} (h : Ints w v xs) : Recs 1 w v xs.length xs := ⟨h.len, by simp, h.ex⟩
/-- a copy of a slice of integers -/
def CopyOf (w : World) (xs : List Int) (e : Ending) (w' : World) : Prop :=
  ∃ ad cap, e = .returned (.slice ad xs.length cap) ∧ w'.ownsRow w.heap.size 3 1 (.slice ad xs.length cap) xs.length (xs.map (Value.int .i64)) ∧ Below w.heap.size w w'
theorem below_grown' {w w' : World} (hg : w.grownBy w' none) : Below w.heap.size w w' := (bref w).grown hg (Nat.le_refl _) (fun k hk => by cases hk)
theorem copyInts_any (v : Value) (xs : List Int) (w : World) (h : Ints w v xs) (hn : NilOk v) (h20 : xs.length ≤ 1048576) : Calls Try.prog 48 #[v] w (CopyOf w xs) := by
  obtain ⟨i0, hi, hz0, hz1, hz2⟩ := info_parts infoInt'
  have hr := ints_recs h
  go_enter Try.func48, Try.ntmps48
  go_wp2_with (at_builtin; refine wpList_append_src _ rfl _ _ 25 rfl w.heap.size 3 i0 (.int .i64 0) 1 8 Try.underlying25 hi hz0 hz1 hz2 rfl (by decide) (.slice none 0 0) 0 [] rfl (World.ownsRow_nil _ _ _ _) _ xs.length xs rfl hr hn (by omega) (by decide) (Nat.le_refl _) ?_; intro v' w1 hown hgrow hat)
  obtain ⟨ad, cap, rfl⟩ := own_form hown
  have HO := Lib.hid hown
  have HB := Lib.hid (below_grown' (by simpa [Value.ownBlock] using hgrow))
  clear hown hgrow hat
  go_wp2
  go_ret
  refine ⟨ad, cap, by simp, by simpa using HO.out, HB.out⟩
theorem l38Ints_any (v : Value) (xs : List Int) (w : World) (h : Ints w v xs) (hn : NilOk v) (h20 : xs.length ≤ 1048576) : Calls Try.prog 52 #[v] w (CopyOf w xs) := by
  obtain ⟨i0, hi, hz0, hz1, hz2⟩ := info_parts infoInt'
  have hr := (ints_recs h).alloc (.cells #[] 3)
  have R0 := World.ownsRow_lit (e := 3) (size := 1) w #[] 0 (Nat.le_refl _) (by decide) rfl
  go_enter Try.func52, Try.ntmps52
  go_wp2_with (at_builtin; refine wpList_append_src _ rfl _ _ 25 rfl w.heap.size 3 i0 (.int .i64 0) 1 8 Try.underlying25 hi hz0 hz1 hz2 rfl (by decide) (.slice (some ⟨w.heap.size, 0, none⟩) 0 0) 0 [] rfl R0 _ xs.length xs rfl hr hn (by omega) (by decide) (by simp) ?_; intro v' w1 hown hgrow hat)
  obtain ⟨ad, cap, rfl⟩ := own_form hown
  have HO := Lib.hid hown
  have HB := Lib.hid ((balloc (bref w) _).grown hgrow (by simp) (fun k hk => by cases hk; exact Nat.le_refl _))
  clear hown hgrow hat
  go_wp2
  go_ret
  refine ⟨ad, cap, by simp, by simpa using HO.out, HB.out⟩
end Go.Proofs.Ytlipfkalehikkaa

/- Sorted lists of integers: the sorted list, its different elements, the step of an insertion. -/
namespace Go.Proofs.Ytlipfkalehikkaa
open Go.ChangeShapes Go.WideShapes Go.ChangeAt Go.RowKit

def leI (x y : Int) : Bool := decide (x ≤ y)
def sortL (xs : List Int) : List Int := xs.mergeSort leI
def SortedI (xs : List Int) : Prop := xs.Pairwise (· ≤ ·)
def StrictI (xs : List Int) : Prop := xs.Pairwise (· < ·)
theorem sortL_perm (xs : List Int) : (sortL xs).Perm xs := List.mergeSort_perm xs leI
theorem sortL_len (xs : List Int) : (sortL xs).length = xs.length := (sortL_perm xs).length_eq
theorem sortL_sorted (xs : List Int) : SortedI (sortL xs) := by
  have h := List.pairwise_mergeSort (le := leI) (fun _ _ _ h1 h2 => by simp [leI] at *; omega) (fun _ _ => by simp [leI]; omega) xs
  exact h.imp (fun q => by simpa [leI] using q)
theorem sorted_unique {xs ys : List Int} (h : xs.Perm ys) (hx : SortedI xs) (hy : SortedI ys) : xs = ys :=
  h.eq_of_pairwise (fun _ _ _ _ h1 h2 => Int.le_antisymm h1 h2) hx hy
theorem sortL_of {xs ys : List Int} (h : ys.Perm xs) (hs : SortedI ys) : ys = sortL xs := sorted_unique (h.trans (sortL_perm xs).symm) hs (sortL_sorted xs)
theorem sortL_mem {xs : List Int} {x : Int} : x ∈ sortL xs ↔ x ∈ xs := (sortL_perm xs).mem_iff
theorem strict_sorted {xs : List Int} (h : StrictI xs) : SortedI xs := h.imp (fun q => Int.le_of_lt q)
theorem strict_ext : ∀ {xs ys : List Int}, StrictI xs → StrictI ys → (∀ x, x ∈ xs ↔ x ∈ ys) → xs = ys := by
  intro xs
  induction xs with
  | nil =>
    intro ys _ _ h
    cases ys with
    | nil => rfl
    | cons y ys => exact absurd ((h y).2 (by simp)) (by simp)
  | cons x xs ih =>
    intro ys hx hy h
    cases ys with
    | nil => exact absurd ((h x).1 (by simp)) (by simp)
    | cons y ys =>
      have px := List.pairwise_cons.1 hx
      have py := List.pairwise_cons.1 hy
      have exy : x = y := by
        rcases List.mem_cons.1 ((h x).1 (by simp)) with e | e
        · exact e
        · rcases List.mem_cons.1 ((h y).2 (by simp)) with e2 | e2
          · exact e2.symm
          · have := px.1 _ e2; have := py.1 _ e; omega
      subst exy
      congr 1
      refine ih px.2 py.2 fun z => ⟨fun hz => ?_, fun hz => ?_⟩
      · rcases List.mem_cons.1 ((h z).1 (List.mem_cons_of_mem _ hz)) with e | e
        · have := px.1 _ hz; omega
        · exact e
      · rcases List.mem_cons.1 ((h z).2 (List.mem_cons_of_mem _ hz)) with e | e
        · have := py.1 _ hz; omega
        · exact e
theorem strict_filter {xs : List Int} (h : StrictI xs) (p : Int → Bool) : StrictI (xs.filter p) := List.Pairwise.sublist List.filter_sublist h
theorem nth_in {xs : List Int} {k : Nat} (h : k < xs.length) : nth xs k ∈ xs := by
  have : nth xs k = xs[k] := by simp [nth, h]
  rw [this]; exact List.getElem_mem h
theorem sorted_le {xs : List Int} (h : SortedI xs) {i j : Nat} (hij : i ≤ j) (hj : j < xs.length) : nth xs i ≤ nth xs j := by
  rcases Nat.lt_or_ge i j with q | q
  · have := (List.pairwise_iff_getElem.1 h) i j (by omega) hj q
    simpa [nth, hj, show i < xs.length by omega] using this
  · rw [show i = j by omega]; exact Int.le_refl _
/-- each element that differs from the one ahead of it, in order -/
def diffTo (l : List Int) : Nat → List Int
  | 0 => []
  | k + 1 => if k = 0 ∨ nth l (k - 1) ≠ nth l k then diffTo l k ++ [nth l k] else diffTo l k
def diffL (xs : List Int) : List Int := diffTo (sortL xs) (sortL xs).length
theorem diffTo_len (l : List Int) : ∀ k, (diffTo l k).length ≤ k
  | 0 => by simp [diffTo]
  | k + 1 => by
    have := diffTo_len l k
    simp only [diffTo]
    split
    · simp; omega
    · omega
theorem diffTo_yes {l : List Int} {k : Nat} (h : k = 0 ∨ nth l (k - 1) ≠ nth l k) : diffTo l (k + 1) = diffTo l k ++ [nth l k] := by simp only [diffTo]; rw [if_pos h]
theorem diffTo_no {l : List Int} {k : Nat} (h : ¬ (k = 0 ∨ nth l (k - 1) ≠ nth l k)) : diffTo l (k + 1) = diffTo l k := by simp only [diffTo]; rw [if_neg h]
theorem diffTo_props {l : List Int} (hs : SortedI l) : ∀ k, k ≤ l.length → StrictI (diffTo l k) ∧ (∀ x, x ∈ diffTo l k ↔ ∃ i, i < k ∧ nth l i = x) := by
  intro k
  induction k with
  | zero => intro _; exact ⟨List.Pairwise.nil, fun x => by simp [diffTo]⟩
  | succ k ih =>
    intro hk
    obtain ⟨h1, h2⟩ := ih (by omega)
    by_cases c : k = 0 ∨ nth l (k - 1) ≠ nth l k
    · rw [diffTo_yes c]
      refine ⟨List.pairwise_append.2 ⟨h1, List.pairwise_singleton _ _, fun a ha b hb => ?_⟩, fun x => ?_⟩
      · obtain rfl := List.mem_singleton.1 hb
        obtain ⟨i, hi, rfl⟩ := (h2 a).1 ha
        have a1 := sorted_le hs (i := i) (j := k - 1) (by omega) (by omega)
        have a2 := sorted_le hs (i := k - 1) (j := k) (by omega) (by omega)
        rcases c with c | c
        · omega
        · omega
      · rw [List.mem_append, h2, List.mem_singleton]
        refine ⟨?_, ?_⟩
        · rintro (⟨i, hi, e⟩ | e)
          · exact ⟨i, by omega, e⟩
          · exact ⟨k, by omega, e.symm⟩
        · rintro ⟨i, hi, e⟩
          rcases Nat.lt_or_ge i k with q | q
          · exact .inl ⟨i, q, e⟩
          · obtain rfl : i = k := by omega
            exact .inr e.symm
    · rw [diffTo_no c]
      refine ⟨h1, fun x => ?_⟩
      rw [h2]
      refine ⟨fun ⟨i, hi, e⟩ => ⟨i, by omega, e⟩, ?_⟩
      rintro ⟨i, hi, e⟩
      rcases Nat.lt_or_ge i k with q | q
      · exact ⟨i, q, e⟩
      · obtain rfl : i = k := by omega
        have hk0 : i ≠ 0 := fun q => c (.inl q)
        exact ⟨i - 1, by omega, by have : nth l (i - 1) = nth l i := Classical.not_not.1 (fun q => c (.inr q)); rw [this]; exact e⟩
theorem diffL_strict (xs : List Int) : StrictI (diffL xs) := (diffTo_props (sortL_sorted xs) _ (Nat.le_refl _)).1
theorem diffL_mem {xs : List Int} {x : Int} : x ∈ diffL xs ↔ x ∈ xs := by
  rw [diffL, (diffTo_props (sortL_sorted xs) _ (Nat.le_refl _)).2, ← sortL_mem (xs := xs)]
  refine ⟨fun ⟨i, hi, e⟩ => e ▸ nth_in hi, fun h => ?_⟩
  obtain ⟨i, hi, e⟩ := List.getElem_of_mem h
  exact ⟨i, hi, by simp [nth, hi, e]⟩
theorem diffL_len (xs : List Int) : (diffL xs).length ≤ xs.length := by
  have := diffTo_len (sortL xs) (sortL xs).length
  rw [sortL_len] at this
  unfold diffL
  rw [sortL_len]; exact this
/-- the row while the element of place i moves down: its place is k -/
def shiftRow (R : List Int) (i k : Nat) (g : Int) : List Int := R.take k ++ g :: ((R.take i).drop k ++ R.drop (i + 1))
theorem shiftRow_len {R : List Int} {i k : Nat} (g : Int) (hk : k ≤ i) (hi : i < R.length) : (shiftRow R i k g).length = R.length := by
  simp [shiftRow]; omega
theorem shiftRow_get {R : List Int} {i k : Nat} (g : Int) (hk : k ≤ i) (hi : i < R.length) (j : Nat) : (shiftRow R i k g)[j]? = if j < k then R[j]? else if j = k then some g else if j ≤ i then R[j - 1]? else R[j]? := by
  unfold shiftRow
  rw [List.getElem?_append, List.length_take, Nat.min_eq_left (by omega)]
  split
  · rw [List.getElem?_take_of_lt (by assumption)]
  · rename_i q
    split
    · rename_i e; subst e; simp
    · obtain ⟨d, hd⟩ : ∃ d, j - k = d + 1 := ⟨j - k - 1, by omega⟩
      rw [hd, List.getElem?_cons_succ, List.getElem?_append, List.length_drop, List.length_take, Nat.min_eq_left (by omega)]
      split
      · split
        · rw [List.getElem?_drop, List.getElem?_take_of_lt (by omega)]; congr 1; omega
        · omega
      · split
        · omega
        · rw [List.getElem?_drop]; congr 1; omega
theorem shiftRow_start {R : List Int} {i : Nat} (hi : i < R.length) : shiftRow R i i (nth R i) = R := by
  apply List.ext_getElem?
  intro j
  rw [shiftRow_get _ (Nat.le_refl _) hi]
  split
  · rfl
  · split
    · rename_i e; subst e; simp [nth, hi]
    · split
      · omega
      · rfl
theorem shiftRow_nth {R : List Int} {i k : Nat} (g : Int) (hk : k ≤ i) (hi : i < R.length) {j : Nat} (hj : j < k) : nth (shiftRow R i k g) j = nth R j := by
  simp only [nth, List.getD_eq_getElem?_getD]
  rw [shiftRow_get g hk hi, if_pos hj]
theorem shiftRow_set {R : List Int} {i k : Nat} (g x : Int) (hk : k ≤ i) (hi : i < R.length) : (shiftRow R i k g).set k x = shiftRow R i k x := by
  have hl : (R.take k).length = k := by simp; omega
  unfold shiftRow
  rw [List.set_append, if_neg (by omega), hl, Nat.sub_self, List.set_cons_zero]
theorem shiftRow_step {R : List Int} {i k : Nat} (g : Int) (h0 : 0 < k) (hk : k ≤ i) (hi : i < R.length) : (shiftRow R i k g).set k (nth R (k - 1)) = shiftRow R i (k - 1) (nth R (k - 1)) := by
  rw [shiftRow_set _ _ hk hi]
  apply List.ext_getElem?
  intro j
  rw [shiftRow_get _ hk hi, shiftRow_get _ (by omega) hi]
  have e : R[k - 1]? = some (nth R (k - 1)) := by simp [nth, show k - 1 < R.length by omega]
  rcases Nat.lt_trichotomy j k with q | q | q
  · rcases Nat.lt_or_ge j (k - 1) with q2 | q2
    · simp [q, q2]
    · obtain rfl : j = k - 1 := by omega
      simp [q, e]
  · subst q
    simp [show ¬ j < j - 1 by omega, show j ≠ j - 1 by omega, hk, e]
  · simp [show ¬ j < k by omega, show j ≠ k by omega, show ¬ j < k - 1 by omega, show j ≠ k - 1 by omega]
theorem shiftRow_perm {R : List Int} {i k : Nat} (hk : k ≤ i) (hi : i < R.length) : (shiftRow R i k (nth R i)).Perm R := by
  have e : R = R.take k ++ ((R.take i).drop k ++ nth R i :: R.drop (i + 1)) := by
    have e1 : R = R.take i ++ R.drop i := (List.take_append_drop i R).symm
    have e2 : R.drop i = nth R i :: R.drop (i + 1) := by rw [List.drop_eq_getElem_cons hi]; simp [nth, hi]
    have e3 : R.take i = R.take k ++ (R.take i).drop k := by
      have := (List.take_append_drop k (R.take i)).symm
      rwa [List.take_take, Nat.min_eq_left hk] at this
    rw [← e2, ← List.append_assoc, ← e3]; exact e1
  have e' : (R.take k ++ ((R.take i).drop k ++ nth R i :: R.drop (i + 1))).Perm (shiftRow R i k (nth R i)) := by
    unfold shiftRow
    exact List.Perm.append_left _ List.perm_middle
  rw [← e] at e'
  exact e'.symm
theorem shiftRow_sorted {R : List Int} {i k : Nat} (hk : k ≤ i) (hi : i < R.length) (hs : SortedI (R.take i)) (hlow : k = 0 ∨ nth R (k - 1) ≤ nth R i) (hhigh : ∀ j, k ≤ j → j < i → nth R i < nth R j) :
    SortedI ((shiftRow R i k (nth R i)).take (i + 1)) := by
  have e : (shiftRow R i k (nth R i)).take (i + 1) = R.take k ++ nth R i :: (R.take i).drop k := by
    unfold shiftRow
    rw [List.take_append, List.take_take, List.length_take, Nat.min_eq_left (show k ≤ R.length by omega), Nat.min_eq_right (by omega : k ≤ i + 1), show i + 1 - k = (i - k) + 1 by omega, List.take_succ_cons]
    rw [List.take_append, List.length_drop, List.length_take, Nat.min_eq_left (by omega), Nat.sub_self, List.take_zero, List.append_nil, List.take_of_length_le (l := (R.take i).drop k) (by simp; omega)]
  rw [e]
  have hget : ∀ j, j < i → (R.take i)[j]? = some (nth R j) := fun j hj => by rw [List.getElem?_take_of_lt hj]; simp [nth, show j < R.length by omega]
  have hle : ∀ a b, a ≤ b → b < i → nth R a ≤ nth R b := fun a b hab hb => by
    have := sorted_le hs (i := a) (j := b) hab (by simp; omega)
    simpa [nth, List.getElem?_take, hb, show a < i by omega] using this
  have m1 : ∀ a, a ∈ R.take k → ∃ j, j < k ∧ a = nth R j := fun a ha => by
    obtain ⟨j, hj, e⟩ := List.getElem_of_mem ha
    simp at hj e
    exact ⟨j, by omega, by simp [nth, ← e, show j < R.length by omega]⟩
  have m2 : ∀ a, a ∈ (R.take i).drop k → ∃ j, k ≤ j ∧ j < i ∧ a = nth R j := fun a ha => by
    obtain ⟨j, hj, e⟩ := List.getElem_of_mem ha
    simp at hj e
    exact ⟨k + j, by omega, by omega, by simp [nth, ← e, show k + j < R.length by omega]⟩
  refine List.pairwise_append.2 ⟨?_, List.pairwise_cons.2 ⟨fun a ha => ?_, ?_⟩, fun a ha b hb => ?_⟩
  · have := hs
    refine List.Pairwise.sublist ?_ this
    have e3 := (List.take_append_drop k (R.take i)).symm
    rw [List.take_take, Nat.min_eq_left hk] at e3
    rw [e3]
    exact List.sublist_append_left _ _
  · obtain ⟨j, h1, h2, rfl⟩ := m2 a ha
    exact Int.le_of_lt (hhigh j h1 h2)
  · exact List.Pairwise.sublist (List.drop_sublist _ _) hs
  · obtain ⟨j, h1, rfl⟩ := m1 a ha
    have hji : nth R j ≤ nth R i := by
      rcases hlow with q | q
      · omega
      · have := hle j (k - 1) (by omega) (by omega); omega
    rcases List.mem_cons.1 hb with rfl | hb
    · exact hji
    · obtain ⟨j2, h3, h4, rfl⟩ := m2 b hb
      exact hle j j2 (by omega) h4
end Go.Proofs.Ytlipfkalehikkaa

/- The affected copies that were not told: the plain law. -/
namespace Go.Proofs.Ytlipfkalehikkaa
open Go.ChangeShapes Go.WideShapes Go.ChangeAt Go.RowKit

def newOnes (ts xs : List Int) : List Int := (diffL xs).filter (fun x => !decide (x ∈ ts))
theorem newOnes_strict (ts xs : List Int) : StrictI (newOnes ts xs) := strict_filter (diffL_strict xs) _
theorem newOnes_mem {ts xs : List Int} {x : Int} : x ∈ newOnes ts xs ↔ x ∈ xs ∧ ¬ x ∈ ts := by
  simp [newOnes, List.mem_filter, diffL_mem]
theorem newOnes_len (ts xs : List Int) : (newOnes ts xs).length ≤ xs.length := Nat.le_trans (List.length_filter_le _ _) (diffL_len xs)
/-- the program's loop -/
def fltTo (D ts : List Int) : Nat → List Int
  | 0 => []
  | k + 1 => if nth D k ∈ ts then fltTo D ts k else fltTo D ts k ++ [nth D k]
theorem fltTo_yes {D ts : List Int} {k : Nat} (h : nth D k ∈ ts) : fltTo D ts (k + 1) = fltTo D ts k := by simp only [fltTo]; rw [if_pos h]
theorem fltTo_no {D ts : List Int} {k : Nat} (h : ¬ nth D k ∈ ts) : fltTo D ts (k + 1) = fltTo D ts k ++ [nth D k] := by simp only [fltTo]; rw [if_neg h]
theorem fltTo_len (D ts : List Int) : ∀ k, (fltTo D ts k).length ≤ k
  | 0 => by simp [fltTo]
  | k + 1 => by
    have := fltTo_len D ts k
    simp only [fltTo]
    split
    · omega
    · simp; omega
theorem fltTo_eq (D ts : List Int) : ∀ k, k ≤ D.length → fltTo D ts k = (D.take k).filter (fun x => !decide (x ∈ ts))
  | 0, _ => by simp [fltTo]
  | k + 1, h => by
    have e : D.take (k + 1) = D.take k ++ [nth D k] := by
      rw [List.take_add_one]
      simp [nth, show k < D.length by omega]
    rw [e, List.filter_append, ← fltTo_eq D ts k (by omega)]
    by_cases c : nth D k ∈ ts
    · rw [fltTo_yes c]; simp [c]
    · rw [fltTo_no c]; simp [c]
theorem fltTo_all (ts xs : List Int) : fltTo (diffL xs) ts (diffL xs).length = newOnes ts xs := by
  rw [fltTo_eq _ _ _ (Nat.le_refl _), List.take_length]; rfl
/-- the reference's loop -/
def freshTo (ts xs : List Int) : Nat → List Int
  | 0 => []
  | k + 1 => if nth xs k ∈ ts ∨ nth xs k ∈ freshTo ts xs k then freshTo ts xs k else freshTo ts xs k ++ [nth xs k]
theorem freshTo_yes {ts xs : List Int} {k : Nat} (h : nth xs k ∈ ts ∨ nth xs k ∈ freshTo ts xs k) : freshTo ts xs (k + 1) = freshTo ts xs k := by simp only [freshTo]; rw [if_pos h]
theorem freshTo_no {ts xs : List Int} {k : Nat} (h1 : ¬ nth xs k ∈ ts) (h2 : ¬ nth xs k ∈ freshTo ts xs k) : freshTo ts xs (k + 1) = freshTo ts xs k ++ [nth xs k] := by simp only [freshTo]; rw [if_neg (by rintro (q | q); exact h1 q; exact h2 q)]
theorem freshTo_len (ts xs : List Int) : ∀ k, (freshTo ts xs k).length ≤ k
  | 0 => by simp [freshTo]
  | k + 1 => by
    have := freshTo_len ts xs k
    simp only [freshTo]
    split
    · omega
    · simp; omega
theorem freshTo_props (ts xs : List Int) : ∀ k, (freshTo ts xs k).Nodup ∧ ∀ x, x ∈ freshTo ts xs k ↔ (∃ i, i < k ∧ nth xs i = x) ∧ ¬ x ∈ ts := by
  intro k
  induction k with
  | zero => exact ⟨List.nodup_nil, fun x => by simp [freshTo]⟩
  | succ k ih =>
    obtain ⟨h1, h2⟩ := ih
    by_cases c : nth xs k ∈ ts ∨ nth xs k ∈ freshTo ts xs k
    · rw [freshTo_yes c]
      refine ⟨h1, fun x => ?_⟩
      rw [h2]
      refine ⟨fun ⟨⟨i, hi, e⟩, q⟩ => ⟨⟨i, by omega, e⟩, q⟩, ?_⟩
      rintro ⟨⟨i, hi, e⟩, q⟩
      rcases Nat.lt_or_ge i k with z | z
      · exact ⟨⟨i, z, e⟩, q⟩
      · obtain rfl : i = k := by omega
        subst e
        rcases c with c | c
        · exact absurd c q
        · exact (h2 _).1 c
    · have c1 : ¬ nth xs k ∈ ts := fun q => c (.inl q)
      have c2 : ¬ nth xs k ∈ freshTo ts xs k := fun q => c (.inr q)
      rw [freshTo_no c1 c2]
      refine ⟨List.nodup_append.2 ⟨h1, by simp, fun a ha b hb e => ?_⟩, fun x => ?_⟩
      · obtain rfl := List.mem_singleton.1 hb
        exact c2 (e ▸ ha)
      · rw [List.mem_append, h2, List.mem_singleton]
        refine ⟨?_, ?_⟩
        · rintro (⟨⟨i, hi, e⟩, q⟩ | e)
          · exact ⟨⟨i, by omega, e⟩, q⟩
          · exact ⟨⟨k, by omega, e.symm⟩, by rw [e]; exact c1⟩
        · rintro ⟨⟨i, hi, e⟩, q⟩
          rcases Nat.lt_or_ge i k with z | z
          · exact .inl ⟨⟨i, z, e⟩, q⟩
          · obtain rfl : i = k := by omega
            exact .inr e.symm
theorem strict_of {xs : List Int} (h : SortedI xs) (hn : xs.Nodup) : StrictI xs := by
  have := List.Pairwise.and h hn
  exact this.imp (fun q => by have := q.1; have := q.2; omega)
theorem freshTo_all (ts xs : List Int) : sortL (freshTo ts xs xs.length) = newOnes ts xs := by
  obtain ⟨h1, h2⟩ := freshTo_props ts xs xs.length
  refine strict_ext (strict_of (sortL_sorted _) ((sortL_perm _).nodup_iff.2 h1)) (newOnes_strict _ _) fun x => ?_
  rw [sortL_mem, h2, newOnes_mem]
  refine and_congr_left fun _ => ⟨fun ⟨i, hi, e⟩ => e ▸ nth_in hi, fun h => ?_⟩
  obtain ⟨i, hi, e⟩ := List.getElem_of_mem h
  exact ⟨i, hi, by simp [nth, hi, e]⟩
end Go.Proofs.Ytlipfkalehikkaa

/- The letters to owners: the plain law. -/
namespace Go.Proofs.Ytlipfkalehikkaa
open Go.ChangeShapes Go.WideShapes Go.ChangeAt Go.RowKit

def pickP (os : List Int) (o : Int) (k : Int) : Bool := nth os k.toNat == o
def pickO (D os : List Int) (o : Int) : List Int := D.filter (pickP os o)
def pickTo (D os : List Int) (o : Int) (k : Nat) : List Int := (D.take k).filter (pickP os o)
theorem pickTo_yes {D os : List Int} {o : Int} {k : Nat} (hk : k < D.length) (h : (nth os (nth D k).toNat == o) = true) : pickTo D os o (k + 1) = pickTo D os o k ++ [nth D k] := by
  have e : D.take (k + 1) = D.take k ++ [nth D k] := by rw [List.take_add_one]; simp [nth, hk]
  have h' : pickP os o (nth D k) = true := h
  simp [pickTo, e, List.filter_append, h']
theorem pickTo_no {D os : List Int} {o : Int} {k : Nat} (hk : k < D.length) (h : (nth os (nth D k).toNat == o) = false) : pickTo D os o (k + 1) = pickTo D os o k := by
  have e : D.take (k + 1) = D.take k ++ [nth D k] := by rw [List.take_add_one]; simp [nth, hk]
  have h' : pickP os o (nth D k) = false := h
  simp [pickTo, e, List.filter_append, h']
theorem pickTo_len (D os : List Int) (o : Int) (k : Nat) : (pickTo D os o k).length ≤ k := Nat.le_trans (List.length_filter_le _ _) (by simp; omega)
theorem pickTo_all (D os : List Int) (o : Int) : pickTo D os o D.length = pickO D os o := by simp [pickTo, pickO]
/-- the reference goes over the copies -/
def natsI (n : Nat) : List Int := (List.range n).map (fun k : Nat => (k : Int))
theorem natsI_succ (n : Nat) : natsI (n + 1) = natsI n ++ [(n : Int)] := by simp [natsI, List.range_succ]
theorem natsI_mem {n : Nat} {x : Int} : x ∈ natsI n ↔ 0 ≤ x ∧ x < n := by
  simp only [natsI, List.mem_map, List.mem_range]
  exact ⟨fun ⟨k, hk, e⟩ => by omega, fun h => ⟨x.toNat, by omega, by omega⟩⟩
theorem natsI_strict (n : Nat) : StrictI (natsI n) := by
  unfold natsI StrictI
  rw [List.pairwise_map]
  exact List.pairwise_lt_range.imp (fun h => by omega)
def pickQ (os aff : List Int) (o : Int) (k : Int) : Bool := nth os k.toNat == o && decide (k ∈ aff)
def pickN (os aff : List Int) (o : Int) (n : Nat) : List Int := (natsI n).filter (pickQ os aff o)
theorem pickN_yes {os aff : List Int} {o : Int} {k : Nat} (h : (nth os k == o) = true) (h2 : (k : Int) ∈ aff) : pickN os aff o (k + 1) = pickN os aff o k ++ [(k : Int)] := by
  have h' : pickQ os aff o (k : Int) = true := by simp only [pickQ, Int.toNat_natCast, h, h2]; simp
  simp [pickN, natsI_succ, List.filter_append, h']
theorem pickN_no {os aff : List Int} {o : Int} {k : Nat} (h : (nth os k == o) = false) : pickN os aff o (k + 1) = pickN os aff o k := by
  have h' : pickQ os aff o (k : Int) = false := by simp only [pickQ, Int.toNat_natCast, h]; simp
  simp [pickN, natsI_succ, List.filter_append, h']
theorem pickN_no2 {os aff : List Int} {o : Int} {k : Nat} (h2 : ¬ (k : Int) ∈ aff) : pickN os aff o (k + 1) = pickN os aff o k := by
  have h' : pickQ os aff o (k : Int) = false := by simp [pickQ, h2]
  simp [pickN, natsI_succ, List.filter_append, h']
theorem pickN_len (os aff : List Int) (o : Int) (k : Nat) : (pickN os aff o k).length ≤ k := by
  have := List.length_filter_le (pickQ os aff o) (natsI k)
  simp [natsI] at this
  exact this
theorem pick_eq {n : Nat} {os aff : List Int} {o : Int} (h : ∀ k, k < aff.length → 0 ≤ nth aff k ∧ nth aff k < n) : pickN os aff o n = pickO (diffL aff) os o := by
  refine strict_ext (strict_filter (natsI_strict n) _) (strict_filter (diffL_strict aff) _) fun x => ?_
  simp only [pickN, pickO, List.mem_filter, natsI_mem, diffL_mem, pickQ, pickP, Bool.and_eq_true, decide_eq_true_eq]
  refine ⟨fun q => ⟨q.2.2, q.2.1⟩, fun q => ⟨?_, q.2, q.1⟩⟩
  obtain ⟨i, hi, e⟩ := List.getElem_of_mem q.1
  have := h i hi
  rw [show nth aff i = x by simp [nth, hi, e]] at this
  exact this
def postTo (D os : List Int) : Nat → List (Int × List Int)
  | 0 => []
  | o + 1 => if pickO D os o = [] then postTo D os o else postTo D os o ++ [((o : Int), pickO D os o)]
def inChain (n : Nat) (aff : List Int) (k : Nat) : Bool := inB (nth aff k) 0 ((n : Int) - 1)
def lettersFor (n : Nat) (xs os aff : List Int) : List (Int × List Int) :=
  if ownersOk n xs os = true ∧ allTo (inChain n aff) aff.length = true then postTo (diffL aff) os 21 else []
theorem letters_f {n : Nat} {xs os aff : List Int} (h : ownersOk n xs os = false) : lettersFor n xs os aff = [] := if_neg (by simp [h])
theorem letters_g {n : Nat} {xs os aff : List Int} {k : Nat} (hk : k < aff.length) (h : inChain n aff k = false) : lettersFor n xs os aff = [] := if_neg fun q => by
  have := allTo_at q.2 hk
  rw [h] at this
  cases this
theorem letters_t {n : Nat} {xs os aff : List Int} (h : ownersOk n xs os = true) (h2 : allTo (inChain n aff) aff.length = true) : lettersFor n xs os aff = postTo (diffL aff) os 21 := if_pos ⟨h, h2⟩
theorem postTo_len (D os : List Int) : ∀ o, (postTo D os o).length ≤ o
  | 0 => by simp [postTo]
  | o + 1 => by
    have := postTo_len D os o
    simp only [postTo]
    split
    · omega
    · simp; omega
theorem postTo_no {D os : List Int} {o : Nat} (h : (pickO D os o).length = 0) : postTo D os (o + 1) = postTo D os o := by
  simp only [postTo]; rw [if_pos (List.eq_nil_of_length_eq_zero h)]
theorem postTo_yes {D os : List Int} {o : Nat} (h : 0 < (pickO D os o).length) : postTo D os (o + 1) = postTo D os o ++ [((o : Int), pickO D os o)] := by
  simp only [postTo]; rw [if_neg (fun e => by rw [e] at h; simp at h)]
theorem in_chain {n : Nat} {aff : List Int} (h : allTo (inChain n aff) aff.length = true) : ∀ k, k < aff.length → 0 ≤ nth aff k ∧ nth aff k < n := fun k hk => by
  have := inB_le (allTo_at h hk)
  omega
end Go.Proofs.Ytlipfkalehikkaa

/- The walks of WeightIn, in the program and in the reference. -/
namespace Go.Proofs.Ytlipfkalehikkaa
open Go.ChangeShapes Go.WideShapes Go.ChangeAt Go.RowKit

def wAt (xs L : List Int) (i : Nat) : Int := cD xs (nth L i).toNat
def weightIn (n : Nat) (xs : List Int) (k : Int) : Int := sumTo (wAt xs (aboveL n xs k)) (aboveL n xs k).length
theorem w_bd {xs L : List Int} {m : Nat} (h : ∀ i, i < m → -1000000 ≤ wAt xs L i ∧ wAt xs L i ≤ 1000000) : ∀ j, j ≤ m → -1000000 * (j : Int) ≤ sumTo (wAt xs L) j ∧ sumTo (wAt xs L) j ≤ 1000000 * (j : Int)
  | 0, _ => by simp [sumTo]
  | j + 1, hj => by
    have a := w_bd h j (by omega)
    have b := h j (by omega)
    simp only [sumTo]
    omega
theorem above_at {n : Nat} {xs : List Int} {k : Int} {i : Nat} (h : i < (aboveL n xs k).length) : chainOk n xs = true ∧ 0 ≤ nth (aboveL n xs k) i ∧ nth (aboveL n xs k) i < n := aboveL_mem (nth_mem _ _ h)
theorem weightIn_bd (n : Nat) (xs : List Int) (k : Int) : -12000000 ≤ weightIn n xs k ∧ weightIn n xs k ≤ 12000000 := by
  have hl := aboveL_len n xs k
  have := w_bd (xs := xs) (L := aboveL n xs k) (m := (aboveL n xs k).length) (fun i hi => by
    obtain ⟨h1, h2, h3⟩ := above_at hi
    have := chainOk_d h1 (k := (nth (aboveL n xs k) i).toNat) (by omega)
    exact ⟨this.1, this.2.1⟩) _ (Nat.le_refl _)
  unfold weightIn
  omega

set_option maxRecDepth 100000 in
theorem implWeightIn (v : Value) (n : Nat) (xs : List Int) (k : Int) (w : World) (h : Recs 3 w v n xs) : Calls Try.prog 13 #[v, .int .i64 k] w fun e w' => e = .returned (.int .i64 (weightIn n xs k)) ∧ Below w.heap.size w w' := by
  have hlen := aboveL_len n xs k
  have HM := Lib.hid (fun (i : Nat) (hi : i < (aboveL n xs k).length) => above_at hi)
  have HX := Lib.hid h.eq
  obtain ⟨adv, capv, rfl⟩ : ∃ ad cap, v = .slice ad n cap := by obtain ⟨_, _, ad, cap, hh, _⟩ := h; exact ⟨ad, cap, hh⟩
  have HR := Lib.hid h
  have HW : Hid (weightIn n xs k = sumTo (wAt xs (aboveL n xs k)) (aboveL n xs k).length) := rfl
  go_enter Try.func13, Try.ntmps13
  go_wp2_with (first | (go_at_call 40; refine (implAboveIn _ n xs k _ HR.out).mono ?_; rintro e w1 ⟨u, rfl, hown, -, hb1⟩; obtain ⟨adu, capu, rfl⟩ := own_form hown; have HI := Lib.hid (own_ints hown (by omega)); have D := Lib.hid hb1; clear hown hb1))
  generalize aboveL n xs k = L at *
  clear h
  go_loopw [5, 12] (fun s i wr => ∃ j : Nat, j ≤ L.length ∧ i = .int .i64 j ∧ s = .int .i64 (sumTo (wAt xs L) j) ∧ Hid (Below w1.heap.size w1 wr)) (fun _ i _ => L.length - (intOf i).toNat)
  case atStart => exact ⟨0, Nat.zero_le _, rfl, rfl, bref _⟩
  case round =>
    obtain ⟨j, hj, rfl, rfl, HB⟩ := hrel
    by_cases hlt : j < L.length
    · obtain ⟨h1, h2, h3⟩ := HM.out j hlt
      obtain ⟨γ, hγ⟩ := Int.eq_ofNat_of_zero_le h2
      rw [hγ] at h3
      obtain ⟨_, _, _, hv, hc⟩ := HI.out.below HB.out
      cases hv
      obtain ⟨b, o, rfl, e0⟩ := hc j hlt
      rw [hγ] at e0
      obtain ⟨_, _, _, _, hv2, hc2⟩ := HR.out.below (bnext D.out HB.out)
      cases hv2
      obtain ⟨b2, o2, rfl, _, f0, _, _⟩ := at3 HX.out hc2 γ (by omega)
      have hd := chainOk_d h1 (k := γ) (by omega)
      have hs := w_bd (xs := xs) (L := L) (m := L.length) (fun i hi => by
        obtain ⟨h1, h2, h3⟩ := HM.out i hi
        have := chainOk_d h1 (k := (nth L i).toNat) (by omega)
        exact ⟨this.1, this.2.1⟩) j hj
      have hgn : γ < n := by omega
      have HS : Hid (sumTo (wAt xs L) (j + 1) = sumTo (wAt xs L) j + cD xs γ) := Lib.hid (by simp only [sumTo, wAt]; rw [hγ]; rfl)
      obtain ⟨d0, d1, _, _⟩ := hd
      obtain ⟨s0, s1⟩ := hs
      clear hc hc2 hγ h2
      generalize cD xs γ = d at *
      generalize sumTo (wAt xs L) j = s at *
      have hsl : -12000000 ≤ s ∧ s ≤ 12000000 := by omega
      go_wp2
      go_roundw
      case rel => exact ⟨j + 1, by omega, by go_num, by rw [HS.out], HB.out⟩
      case measure => simp [intOf]; omega
    · obtain rfl : j = L.length := by omega
      go_wp2
      go_ret
      exact ⟨by rw [HW.out]; rfl, bnext D.out HB.out⟩

set_option maxRecDepth 100000 in
theorem specWeightIn (v : Value) (n : Nat) (xs : List Int) (k : Int) (w : World) (h : Recs 3 w v n xs) : Calls Try.prog 32 #[v, .int .i64 k] w fun e w' => e = .returned (.int .i64 (weightIn n xs k)) ∧ Below w.heap.size w w' := by
  have hlen := aboveL_len n xs k
  have HM := Lib.hid (fun (i : Nat) (hi : i < (aboveL n xs k).length) => above_at hi)
  have HX := Lib.hid h.eq
  obtain ⟨adv, capv, rfl⟩ : ∃ ad cap, v = .slice ad n cap := by obtain ⟨_, _, ad, cap, hh, _⟩ := h; exact ⟨ad, cap, hh⟩
  have HR := Lib.hid h
  have HW : Hid (weightIn n xs k = sumTo (wAt xs (aboveL n xs k)) (aboveL n xs k).length) := rfl
  go_enter Try.func32, Try.ntmps32
  go_wp2_with (first | (go_at_call 60; refine (specAboveIn _ n xs k _ HR.out).mono ?_; rintro e w1 ⟨u, rfl, hown, hb1⟩; obtain ⟨adu, capu, rfl⟩ := own_form hown; have HI := Lib.hid (own_ints hown (by omega)); have D := Lib.hid hb1; clear hown hb1))
  generalize aboveL n xs k = L at *
  clear h
  go_loopw [5, 7] (fun s i wr => ∃ j : Nat, j ≤ L.length ∧ i = .int .i64 j ∧ s = .int .i64 (sumTo (wAt xs L) j) ∧ Hid (Below w1.heap.size w1 wr)) (fun _ i _ => L.length - (intOf i).toNat)
  case atStart => exact ⟨0, Nat.zero_le _, rfl, rfl, bref _⟩
  case round =>
    obtain ⟨j, hj, rfl, rfl, HB⟩ := hrel
    by_cases hlt : j < L.length
    · obtain ⟨h1, h2, h3⟩ := HM.out j hlt
      obtain ⟨γ, hγ⟩ := Int.eq_ofNat_of_zero_le h2
      rw [hγ] at h3
      obtain ⟨_, _, _, hv, hc⟩ := HI.out.below HB.out
      cases hv
      obtain ⟨b, o, rfl, e0⟩ := hc j hlt
      rw [hγ] at e0
      obtain ⟨_, _, _, _, hv2, hc2⟩ := HR.out.below (bnext D.out HB.out)
      cases hv2
      obtain ⟨b2, o2, rfl, _, f0, _, _⟩ := at3 HX.out hc2 γ (by omega)
      have hd := chainOk_d h1 (k := γ) (by omega)
      have hs := w_bd (xs := xs) (L := L) (m := L.length) (fun i hi => by
        obtain ⟨h1, h2, h3⟩ := HM.out i hi
        have := chainOk_d h1 (k := (nth L i).toNat) (by omega)
        exact ⟨this.1, this.2.1⟩) j hj
      have hgn : γ < n := by omega
      have HS : Hid (sumTo (wAt xs L) (j + 1) = sumTo (wAt xs L) j + cD xs γ) := Lib.hid (by simp only [sumTo, wAt]; rw [hγ]; rfl)
      obtain ⟨d0, d1, _, _⟩ := hd
      obtain ⟨s0, s1⟩ := hs
      clear hc hc2 hγ h2
      generalize cD xs γ = d at *
      generalize sumTo (wAt xs L) j = s at *
      have hsl : -12000000 ≤ s ∧ s ≤ 12000000 := by omega
      go_wp2
      go_roundw
      case rel => exact ⟨j + 1, by omega, by go_num, by rw [HS.out], HB.out⟩
      case measure => simp [intOf]; omega
    · obtain rfl : j = L.length := by omega
      go_wp2
      go_ret
      exact ⟨by rw [HW.out]; rfl, bnext D.out HB.out⟩
end Go.Proofs.Ytlipfkalehikkaa

/- The walks of ErrorIn, in the program and in the reference. -/
namespace Go.Proofs.Ytlipfkalehikkaa
open Go.ChangeShapes Go.WideShapes Go.ChangeAt Go.RowKit

def eAt (xs L : List Int) (i : Nat) : Int := cE xs (nth L i).toNat
def errorIn (n : Nat) (xs : List Int) (k : Int) : Int := if aboveL n xs k = [] then -1 else sumTo (eAt xs (aboveL n xs k)) (aboveL n xs k).length
theorem errorIn_no {n : Nat} {xs : List Int} {k : Int} (h : aboveL n xs k = []) : errorIn n xs k = -1 := if_pos h
theorem errorIn_t {n : Nat} {xs : List Int} {k : Int} (h : ¬ aboveL n xs k = []) : errorIn n xs k = sumTo (eAt xs (aboveL n xs k)) (aboveL n xs k).length := if_neg h
theorem e_bd {xs L : List Int} {m : Nat} (h : ∀ i, i < m → 0 ≤ eAt xs L i ∧ eAt xs L i ≤ 1000) : ∀ j, j ≤ m → 0 ≤ sumTo (eAt xs L) j ∧ sumTo (eAt xs L) j ≤ 1000 * (j : Int)
  | 0, _ => by simp [sumTo]
  | j + 1, hj => by
    have a := e_bd h j (by omega)
    have b := h j (by omega)
    simp only [sumTo]
    omega
theorem errorIn_bd (n : Nat) (xs : List Int) (k : Int) : -1 ≤ errorIn n xs k ∧ errorIn n xs k ≤ 12000 := by
  have hl := aboveL_len n xs k
  have := e_bd (xs := xs) (L := aboveL n xs k) (m := (aboveL n xs k).length) (fun i hi => by
    obtain ⟨h1, h2, h3⟩ := above_at hi
    have := chainOk_d h1 (k := (nth (aboveL n xs k) i).toNat) (by omega)
    exact ⟨this.2.2.1, this.2.2.2⟩) _ (Nat.le_refl _)
  unfold errorIn
  split <;> omega

set_option maxRecDepth 100000 in
theorem implErrorIn (v : Value) (n : Nat) (xs : List Int) (k : Int) (w : World) (h : Recs 3 w v n xs) : Calls Try.prog 15 #[v, .int .i64 k] w fun e w' => e = .returned (.int .i64 (errorIn n xs k)) ∧ Below w.heap.size w w' := by
  have hlen := aboveL_len n xs k
  have HM := Lib.hid (fun (i : Nat) (hi : i < (aboveL n xs k).length) => above_at hi)
  have HX := Lib.hid h.eq
  obtain ⟨adv, capv, rfl⟩ : ∃ ad cap, v = .slice ad n cap := by obtain ⟨_, _, ad, cap, hh, _⟩ := h; exact ⟨ad, cap, hh⟩
  have HR := Lib.hid h
  clear h
  cases hok : (chainOk n xs && inB k 0 ((n : Int) - 1)) with
  | false =>
    have hnil : aboveL n xs k = [] := if_neg (fun q => by rw [q.1, q.2] at hok; cases hok)
    have HE := Lib.hid (errorIn_no hnil)
    clear hnil
    go_enter Try.func15, Try.ntmps15
    go_wp2_with (first | (go_at_call 41; refine (isCopy_any _ n xs k _ HR.out).mono ?_; rw [hok]; rintro e w1 ⟨rfl, hb1⟩))
    go_ret
    exact ⟨by rw [HE.out]; rfl, hb1⟩
  | true =>
    have hok2 := hok
    simp only [Bool.and_eq_true] at hok2
    obtain ⟨hch, hin⟩ := hok2
    obtain ⟨k0, k1⟩ := inB_le hin
    have hup : aboveL n xs k = upL xs k := aboveL_t hch hin
    have hne : ¬ aboveL n xs k = [] := by rw [hup]; show ¬ upFrom xs (11 + 1) k = []; rw [upFrom_yes k0]; simp
    have HE := Lib.hid (errorIn_t hne)
    have HUP := Lib.hid hup
    clear hup hne
    go_enter Try.func15, Try.ntmps15
    go_wp2_with (first | (go_at_call 41; refine (isCopy_any _ n xs k _ HR.out).mono ?_; rw [hok]; rintro e w0 ⟨rfl, hb0⟩; have HR := Lib.hid (HR.out.below hb0)) | (go_at_call 42; refine (above_any _ n xs k _ HR.out hch k0 (by omega)).mono ?_; rw [← HUP.out]; rintro e w1 ⟨u, rfl, hown, -, hb1⟩; obtain ⟨adu, capu, rfl⟩ := own_form hown; have HI := Lib.hid (own_ints hown (by omega)); have D := Lib.hid (bnext hb0 hb1); have HR := Lib.hid (HR.out.below hb1); clear hown hb1 hb0))
    clear hok hch hin
    generalize aboveL n xs k = L at *
    go_loopw [5, 16] (fun s i wr => ∃ j : Nat, j ≤ L.length ∧ i = .int .i64 j ∧ s = .int .i64 (sumTo (eAt xs L) j) ∧ Hid (Below w1.heap.size w1 wr)) (fun _ i _ => L.length - (intOf i).toNat)
    case atStart => exact ⟨0, Nat.zero_le _, rfl, rfl, bref _⟩
    case round =>
      obtain ⟨j, hj, rfl, rfl, HB⟩ := hrel
      by_cases hlt : j < L.length
      · obtain ⟨h1, h2, h3⟩ := HM.out j hlt
        obtain ⟨γ, hγ⟩ := Int.eq_ofNat_of_zero_le h2
        rw [hγ] at h3
        obtain ⟨_, _, _, hv, hc⟩ := HI.out.below HB.out
        cases hv
        obtain ⟨b, o, rfl, e0⟩ := hc j hlt
        rw [hγ] at e0
        obtain ⟨_, _, _, _, hv2, hc2⟩ := HR.out.below HB.out
        cases hv2
        obtain ⟨b2, o2, rfl, _, _, f0, _⟩ := at3 HX.out hc2 γ (by omega)
        have hd := chainOk_d h1 (k := γ) (by omega)
        have hs := e_bd (xs := xs) (L := L) (m := L.length) (fun i hi => by
          obtain ⟨h1, h2, h3⟩ := HM.out i hi
          have := chainOk_d h1 (k := (nth L i).toNat) (by omega)
          exact ⟨this.2.2.1, this.2.2.2⟩) j hj
        have hgn : γ < n := by omega
        have HS : Hid (sumTo (eAt xs L) (j + 1) = sumTo (eAt xs L) j + cE xs γ) := Lib.hid (by simp only [sumTo, eAt]; rw [hγ]; rfl)
        obtain ⟨_, _, d0, d1⟩ := hd
        obtain ⟨s0, s1⟩ := hs
        clear hc hc2 hγ h2
        generalize cE xs γ = d at *
        generalize sumTo (eAt xs L) j = s at *
        have hsl : 0 ≤ s ∧ s ≤ 12000 := by omega
        go_wp2
        go_roundw
        case rel => exact ⟨j + 1, by omega, by go_num, by rw [HS.out], HB.out⟩
        case measure => simp [intOf]; omega
      · obtain rfl : j = L.length := by omega
        go_wp2
        go_ret
        exact ⟨by rw [HE.out]; rfl, bnext D.out HB.out⟩

end Go.Proofs.Ytlipfkalehikkaa

/- The walks of the laws' helpers on slices of integers: toIntS, szIntS, eqIntS. -/
namespace Go.Proofs.Ytlipfkalehikkaa
open Go.ChangeShapes Go.WideShapes Go.ChangeAt Go.RowKit

end Go.Proofs.Ytlipfkalehikkaa

/- The walks of the laws' helpers on letters. -/
namespace Go.Proofs.Ytlipfkalehikkaa
open Go.ChangeShapes Go.WideShapes Go.ChangeAt Go.RowKit
theorem Try.infoLetter : (Try.prog.info? 76).map (fun i => (i.zero, i.size, i.bytes)) = some (some (.agg #[.int .i64 0, .slice none 0 0]), 2, 32) := by kernel_rfl

/-- the first k pairs of cells of the row at block B are the letters' -/
def Filled (w : World) (B : Nat) (ls : List (Int × List Int)) (k : Nat) : Prop :=
  ∀ i, i < k → ∃ u, w.cell? ⟨B, i * 2, none⟩ = some (.int .i64 (lOwner ls i)) ∧ w.cell? ⟨B, i * 2 + 1, none⟩ = some u ∧ Ints w u (lCopies ls i) ∧ ∀ b, u.ownBlock = some b → B < b
theorem Filled.below {w w' : World} {B : Nat} {ls : List (Int × List Int)} {k : Nat} (h : Filled w B ls k) (hb : Below w.heap.size w w') : Filled w' B ls k := fun i hi => by
  obtain ⟨u, h0, h1, h2, h3⟩ := h i hi
  exact ⟨u, (hb.cell (p := ⟨B, i * 2, none⟩) (World.block_lt_of_cell? w _ h0)).trans h0, (hb.cell (p := ⟨B, i * 2 + 1, none⟩) (World.block_lt_of_cell? w _ h1)).trans h1, h2.below hb, h3⟩
theorem cell_set_same {w : World} {a : Addr} {u x : Value} (h : w.cell? a = some u) : (w.setCell a x).cell? a = some x := World.cell?_setCell_same w a x h
theorem Filled.step {w : World} {B g c : Nat} {ls : List (Int × List Int)} {k : Nat} (h : Filled w B ls k) {x y : Value} (hx : w.cell? ⟨B, k * 2, none⟩ = some x) (hy : w.cell? ⟨B, k * 2 + 1, none⟩ = some y) (hg : B < g)
    (hi : Ints w (.slice (some ⟨g, 0, none⟩) (lCopies ls k).length c) (lCopies ls k)) :
    Filled ((w.setCell ⟨B, k * 2, none⟩ (.int .i64 (lOwner ls k))).setCell ⟨B, k * 2 + 1, none⟩ (.slice (some ⟨g, 0, none⟩) (lCopies ls k).length c)) B ls (k + 1) := fun i hik => by
  have e1 : ∀ j, j ≠ k * 2 → j ≠ k * 2 + 1 → ((w.setCell ⟨B, k * 2, none⟩ (.int .i64 (lOwner ls k))).setCell ⟨B, k * 2 + 1, none⟩ (.slice (some ⟨g, 0, none⟩) (lCopies ls k).length c)).cell? ⟨B, j, none⟩ = w.cell? ⟨B, j, none⟩ := fun j h1 h2 => by
    rw [World.cell?_setCell_other _ _ _ _ (by first | (simp; done) | (simp; omega)), World.cell?_setCell_other _ _ _ _ (by first | (simp; done) | (simp; omega))]
  have hI : ∀ u ys, Ints w u ys → (∀ b, u.ownBlock = some b → B < b) → Ints ((w.setCell ⟨B, k * 2, none⟩ (.int .i64 (lOwner ls k))).setCell ⟨B, k * 2 + 1, none⟩ (.slice (some ⟨g, 0, none⟩) (lCopies ls k).length c)) u ys := fun u ys hu hb =>
    (hu.setCell (fun b e => by have := hb b e; omega) _ _).setCell (fun b e => by have := hb b e; omega) _ _
  rcases Nat.lt_succ_iff_lt_or_eq.1 hik with hlt | rfl
  · obtain ⟨u, h0, h1, h2, h3⟩ := h i hlt
    exact ⟨u, by rw [e1 _ (by omega) (by omega)]; exact h0, by rw [e1 _ (by omega) (by omega)]; exact h1, hI u _ h2 h3, h3⟩
  · refine ⟨_, ?_, ?_, hI _ _ hi (fun b e => by simp [Value.ownBlock] at e; omega), fun b e => by simp [Value.ownBlock] at e; omega⟩
    · rw [World.cell?_setCell_other _ _ _ _ (by simp)]; exact cell_set_same hx
    · exact cell_set_same (by rw [World.cell?_setCell_other _ _ _ _ (by simp)]; exact hy)

end Go.Proofs.Ytlipfkalehikkaa

/- The comparing of two lists of integers. -/
namespace Go.Proofs.Ytlipfkalehikkaa
open Go.ChangeShapes Go.WideShapes Go.ChangeAt Go.RowKit
set_option maxRecDepth 100000 in
theorem lawsSame_any (a b : Value) (xs ys : List Int) (w : World) (ha : Ints w a xs) (hb : Ints w b ys) :
    Calls Try.prog 9 #[a, b] w fun e w' => e = .returned (.bool (decide (xs = ys))) ∧ ∃ n, w' = w.drewN n := by
  obtain ⟨hl, ad, cap, rfl, hc⟩ := ha
  obtain ⟨hl', ad', cap', rfl, hc'⟩ := hb
  by_cases hn : xs.length = ys.length
  · have hne : ((xs.length : Int) != (ys.length : Int)) = false := by simp [hn]
    have HN := Lib.hid hn
    clear hn
    go_enter Try.func9, Try.ntmps9
    go_wp2
    go_loopw [5] (fun i wr => ∃ k n : Nat, k ≤ xs.length ∧ i = .int .i64 k ∧ wr = w.drewN n ∧ xs.take k = ys.take k) (fun i _ => xs.length - (intOf i).toNat)
    case atStart => exact ⟨0, 0, Nat.zero_le _, rfl, rfl, rfl⟩
    case round =>
      obtain ⟨k, n, hk, rfl, rfl, hx⟩ := hrel
      have HX := Lib.hid hx
      clear hx
      by_cases hlt : k < xs.length
      · obtain ⟨b, o, rfl, hcell⟩ := hc k hlt
        obtain ⟨b', o', rfl, hcell'⟩ := hc' k (by have := HN.out; omega)
        have hlt' : k < ys.length := by have := HN.out; omega
        clear hc hc'
        have hnx := take_nth xs k hlt
        have hny := take_nth ys k hlt'
        have HNX := Lib.hid hnx
        have HNY := Lib.hid hny
        clear hnx hny
        by_cases heq : nth xs k = nth ys k
        · have hb : (nth xs k != nth ys k) = false := by simp [heq]
          have HE := Lib.hid heq
          clear heq
          go_wp2
          go_quiet (fail)
          go_wp2
          go_roundw
          case rel => exact ⟨k + 1, _, by omega, by go_num, rfl, by rw [HNX.out, HNY.out, HX.out, HE.out]⟩
          case measure => simp [intOf]; omega
        · have hb : (nth xs k != nth ys k) = true := by simp [heq]
          have hne : xs ≠ ys := fun e => heq (by rw [e])
          go_wp2
          go_quiet (fail)
          go_wp2
          go_ret
          exact ⟨ret_bool (by simp [hne]), _, World.drewN_drewN _ _ _⟩
      · have he : xs = ys := by
          have h1 := HX.out
          have h2 := HN.out
          rw [List.take_of_length_le (by omega), List.take_of_length_le (by omega)] at h1
          exact h1
        have HE := Lib.hid he
        clear he
        go_wp2
        go_ret
        exact ⟨ret_bool (by simp [HE.out]), _, rfl⟩
  · have hne : ((xs.length : Int) != (ys.length : Int)) = true := by rw [bne_iff_ne]; omega
    have hx : xs ≠ ys := fun e => hn (by rw [e])
    go_enter Try.func9, Try.ntmps9
    go_wp2
    go_ret
    exact ⟨ret_bool (by simp [hx]), 0, rfl⟩

end Go.Proofs.Ytlipfkalehikkaa

/- The walks of DoesDepend and CountBelow, in the program and in the reference. -/
namespace Go.Proofs.Ytlipfkalehikkaa
open Go.ChangeShapes Go.WideShapes Go.ChangeAt Go.RowKit

def depends (n : Nat) (xs : List Int) (a b : Int) : Bool := decide (b ∈ aboveL n xs a)
/-- how many of the first k copies depend on b -/
def countDep (n : Nat) (xs : List Int) (b : Int) (k : Nat) : Int := sumTo (fun a => if depends n xs a b = true then 1 else 0) k
theorem countDep_bd (n : Nat) (xs : List Int) (b : Int) (k : Nat) : 0 ≤ countDep n xs b k ∧ countDep n xs b k ≤ 1 * k :=
  sumTo_bd _ 1 k (fun j _ => by constructor <;> (split <;> omega)) k (Nat.le_refl _)

end Go.Proofs.Ytlipfkalehikkaa
