/- The state of a history: the house in its box, who was told in a row that grows. -/
import Derived.Test.YtlipfkalehikkaaDrawHouse
import Derived.Test.YtlipfkalehikkaaGH
import Derived.Test.YtlipfkalehikkaaTopFn
import Derived.Test.YtlipfkalehikkaaGB
namespace Go.Proofs.Ytlipfkalehikkaa
open Go.ChangeShapes Go.WideShapes Go.ChangeAt Go.RowKit

/-- w: the world behind the drawing; its next block is the house's box -/
structure TopS (lo : Nat) (w : World) (g : Nat) (wr : World) (vc vm vo vt v : Value) (h : HD) (T : List Int) : Prop where
  ll : lo ≤ w.heap.size
  box : BoxH w.heap.size lo wr vc vm vo vt h
  row : wr.ownsRow (w.heap.size + 1) 3 1 v T.length (T.map (Value.int .i64))
  vb : v.ownBlock = some g
  oc : vc.ownBlock ≠ some g
  om : vm.ownBlock ≠ some g
  oo : vo.ownBlock ≠ some g
  ot : vt.ownBlock ≠ some g
  below : Below w.heap.size w wr
theorem TopS.lt {lo g : Nat} {w wr : World} {vc vm vo vt v : Value} {h : HD} {T : List Int} (s : TopS lo w g wr vc vm vo vt v h T) : w.heap.size + 1 ≤ g ∧ g < wr.heap.size := s.row.lt g s.vb
theorem TopS.go {lo g : Nat} {w wr w' : World} {vc vm vo vt v : Value} {h : HD} {T : List Int} (s : TopS lo w g wr vc vm vo vt v h T) (hb : Below wr.heap.size wr w') : TopS lo w g w' vc vm vo vt v h T :=
  ⟨s.ll, s.box.below hb, own_below s.row hb, s.vb, s.oc, s.om, s.oo, s.ot, bnext s.below hb⟩
theorem own_ints0 {w : World} {B : Nat} {v : Value} {L : List Int} (h : w.ownsRow B 3 1 v L.length (L.map (Value.int .i64))) (hl : L.length ≤ 1000000) : Ints w v L := own_ints h (by omega)
theorem row_same {lo hi g : Nat} {w w' : World} {e : TypeId} {m : Nat} {u : Value} {n : Nat} {xs : List Int} (h : RowO lo hi w e m u n xs) (ho : Only g (g + 1) w w') (hu : u.ownBlock ≠ some g) (hh : hi ≤ w.heap.size) : RowO lo w'.heap.size w' e m u n xs :=
  ⟨own_only h.own ho fun b hb hq => by
    have : b = g := by omega
    subst this; exact hu hb, fun b hb => by have := h.top b hb; have := ho.size; omega⟩
theorem TopS.grow {lo g g' : Nat} {w wi wr : World} {vc vm vo vt v v' : Value} {h : HD} {T T' : List Int} (s : TopS lo w g wi vc vm vo vt v h T) (ho : Only g (g + 1) wi wr) (hr : wr.ownsRow (w.heap.size + 1) 3 1 v' T'.length (T'.map (Value.int .i64))) (vb : v'.ownBlock = some g') (hg : g' = g ∨ wi.heap.size ≤ g') :
    TopS lo w g' wr vc vm vo vt v' h T' := by
  have lt := s.lt
  have lX := s.box.six.lt
  have hO := s.box.house
  have far : ∀ {u : Value} {e : TypeId} {m n : Nat} {xs : List Int}, RowO lo wi.heap.size wi e m u n xs → u.ownBlock ≠ some g → u.ownBlock ≠ some g' := fun r hu e => by
    rcases hg with rfl | hg
    · exact hu e
    · have := r.top _ e; omega
  exact ⟨s.ll, ⟨s.box.six.only ho (by omega), ⟨row_same hO.c ho s.oc (Nat.le_refl _), row_same hO.m ho s.om (Nat.le_refl _), row_same hO.o ho s.oo (Nat.le_refl _), row_same hO.t ho s.ot (Nat.le_refl _), hO.scm, hO.sco, hO.sct, hO.smo, hO.smt, hO.sot⟩, s.box.nc, s.box.nm, s.box.no, s.box.nt⟩, hr, vb, far hO.c s.oc, far hO.m s.om, far hO.o s.oo, far hO.t s.ot, Only.below s.below ho (by omega)⟩
theorem TopS.put {lo g lo' hi' : Nat} {w wr : World} {vc vm vo vt v vc' vm' vo' vt' : Value} {h h' : HD} {T : List Int} (s : TopS lo w g wr vc vm vo vt v h T) (hO : HouseO lo' hi' wr vc' vm' vo' vt' h') (hl : w.heap.size < lo') (hh : hi' ≤ wr.heap.size) (hn : ¬ (lo' ≤ g ∧ g < hi')) :
    TopS lo w g (put6 wr w.heap.size vc' vm' vo' vt' (.int .i64 h'.sent) (.int .i64 h'.day)) vc' vm' vo' vt' v h' T := by
  have oX := only_put6 wr w.heap.size vc' vm' vo' vt' (.int .i64 h'.sent) (.int .i64 h'.day)
  have lt := s.lt
  have far : ∀ {u : Value} {e : TypeId} {m n : Nat} {xs : List Int}, RowO lo' hi' wr e m u n xs → u.ownBlock ≠ some g := fun r e => hn (r.at _ e)
  have ll := s.ll
  exact ⟨s.ll, s.box.new (bref _) hO hl (by omega) hh, own_only s.row oX (fun b e z => by have := (s.row.lt b e).1; omega), s.vb, far hO.c, far hO.m, far hO.o, far hO.t, Only.below s.below oX (Nat.le_refl _)⟩
theorem TopS.lit {lo : Nat} {w u : World} {vc vm vo vt : Value} {h : HD} (hB : BoxH w.heap.size lo u vc vm vo vt h) (hu : u.heap.size = w.heap.size + 1) (ll : lo ≤ w.heap.size) (hb : Below w.heap.size w u) :
    TopS lo w u.heap.size (u.alloc (.cells #[] 3)) vc vm vo vt (.slice (some ⟨u.heap.size, 0, none⟩) 0 0) h [] := by
  have hO := hB.house
  have far : ∀ {u' : Value} {e : TypeId} {m n : Nat} {xs : List Int}, RowO lo u.heap.size u e m u' n xs → u'.ownBlock ≠ some u.heap.size := fun r e => by have := r.top _ e; omega
  exact ⟨ll, hB.below (balloc (bref _) _), World.ownsRow_lit (e := 3) (size := 1) u #[] 0 (by omega) (by decide) rfl, rfl, far hO.c, far hO.m, far hO.o, far hO.t, balloc hb _⟩
/-- one more told -/
theorem told_app {B g gi : Nat} {wi wr w6 : World} {ob : Obj} {v v' : Value} {K : List Int} {x : Int} (ho : Only g (g + 1) wi wr) (vb : v.ownBlock = some gi) (hgi : gi = g ∨ wi.heap.size ≤ gi) (hown : w6.ownsRow B 3 1 v' (K.length + 1) (K.map (Value.int .i64) ++ [.int .i64 x])) (hg : (wr.alloc ob).grownBy w6 v.ownBlock) (hat : v'.ownBlock = v.ownBlock ∨ v'.ownBlock = some (wr.alloc ob).heap.size) :
    ∃ g2, Only g (g + 1) wi w6 ∧ w6.ownsRow B 3 1 v' (K ++ [x]).length ((K ++ [x]).map (Value.int .i64)) ∧ v'.ownBlock = some g2 ∧ (g2 = g ∨ wi.heap.size ≤ g2) := by
  have o1 := ho.alloc ob
  have z1 := o1.size
  have o2 : Only g (g + 1) wi w6 := by
    rcases hgi with rfl | hgi
    · exact o1.trans (Only.of_grown hg fun k hk => by rw [vb] at hk; cases hk; omega)
    · exact only_pastB o1 (Only.of_grown (lo := gi) (hi := gi + 1) hg fun k hk => by rw [vb] at hk; cases hk; omega) hgi
  have hrow : w6.ownsRow B 3 1 v' (K ++ [x]).length ((K ++ [x]).map (Value.int .i64)) := by simpa using hown
  rcases hat with e | e
  · exact ⟨gi, o2, hrow, e.trans vb, hgi⟩
  · exact ⟨_, o2, hrow, e, .inr z1⟩
/-- a house in a box of its own -/
structure BX (B lo hi : Nat) (w : World) (vc vm vo vt : Value) (h : HD) : Prop where
  six : Six B w vc vm vo vt (.int .i64 h.sent) (.int .i64 h.day)
  house : HouseO lo hi w vc vm vo vt h
theorem BX.below {B lo hi : Nat} {w w' : World} {vc vm vo vt : Value} {h : HD} (r : BX B lo hi w vc vm vo vt h) (hb : Below w.heap.size w w') : BX B lo hi w' vc vm vo vt h := ⟨r.six.below hb, r.house.below hb⟩
theorem BX.only {B lo hi g : Nat} {w w' : World} {vc vm vo vt : Value} {h : HD} (r : BX B lo hi w vc vm vo vt h) (ho : Only g (g + 1) w w') (hB : g < B) (hl : g < lo) : BX B lo hi w' vc vm vo vt h := ⟨r.six.only ho (by omega), r.house.only ho (off_r (by omega))⟩
/-- the drawn numbers: one at each place, the same in every later world -/
theorem at_det (v : Value) (bs : List Int) (i : Nat) (w : World) (h : Bytes w v bs) (hi : i ≤ 100000) : ∃ x : Int, (0 ≤ x ∧ x ≤ 255) ∧ ∀ W : World, Below w.heap.size w W → Calls Try.prog 12 #[v, .int .i64 i] W fun e w' => e = .returned (.int .i64 x) ∧ W = w' := by
  obtain ⟨hl, ad, cap, rfl, hc⟩ := h
  by_cases h0 : bs.length = 0
  · have h1 : ((bs.length : Int) == 0) = true := by rw [beq_iff_eq]; omega
    clear hc
    refine ⟨0, ⟨by omega, by omega⟩, fun W _ => ?_⟩
    go_enter Try.func12, Try.ntmps12
    go_wp2
    go_ret
    exact ⟨rfl, rfl⟩
  · have h1 : ((bs.length : Int) == 0) = false := by rw [beq_eq_false_iff_ne]; omega
    obtain ⟨j, hj, hj2⟩ : ∃ j : Nat, ((i : Int) * 5 + 1) % (bs.length : Int) = (j : Int) ∧ j < bs.length := by
      have a := Int.emod_nonneg ((i : Int) * 5 + 1) (show (bs.length : Int) ≠ 0 by omega)
      have b := Int.emod_lt_of_pos ((i : Int) * 5 + 1) (show (0 : Int) < bs.length by omega)
      exact ⟨(((i : Int) * 5 + 1) % (bs.length : Int)).toNat, by omega, by omega⟩
    obtain ⟨b, o, rfl, e0, e1, e2⟩ := hc j hj2
    clear hc
    refine ⟨_, ⟨e1, e2⟩, fun W q => ?_⟩
    replace e0 := (q.cell (World.block_lt_of_cell? w _ e0)).trans e0
    clear q
    go_enter Try.func12, Try.ntmps12
    go_wp2
    go_ret
    exact ⟨rfl, rfl⟩
/-- laws.sameInts of equal lists -/
theorem sameI_any (u v : Value) (xs : List Int) (w : World) (hu : Ints w u xs) (hv : Ints w v xs) : Calls Try.prog 9 #[u, v] w fun e w' => e = .returned (.bool true) ∧ Below w.heap.size w w' := by
  obtain ⟨hl, ada, capa, rfl, hc⟩ := hu
  obtain ⟨_, adb, capb, rfl, hd⟩ := hv
  have HC := Lib.hid hc
  have HD := Lib.hid hd
  clear hc hd
  go_enter Try.func9, Try.ntmps9
  go_wp2_with fail
  go_loopw [5] (fun i wr => ∃ k : Nat, k ≤ xs.length ∧ i = .int .i64 k ∧ Hid (Below w.heap.size w wr)) (fun i _ => xs.length - (intOf i).toNat)
  case atStart => exact ⟨0, Nat.zero_le _, rfl, bref _⟩
  case round =>
    obtain ⟨k, hk, rfl, HB⟩ := hrel
    by_cases hlt : k < xs.length
    · obtain ⟨b, o, rfl, e0⟩ := HC.out k hlt
      obtain ⟨b', o', rfl, e1⟩ := HD.out k hlt
      have e0 := (HB.out.cell (World.block_lt_of_cell? w _ e0)).trans e0
      have e1 := (HB.out.cell (World.block_lt_of_cell? w _ e1)).trans e1
      have i1 : (0 : Int) ≤ (k : Int) := by omega
      have i2 : (k : Int) < (xs.length : Int) := by omega
      have i3 : ¬ (k : Int) < 0 := by omega
      have i4 : ¬ (xs.length : Int) ≤ (k : Int) := by omega
      generalize nth xs k = s at *
      go_wp2_with fail
      go_quiet (fail)
      go_wp2
      go_roundw
      case rel => exact ⟨k + 1, by omega, by go_num, bdrewN HB.out _⟩
      case measure => simp [intOf]; omega
    · obtain rfl : k = xs.length := by omega
      go_wp2
      go_ret
      exact ⟨rfl, HB.out⟩
/-- the real weights: numbers that are not yet drawn do not matter -/
theorem realTo_ext {g g' : Nat → Int} {xs : List Int} : ∀ {k : Nat}, (∀ i, i < k → g i = g' i) → realTo g xs k = realTo g' xs k
  | 0, _ => rfl
  | k + 1, h => by
    have ih := realTo_ext (g := g) (g' := g') (xs := xs) (k := k) (fun i hi => h i (by omega))
    show realTo g xs k ++ [realAt g xs (realTo g xs k) k] = _
    unfold realAt
    rw [ih, h k (by omega)]; rfl
theorem nth_snoc_lt {G : List Int} {d : Int} {i : Nat} (h : i < G.length) : nth (G ++ [d]) i = nth G i := by simp [nth, List.getElem?_append, h]
theorem nth_snoc_at {G : List Int} {d : Int} : nth (G ++ [d]) G.length = d := by simp [nth]
/-- the drawn errors lie within the copies' -/
def Within (xs : List Int) (G : List Int) : Prop := ∀ i, i < G.length → -cE xs i ≤ nth G i ∧ nth G i ≤ cE xs i
theorem Within.push {xs G : List Int} {d : Int} (h : Within xs G) (a : -cE xs G.length ≤ d) (b : d ≤ cE xs G.length) : Within xs (G ++ [d]) := fun i hi => by
  rcases Nat.lt_or_ge i G.length with q | q
  · rw [nth_snoc_lt q]; exact h i q
  · obtain rfl : i = G.length := by simp at hi; omega
    rw [nth_snoc_at]; exact ⟨a, b⟩
theorem Within.all {n : Nat} {xs G : List Int} (h : Within xs G) (hc : chainOk n xs = true) : ∀ i, i < n → -cE xs i ≤ nth G i ∧ nth G i ≤ cE xs i := fun i hi => by
  rcases Nat.lt_or_ge i G.length with q | q
  · exact h i q
  · have := (chainOk_d hc hi).2.2
    rw [show nth G i = 0 by simp [nth, q]]; omega
theorem real_push {xs G : List Int} {d : Int} : realTo (nth (G ++ [d])) xs (G.length + 1) = realTo (nth G) xs G.length ++ [(if 0 ≤ cP xs G.length then nth (realTo (nth G) xs G.length) (cP xs G.length).toNat else 0) + cD xs G.length + d] := by
  show realTo (nth (G ++ [d])) xs G.length ++ [realAt (nth (G ++ [d])) xs (realTo (nth (G ++ [d])) xs G.length) G.length] = _
  unfold realAt
  rw [realTo_ext (g := nth (G ++ [d])) (g' := nth G) fun i hi => nth_snoc_lt hi, nth_snoc_at]
theorem real_bd {n : Nat} {xs G : List Int} (hc : chainOk n xs = true) (h : Within xs G) {m k : Nat} (hk : k < m) (hm : m ≤ n) : -13000000 ≤ nth (realTo (nth G) xs m) k ∧ nth (realTo (nth G) xs m) k ≤ 13000000 := by
  have e : nth (realTo (nth G) xs m) k = nth (realTo (nth G) xs n) k := by rw [realTo_at _ _ hk, realTo_at _ _ (show k < n by omega)]
  have a := top_one hc (h.all hc) (show k < n by omega)
  have b := weightIn_bd n xs k
  have c := errorIn_bd n xs k
  rw [e]; omega
theorem Within.push' {xs G : List Int} {i : Nat} {d : Int} (hl : G.length = i) (h : Within xs G) (a : -cE xs i ≤ d) (b : d ≤ cE xs i) : Within xs (G ++ [d]) := by subst hl; exact h.push a b
theorem real_push' {xs G R : List Int} {i : Nat} {d : Int} (hl : G.length = i) (hR : R = realTo (nth G) xs i) : R ++ [(if 0 ≤ cP xs i then nth R (cP xs i).toNat else 0) + cD xs i + d] = realTo (nth (G ++ [d])) xs (i + 1) := by
  subst hl
  subst hR
  exact real_push.symm
theorem row_push {w : World} {B : Nat} {v : Value} {R : List Int} {y : Int} (h : w.ownsRow B 3 1 v (R.length + 1) (R.map (Value.int .i64) ++ [.int .i64 y])) : w.ownsRow B 3 1 v (R ++ [y]).length ((R ++ [y]).map (Value.int .i64)) := by simpa using h
theorem row_push' {w : World} {B : Nat} {v : Value} {R : List Int} {y : Int} (h : w.ownsRow B 3 1 v (R.length + 1) (R.map (Value.int .i64) ++ [y].map (Value.int .i64))) : w.ownsRow B 3 1 v (R ++ [y]).length ((R ++ [y]).map (Value.int .i64)) := by simpa using h
theorem below_appT {B : Nat} {u wr w1 : World} {e : TypeId} {ob : Obj} {v : Value} {n : Nat} {K : List Value} (hown : wr.ownsRow B e 1 v n K) (hgrow : (wr.alloc ob).grownBy w1 v.ownBlock) (hbel : Below u.heap.size u wr) (hB : u.heap.size ≤ B) : Below u.heap.size u w1 :=
  (balloc hbel ob).grown hgrow (balloc hbel ob).size (fun k hk => Nat.le_trans hB (hown.lt k hk).1)
theorem quiet_in' {P : Program} {f : FuncId} {args : Array Value} {w : World} {n : Nat} {v : Value}
    (h : Calls P f args (w.drewN n) fun e w' => e = .returned v ∧ w.drewN n = w') : Calls P f args (w.drewN n) fun e w'' => e = .returned v ∧ ∃ m, w'' = w.drewN m :=
  h.mono fun _ _ ⟨he, hm⟩ => ⟨he, n, hm.symm⟩
theorem quiet_in_add' {P : Program} {f : FuncId} {args : Array Value} {w : World} {a n : Nat} {v : Value}
    (h : Calls P f args (w.drewN (a + n)) fun e w' => e = .returned v ∧ w.drewN (a + n) = w') :
    Calls P f args (w.drewN (a + n)) fun e w'' => e = .returned v ∧ ∃ m, w'' = w.drewN (a + m) :=
  h.mono fun _ _ ⟨he, hm⟩ => ⟨he, n, hm.symm⟩
theorem nth_at {R : List Int} {p : Nat} {cp : Int} (h : cp = (p : Int)) : (if 0 ≤ cp then nth R cp.toNat else 0) = nth R p := by subst h; rw [if_pos (by omega)]; simp
theorem nth_no {R : List Int} {cp : Int} (h : ¬ 0 ≤ cp) : (if 0 ≤ cp then nth R cp.toNat else 0) = 0 := if_neg h
theorem below_grow1 {u w w' : World} {g : Nat} (h : Below u.heap.size u w) (hg : w.grownBy w' (some g)) (hb : u.heap.size ≤ g) : Below u.heap.size u w' := h.grown hg h.size (fun k hk => by cases hk; exact hb)
theorem top_keep {w w' : World} {B g p : Nat} {x0 x1 x2 : Value} {xs : List Value} (hg : w.grownBy w' (some g)) (hne : ¬ B = g) (hk : ∀ j x, xs[j]? = some x → w'.cell? ((⟨g, 0, none⟩ : Addr).add j) = some x) (hx : xs[p]? = some x2) (h : w.cell? ⟨B, 0, none⟩ = some x0 ∧ w.cell? ⟨B, 1, none⟩ = some x1 ∧ w.cell? ⟨g, p, none⟩ = some x2) :
    w'.cell? ⟨B, 0, none⟩ = some x0 ∧ w'.cell? ⟨B, 1, none⟩ = some x1 ∧ w'.cell? ⟨g, p, none⟩ = some x2 := by
  have ne : some B ≠ some g := fun e => hne (by cases e; rfl)
  refine ⟨hg.cell (a := ⟨B, 0, none⟩) h.1 ne, hg.cell (a := ⟨B, 1, none⟩) h.2.1 ne, ?_⟩
  have q := hk p x2 hx
  rw [Addr.add_lit, Nat.zero_add] at q
  exact q
/-- append of one integer to a row of the call's own: the old cells stay readable where they were -/
theorem run_append_keep {P : Program} (w : World) (t ty e : TypeId) (base : Nat) (i : TypeInfo) (z : Value) (bytes : Nat) (ht : P.underlying t = some (.slice e)) (hi : P.info? e = some i) (hz : i.zero = some z)
    (hsize : i.size = 1) (hby : i.bytes = bytes) (hzs : z.cells.size = 1) (g n cap : Nat) (xs : List Value) (hown : w.ownsRow base e 1 (.slice (some ⟨g, 0, none⟩) n cap) n xs) (a : Addr) (c : Nat) (y : Int)
    (hcell : ∀ j x, [Value.int .i64 y][j]? = some x → w.cell? (a.add j) = some x) (hm : n ≤ 1000000) (hb : bytes ≤ 1000) (hbase : base ≤ w.heap.size) :
    ∃ v' w', (Builtin.append_ #[t, t] ty #[.slice (some ⟨g, 0, none⟩) n cap, .slice (some a) 1 c]).run P w = .ok v' w' ∧ w'.ownsRow base e 1 v' (n + 1) (xs ++ [.int .i64 y]) ∧ w.grownBy w' (some g) ∧ ∀ j x, xs[j]? = some x → w'.cell? ((⟨g, 0, none⟩ : Addr).add j) = some x := by
  have hbytes : (n + 1) * bytes ≤ 140737488355328 := by have := Nat.mul_le_mul (show n + 1 ≤ 1000001 by omega) hb; omega
  obtain ⟨v', w', hr, h2, h3, _, _⟩ := run_append_own_at (P := P) w base t ty e i z 1 bytes ht hi hz hsize hby hzs (by decide) (.slice (some ⟨g, 0, none⟩) n cap) n xs hown a 1 c [.int .i64 y] rfl hcell (ints_oneCell .i64 [y]) (by unfold maxLen; omega) hbytes hbase
  refine ⟨v', w', hr, h2, h3, fun j x hj => ?_⟩
  rcases hown.2 with ⟨q, _⟩ | ⟨g', cap', cur, hv, hbg, hg, hnc, hcm, hcs, htake⟩
  · cases q
  · cases hv
    by_cases hroom : n + 1 ≤ cap
    · have hr2 := run_append_room (P := P) w t ty e i ht hi g n cap cur hg a 1 c [.int .i64 y] (by rw [hsize]; rfl) hcell (ints_oneCell .i64 [y]) hroom (by rw [hsize]; simp; omega)
      rw [hr] at hr2
      cases hr2
      exact h2.cells (g := g) rfl j x (by rw [List.getElem?_append_left (List.getElem?_eq_some_iff.1 hj).1]; exact hj)
    · have holds : ∀ j u, xs[j]? = some u → w.cell? ((⟨g, 0, none⟩ : Addr).add j) = some u := hown.cells (g := g) rfl
      have hr2 := run_append_grow (P := P) w t ty e i z ht hi hz ⟨g, 0, none⟩ n cap xs (by rw [hsize]; exact hown.1) holds a 1 c [.int .i64 y] (by rw [hsize]; rfl) hcell (by omega) (by omega) (growslice_fits (by omega) (by rw [hby]; exact hbytes))
      rw [hr] at hr2
      cases hr2
      have hc := holds j x hj
      have lg := World.block_lt_of_cell? w _ hc
      exact ((balloc (bdrew (bref w)) _).cell (p := (⟨g, 0, none⟩ : Addr).add j) lg).trans hc
theorem step_append_keep {P : Program} {ops : Array Oper} {o : Oper} {ac : Act} {w : World} {K : Act → World → Prop} {Q : Exit → Act → World → Prop} {E : Prop} (hw : Region.wanted o (yielded ops ac.tmps) = true) (s x : Operand) (t : TypeId)
    (ho : o.op = .call { callee := .builtin .append, args := #[s, x], argTypes := #[t, t] })
    (e : TypeId) (base : Nat) (i : TypeInfo) (z : Value) (bytes : Nat) (ht : P.underlying t = some (.slice e)) (hi : P.info? e = some i) (hz : i.zero = some z)
    (hsize : i.size = 1) (hby : i.bytes = bytes) (hzs : z.cells.size = 1) (g n cap : Nat) (xs : List Value) (hs : ac.eval s = .slice (some ⟨g, 0, none⟩) n cap) (hown : w.ownsRow base e 1 (.slice (some ⟨g, 0, none⟩) n cap) n xs) (a : Addr) (c : Nat) (y : Int)
    (hx : ac.eval x = .slice (some a) 1 c) (hcell : ∀ j x, [Value.int .i64 y][j]? = some x → w.cell? (a.add j) = some x) (hm : n ≤ 1000000) (hb : bytes ≤ 1000) (hbase : base ≤ w.heap.size)
    (h : ∀ v' w', w'.ownsRow base e 1 v' (n + 1) (xs ++ [.int .i64 y]) → w.grownBy w' (some g) → (∀ j x, xs[j]? = some x → w'.cell? ((⟨g, 0, none⟩ : Addr).add j) = some x) → K (ac.put o.dst v') w') :
    if Region.wanted o (yielded ops ac.tmps) = true then Oper.wp P o ac w K Q else E := by
  rw [if_pos hw]
  obtain ⟨v', w', hr, h2, h3, h5⟩ := run_append_keep (P := P) w t o.type e base i z bytes ht hi hz hsize hby hzs g n cap xs hown a c y hcell hm hb hbase
  unfold Oper.wp execOp
  simp only [ho, resolve, invoke, builtin, Sem.run_bind, Sem.run_pure, Result.andThen_ok, List.map_toArray, List.map_cons, List.map_nil, hs, hx, hr]
  exact h v' w' h2 h3 h5
end Go.Proofs.Ytlipfkalehikkaa
