/- In every history: the plain law. -/
import Derived.Test.YtlipfkalehikkaaGJ
import Derived.Test.YtlipfkalehikkaaGF
namespace Go.Proofs.Ytlipfkalehikkaa
open Go.ChangeShapes Go.WideShapes Go.ChangeAt Go.RowKit

/-- the sum of f over the numbers of a list -/
def sumOn (f : Int → Int) : List Int → Int
  | [] => 0
  | x :: l => f x + sumOn f l
theorem sumOn_add (f g : Int → Int) : ∀ l, sumOn (fun x => f x + g x) l = sumOn f l + sumOn g l
  | [] => rfl
  | x :: l => by simp only [sumOn]; rw [sumOn_add f g l]; omega
theorem sumOn_le {f g : Int → Int} : ∀ {l : List Int}, (∀ x ∈ l, -g x ≤ f x ∧ f x ≤ g x) → -sumOn g l ≤ sumOn f l ∧ sumOn f l ≤ sumOn g l
  | [], _ => by simp [sumOn]
  | x :: l, h => by
    have a := h x (by simp)
    have b := sumOn_le (l := l) (fun y hy => h y (by simp [hy]))
    simp only [sumOn]; omega
theorem sumTo_shift (f : Nat → Int) : ∀ n, sumTo f (n + 1) = f 0 + sumTo (fun i => f (i + 1)) n
  | 0 => by simp [sumTo]
  | n + 1 => by
    have := sumTo_shift f n
    show sumTo f (n + 1) + f (n + 1) = f 0 + (sumTo (fun i => f (i + 1)) n + f (n + 1))
    omega
theorem sumTo_ext {f g : Nat → Int} : ∀ n, (∀ i, i < n → f i = g i) → sumTo f n = sumTo g n
  | 0, _ => rfl
  | n + 1, h => by simp only [sumTo]; rw [sumTo_ext n (fun i hi => h i (by omega)), h n (by omega)]
theorem sumTo_list (f : Int → Int) : ∀ L : List Int, sumTo (fun i => f (nth L i)) L.length = sumOn f L
  | [] => rfl
  | x :: l => by
    rw [List.length_cons, sumTo_shift]
    show f (nth (x :: l) 0) + sumTo (fun i => f (nth (x :: l) (i + 1))) l.length = f x + sumOn f l
    rw [← sumTo_list f l]; rfl
theorem sumTo_add (f g : Nat → Int) : ∀ n, sumTo (fun i => f i + g i) n = sumTo f n + sumTo g n
  | 0 => rfl
  | n + 1 => by simp only [sumTo]; rw [sumTo_add f g n]; omega
theorem sumTo_le {f g : Nat → Int} : ∀ n, (∀ i, i < n → -g i ≤ f i ∧ f i ≤ g i) → -sumTo g n ≤ sumTo f n ∧ sumTo f n ≤ sumTo g n
  | 0, _ => by simp [sumTo]
  | n + 1, h => by
    have a := h n (by omega)
    have b := sumTo_le n (fun i hi => h i (by omega))
    simp only [sumTo]; omega
theorem sumTo_sub (f g : Nat → Int) : ∀ n, sumTo (fun i => f i - g i) n = sumTo f n - sumTo g n
  | 0 => rfl
  | n + 1 => by simp only [sumTo]; rw [sumTo_sub f g n]; omega
/-- one term alone -/
theorem sumTo_one (g : Nat → Int) (m : Nat) : ∀ n, sumTo (fun i => if i = m then g i else 0) n = if m < n then g m else 0
  | 0 => by simp [sumTo]
  | n + 1 => by
    simp only [sumTo]; rw [sumTo_one g m n]
    by_cases h : n = m
    · subst h; simp
    · by_cases h2 : m < n
      · rw [if_pos h2, if_neg h, if_pos (by omega)]; omega
      · rw [if_neg h2, if_neg h, if_neg (by omega)]; omega
theorem sumOn_ind (g : Nat → Int) (n : Nat) : ∀ L : List Int, L.Nodup → (∀ x ∈ L, 0 ≤ x ∧ x < n) → sumOn (fun x => g x.toNat) L = sumTo (fun i => if (i : Int) ∈ L then g i else 0) n
  | [], _, _ => by
    have : ∀ k, sumTo (fun _ => (0 : Int)) k = 0 := fun k => by induction k with | zero => rfl | succ k ih => simp [sumTo, ih]
    simp [sumOn, this]
  | x :: l, hn, hb => by
    have hx := hb x (by simp)
    have ih := sumOn_ind g n l (List.nodup_cons.1 hn).2 (fun y hy => hb y (by simp [hy]))
    have hxl := (List.nodup_cons.1 hn).1
    obtain ⟨m, rfl⟩ := Int.eq_ofNat_of_zero_le hx.1
    have e : ∀ i, i < n → (if (i : Int) ∈ (m : Int) :: l then g i else 0) = (if i = m then g i else 0) + (if (i : Int) ∈ l then g i else 0) := fun i _ => by
      by_cases q : i = m
      · subst q; rw [if_pos (by simp), if_pos rfl, if_neg hxl]; omega
      · have q2 : ¬ (i : Int) = (m : Int) := by omega
        rw [if_neg q]
        by_cases q3 : (i : Int) ∈ l
        · rw [if_pos (by simp [q3]), if_pos q3]; omega
        · rw [if_neg (by simp [q3, q2]), if_neg q3]; rfl
    rw [sumTo_ext n e, sumTo_add, sumTo_one, if_pos (by omega), ← ih]
    rfl
/-! the way up falls, and does not hang on the fuel -/
theorem upFrom_le {n : Nat} {xs : List Int} (h : chainOk n xs = true) : ∀ (f : Nat) (k : Int), k < n → ∀ y ∈ upFrom xs f k, y ≤ k
  | 0, _, _, y, hy => by simp [upFrom] at hy
  | f + 1, k, hk, y, hy => by
    by_cases h0 : 0 ≤ k
    · rw [upFrom_yes h0, List.mem_cons] at hy
      rcases hy with rfl | hy
      · exact Int.le_refl _
      · have := chainOk_p h (k := k.toNat) (by omega)
        have := upFrom_le h f _ (by omega) y hy
        omega
    · rw [upFrom_no h0] at hy; simp at hy
theorem upFrom_nodup {n : Nat} {xs : List Int} (h : chainOk n xs = true) : ∀ (f : Nat) (k : Int), k < n → (upFrom xs f k).Nodup
  | 0, _, _ => by simp [upFrom]
  | f + 1, k, hk => by
    by_cases h0 : 0 ≤ k
    · have hp := chainOk_p h (k := k.toNat) (by omega)
      rw [upFrom_yes h0, List.nodup_cons]
      refine ⟨fun q => ?_, upFrom_nodup h f _ (by omega)⟩
      have := upFrom_le h f _ (by omega) k q
      omega
    · rw [upFrom_no h0]; simp
theorem upFrom_fuel {n : Nat} {xs : List Int} (h : chainOk n xs = true) : ∀ (f f' : Nat) (k : Int), k < n → k + 1 ≤ f → k + 1 ≤ f' → upFrom xs f k = upFrom xs f' k
  | 0, f', k, hk, h1, h2 => by rw [upFrom_no (by omega), upFrom_no (by omega)]
  | f + 1, 0, k, hk, h1, h2 => by rw [upFrom_no (by omega), upFrom_no (by omega)]
  | f + 1, f' + 1, k, hk, h1, h2 => by
    by_cases h0 : 0 ≤ k
    · have hp := chainOk_p h (k := k.toNat) (by omega)
      rw [upFrom_yes h0, upFrom_yes h0, upFrom_fuel h f f' _ (by omega) (by omega) (by omega)]
    · rw [upFrom_no h0, upFrom_no h0]
theorem upL_step {n : Nat} {xs : List Int} (h : chainOk n xs = true) {k : Nat} (hk : k < n) : upL xs k = (k : Int) :: upL xs (cP xs k) := by
  have hn := chainOk_n h
  have hp := chainOk_p h hk
  show upFrom xs (11 + 1) k = _
  rw [upFrom_yes (by omega)]
  rw [show ((k : Int)).toNat = k by omega]
  have e : upFrom xs 11 (cP xs k) = upFrom xs 12 (cP xs k) := upFrom_fuel h 11 12 _ (by omega) (by omega) (by omega)
  rw [e]; rfl
theorem upL_neg {xs : List Int} {k : Int} (h : ¬ 0 ≤ k) : upL xs k = [] := upFrom_no h
theorem aboveL_k' {n : Nat} {xs : List Int} (h : chainOk n xs = true) {k : Nat} (hk : k < n) : aboveL n xs k = upL xs k := aboveL_t h (inB_t (by omega) (by omega))
/-! the real weights -/
def realAt (g : Nat → Int) (xs rs : List Int) (k : Nat) : Int := (if 0 ≤ cP xs k then nth rs (cP xs k).toNat else 0) + cD xs k + g k
def realTo (g : Nat → Int) (xs : List Int) : Nat → List Int
  | 0 => []
  | k + 1 => realTo g xs k ++ [realAt g xs (realTo g xs k) k]
theorem realTo_len (g : Nat → Int) (xs : List Int) : ∀ k, (realTo g xs k).length = k
  | 0 => rfl
  | k + 1 => by simp [realTo, realTo_len g xs k]
theorem realTo_at (g : Nat → Int) (xs : List Int) {k : Nat} : ∀ {m : Nat}, k < m → nth (realTo g xs m) k = nth (realTo g xs (k + 1)) k
  | 0, h => absurd h (by omega)
  | m + 1, h => by
    rcases Nat.lt_or_ge k m with q | q
    · rw [← realTo_at g xs q]
      show nth (realTo g xs m ++ _) k = _
      simp [nth, List.getElem?_append, realTo_len, q]
    · obtain rfl : k = m := by omega
      rfl
theorem real_sum {g : Nat → Int} {n : Nat} {xs : List Int} (h : chainOk n xs = true) : ∀ (m k : Nat), k < m → m ≤ n → nth (realTo g xs m) k = sumOn (fun x => cD xs x.toNat + g x.toNat) (upL xs k)
  | 0, k, hk, _ => absurd hk (by omega)
  | m + 1, k, hk, hm => by
    rcases Nat.lt_or_ge k m with q | q
    · rw [realTo_at g xs hk, ← realTo_at g xs q]
      exact real_sum h m k q (by omega)
    · obtain rfl : k = m := by omega
      have hp := chainOk_p h (k := k) (by omega)
      have e : nth (realTo g xs (k + 1)) k = realAt g xs (realTo g xs k) k := by
        show nth (realTo g xs k ++ _) k = _
        have hl := realTo_len g xs k
        simp [nth, hl]
      rw [e, upL_step h (by omega)]
      show _ = (cD xs ((k : Int)).toNat + g ((k : Int)).toNat) + sumOn _ (upL xs (cP xs k))
      rw [show ((k : Int)).toNat = k by omega]
      unfold realAt
      by_cases h0 : 0 ≤ cP xs k
      · rw [if_pos h0]
        have ih := real_sum (g := g) h k (cP xs k).toNat (by omega) (by omega)
        rw [show (((cP xs k).toNat : Nat) : Int) = cP xs k by omega] at ih
        rw [ih]; omega
      · rw [if_neg h0, upL_neg h0]; simp only [sumOn]; omega
theorem weight_sum {n : Nat} {xs : List Int} (h : chainOk n xs = true) {k : Nat} (hk : k < n) : weightIn n xs k = sumOn (fun x => cD xs x.toNat) (upL xs k) := by
  unfold weightIn
  rw [aboveL_k' h hk]
  exact sumTo_list (fun x => cD xs x.toNat) _
theorem upL_ne {n : Nat} {xs : List Int} (h : chainOk n xs = true) {k : Nat} (hk : k < n) : ¬ upL xs k = [] := by rw [upL_step h hk]; simp
theorem error_sum {n : Nat} {xs : List Int} (h : chainOk n xs = true) {k : Nat} (hk : k < n) : errorIn n xs k = sumOn (fun x => cE xs x.toNat) (upL xs k) := by
  have hne : ¬ aboveL n xs k = [] := by rw [aboveL_k' h hk]; exact upL_ne h hk
  rw [errorIn_t hne, aboveL_k' h hk]
  exact sumTo_list (fun x => cE xs x.toNat) _
/-- how far a drawn weight lies off what the chain says -/
theorem real_off {g : Nat → Int} {n : Nat} {xs : List Int} (h : chainOk n xs = true) {k : Nat} (hk : k < n) : nth (realTo g xs n) k - weightIn n xs k = sumOn (fun x => g x.toNat) (upL xs k) := by
  rw [real_sum h n k hk (Nat.le_refl _), weight_sum h hk, sumOn_add]; omega
theorem upL_mem {n : Nat} {xs : List Int} (h : chainOk n xs = true) {k : Nat} (hk : k < n) : ∀ x ∈ upL xs k, 0 ≤ x ∧ x < n := upFrom_mem h 12 k (by omega)
/-- a weight lies within its error -/
theorem top_one {g : Nat → Int} {n : Nat} {xs : List Int} (h : chainOk n xs = true) (hg : ∀ i, i < n → -cE xs i ≤ g i ∧ g i ≤ cE xs i) {k : Nat} (hk : k < n) :
    -errorIn n xs k ≤ nth (realTo g xs n) k - weightIn n xs k ∧ nth (realTo g xs n) k - weightIn n xs k ≤ errorIn n xs k := by
  rw [real_off h hk, error_sum h hk]
  exact sumOn_le fun x hx => by
    have := upL_mem h hk x hx
    exact hg x.toNat (by omega)
/-- a difference lies within its error -/
theorem top_two {g : Nat → Int} {n : Nat} {xs : List Int} (h : chainOk n xs = true) (hg : ∀ i, i < n → -cE xs i ≤ g i ∧ g i ≤ cE xs i) {a b : Nat} (ha : a < n) (hb : b < n) :
    -diffError n xs a b ≤ nth (realTo g xs n) a - nth (realTo g xs n) b - weightIn n xs a + weightIn n xs b ∧ nth (realTo g xs n) a - nth (realTo g xs n) b - weightIn n xs a + weightIn n xs b ≤ diffError n xs a b := by
  have e1 := real_off (g := g) h ha
  have e2 := real_off (g := g) h hb
  have s1 := sumOn_ind g n _ (upFrom_nodup h 12 a (by omega)) (upL_mem h ha)
  have s2 := sumOn_ind g n _ (upFrom_nodup h 12 b (by omega)) (upL_mem h hb)
  have hd : diffError n xs a b = sumTo (dAt xs (upL xs a) (upL xs b)) n := by
    have := diff_t (n := n) (xs := xs) (a := a) (b := b) (by rw [aboveL_k' h ha]; exact upL_ne h ha) (by rw [aboveL_k' h hb]; exact upL_ne h hb)
    rw [this, aboveL_k' h ha, aboveL_k' h hb]
  have e : nth (realTo g xs n) a - nth (realTo g xs n) b - weightIn n xs a + weightIn n xs b = sumTo (fun i => (if (i : Int) ∈ upL xs a then g i else 0) - (if (i : Int) ∈ upL xs b then g i else 0)) n := by
    rw [sumTo_sub]
    have s1' : sumOn (fun x => g x.toNat) (upL xs a) = _ := s1
    have s2' : sumOn (fun x => g x.toNat) (upL xs b) = _ := s2
    rw [s1'] at e1
    rw [s2'] at e2
    have : nth (realTo g xs n) a - nth (realTo g xs n) b - weightIn n xs a + weightIn n xs b = (nth (realTo g xs n) a - weightIn n xs a) - (nth (realTo g xs n) b - weightIn n xs b) := by omega
    rw [this, e1, e2]; rfl
  rw [e, hd]
  refine sumTo_le n fun i hi => ?_
  have hgi := hg i hi
  by_cases p : (i : Int) ∈ upL xs a
  · by_cases q : (i : Int) ∈ upL xs b
    · rw [if_pos p, if_pos q, dAt_same (decide_eq_true p) (decide_eq_true q)]; omega
    · rw [if_pos p, if_neg q, dAt_diff (decide_eq_true p) (decide_eq_false q) (by decide)]; omega
  · by_cases q : (i : Int) ∈ upL xs b
    · rw [if_neg p, if_pos q, dAt_diff (decide_eq_false p) (decide_eq_true q) (by decide)]; omega
    · rw [if_neg p, if_neg q, dAt_same (decide_eq_false p) (decide_eq_false q)]; omega
/-! who was told -/
structure ToldSame (T ts : List Int) : Prop where
  nodup : T.Nodup
  mem : ∀ x, x ∈ T ↔ x ∈ ts
def addTo (T A : List Int) : Nat → List Int
  | 0 => T
  | k + 1 => if nth A k ∈ addTo T A k then addTo T A k else addTo T A k ++ [nth A k]
theorem addTo_yes {T A : List Int} {k : Nat} (h : nth A k ∈ addTo T A k) : addTo T A (k + 1) = addTo T A k := if_pos h
theorem addTo_no {T A : List Int} {k : Nat} (h : ¬ nth A k ∈ addTo T A k) : addTo T A (k + 1) = addTo T A k ++ [nth A k] := if_neg h
theorem addTo_mem {T A : List Int} {x : Int} : ∀ {k : Nat}, k ≤ A.length → (x ∈ addTo T A k ↔ x ∈ T ∨ x ∈ A.take k)
  | 0, _ => by simp [addTo]
  | k + 1, h => by
    have ih := addTo_mem (T := T) (x := x) (k := k) (A := A) (by omega)
    rw [take_nth A k (by omega), List.mem_append, List.mem_singleton]
    by_cases q : nth A k ∈ addTo T A k
    · rw [addTo_yes q, ih]
      constructor
      · rintro (z | z)
        · exact .inl z
        · exact .inr (.inl z)
      · rintro (z | z | rfl)
        · exact .inl z
        · exact .inr z
        · exact (addTo_mem (by omega)).1 q
    · rw [addTo_no q, List.mem_append, List.mem_singleton, ih]
      constructor
      · rintro ((z | z) | z)
        · exact .inl z
        · exact .inr (.inl z)
        · exact .inr (.inr z)
      · rintro (z | z | z)
        · exact .inl (.inl z)
        · exact .inl (.inr z)
        · exact .inr z
theorem addTo_nodup {T A : List Int} (h : T.Nodup) : ∀ k, (addTo T A k).Nodup
  | 0 => h
  | k + 1 => by
    by_cases q : nth A k ∈ addTo T A k
    · rw [addTo_yes q]; exact addTo_nodup h k
    · rw [addTo_no q]
      exact List.nodup_append.2 ⟨addTo_nodup h k, by simp, fun x hx y hy e => by
        rw [List.mem_singleton] at hy; subst hy; subst e; exact q hx⟩
theorem addTo_len (T A : List Int) : ∀ k, (addTo T A k).length ≤ T.length + k
  | 0 => Nat.le_refl _
  | k + 1 => by
    have := addTo_len T A k
    by_cases q : nth A k ∈ addTo T A k
    · rw [addTo_yes q]; omega
    · rw [addTo_no q]; simp; omega
theorem told_asc {h : HD} (e : houseOk h = true) : ToldSame h.ts h.ts := ⟨strict_nodup (asc_strict (houseOk_facts e).asc), fun _ => Iff.rfl⟩
theorem told_eq {T ts : List Int} (h : ToldSame T ts) (hs : StrictI ts) : sortL T = ts := strict_ext (strict_of (sortL_sorted T) ((sortL_perm T).nodup_iff.2 h.nodup)) hs fun x => by rw [sortL_mem, h.mem]
theorem told_length {T : List Int} {h : HD} (e : houseOk h = true) (t : ToldSame T h.ts) : T.length = h.ts.length := by
  have := told_eq t (asc_strict (houseOk_facts e).asc)
  rw [← this, sortL_len]
theorem told_12 {T : List Int} {h : HD} (e : houseOk h = true) (t : ToldSame T h.ts) : T.length ≤ 12 := by rw [told_length e t]; exact (houseOk_b e).ts
/-- one act: what was told -/
theorem told_act {T : List Int} {h : HD} {k a b c d : Int} (t : ToldSame T h.ts) (hk : k = 3) (hn : 0 ≤ (doAct h k a b c d).2) :
    ToldSame (addTo T (affected h.n h.xs h.ms a b) (affected h.n h.xs h.ms a b).length) (doAct h k a b c d).1.ts := by
  subst hk
  refine ⟨addTo_nodup t.nodup _, fun x => ?_⟩
  rw [addTo_mem (Nat.le_refl _), List.take_length]
  by_cases q : houseOk h = true ∧ actOk 3 a b c d = true
  · rw [doAct_3 q.1 q.2] at *
    have hw : (withdraw h a b).2.2 = true := by
      cases z : (withdraw h a b).2.2 with
      | true => rfl
      | false => simp [z] at hn
    have e2 : (withdraw h a b).1 = wH h a b := by
      unfold withdraw at *
      split at hw
      · rename_i z; rw [if_pos z]
      · cases hw
    show _ ↔ x ∈ (withdraw h a b).1.ts
    rw [e2]
    show _ ↔ x ∈ diffL (h.ts ++ newOnes h.ts (affected h.n h.xs h.ms a b))
    rw [diffL_mem, List.mem_append, newOnes_mem, t.mem]
    by_cases z : x ∈ h.ts <;> simp [z]
  · rw [doAct_no q] at hn
    simp at hn
theorem told_rest {T : List Int} {h : HD} {k a b c d : Int} (t : ToldSame T h.ts) (hn : ¬ (k = 3 ∧ 0 ≤ (doAct h k a b c d).2)) : ToldSame T (doAct h k a b c d).1.ts := by
  suffices e : (doAct h k a b c d).1.ts = h.ts by rw [e]; exact t
  by_cases q : houseOk h = true ∧ actOk k a b c d = true
  · rcases actOk_kind q.2 with rfl | rfl | rfl | rfl | rfl
    · rw [doAct_1 q.1 q.2]; show (makeCopy h a b c d).1.ts = _; unfold makeCopy; split <;> rfl
    · rw [doAct_2 q.1 q.2]; show (passDays h a).1.ts = _; unfold passDays; split <;> rfl
    · rw [doAct_3 q.1 q.2] at *
      have hw : (withdraw h a b).2.2 = false := by
        cases z : (withdraw h a b).2.2 with
        | false => rfl
        | true => exact absurd ⟨rfl, by simp [z]⟩ hn
      show (withdraw h a b).1.ts = _
      unfold withdraw at *
      split at hw
      · cases hw
      · rename_i z; rw [if_neg z]
    · rw [doAct_4 q.1 q.2]
    · rw [doAct_5 q.1 q.2]
  · rw [doAct_no q]
/-- the numbers below n -/
def below : Nat → List Int
  | 0 => []
  | k + 1 => below k ++ [(k : Int)]
theorem below_mem {x : Int} : ∀ {n : Nat}, x ∈ below n ↔ 0 ≤ x ∧ x < n
  | 0 => by simp [below]
  | n + 1 => by rw [below, List.mem_append, List.mem_singleton, below_mem]; omega
theorem below_strict : ∀ n, StrictI (below n)
  | 0 => List.Pairwise.nil
  | n + 1 => by
    unfold StrictI
    rw [below, List.pairwise_append]
    refine ⟨below_strict n, by simp, fun x hx y hy => ?_⟩
    rw [List.mem_singleton] at hy
    have := below_mem.1 hx
    omega
theorem below_len : ∀ n, (below n).length = n
  | 0 => rfl
  | n + 1 => by simp [below, below_len n]
theorem safeTo_in {ts : List Int} {x : Int} : ∀ {k : Nat}, x ∈ safeTo ts k ↔ (0 ≤ x ∧ x < k) ∧ ¬ x ∈ ts
  | 0 => by simp [safeTo]; omega
  | k + 1 => by
    have ih := safeTo_in (ts := ts) (x := x) (k := k)
    by_cases q : (k : Int) ∈ ts
    · rw [safeTo_yes q, ih]
      constructor
      · rintro ⟨a, c⟩; exact ⟨by omega, c⟩
      · rintro ⟨a, c⟩; exact ⟨⟨a.1, by
          rcases Int.lt_or_le x k with z | z
          · exact z
          · obtain rfl : x = k := by omega
            exact absurd q c⟩, c⟩
    · rw [safeTo_no q, List.mem_append, List.mem_singleton, ih]
      constructor
      · rintro (⟨a, c⟩ | rfl)
        · exact ⟨by omega, c⟩
        · exact ⟨by omega, q⟩
      · rintro ⟨a, c⟩
        rcases Int.lt_or_le x k with z | z
        · exact .inl ⟨⟨a.1, z⟩, c⟩
        · exact .inr (by omega)
theorem safeTo_nodup (ts : List Int) : ∀ k, (safeTo ts k).Nodup
  | 0 => by simp [safeTo]
  | k + 1 => by
    by_cases q : (k : Int) ∈ ts
    · rw [safeTo_yes q]; exact safeTo_nodup ts k
    · rw [safeTo_no q]
      exact List.nodup_append.2 ⟨safeTo_nodup ts k, by simp, fun x hx y hy e => by
        rw [List.mem_singleton] at hy; subst hy; subst e
        have := (safeTo_in.1 hx).1; omega⟩
/-- as many copies are safe as were not told -/
theorem safe_count {T : List Int} {h : HD} (e : houseOk h = true) (t : ToldSame T h.ts) : ((safeL h).length : Int) = (h.n : Int) - (T.length : Int) := by
  have F := houseOk_facts e
  have hs := asc_strict F.asc
  have hn : (h.ts ++ safeTo h.ts h.n).Nodup := List.nodup_append.2 ⟨strict_nodup hs, safeTo_nodup _ _, fun x hx y hy q => by subst q; exact (safeTo_in.1 hy).2 hx⟩
  have hm : sortL (h.ts ++ safeTo h.ts h.n) = below h.n := strict_ext (strict_of (sortL_sorted _) ((sortL_perm _).nodup_iff.2 hn)) (below_strict _) fun x => by
    rw [sortL_mem, List.mem_append, safeTo_in, below_mem]
    constructor
    · rintro (z | z)
      · obtain ⟨i, hi, q⟩ := List.getElem_of_mem z
        have := F.told i hi
        rw [show nth h.ts i = h.ts[i] by simp [nth, hi], q] at this
        exact this
      · exact z.1
    · intro z
      by_cases q : x ∈ h.ts
      · exact .inl q
      · exact .inr ⟨z, q⟩
  have hl := congrArg List.length hm
  rw [sortL_len, below_len, List.length_append] at hl
  have := told_length e t
  rw [safeL_t e]; omega
end Go.Proofs.Ytlipfkalehikkaa
