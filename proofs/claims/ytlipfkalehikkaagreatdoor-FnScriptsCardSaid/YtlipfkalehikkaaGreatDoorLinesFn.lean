/- The lines of a script and their acts: the plain law. -/
import Derived.Test.YtlipfkalehikkaaGreatDoorSplitFn
import Derived.Test.YtlipfkalehikkaaGreatDoorGJ
import Derived.Lib.Split
import Derived.Lib.SplitLaws
namespace Go.Proofs.YtlipfkalehikkaaGreatDoor
open Go.ChangeShapes Go.WideShapes Go.ChangeAt Go.RowKit

/-- the lines behind k bytes: those that are whole, and the one under way -/
def ln (l : List UInt8) : Nat → List (List UInt8) × List UInt8
  | 0 => ([], [])
  | k + 1 => if bt l k = 10 then ((ln l k).1 ++ [(ln l k).2], []) else ((ln l k).1, (ln l k).2 ++ [bt l k])
def linesOf (l : List UInt8) : List (List UInt8) := (ln l l.length).1 ++ [(ln l l.length).2]
theorem ln_nl {l : List UInt8} {k : Nat} (h : bt l k = 10) : ln l (k + 1) = ((ln l k).1 ++ [(ln l k).2], []) := by show (if _ then _ else _) = _; rw [if_pos h]
theorem ln_ch {l : List UInt8} {k : Nat} (h : ¬ bt l k = 10) : ln l (k + 1) = ((ln l k).1, (ln l k).2 ++ [bt l k]) := by show (if _ then _ else _) = _; rw [if_neg h]
theorem ln_cur (l : List UInt8) : ∀ {k : Nat}, k ≤ l.length → (ln l k).2.length ≤ k ∧ (ln l k).2 = (l.take k).drop (k - (ln l k).2.length)
  | 0, _ => by simp [ln]
  | k + 1, h => by
    have ih := ln_cur l (k := k) (by omega)
    by_cases q : bt l k = 10
    · rw [ln_nl q]
      refine ⟨by simp, ?_⟩
      rw [List.length_nil, List.drop_eq_nil_of_le (by simp; omega)]
    · rw [ln_ch q]
      have hk : k < l.length := by omega
      refine ⟨by simp; omega, ?_⟩
      simp only [List.length_append, List.length_cons, List.length_nil]
      rw [List.take_succ_eq_append_getElem hk, List.drop_append_of_le_length (by simp; omega)]
      rw [show k + 1 - ((ln l k).2.length + (0 + 1)) = k - (ln l k).2.length by omega, ← ih.2]
      simp [bt, hk]
theorem ln_count (l : List UInt8) : ∀ k, (ln l k).1.length ≤ k
  | 0 => by simp [ln]
  | k + 1 => by
    have ih := ln_count l k
    by_cases q : bt l k = 10
    · rw [ln_nl q]; simp; omega
    · rw [ln_ch q]; simp; omega
theorem ln_pre (l : List UInt8) (k : Nat) : ∀ d, (ln l k).1 <+: (ln l (k + d)).1
  | 0 => List.prefix_refl _
  | d + 1 => by
    have ih := ln_pre l k d
    by_cases q : bt l (k + d) = 10
    · have e := ln_nl q
      rw [show k + (d + 1) = k + d + 1 by omega, e]
      exact ih.trans (List.prefix_append _ _)
    · have e := ln_ch q
      rw [show k + (d + 1) = k + d + 1 by omega, e]
      exact ih
/-- a line that ends at k is a line of the text -/
theorem ln_line {l : List UInt8} {k : Nat} (hk : k ≤ l.length) (hb : k = l.length ∨ bt l k = 10) : ((ln l k).1 ++ [(ln l k).2]) <+: linesOf l := by
  unfold linesOf
  rcases Nat.lt_or_ge k l.length with q | q
  · have hb' : bt l k = 10 := by rcases hb with z | z; omega; exact z
    have p := ln_pre l (k + 1) (l.length - (k + 1))
    rw [show k + 1 + (l.length - (k + 1)) = l.length by omega, ln_nl hb'] at p
    exact p.trans (List.prefix_append _ _)
  · obtain rfl : k = l.length := by omega
    exact List.prefix_refl _
/-! the library's way -/
def stl (s : List (List UInt8) × List UInt8) (c : UInt8) : List (List UInt8) × List UInt8 := if c = 10 then (s.1 ++ [s.2], []) else (s.1, s.2 ++ [c])
theorem ln_fold (l : List UInt8) : ∀ {k : Nat}, k ≤ l.length → ln l k = (l.take k).foldl stl ([], [])
  | 0, _ => by simp [ln]
  | k + 1, h => by
    have hk : k < l.length := by omega
    rw [List.take_succ_eq_append_getElem hk, List.foldl_append, ← ln_fold l (k := k) (by omega)]
    have e : bt l k = l[k] := by simp [bt, hk]
    show (if _ then _ else _) = stl (ln l k) l[k]
    rw [e]; rfl
theorem linesOf_fold (l : List UInt8) : linesOf l = (l.foldl stl ([], [])).1 ++ [(l.foldl stl ([], [])).2] := by
  have := ln_fold l (Nat.le_refl _)
  rw [List.take_length] at this
  unfold linesOf
  rw [this]
theorem stl_pre : ∀ (l : List UInt8) (A : List (List UInt8)) (c : List UInt8), (l.foldl stl (A, c)).1 = A ++ (l.foldl stl ([], c)).1 ∧ (l.foldl stl (A, c)).2 = (l.foldl stl ([], c)).2
  | [], A, c => by simp
  | x :: l, A, c => by
    by_cases h : x = 10
    · have e : ∀ B, stl (B, c) x = (B ++ [c], []) := fun B => by unfold stl; rw [if_pos h]
      rw [List.foldl_cons, List.foldl_cons, e, e]
      have a := stl_pre l (A ++ [c]) []
      have b := stl_pre l ([] ++ [c]) []
      exact ⟨by rw [a.1, b.1]; simp, by rw [a.2, b.2]⟩
    · have e : ∀ B, stl (B, c) x = (B, c ++ [x]) := fun B => by unfold stl; rw [if_neg h]
      rw [List.foldl_cons, List.foldl_cons, e, e]
      exact stl_pre l A (c ++ [x])
theorem stl_plain : ∀ (a : List UInt8) (A : List (List UInt8)) (c : List UInt8), ¬ (10 : UInt8) ∈ a → a.foldl stl (A, c) = (A, c ++ a)
  | [], A, c, _ => by simp
  | x :: a, A, c, h => by
    have hx : ¬ x = 10 := fun e => h (by simp [e])
    have e : stl (A, c) x = (A, c ++ [x]) := by unfold stl; rw [if_neg hx]
    rw [List.foldl_cons, e, stl_plain a A (c ++ [x]) (fun z => h (by simp [z]))]
    simp
theorem lines_one {a : List UInt8} (h : ¬ (10 : UInt8) ∈ a) : linesOf a = [a] := by
  rw [linesOf_fold, stl_plain a [] [] h]; simp
theorem lines_cons {a r : List UInt8} (h : ¬ (10 : UInt8) ∈ a) : linesOf (a ++ 10 :: r) = a :: linesOf r := by
  rw [linesOf_fold, linesOf_fold, List.foldl_append, stl_plain a [] [] h, List.foldl_cons]
  have e : stl ([], [] ++ a) 10 = ([a], []) := by unfold stl; rw [if_pos rfl]; simp
  rw [e]
  have p := stl_pre r [a] []
  rw [p.1, p.2]; simp
theorem index_at : ∀ (a r : List UInt8), ¬ (10 : UInt8) ∈ a → Lib.index (a ++ 10 :: r) [10] = (a.length : Int)
  | [], r, _ => by unfold Lib.index; simp
  | x :: a, r, h => by
    have hx : ¬ x = 10 := fun e => h (by simp [e])
    have ih := index_at a r (fun z => h (by simp [z]))
    have e1 : ([10] : List UInt8).isPrefixOf (x :: (a ++ 10 :: r)) = false := by simp [List.isPrefixOf, Ne.symm hx]
    show Lib.index (x :: (a ++ 10 :: r)) [10] = _
    unfold Lib.index
    rw [e1, ih]
    have : ¬ (((a.length : Int) == -1) = true) := by rw [beq_iff_eq]; omega
    simp [this]
theorem split_first : ∀ l : List UInt8, (¬ (10 : UInt8) ∈ l) ∨ ∃ a r, l = a ++ 10 :: r ∧ ¬ (10 : UInt8) ∈ a
  | [] => .inl (by simp)
  | x :: l => by
    by_cases h : x = 10
    · subst h; exact .inr ⟨[], l, rfl, by simp⟩
    · rcases split_first l with q | ⟨a, r, rfl, q⟩
      · exact .inl (by simp [q, Ne.symm h])
      · exact .inr ⟨x :: a, r, rfl, by simp [q, Ne.symm h]⟩
theorem splitK_lines : ∀ (n : Nat) (s : List UInt8), s.length ≤ n → Lib.splitK [10] 0 (s.count 10) s = linesOf s
  | n, s, hn => by
    rcases split_first s with q | ⟨a, r, rfl, q⟩
    · rw [List.count_eq_zero.2 q, lines_one q]; rfl
    · have hc : (a ++ 10 :: r).count 10 = r.count 10 + 1 := by rw [List.count_append, List.count_eq_zero.2 q, List.count_cons_self]; omega
      match n, hn with
      | n + 1, hn =>
        rw [hc, lines_cons q]
        have hi := index_at a r q
        have ih := splitK_lines n r (by simp at hn; omega)
        unfold Lib.splitK
        have : ¬ ((Lib.index (a ++ 10 :: r) [10] == -1) = true) := by rw [hi, beq_iff_eq]; omega
        rw [if_neg this, hi]
        simp [ih]
      | 0, hn => simp at hn
theorem split_lines (s : List UInt8) : (Lib.splitB ⟨#[10]⟩ 0 (Lib.countB (bstr s) ⟨#[10]⟩) (bstr s)).map (·.data.toList) = linesOf s := by
  rw [Lib.splitB_data]
  have e : (bstr s).data.toList = s := by simp [bstr]
  have c : Lib.countB (bstr s) ⟨#[10]⟩ = s.count 10 := by
    show Lib.count (bstr s).data.toList [10] = _
    rw [e, Lib.count_one]
  rw [e, c]
  exact splitK_lines _ s (Nat.le_refl _)
/-! the acts of the lines -/
def pl (p : Parsed) : List Int := [p.k, p.a, p.b, p.c, p.d]
def actStep (o : Option (List Int)) (x : List UInt8) : Option (List Int) := o.bind fun xs => if splitFields x = some [] then some xs else if (parseAct (splitFields x)).2 = true then some (xs ++ pl (parseAct (splitFields x)).1) else none
def scriptL (A : List (List UInt8)) : Option (List Int) := A.foldl actStep (some [])
theorem scriptL_snoc (A : List (List UInt8)) (x : List UInt8) : scriptL (A ++ [x]) = actStep (scriptL A) x := by unfold scriptL; rw [List.foldl_append]; rfl
theorem step_blank {xs : List Int} {x : List UInt8} (h : splitFields x = some []) : actStep (some xs) x = some xs := by show (if _ then _ else _) = _; rw [if_pos h]
theorem step_act {xs : List Int} {x : List UInt8} {p : Parsed} (h : ¬ splitFields x = some []) (hp : parseAct (splitFields x) = (p, true)) : actStep (some xs) x = some (xs ++ pl p) := by show (if _ then _ else _) = _; rw [if_neg h, hp, if_pos rfl]
theorem step_bad {xs : List Int} {x : List UInt8} {p : Parsed} (h : ¬ splitFields x = some []) (hp : parseAct (splitFields x) = (p, false)) : actStep (some xs) x = none := by show (if _ then _ else _) = _; rw [if_neg h, hp, if_neg (by simp)]
theorem steps_none : ∀ B : List (List UInt8), B.foldl actStep none = none
  | [] => rfl
  | _ :: B => steps_none B
theorem scriptL_pre {A C : List (List UInt8)} (h : A <+: C) (hA : scriptL A = none) : scriptL C = none := by
  obtain ⟨B, rfl⟩ := h
  unfold scriptL at *
  rw [List.foldl_append, hA, steps_none]
/-- the acts of a text, if it is a script -/
def script (l : List UInt8) : Option (List Int) := if l.length ≤ 20000 then (match scriptL (linesOf l) with | some xs => if xs.length ≤ 200 then some xs else none | none => none) else none
theorem scr_long {l : List UInt8} (h : 20000 < l.length) : script l = none := by unfold script; rw [if_neg (by omega)]
theorem scr_bad {l : List UInt8} {A : List (List UInt8)} (hA : A <+: linesOf l) (h : scriptL A = none) : script l = none := by unfold script; rw [scriptL_pre hA h]; split <;> rfl
theorem script_many {l : List UInt8} {xs : List Int} (h : scriptL (linesOf l) = some xs) (hn : 200 < xs.length) : script l = none := by
  unfold script
  rw [h]
  split
  · show (if _ then _ else _) = _; rw [if_neg (by omega)]
  · rfl
theorem script_some {l : List UInt8} {xs : List Int} (hl : l.length ≤ 20000) (h : scriptL (linesOf l) = some xs) (hn : xs.length ≤ 200) : script l = some xs := by
  unfold script
  rw [if_pos hl, h]
  show (if _ then _ else _) = _; rw [if_pos hn]
end Go.Proofs.YtlipfkalehikkaaGreatDoor
