/- Letters to the owners of drawn copies: the plain law. -/
import Derived.Test.YtfnlniknclkeaaaGB
import Derived.Test.YtfnlniknclkeaaaToldFn
import Derived.Test.YtfnlniknclkeaaaGC
import Derived.Test.YtfnlniknclkeaaaCountLetters
namespace Go.Proofs.Ytfnlniknclkeaaa
open Go.ChangeShapes Go.WideShapes Go.ChangeAt Go.RowKit

theorem copiesTo_app (ls : List (Int × List Int)) (x : Int × List Int) : ∀ k, k ≤ ls.length → copiesTo (ls ++ [x]) k = copiesTo ls k
  | 0, _ => rfl
  | k + 1, h => by simp only [copiesTo]; rw [copiesTo_app ls x k (by omega), (ls_app (x := x) (show k < ls.length by omega)).2]
theorem ownersTo_app (ls : List (Int × List Int)) (x : Int × List Int) : ∀ k, k ≤ ls.length → ownersTo (ls ++ [x]) k = ownersTo ls k
  | 0, _ => rfl
  | k + 1, h => by simp only [ownersTo]; rw [ownersTo_app ls x k (by omega), (ls_app (x := x) (show k < ls.length by omega)).1]
theorem filt_split (os : List Int) (o : Nat) : ∀ D : List Int, (D.filter (fun x => decide (nth os x.toNat < ((o + 1 : Nat) : Int)))).length = (D.filter (fun x => decide (nth os x.toNat < (o : Int)))).length + (D.filter (pickP os o)).length
  | [] => rfl
  | x :: D => by
    have ih := filt_split os o D
    simp only [List.filter_cons]
    by_cases h1 : nth os x.toNat < (o : Int)
    · have a : decide (nth os x.toNat < ((o + 1 : Nat) : Int)) = true := decide_eq_true (by omega)
      have b : pickP os o x = false := by unfold pickP; simp; omega
      simp only [a, b, decide_eq_true h1, if_true, List.length_cons]
      rw [ih]; simp; omega
    · by_cases h2 : nth os x.toNat = (o : Int)
      · have a : decide (nth os x.toNat < ((o + 1 : Nat) : Int)) = true := decide_eq_true (by omega)
        have b : pickP os o x = true := by unfold pickP; rw [h2]; simp
        simp only [a, b, decide_eq_false h1, if_true, List.length_cons]
        rw [ih]; simp; omega
      · have a : decide (nth os x.toNat < ((o + 1 : Nat) : Int)) = false := decide_eq_false (by omega)
        have b : pickP os o x = false := by unfold pickP; simpa using h2
        simp only [a, b, decide_eq_false h1]
        simpa using ih
structure PostI (D os : List Int) (o : Nat) (ls : List (Int × List Int)) : Prop where
  bd : ∀ k, k < ls.length → 0 ≤ lOwner ls k ∧ lOwner ls k < o
  cop : ∀ k, k < ls.length → lCopies ls k ≠ [] ∧ lCopies ls k = pickO D os (lOwner ls k)
  asc : ∀ i j, i < j → j < ls.length → lOwner ls i < lOwner ls j
  own : (ownersTo ls ls.length).Nodup
  mem : ∀ x, x ∈ copiesTo ls ls.length → x ∈ D ∧ nth os x.toNat < o
  nod : (copiesTo ls ls.length).Nodup
  len : (copiesTo ls ls.length).length = (D.filter (fun x => decide (nth os x.toNat < (o : Int)))).length
theorem strict_nodup' {xs : List Int} (h : StrictI xs) : xs.Nodup := List.Pairwise.imp (fun h => Int.ne_of_lt h) h
theorem postI {D os : List Int} (hD : StrictI D) (h0 : ∀ x ∈ D, 0 ≤ nth os x.toNat) : ∀ o : Nat, PostI D os o (postTo D os o)
  | 0 => by
    refine ⟨fun k hk => absurd hk (by simp [postTo]), fun k hk => absurd hk (by simp [postTo]), fun i j _ hj => absurd hj (by simp [postTo]), by simp [postTo, ownersTo], fun x hx => absurd hx (by simp [postTo, copiesTo]), by simp [postTo, copiesTo], ?_⟩
    have : D.filter (fun x => decide (nth os x.toNat < ((0 : Nat) : Int))) = [] := List.filter_eq_nil_iff.2 fun x hx => by have := h0 x hx; simp; omega
    rw [this]; rfl
  | o + 1 => by
    have ih := postI hD h0 o
    have fs := filt_split os o D
    by_cases hp : (pickO D os o).length = 0
    · rw [postTo_no hp]
      exact ⟨fun k hk => by have := ih.bd k hk; omega, ih.cop, ih.asc, ih.own, fun x hx => by have := ih.mem x hx; exact ⟨this.1, by omega⟩, ih.nod, by rw [ih.len, fs]; unfold pickO at hp; omega⟩
    · rw [postTo_yes (by omega)]
      generalize postTo D os o = ls at *
      have el : (ls ++ [((o : Int), pickO D os o)]).length = ls.length + 1 := by simp
      have hl := ls_last (ls := ls) (x := ((o : Int), pickO D os o))
      have ha : ∀ {i}, i < ls.length → lOwner (ls ++ [((o : Int), pickO D os o)]) i = lOwner ls i ∧ lCopies (ls ++ [((o : Int), pickO D os o)]) i = lCopies ls i := fun h => ls_app h
      have ec : copiesTo (ls ++ [((o : Int), pickO D os o)]) (ls ++ [((o : Int), pickO D os o)]).length = copiesTo ls ls.length ++ pickO D os o := by
        rw [el]; simp only [copiesTo]; rw [copiesTo_app _ _ _ (Nat.le_refl _), hl.2]
      have eo : ownersTo (ls ++ [((o : Int), pickO D os o)]) (ls ++ [((o : Int), pickO D os o)]).length = ownersTo ls ls.length ++ [(o : Int)] := by
        rw [el]; simp only [ownersTo]; rw [ownersTo_app _ _ _ (Nat.le_refl _), hl.1]
      have hpm : ∀ x, x ∈ pickO D os o → x ∈ D ∧ nth os x.toNat = (o : Int) := fun x hx => by
        simp only [pickO, List.mem_filter, pickP, beq_iff_eq] at hx
        exact hx
      refine ⟨fun k hk => ?_, fun k hk => ?_, fun i j hij hj => ?_, ?_, fun x hx => ?_, ?_, ?_⟩
      · rw [el] at hk
        rcases Nat.lt_or_ge k ls.length with q | q
        · rw [(ha q).1]; have := ih.bd k q; omega
        · obtain rfl : k = ls.length := by omega
          rw [hl.1]; simp only []; omega
      · rw [el] at hk
        rcases Nat.lt_or_ge k ls.length with q | q
        · rw [(ha q).1, (ha q).2]; exact ih.cop k q
        · obtain rfl : k = ls.length := by omega
          rw [hl.1, hl.2]
          exact ⟨fun e => hp (by have e' : pickO D os o = [] := e; rw [e']; rfl), rfl⟩
      · rw [el] at hj
        rcases Nat.lt_or_ge j ls.length with q | q
        · rw [(ha q).1, (ha (show i < ls.length by omega)).1]; exact ih.asc i j hij q
        · obtain rfl : j = ls.length := by omega
          rw [hl.1, (ha hij).1]
          exact (ih.bd i hij).2
      · rw [eo]
        refine nodup_snoc ih.own fun hm => ?_
        obtain ⟨i, hi, e⟩ := mem_ownersTo hm
        have := ih.bd i hi
        omega
      · rw [ec, List.mem_append] at hx
        rcases hx with hx | hx
        · have := ih.mem x hx; exact ⟨this.1, by omega⟩
        · have := hpm x hx; exact ⟨this.1, by omega⟩
      · rw [ec]
        refine List.nodup_append.2 ⟨ih.nod, strict_nodup' (strict_filter hD _), fun a ha' b hb e => ?_⟩
        subst e
        have h1 := ih.mem a ha'
        have h2 := hpm a hb
        omega
      · rw [ec, List.length_append, ih.len, fs]; rfl
/-- what the law of letters asks -/
structure LetLaw (n : Nat) (xs os ss : List Int) (ls : List (Int × List Int)) : Prop where
  owners : ownersOk n xs os = true
  told : toldOnce ls = true
  count : countL ls = ((newOnes [] ss).length : Int)
  none : newOnes ss ss = []
  bd : ∀ k, k < ls.length → 0 ≤ lOwner ls k ∧ lOwner ls k ≤ 20
  some : ∀ k, k < ls.length → 0 < (lCopies ls k).length ∧ (lCopies ls k).length ≤ ss.length
  asc : ∀ k, 0 < k → k < ls.length → lOwner ls (k - 1) < lOwner ls k
  each : ∀ k i, k < ls.length → i < (lCopies ls k).length → 0 ≤ nth (lCopies ls k) i ∧ nth (lCopies ls k) i < n ∧ nth os (nth (lCopies ls k) i).toNat = lOwner ls k ∧ nth (lCopies ls k) i ∈ ss
  num : ls.length ≤ 21
theorem letLaw20 {n : Nat} {xs os ss : List Int} (hch : chainOk n xs = true) (hol : os.length = n) (hob : ∀ j, j < os.length → 0 ≤ nth os j ∧ nth os j ≤ 20) (hsb : ∀ j, j < ss.length → 0 ≤ nth ss j ∧ nth ss j ≤ (n : Int) - 1) : LetLaw n xs os ss (lettersFor n xs os ss) := by
  have hok : ownersOk n xs os = true := by
    unfold ownersOk
    simp only [Bool.and_eq_true, decide_eq_true_eq]
    exact ⟨hch, hol, allTo_of fun k hk => by have := hob k hk; simp [inB]; omega⟩
  have hin : allTo (inChain n ss) ss.length = true := allTo_of fun k hk => by have := hsb k hk; simp [inChain, inB]; omega
  rw [letters_t hok hin]
  have hmem : ∀ x, x ∈ ss → 0 ≤ x ∧ x < n := fun x hx => by
    obtain ⟨i, hi, e⟩ := List.getElem_of_mem hx
    have := hsb i hi
    rw [show nth ss i = x by simp [nth, hi, e]] at this
    omega
  have hDm : ∀ x, x ∈ diffL ss → 0 ≤ x ∧ x < n := fun x hx => hmem x (diffL_mem.1 hx)
  have hon : ∀ x, x ∈ diffL ss → 0 ≤ nth os x.toNat ∧ nth os x.toNat ≤ 20 := fun x hx => by have := hDm x hx; exact hob _ (by omega)
  have hI := postI (os := os) (diffL_strict ss) (fun x hx => (hon x hx).1) 21
  have hnum := postTo_len (diffL ss) os 21
  have hnew : newOnes [] ss = diffL ss := by simp [newOnes]
  generalize postTo (diffL ss) os 21 = ls at *
  refine ⟨hok, told_yes hI.own hI.nod, ?_, ?_, fun k hk => by have := hI.bd k hk; omega, fun k hk => ?_, fun k h0 hk => hI.asc _ _ (by omega) hk, fun k i hk hi => ?_, hnum⟩
  · have := copiesTo_len ls ls.length
    unfold countL
    rw [← this, hI.len, hnew]
    congr 2
    exact List.filter_eq_self.2 fun x hx => by have := hon x hx; simp; omega
  · unfold newOnes
    exact List.filter_eq_nil_iff.2 fun x hx => by simp [diffL_mem.1 hx]
  · obtain ⟨h1, h2⟩ := hI.cop k hk
    refine ⟨List.length_pos_iff.2 h1, ?_⟩
    rw [h2]
    exact Nat.le_trans (List.length_filter_le _ _) (diffL_len ss)
  · obtain ⟨h1, h2⟩ := hI.cop k hk
    have hm := nth_mem (lCopies ls k) i hi
    generalize nth (lCopies ls k) i = x at *
    rw [h2] at hm
    simp only [pickO, List.mem_filter, pickP, beq_iff_eq] at hm
    have := hDm _ hm.1
    exact ⟨this.1, this.2, hm.2, diffL_mem.1 hm.1⟩
theorem letLaw {n : Nat} {xs os ss : List Int} (hch : chainOk n xs = true) (hol : os.length = n) (hob : ∀ j, j < os.length → 0 ≤ nth os j ∧ nth os j ≤ 4) (hsb : ∀ j, j < ss.length → 0 ≤ nth ss j ∧ nth ss j ≤ (n : Int) - 1) : LetLaw n xs os ss (lettersFor n xs os ss) :=
  letLaw20 hch hol (fun j hj => by have := hob j hj; omega) hsb
end Go.Proofs.Ytfnlniknclkeaaa
