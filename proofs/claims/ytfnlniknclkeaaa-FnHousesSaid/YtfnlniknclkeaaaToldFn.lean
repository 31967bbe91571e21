/- Whether letters name no owner and no copy twice, as data. -/
import Derived.Test.YtfnlniknclkeaaaGA
import Derived.Maps.OwnOps
import Derived.Maps.Views
namespace Go.Proofs.Ytfnlniknclkeaaa
open Go.ChangeShapes Go.WideShapes Go.ChangeAt Go.RowKit

def ownersTo (ls : List (Int × List Int)) : Nat → List Int
  | 0 => []
  | k + 1 => ownersTo ls k ++ [lOwner ls k]
def copiesTo (ls : List (Int × List Int)) : Nat → List Int
  | 0 => []
  | k + 1 => copiesTo ls k ++ lCopies ls k
def toldOnce (ls : List (Int × List Int)) : Bool := decide (ownersTo ls ls.length).Nodup && decide (copiesTo ls ls.length).Nodup
theorem ownersTo_sub (ls : List (Int × List Int)) (k : Nat) : ∀ n, k ≤ n → (ownersTo ls k).Sublist (ownersTo ls n)
  | 0, h => by obtain rfl : k = 0 := by omega
               exact List.Sublist.refl _
  | n + 1, h => by
    rcases Nat.lt_or_ge n k with h1 | h1
    · obtain rfl : k = n + 1 := by omega
      exact List.Sublist.refl _
    · exact (ownersTo_sub ls k n h1).trans (List.sublist_append_left _ _)
theorem copiesTo_sub (ls : List (Int × List Int)) (k : Nat) : ∀ n, k ≤ n → (copiesTo ls k).Sublist (copiesTo ls n)
  | 0, h => by obtain rfl : k = 0 := by omega
               exact List.Sublist.refl _
  | n + 1, h => by
    rcases Nat.lt_or_ge n k with h1 | h1
    · obtain rfl : k = n + 1 := by omega
      exact List.Sublist.refl _
    · exact (copiesTo_sub ls k n h1).trans (List.sublist_append_left _ _)
theorem not_nodup_snoc {L : List Int} {x : Int} (h : x ∈ L) : ¬ (L ++ [x]).Nodup := fun hn => by
  rw [List.nodup_append] at hn
  exact hn.2.2 x h x (by simp) rfl
theorem nodup_snoc {L : List Int} {x : Int} (h : L.Nodup) (hx : ¬ x ∈ L) : (L ++ [x]).Nodup := by
  rw [List.nodup_append]
  exact ⟨h, by simp, fun a ha b hb e => by simp at hb; subst hb; subst e; exact hx ha⟩
theorem told_owner {ls : List (Int × List Int)} {k : Nat} (hk : k < ls.length) (h : lOwner ls k ∈ ownersTo ls k) : toldOnce ls = false := by
  have h1 : ¬ (ownersTo ls ls.length).Nodup := fun hn => not_nodup_snoc h (hn.sublist (ownersTo_sub ls (k + 1) ls.length hk))
  simp [toldOnce, h1]
theorem told_copy {ls : List (Int × List Int)} {k j : Nat} (hk : k < ls.length) (hj : j < (lCopies ls k).length) (h : nth (lCopies ls k) j ∈ copiesTo ls k ++ (lCopies ls k).take j) : toldOnce ls = false := by
  have h1 : ¬ (copiesTo ls ls.length).Nodup := fun hn => by
    have h2 := hn.sublist (copiesTo_sub ls (k + 1) ls.length hk)
    have h3 : (copiesTo ls k ++ (lCopies ls k).take (j + 1)).Sublist (copiesTo ls (k + 1)) := List.Sublist.append_left (List.take_sublist _ _) _
    have h4 := h2.sublist h3
    rw [take_nth _ j hj, ← List.append_assoc] at h4
    exact not_nodup_snoc h h4
  simp [toldOnce, h1]
theorem told_yes {ls : List (Int × List Int)} (h1 : (ownersTo ls ls.length).Nodup) (h2 : (copiesTo ls ls.length).Nodup) : toldOnce ls = true := by simp [toldOnce, h1, h2]
theorem copies_step {ls : List (Int × List Int)} {k j : Nat} (hj : j < (lCopies ls k).length) : copiesTo ls k ++ (lCopies ls k).take (j + 1) = (copiesTo ls k ++ (lCopies ls k).take j) ++ [nth (lCopies ls k) j] := by
  rw [take_nth _ j hj, List.append_assoc]
theorem copies_end (ls : List (Int × List Int)) (k : Nat) : copiesTo ls k ++ (lCopies ls k).take (lCopies ls k).length = copiesTo ls (k + 1) := by
  rw [List.take_length]; rfl
theorem mem_ownersTo {ls : List (Int × List Int)} {x : Int} : ∀ {k : Nat}, x ∈ ownersTo ls k → ∃ i, i < k ∧ lOwner ls i = x
  | 0, h => by simp [ownersTo] at h
  | k + 1, h => by
    simp only [ownersTo, List.mem_append, List.mem_singleton] at h
    rcases h with h | h
    · obtain ⟨i, hi, e⟩ := mem_ownersTo h
      exact ⟨i, by omega, e⟩
    · exact ⟨k, by omega, h.symm⟩
theorem owner_mem {ls : List (Int × List Int)} : ∀ {k i : Nat}, i < k → lOwner ls i ∈ ownersTo ls k
  | k + 1, i, h => by
    simp only [ownersTo, List.mem_append, List.mem_singleton]
    rcases Nat.lt_succ_iff_lt_or_eq.1 h with h | h
    · exact .inl (owner_mem h)
    · subst h; exact .inr rfl
def otherOwner (ls : List (Int × List Int)) (k i : Nat) : Bool := decide (lOwner ls i ≠ lOwner ls k)
theorem other_all {ls : List (Int × List Int)} {k : Nat} (h : allTo (otherOwner ls k) k = true) : ¬ lOwner ls k ∈ ownersTo ls k := fun hm => by
  obtain ⟨i, hi, e⟩ := mem_ownersTo hm
  have := allTo_at h hi
  simp [otherOwner, e] at this
theorem copiesTo_len (ls : List (Int × List Int)) : ∀ k, ((copiesTo ls k).length : Int) = sumTo (lLen ls) k
  | 0 => rfl
  | k + 1 => by simp only [copiesTo, sumTo, List.length_append, ← copiesTo_len ls k, lLen]; omega
theorem copiesTo_bd (ls : List (Int × List Int)) (k : Nat) (hk : k ≤ ls.length) : ((copiesTo ls k).length : Int) ≤ bulk ls := by
  have := bulkTo_le ls k hk
  have h2 := copiesTo_len ls k
  unfold bulkTo at this
  omega
/-- the map that holds 1 at each number of a list -/
def mapOf {H : Type} (L : List Int) : DataW H := L.foldl (fun D x => D.put (.int .i64 x) (.lit (.int .i64 1))) (.map [])
theorem mapOf_snoc {H : Type} (L : List Int) (x : Int) : mapOf (H := H) (L ++ [x]) = (mapOf L).put (.int .i64 x) (.lit (.int .i64 1)) := by simp [mapOf, List.foldl_append]
theorem mapOf_isMap {H : Type} (L : List Int) : Maps.IsMap (mapOf (H := H) L) := by
  unfold mapOf
  suffices ∀ (L : List Int) (D : DataW H), Maps.IsMap D → Maps.IsMap (L.foldl (fun D x => D.put (.int .i64 x) (.lit (.int .i64 1))) D) from this L _ Maps.isMap_empty
  intro L
  induction L with
  | nil => intro D h; exact h
  | cons x r ih => intro D h; exact ih _ (h.put _ _)
theorem mapOf_no {H : Type} {x : Int} (z : DataW H) : ∀ (L : List Int), ¬ x ∈ L → (mapOf (H := H) L).atKey (.int .i64 x) z = z := by
  intro L
  suffices ∀ (L : List Int) (D : DataW H), (D.atKey (.int .i64 x) z = z) → ¬ x ∈ L → (L.foldl (fun D x => D.put (.int .i64 x) (.lit (.int .i64 1))) D).atKey (.int .i64 x) z = z from this L _ rfl
  intro L
  induction L with
  | nil => intro D h _; exact h
  | cons y r ih =>
    intro D h hn
    simp only [List.mem_cons, not_or] at hn
    exact ih _ (by rw [Maps.atKey_put_other (by intro e; cases e; exact hn.1 rfl)]; exact h) hn.2
theorem mapOf_yes {H : Type} {x : Int} (hx : WideAt.IsKeyLit (.int .i64 x)) (z : DataW H) : ∀ (L : List Int), x ∈ L → (mapOf (H := H) L).atKey (.int .i64 x) z = .lit (.int .i64 1) := by
  intro L
  suffices ∀ (L : List Int) (D : DataW H), Maps.IsMap D → (D.atKey (.int .i64 x) z = .lit (.int .i64 1) ∨ x ∈ L) → (L.foldl (fun D x => D.put (.int .i64 x) (.lit (.int .i64 1))) D).atKey (.int .i64 x) z = .lit (.int .i64 1) from fun h => this L _ Maps.isMap_empty (.inr h)
  intro L
  induction L with
  | nil => intro D _ h; simpa using h
  | cons y r ih =>
    intro D hm h
    refine ih _ (hm.put _ _) ?_
    by_cases hy : x = y
    · subst hy; exact .inl (Maps.atKey_put_same hm hx _ _)
    · rcases h with h | h
      · exact .inl (by rw [Maps.atKey_put_other (by intro e; cases e; exact hy rfl)]; exact h)
      · rcases List.mem_cons.1 h with h | h
        · exact absurd h hy
        · exact .inr h
theorem mapOf_c1 {H : Type} {L : List Int} {x c : Int} (hx : WideAt.IsKeyLit (.int .i64 x)) (h : x ∈ L) (hat : (mapOf (H := H) L).atKey (.int .i64 x) (.lit (.int .i64 0)) = .lit (.int .i64 c)) : c = 1 := by
  rw [mapOf_yes hx _ L h] at hat; cases hat; rfl
theorem mapOf_c0 {H : Type} {L : List Int} {x c : Int} (h : ¬ x ∈ L) (hat : (mapOf (H := H) L).atKey (.int .i64 x) (.lit (.int .i64 0)) = .lit (.int .i64 c)) : c = 0 := by
  rw [mapOf_no _ L h] at hat; cases hat; rfl
end Go.Proofs.Ytfnlniknclkeaaa
