/- Letters that a call made: a row of owners and slices, and the slices' own rows. -/
import Derived.Test.YtdchgbhhlocmdaaMakeFn
import Derived.Test.YtdchgbhhlocmdaaLettersFn
namespace Go.Proofs.Ytdchgbhhlocmdaa
open Go.ChangeShapes Go.WideShapes Go.ChangeAt Go.RowKit

def vget (vs : List Value) (i : Nat) : Value := vs.getD i (.slice none 0 0)
def hdr (vs : List Value) : List (Int × List Int) → List Value
  | [] => []
  | l :: ls => Value.int .i64 l.1 :: vs.headD (.slice none 0 0) :: hdr vs.tail ls
theorem hdr_len : ∀ (ls : List (Int × List Int)) (vs : List Value), (hdr vs ls).length = ls.length * 2
  | [], _ => rfl
  | l :: ls, vs => by simp only [hdr, List.length_cons, hdr_len ls]; omega
theorem hdr_owner : ∀ (ls : List (Int × List Int)) (vs : List Value) (k : Nat), k < ls.length → (hdr vs ls)[k * 2]? = some (.int .i64 (lOwner ls k))
  | [], _, k, h => by simp at h
  | l :: ls, vs, 0, _ => by simp [hdr, lOwner]
  | l :: ls, vs, k + 1, h => by
    have := hdr_owner ls vs.tail k (by simpa using h)
    rw [show (k + 1) * 2 = k * 2 + 1 + 1 by omega]
    simpa [hdr, lOwner] using this
theorem hdr_slice : ∀ (ls : List (Int × List Int)) (vs : List Value) (k : Nat), k < ls.length → (hdr vs ls)[k * 2 + 1]? = some (vget vs k)
  | [], _, k, h => by simp at h
  | l :: ls, vs, 0, _ => by cases vs <;> simp [hdr, vget]
  | l :: ls, vs, k + 1, h => by
    have := hdr_slice ls vs.tail k (by simpa using h)
    rw [show (k + 1) * 2 + 1 = k * 2 + 1 + 1 + 1 by omega]
    cases vs <;> simpa [hdr, vget] using this
theorem hdr_app : ∀ (ls : List (Int × List Int)) (vs : List Value) (s : Value) (x : Int × List Int), vs.length = ls.length → hdr (vs ++ [s]) (ls ++ [x]) = hdr vs ls ++ [.int .i64 x.1, s]
  | [], [], s, x, _ => by simp [hdr]
  | l :: ls, v :: vs, s, x, h => by
    have := hdr_app ls vs s x (by simpa using h)
    simp [hdr, this]
theorem hdr_set : ∀ (ls : List (Int × List Int)) (vs : List Value) (k : Nat) (x : Int) (ys : List Int), k < ls.length → (hdr vs ls).set (k * 2) (.int .i64 x) = hdr vs (ls.set k (x, ys))
  | [], _, k, _, _, h => by simp at h
  | l :: ls, vs, 0, x, ys, _ => by simp [hdr]
  | l :: ls, vs, k + 1, x, ys, h => by
    have := hdr_set ls vs.tail k x ys (by simpa using h)
    rw [show (k + 1) * 2 = k * 2 + 1 + 1 by omega]
    simpa [hdr] using this
theorem hdr_same : ∀ (ls : List (Int × List Int)) (vs : List Value) (k : Nat) (ys : List Int), k < ls.length → hdr vs (ls.set k (lOwner ls k, ys)) = hdr vs ls
  | [], _, k, _, h => by simp at h
  | l :: ls, vs, 0, ys, _ => by simp [hdr, lOwner]
  | l :: ls, vs, k + 1, ys, h => by
    have := hdr_same ls vs.tail k ys (by simpa using h)
    simp only [List.set_cons_succ, hdr]
    rw [show lOwner (l :: ls) (k + 1) = lOwner ls k from by simp [lOwner], this]
theorem set_owner {ls : List (Int × List Int)} {k i : Nat} {x : Int × List Int} (hk : k < ls.length) : lOwner (ls.set k x) i = (if i = k then x.1 else lOwner ls i) ∧ lCopies (ls.set k x) i = (if i = k then x.2 else lCopies ls i) := by
  by_cases h : i = k
  · subst h; simp [lOwner, lCopies, hk]
  · simp [lOwner, lCopies, h, List.getElem?_set_ne (Ne.symm h)]
structure LetV (lo hi : Nat) (w : World) (v : Value) (vs : List Value) (ls : List (Int × List Int)) : Prop where
  len : vs.length = ls.length
  row : w.ownsRow lo 91 2 v ls.length (hdr vs ls)
  top : ∀ b, v.ownBlock = some b → b < hi
  each : ∀ i, i < ls.length → RowO lo hi w 3 1 (vget vs i) (lCopies ls i).length (lCopies ls i)
  sepv : ∀ i, i < ls.length → Sep v (vget vs i)
  seps : ∀ i j, i < j → j < ls.length → Sep (vget vs i) (vget vs j)
def LetO (lo hi : Nat) (w : World) (v : Value) (ls : List (Int × List Int)) : Prop := ∃ vs, LetV lo hi w v vs ls
theorem LetV.nil (lo hi : Nat) (w : World) : LetV lo hi w (.slice none 0 0) [] [] :=
  ⟨rfl, World.ownsRow_nil _ _ _ _, (fun b h => by cases h), fun i hi => absurd hi (by simp), fun i hi => absurd hi (by simp), fun i j _ hj => absurd hj (by simp)⟩
theorem LetV.below {lo hi : Nat} {w w' : World} {v : Value} {vs : List Value} {ls : List (Int × List Int)} (h : LetV lo hi w v vs ls) (hb : Below w.heap.size w w') : LetV lo hi w' v vs ls :=
  ⟨h.len, own_below h.row hb, h.top, fun i hi => (h.each i hi).below hb, h.sepv, h.seps⟩
theorem LetV.wide {lo hi lo' hi' : Nat} {w : World} {v : Value} {vs : List Value} {ls : List (Int × List Int)} (h : LetV lo hi w v vs ls) (hl : lo' ≤ lo) (hh : hi ≤ hi') : LetV lo' hi' w v vs ls :=
  ⟨h.len, own_base h.row hl, fun b hb => Nat.lt_of_lt_of_le (h.top b hb) hh, fun i hi => (h.each i hi).wide hl hh, h.sepv, h.seps⟩
theorem LetV.only {lo hi lo' hi' : Nat} {w w' : World} {v : Value} {vs : List Value} {ls : List (Int × List Int)} (h : LetV lo hi w v vs ls) (ho : Only lo' hi' w w') (hs : Off lo hi lo' hi') : LetV lo hi w' v vs ls :=
  ⟨h.len, own_only h.row ho fun b hb => by have h1 := (h.row.lt b hb).1; have h2 := h.top b hb; unfold Off at hs; omega, h.top, fun i hi => (h.each i hi).only ho hs, h.sepv, h.seps⟩
theorem LetO.below {lo hi : Nat} {w w' : World} {v : Value} {ls : List (Int × List Int)} (h : LetO lo hi w v ls) (hb : Below w.heap.size w w') : LetO lo hi w' v ls := by obtain ⟨vs, h⟩ := h; exact ⟨vs, h.below hb⟩
theorem LetO.wide {lo hi lo' hi' : Nat} {w : World} {v : Value} {ls : List (Int × List Int)} (h : LetO lo hi w v ls) (hl : lo' ≤ lo) (hh : hi ≤ hi') : LetO lo' hi' w v ls := by obtain ⟨vs, h⟩ := h; exact ⟨vs, h.wide hl hh⟩
theorem LetO.only {lo hi lo' hi' : Nat} {w w' : World} {v : Value} {ls : List (Int × List Int)} (h : LetO lo hi w v ls) (ho : Only lo' hi' w w') (hs : Off lo hi lo' hi') : LetO lo hi w' v ls := by obtain ⟨vs, h⟩ := h; exact ⟨vs, h.only ho hs⟩
theorem vget_app {vs : List Value} {s : Value} {i : Nat} : vget (vs ++ [s]) i = if i < vs.length then vget vs i else if i = vs.length then s else .slice none 0 0 := by
  unfold vget
  simp only [List.getD_eq_getElem?_getD, List.getElem?_append]
  split
  · rfl
  · split
    · rename_i e; subst e; simp
    · rename_i e1 e2
      rw [List.getElem?_eq_none (by simp; omega)]; rfl
theorem ls_app {ls : List (Int × List Int)} {x : Int × List Int} {i : Nat} (h : i < ls.length) : lOwner (ls ++ [x]) i = lOwner ls i ∧ lCopies (ls ++ [x]) i = lCopies ls i := by
  simp [lOwner, lCopies, List.getElem?_append, h]
theorem ls_last {ls : List (Int × List Int)} {x : Int × List Int} : lOwner (ls ++ [x]) ls.length = x.1 ∧ lCopies (ls ++ [x]) ls.length = x.2 := by
  simp [lOwner, lCopies]
/-- one more letter -/
theorem LetV.push {lo : Nat} {w w' : World} {v v' s : Value} {vs : List Value} {ls : List (Int × List Int)} {x : Int} {l : List Int} (h : LetV lo w.heap.size w v vs ls) (hs : RowO lo w.heap.size w 3 1 s l.length l)
    (s1 : Sep v s) (s2 : ∀ i, i < ls.length → Sep (vget vs i) s) (hrow : w'.ownsRow lo 91 2 v' (ls.length + 1) (hdr vs ls ++ [.int .i64 x, s])) (hg : w.grownBy w' v.ownBlock) (hat : v'.ownBlock = v.ownBlock ∨ v'.ownBlock = some w.heap.size) :
    LetV lo w'.heap.size w' v' (vs ++ [s]) (ls ++ [(x, l)]) := by
  have hl := h.len
  refine ⟨by simp [hl], ?_, fun b hb => (hrow.lt b hb).2, fun i hi => ?_, fun i hi => ?_, fun i j hij hj => ?_⟩
  · rw [hdr_app ls vs s (x, l) hl]; simpa using hrow
  · simp at hi
    rw [vget_app, hl]
    rcases Nat.lt_or_ge i ls.length with z | z
    · rw [if_pos z, (ls_app z).2]
      exact (h.each i z).beside hg (h.sepv i z) (Nat.le_refl _)
    · obtain rfl : i = ls.length := by omega
      rw [if_neg (by omega), if_pos rfl, ls_last.2]
      exact hs.beside hg s1 (Nat.le_refl _)
  · simp at hi
    rw [vget_app, hl]
    rcases Nat.lt_or_ge i ls.length with z | z
    · rw [if_pos z]
      exact sep_app (h.sepv i z) ((h.each i z).far (Nat.le_refl _)) hat
    · obtain rfl : i = ls.length := by omega
      rw [if_neg (by omega), if_pos rfl]
      exact sep_app s1 (hs.far (Nat.le_refl _)) hat
  · simp at hj
    rw [vget_app, vget_app, hl, if_pos (by omega)]
    rcases Nat.lt_or_ge j ls.length with z | z
    · rw [if_pos z]; exact h.seps i j hij z
    · obtain rfl : j = ls.length := by omega
      rw [if_neg (by omega), if_pos rfl]
      exact s2 i hij
theorem LetV.reads {lo hi : Nat} {w : World} {v : Value} {vs : List Value} {ls : List (Int × List Int)} (h : LetV lo hi w v vs ls) (hl : ls.length ≤ 1000000000) (hc : ∀ i, i < ls.length → (lCopies ls i).length ≤ 1000000000) : Letters w v ls := by
  refine ⟨by omega, ?_⟩
  have hr := h.row
  rcases hr.2 with ⟨rfl, h0⟩ | ⟨g, cap, cur, rfl, _⟩
  · exact ⟨none, 0, by rw [h0], fun k hk => absurd hk (by omega)⟩
  · refine ⟨_, _, rfl, fun k hk => ⟨g, 0, vget vs k, rfl, ?_, ?_, (h.each k hk).ints (by have := hc k hk; omega)⟩⟩
    · rw [Nat.zero_add, hr.cellAt (k * 2) (by omega)]; exact hdr_owner ls vs k hk
    · rw [Nat.zero_add, hr.cellAt (k * 2 + 1) (by omega)]; exact hdr_slice ls vs k hk
end Go.Proofs.Ytdchgbhhlocmdaa
