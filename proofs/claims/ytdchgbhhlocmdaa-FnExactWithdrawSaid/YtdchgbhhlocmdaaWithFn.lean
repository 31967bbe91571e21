/- The withdrawal of a copy: the plain law. -/
import Derived.Test.YtdchgbhhlocmdaaLettersV
import Derived.Test.YtdchgbhhlocmdaaAffFn
import Derived.Test.YtdchgbhhlocmdaaMakeFn
import Derived.Test.YtdchgbhhlocmdaaNewFn
namespace Go.Proofs.Ytdchgbhhlocmdaa
open Go.ChangeShapes Go.WideShapes Go.ChangeAt Go.RowKit

def wA (h : HD) (b s : Int) : List Int := affected h.n h.xs h.ms b s
def wF (h : HD) (b s : Int) : List Int := newOnes h.ts (wA h b s)
def wL (h : HD) (b s : Int) : List (Int × List Int) := lettersFor h.n h.xs h.os (wF h b s)
def wH (h : HD) (b s : Int) : HD := ⟨h.n, h.xs, h.ms, h.os, diffL (h.ts ++ wF h b s), h.sent + ((wL h b s).length : Int), h.day⟩
def withdraw (h : HD) (b s : Int) : HD × List (Int × List Int) × Bool := if houseOk h = true ∧ ¬ wA h b s = [] ∧ h.sent + ((wL h b s).length : Int) ≤ 1000 then (wH h b s, wL h b s, true) else (h, [], false)
theorem withdraw_1 {h : HD} {b s : Int} (q : houseOk h = false) : withdraw h b s = (h, [], false) := if_neg (by simp [q])
theorem withdraw_2 {h : HD} {b s : Int} (q : wA h b s = []) : withdraw h b s = (h, [], false) := if_neg (by simp [q])
theorem withdraw_3 {h : HD} {b s : Int} (q : 1000 < h.sent + ((wL h b s).length : Int)) : withdraw h b s = (h, [], false) := if_neg (fun z => by have := z.2.2; omega)
theorem withdraw_t {h : HD} {b s : Int} (q1 : houseOk h = true) (q2 : ¬ wA h b s = []) (q3 : h.sent + ((wL h b s).length : Int) ≤ 1000) : withdraw h b s = (wH h b s, wL h b s, true) := if_pos ⟨q1, q2, q3⟩
theorem wA_len (h : HD) (b s : Int) : (wA h b s).length ≤ 12 := affected_len _ _ _ _ _
theorem wF_len (h : HD) (b s : Int) : (wF h b s).length ≤ 12 := Nat.le_trans (newOnes_len _ _) (wA_len h b s)
theorem wL_b (h : HD) (b s : Int) : LetB (wL h b s) := lettersFor_b _ _ _ _ (by have := wF_len h b s; omega)
theorem asc_lt {ts : List Int} (h : ascOk ts = true) : ∀ j, j < ts.length → ∀ i, i < j → nth ts i < nth ts j
  | 0, _, i, hi => absurd hi (by omega)
  | j + 1, hj, i, hi => by
    have h2 := allTo_at h hj
    simp [ascAt] at h2
    rcases Nat.lt_or_ge i j with z | z
    · have := asc_lt h j (by omega) i z
      omega
    · obtain rfl : i = j := by omega
      exact h2
theorem asc_strict {ts : List Int} (h : ascOk ts = true) : StrictI ts := List.pairwise_iff_getElem.2 fun i j hi hj hij => by
  have := asc_lt h j hj i hij
  simpa [nth, hi, hj] using this
theorem strict_asc {ts : List Int} (h : StrictI ts) : ascOk ts = true := allTo_of fun k hk => by
  rcases Nat.eq_zero_or_pos k with z | z
  · subst z; rfl
  · have := List.pairwise_iff_getElem.1 h (k - 1) k (by omega) hk (by omega)
    have e1 : nth ts (k - 1) = ts[k - 1] := by simp [nth, show k - 1 < ts.length by omega]
    have e2 : nth ts k = ts[k] := by simp [nth, hk]
    simp [ascAt, e1, e2, this]
theorem strict_nodup {ts : List Int} (h : StrictI ts) : ts.Nodup := h.imp fun q => by omega
theorem told_sort {h : HD} {b s : Int} (q : houseOk h = true) : sortL (h.ts ++ wF h b s) = diffL (h.ts ++ wF h b s) := by
  have hn : (h.ts ++ wF h b s).Nodup := List.nodup_append.2 ⟨strict_nodup (asc_strict (houseOk_facts q).asc), strict_nodup (newOnes_strict _ _), fun x hx y hy e => by
    subst e; exact (newOnes_mem.1 hy).2 hx⟩
  exact strict_ext (strict_of (sortL_sorted _) ((sortL_perm _).nodup_iff.2 hn)) (diffL_strict _) fun x => by rw [sortL_mem, diffL_mem]
theorem told_len {h : HD} {b s : Int} : (diffL (h.ts ++ wF h b s)).length ≤ h.ts.length + 12 := by
  have a := diffL_len (h.ts ++ wF h b s)
  have c := wF_len h b s
  rw [List.length_append] at a
  omega
theorem wH_b {h : HD} {b s : Int} (q : houseOk h = true) : HouseB (wH h b s) 1048576 := by
  have c := houseOk_b q
  exact ⟨by have := c.n; show h.n ≤ _; omega, by have := c.ms; show h.ms.length ≤ _; omega, by have := c.os; show h.os.length ≤ _; omega, by have := c.ts; have := told_len (h := h) (b := b) (s := s); show (diffL (h.ts ++ wF h b s)).length ≤ _; omega⟩
theorem withdraw_b {h : HD} (hB : HouseB h 1048576) (b s : Int) : HouseB (withdraw h b s).1 1048576 ∧ LetB (withdraw h b s).2.1 := by
  unfold withdraw
  split
  next q => exact ⟨wH_b q.1, wL_b h b s⟩
  · exact ⟨hB, by simp, fun i hi => absurd hi (by simp)⟩
theorem withdraw_ok {h : HD} {b s : Int} (q : houseOk h = true) : houseOk (withdraw h b s).1 = true := by
  unfold withdraw
  split
  next z =>
    have F := houseOk_facts q
    have t1 : allTo (toldAt (wH h b s).n (wH h b s).ts) (wH h b s).ts.length = true := allTo_of fun k hk => by
      have hm : nth (diffL (h.ts ++ wF h b s)) k ∈ h.ts ++ wF h b s := diffL_mem.1 (nth_in hk)
      have hr : 0 ≤ nth (diffL (h.ts ++ wF h b s)) k ∧ nth (diffL (h.ts ++ wF h b s)) k < h.n := by
        rcases List.mem_append.1 hm with y | y
        · obtain ⟨i, hi, e⟩ := List.getElem_of_mem y
          have := F.told i hi
          have e2 : nth h.ts i = h.ts[i] := by simp [nth, hi]
          rw [e2, e] at this
          exact this
        · exact affected_mem (newOnes_mem.1 y).1
      show inB (nth (diffL (h.ts ++ wF h b s)) k) 0 ((h.n : Int) - 1) = true
      simp [inB]; omega
    have t2 : allTo (madeAt (wH h b s).ms (wH h b s).day) (wH h b s).ms.length = true := allTo_of fun k hk => by
      have := F.made k hk
      show decide (nth h.ms k ≤ h.day) = true
      simpa using this
    show houseOk (wH h b s) = true
    rw [house_t (h := wH h b s) F.days F.owners (strict_asc (diffL_strict _)) t1 t2]
    have hs : inB (h.sent + ((wL h b s).length : Int)) 0 1000 = true := by have := F.sent; have := z.2.2; simp [inB]; omega
    have hd : inB h.day 0 10000 = true := by have := F.day; simp [inB]; omega
    show (inB (h.sent + ((wL h b s).length : Int)) 0 1000 && inB h.day 0 10000) = true
    rw [hs, hd]; rfl
  · exact q
end Go.Proofs.Ytdchgbhhlocmdaa
