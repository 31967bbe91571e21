/- A second withdrawal of the same copy: the plain law. -/
import Derived.Test.YtfnlniknclkeaaaGG
import Derived.Test.YtfnlniknclkeaaaRecFn
import Derived.Test.YtfnlniknclkeaaaLetLawFn
import Derived.Test.YtfnlniknclkeaaaGF
import Derived.Test.YtfnlniknclkeaaaBoxH
import Derived.Test.YtfnlniknclkeaaaDrawList
namespace Go.Proofs.Ytfnlniknclkeaaa
open Go.ChangeShapes Go.WideShapes Go.ChangeAt Go.RowKit

/-- a drawn house, one of its copies, a day -/
structure HousesL (h : HD) (b s : Int) : Prop where
  ok : houseOk h = true
  len : h.xs.length = h.n * 3
  sent : h.sent ≤ 357
  day : h.day ≤ 85
  b0 : 0 ≤ b
  b1 : b < h.n
  s0 : 0 ≤ s
  s1 : s < 12
section
variable {h : HD} {b s : Int}
theorem HousesL.rcl (l : HousesL h b s) : RecL h.n h.xs h.ms b s := ⟨(houseOk_facts l.ok).days, l.b0, l.b1, l.s0, by have := l.s1; omega⟩
theorem HousesL.bad (l : HousesL h b s) : b ∈ wA h b s := l.rcl.bad
theorem HousesL.ne (l : HousesL h b s) : ¬ wA h b s = [] := fun e => by have := l.bad; rw [e] at this; simp at this
theorem HousesL.one (l : HousesL h b s) : withdraw h b s = (wH h b s, wL h b s, true) :=
  withdraw_t l.ok l.ne (by have := l.sent; have := wL_len h b s; omega)
theorem HousesL.ok1 (l : HousesL h b s) : houseOk (wH h b s) = true := by have := withdraw_ok (b := b) (s := s) l.ok; rw [l.one] at this; exact this
theorem HousesL.mem (_ : HousesL h b s) (x : Int) : x ∈ (wH h b s).ts ↔ x ∈ h.ts ∨ x ∈ wA h b s := by
  show x ∈ diffL (h.ts ++ wF h b s) ↔ _
  rw [diffL_mem, List.mem_append]
  unfold wF
  rw [newOnes_mem]
  by_cases q : x ∈ h.ts <;> simp [q]
theorem HousesL.aff (_ : HousesL h b s) : wA (wH h b s) b s = wA h b s := rfl
theorem HousesL.noF (l : HousesL h b s) : wF (wH h b s) b s = [] := List.eq_nil_iff_forall_not_mem.2 fun x hx => by
  have := newOnes_mem.1 hx
  exact this.2 ((l.mem x).2 (.inr this.1))
theorem postTo_nil (os : List Int) : ∀ o, postTo [] os o = []
  | 0 => rfl
  | o + 1 => by rw [postTo_no (by simp [pickO])]; exact postTo_nil os o
theorem letters_nil (n : Nat) (xs os : List Int) : lettersFor n xs os [] = [] := by
  unfold lettersFor
  split
  · have e : diffL [] = [] := List.eq_nil_of_length_eq_zero (Nat.le_zero.1 (diffL_len []))
    rw [e]; exact postTo_nil _ _
  · rfl
theorem HousesL.noL (l : HousesL h b s) : wL (wH h b s) b s = [] := by unfold wL; rw [l.noF]; exact letters_nil _ _ _
theorem HousesL.ts2 (l : HousesL h b s) : (wH (wH h b s) b s).ts = (wH h b s).ts := by
  show diffL ((wH h b s).ts ++ wF (wH h b s) b s) = _
  rw [l.noF, List.append_nil]
  exact strict_ext (diffL_strict _) (diffL_strict _) fun x => diffL_mem
theorem HousesL.sent2 (l : HousesL h b s) : (wH (wH h b s) b s).sent = (wH h b s).sent := by
  show (wH h b s).sent + ((wL (wH h b s) b s).length : Int) = _
  rw [l.noL]; simp
theorem HousesL.two (l : HousesL h b s) : withdraw (wH h b s) b s = (wH (wH h b s) b s, [], true) := by
  have e := withdraw_t (h := wH h b s) (b := b) (s := s) l.ok1 (by rw [l.aff]; exact l.ne) (by
    rw [l.noL]
    have a := l.sent; have c := wL_len h b s
    show h.sent + ((wL h b s).length : Int) + _ ≤ 1000
    simp; omega)
  rw [e, l.noL]
theorem HousesL.let (l : HousesL h b s) : LetLaw h.n h.xs h.os (wF h b s) (wL h b s) := by
  have F := houseOk_facts l.ok
  have c := ownersOk_chain F.owners
  refine letLaw20 c.1 c.2 (fun j hj => ownersOk_at' F.owners (by omega)) fun j hj => ?_
  have hm : nth (wF h b s) j ∈ wF h b s := nth_in hj
  have := affected_mem (newOnes_mem.1 hm).1
  omega
theorem safeTo_mem {ts : List Int} {x : Int} : ∀ {k : Nat}, x ∈ safeTo ts k ↔ (0 ≤ x ∧ x < k) ∧ ¬ x ∈ ts
  | 0 => by simp [safeTo]; omega
  | k + 1 => by
    have ih := safeTo_mem (ts := ts) (x := x) (k := k)
    by_cases q : (k : Int) ∈ ts
    · rw [safeTo_yes q, ih]
      constructor
      · rintro ⟨a, c⟩; exact ⟨by omega, c⟩
      · rintro ⟨a, c⟩; exact ⟨⟨a.1, by
          rcases Int.lt_or_le x k with z | z
          · exact z
          · obtain rfl : x = k := by omega
            exact absurd q c⟩, c⟩
    · rw [safeTo_no q, List.mem_append, List.mem_singleton, ih]
      constructor
      · rintro (⟨a, c⟩ | rfl)
        · exact ⟨by omega, c⟩
        · exact ⟨by omega, q⟩
      · rintro ⟨a, c⟩
        rcases Int.lt_or_le x k with z | z
        · exact .inl ⟨⟨a.1, z⟩, c⟩
        · exact .inr (by omega)
theorem safe_mem {h : HD} (e : houseOk h = true) {k : Nat} (hk : k < h.n) : decide ((k : Int) ∈ safeL h) = !decide ((k : Int) ∈ h.ts) := by
  rw [safeL_t e, Bool.eq_iff_iff]
  simp [safeTo_mem]; omega
theorem more_day {ms xs : List Int} {n : Nat} {d : Int} {zs : List Int} (hx : xs.length = n * 3) (hm : ms.length = n) {j : Nat} (hj : j < n) (hp : -1 ≤ cP xs j ∧ cP xs j < j) (h : dayOk xs ms j = true) : dayOk (xs ++ zs) (ms ++ [d]) j = true := by
  have e1 : cP (xs ++ zs) j = cP xs j := nth_appl (by omega)
  have e2 : nth (ms ++ [d]) j = nth ms j := nth_appl (by omega)
  unfold dayOk at *
  rw [e1, e2]
  by_cases q : cP xs j < 0
  · simpa [q] using h
  · rw [nth_appl (by omega)]; exact h
theorem HousesL.more (l : HousesL h b s) (h12 : h.n < 12) : houseOk (h.more b 3 1 2) = true := by
  have F := houseOk_facts l.ok
  have hc := (daysOk_chain F.days).1
  have hml := (daysOk_chain F.days).2
  have hol := (ownersOk_chain F.owners).2
  have hn := chainOk_n hc
  have hB := l.b0; have hB1 := l.b1
  have hl := l.len
  have hcx : ChainD h.n h.xs := ⟨hl, by simp only [chainOk, Bool.and_eq_true] at hc; exact hc.2⟩
  have hch : chainOk (h.n + 1) (h.xs ++ [b, 3, 1]) = true := (hcx.push (by omega) (by omega) (by omega) (by omega) (by omega) (by omega)).chain (by omega) (by omega)
  have hd := F.day
  have hdd : daysOk (h.n + 1) (h.xs ++ [b, 3, 1]) (h.ms ++ [h.day]) = true := daysOk_t hch (by simp [hml]) (allTo_of fun j hj => by
    rcases Nat.lt_or_ge j h.n with z | z
    · have hdj : dayOk h.xs h.ms j = true := by
        have := F.days
        simp only [daysOk, Bool.and_eq_true] at this
        exact allTo_at this.2.2 z
      exact more_day hl hml z (chainOk_p hc z) hdj
    · obtain rfl : j = h.n := by omega
      have e0 : cP (h.xs ++ [b, 3, 1]) h.n = b := nth_appr (j := 0) (by omega)
      have e1 : nth (h.ms ++ [h.day]) h.n = h.day := nth_appr (j := 0) (by omega)
      refine dayOk_3 (by rw [e1]; simp [inB]; omega) ?_
      rw [e0, e1, nth_appl (by omega)]
      exact F.made _ (by omega))
  have hoo : ownersOk (h.n + 1) (h.xs ++ [b, 3, 1]) (h.os ++ [2]) = true := by
    rw [ownersOk_t (allTo_of fun j hj => ?_), hch]
    · simp [hol]
    · simp at hj
      rcases Nat.lt_or_ge j h.os.length with z | z
      · rw [nth_appl z]
        have := ownersOk_at' F.owners (k := j) (by omega)
        simp [inB]; omega
      · rw [nth_appr (j := 0) (by omega)]; rfl
  have t1 : allTo (toldAt (h.n + 1) h.ts) h.ts.length = true := allTo_of fun k hk => by
    have := F.told k hk
    simp [toldAt, inB]; omega
  have t2 : allTo (madeAt (h.ms ++ [h.day]) h.day) (h.ms ++ [h.day]).length = true := allTo_of fun k hk => by
    simp at hk
    unfold madeAt
    rw [decide_eq_true_eq]
    rcases Nat.lt_or_ge k h.ms.length with z | z
    · rw [nth_appl z]; exact F.made k z
    · rw [nth_appr (j := 0) (by omega)]; exact Int.le_refl _
  show houseOk ⟨h.n + 1, h.xs ++ [b, 3, 1], h.ms ++ [h.day], h.os ++ [2], h.ts, h.sent, h.day⟩ = true
  rw [house_t (h := ⟨h.n + 1, h.xs ++ [b, 3, 1], h.ms ++ [h.day], h.os ++ [2], h.ts, h.sent, h.day⟩) hdd hoo F.asc t1 t2]
  have hs : inB h.sent 0 1000 = true := by have := F.sent; simp [inB]; omega
  have hdy : inB h.day 0 10000 = true := by simp [inB]; omega
  show (inB h.sent 0 1000 && inB h.day 0 10000) = true
  rw [hs, hdy]; rfl
theorem HousesL.mk_yes (l : HousesL h b s) (h12 : h.n < 12) : makeCopy h b 3 1 2 = (h.more b 3 1 2, true) :=
  makeCopy_t l.ok (by have := l.b0; have := l.b1; simp [inB]; omega) (l.more h12)
theorem HousesL.mk_no (_ : HousesL h b s) (h12 : ¬ h.n < 12) : makeCopy h b 3 1 2 = (h, false) :=
  makeCopy_3 (house_1 (daysOk_c (chainOk_len (inB_f (by show ¬ ((1 : Int) ≤ ((h.n + 1 : Nat) : Int) ∧ ((h.n + 1 : Nat) : Int) ≤ 12); omega)))))
theorem HousesL.pass (l : HousesL h b s) {d : Int} (d0 : 1 ≤ d) (d1 : d ≤ 9) : passDays h d = (h.later d, true) :=
  passDays_t l.ok (by simp [inB]; omega) (by have := l.day; omega)
end
theorem new_two : newHouse 1000 2 = (firstHouse 1000 2, true) ∧ houseOk (firstHouse 1000 2) = true ∧ (safeL (firstHouse 1000 2)).length = 1 := by
  have e : houseOk (firstHouse 1000 2) = true := by decide
  refine ⟨newHouse_t e, e, ?_⟩
  rw [safeL_t e]; decide
end Go.Proofs.Ytfnlniknclkeaaa
