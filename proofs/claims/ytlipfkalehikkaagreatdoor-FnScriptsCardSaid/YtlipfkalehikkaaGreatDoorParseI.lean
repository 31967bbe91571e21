/- The walk of ParseAct, in the program. -/
import Derived.Test.YtlipfkalehikkaaGreatDoorKeep
namespace Go.Proofs.YtlipfkalehikkaaGreatDoor
open Go.ChangeShapes Go.WideShapes Go.ChangeAt Go.RowKit

theorem kind_next {w0 : List UInt8} {m k : Nat} (h : ∀ j, 1 ≤ j → j < k → kindOf w0 m ≠ j) (hk : kindOf w0 m ≠ k) : ∀ j, 1 ≤ j → j < k + 1 → kindOf w0 m ≠ j := fun j h1 h2 => by
  rcases Nat.lt_or_ge j k with q | q
  · exact h j h1 q
  · obtain rfl : j = k := by omega
    exact hk
theorem kind_zero {w0 : List UInt8} {m : Nat} (h : ∀ j, 1 ≤ j → j < 6 → kindOf w0 m ≠ j) : kindOf w0 m = 0 := by
  have := kindOf_bd w0 m
  have := h (kindOf w0 m)
  omega
theorem kind_word {w0 : List UInt8} {m k : Nat} (h1 : 1 ≤ k) (h : ¬ actWord k = w0) : kindOf w0 m ≠ k := fun e => h (by have := kindOf_f (w0 := w0) (m := m) (by omega); rw [e] at this; exact this.2.2.1)
theorem kind_count {w0 : List UInt8} {m k : Nat} (h1 : 1 ≤ k) (h : ¬ m = actCount k) : kindOf w0 m ≠ k := fun e => h (by have := kindOf_f (w0 := w0) (m := m) (by omega); rw [e] at this; exact this.2.2.2)
def numTo (ws : List (List UInt8)) (j : Nat) (t : Nat) : Int := if t < j then fieldNum ws t else 0
theorem numTo_step {ws : List (List UInt8)} {j n : Nat} (hj : j < ws.length) (h : uintOf (tx ws j) = some n) : ∀ t, t < 4 → numTo ws (j + 1) t = if t = j then (n : Int) else numTo ws j t := fun t _ => by
  unfold numTo
  by_cases q : t = j
  · subst q
    rw [if_pos (by omega), if_pos rfl]
    unfold fieldNum
    have e : ws.getD t [48] = tx ws t := by simp [tx, hj]
    rw [e]; exact numOf_uint h
  · rw [if_neg q]
    by_cases q2 : t < j
    · rw [if_pos (by omega), if_pos q2]
    · rw [if_neg (by omega), if_neg q2]
theorem numTo_all {ws : List (List UInt8)} {t : Nat} : numTo ws ws.length t = fieldNum ws t := by
  unfold numTo
  by_cases q : t < ws.length
  · rw [if_pos q]
  · rw [if_neg q]
    unfold fieldNum
    rw [List.getD_eq_getElem?_getD, List.getElem?_eq_none (by omega), Option.getD_none]
    have : uintOf [48] = some 0 := uintOf_iff.2 ⟨by omega, by rw [dec_small (by omega)]; rfl⟩
    exact (numOf_uint this).symm
def allTo' (ws : List (List UInt8)) (j : Nat) : Prop := ∀ t, t < j → (uintOf (tx ws t)).isSome = true
theorem allTo_step {ws : List (List UInt8)} {j n : Nat} (h : allTo' ws j) (hn : uintOf (tx ws j) = some n) : allTo' ws (j + 1) := fun t ht => by
  rcases Nat.lt_or_ge t j with q | q
  · exact h t q
  · obtain rfl : t = j := by omega
    rw [hn]; rfl
theorem uint_all {ws : List (List UInt8)} (h : allTo' ws ws.length) : uintAll ws = true := by
  unfold uintAll
  rw [List.all_eq_true]
  intro w hw
  obtain ⟨i, hi, e⟩ := List.getElem_of_mem hw
  have := h i hi
  rw [show tx ws i = w by simp [tx, hi, e]] at this
  exact this
theorem uint_not {ws : List (List UInt8)} {j : Nat} (hj : j < ws.length) (h : uintOf (tx ws j) = none) : ¬ uintAll ws = true := fun q => by
  unfold uintAll at q
  rw [List.all_eq_true] at q
  have := q (tx ws j) (by simp [tx, hj])
  rw [h] at this; cases this

set_option maxRecDepth 100000 in
set_option maxHeartbeats 8000000 in
theorem implParseAct (l : List UInt8) (hl : l.length ≤ 1000000000) (w : World) (ht : ParT w) : Calls Tryz.prog 24 #[.string (bstr l)] w (PP (parseAct (splitFields l)) w) := by
  have B0 := Lib.hid (balloc (bref w) (.cells #[.int .i64 0, .int .i64 0, .int .i64 0, .int .i64 0, .int .i64 0] 49))
  have X0 := Lib.hid (five_new w (.int .i64 0) (.int .i64 0) (.int .i64 0) (.int .i64 0) (.int .i64 0))
  cases hF : splitFields l with
  | none =>
    go_enter Tryz.func24, Tryz.ntmps24
    go_wp2_with (first | (go_at_call 23; refine (implSplitFields l hl _).mono ?_; rw [hF]; simp only [Option.isSome_none, Option.getD_none]; rintro e w1 ⟨v, rfl, ho, hb1⟩; obtain ⟨adv, capv, rfl, hcap⟩ := own_formC ho; have HB1 := Lib.hid (bnext B0.out hb1); have X1 := Lib.hid (X0.out.below hb1); have zz := HB1.out.size; have zy := X1.out.lt; obtain ⟨r0, r1, r2, r3, r4, q0, q1, q2, q3, q4⟩ := X1.out; clear hb1))
    refine bodyPost_ret (v := .tuple #[.agg #[.int .i64 0, .int .i64 0, .int .i64 0, .int .i64 0, .int .i64 0], .bool false]) (by simp [results, Tryz.results24, go_sem, r0, r1, r2, r3, r4]) rfl ?_
    refine pp_no rfl ?_
    repeat (first | with_reducible exact HB1.out | with_reducible refine bset ?_ (by simp only []; omega) _)
  | some G =>
    cases G with
    | nil =>
      go_enter Tryz.func24, Tryz.ntmps24
      go_wp2_with (first | (go_at_call 23; refine (implSplitFields l hl _).mono ?_; rw [hF]; simp only [Option.isSome_some, Option.getD_some]; rintro e w1 ⟨v, rfl, ho, hb1⟩; obtain ⟨adv, capv, rfl, hcap⟩ := own_formC ho; have HB1 := Lib.hid (bnext B0.out hb1); have X1 := Lib.hid (X0.out.below hb1); have zz := HB1.out.size; have zy := X1.out.lt; obtain ⟨r0, r1, r2, r3, r4, q0, q1, q2, q3, q4⟩ := X1.out; clear hb1))
      refine bodyPost_ret (v := .tuple #[.agg #[.int .i64 0, .int .i64 0, .int .i64 0, .int .i64 0, .int .i64 0], .bool false]) (by simp [results, Tryz.results24, go_sem, r0, r1, r2, r3, r4]) rfl ?_
      refine pp_no rfl ?_
      repeat (first | with_reducible exact HB1.out | with_reducible refine bset ?_ (by simp only []; omega) _)
    | cons w0 ws =>
      have hsl := split_len hF
      have hshort := split_short hF
      have hwl : ws.length ≤ 23 := by have := hsl.1; simp at this; omega
      have HT := Lib.hid ht
      have hz_ : (((ws.length : Int) + 1) == 0) = false := beq_eq_false_iff_ne.2 (by omega)
      clear ht hsl
      go_enter Tryz.func24, Tryz.ntmps24
      go_wp2_with (first | (go_at_call 23; refine (implSplitFields l hl _).mono ?_; rw [hF]; simp only [Option.isSome_some, Option.getD_some]; rintro e w1 ⟨v, rfl, ho, hb1⟩; obtain ⟨adv, capv, rfl, hcap⟩ := own_formC ho; have HB1 := Lib.hid (bnext B0.out hb1); have X1 := Lib.hid (X0.out.below hb1); have zz := HB1.out.size; have zy := X1.out.lt; have TX := Lib.hid (Texts.of_own ho (by simp; omega)); clear ho; clear hb1))
      have hln : ((w0 :: ws).length : Int) = (ws.length : Int) + 1 := by simp
      go_loopw [6] (fun kd wr => ∃ k : Nat, 1 ≤ k ∧ k ≤ 6 ∧ kd = .int .i64 k ∧ Hid (∀ j, 1 ≤ j → j < k → kindOf w0 ws.length ≠ j) ∧ Hid (Below w1.heap.size w1 wr)) (fun kd _ => 6 - (intOf kd).toNat)
      case atStart => exact ⟨1, Nat.le_refl _, by omega, rfl, Lib.hid (fun j h1 h2 => by omega), bref _⟩
      case round =>
        obtain ⟨k, hk1, hk6, rfl, HK, HB⟩ := hrel
        have X2 := Lib.hid (X1.out.below HB.out)
        have zz2 := HB.out.size
        by_cases h6 : k = 6
        · subst h6
          have H := Lib.hid (parse_no (kind_zero HK.out))
          obtain ⟨r0, r1, r2, r3, r4, q0, q1, q2, q3, q4⟩ := X2.out
          go_wp2
          refine bodyPost_ret (v := .tuple #[.agg #[.int .i64 0, .int .i64 0, .int .i64 0, .int .i64 0, .int .i64 0], .bool false]) (by simp [results, Tryz.results24, go_sem, r0, r1, r2, r3, r4]) rfl ?_
          refine pp_no H.out ?_
          repeat (first | with_reducible exact (bnext HB1.out HB.out) | with_reducible refine bset ?_ (by simp only []; omega) _)
        · have hk5 : k ≤ 5 := by omega
          have hti := (HT.out.below (bnext HB1.out HB.out)).act
          have hw := hti.words k (by omega)
          have hn := hti.counts k (by omega)
          obtain ⟨_, _, _, hq, hc⟩ := TX.out.below HB.out
          cases hq
          obtain ⟨b, o, rfl, e0⟩ := hc 0 (by simp)
          rw [Nat.add_zero, show tx (w0 :: ws) 0 = w0 from rfl] at e0
          have i1 : (0 : Int) ≤ (k : Int) := by omega
          have i2 : (k : Int) < 6 := by omega
          have i3 : ¬ (k : Int) < 0 := by omega
          have i4 : ¬ (6 : Int) ≤ (k : Int) := by omega
          have i5 : (k : Int) ≤ 5 := by omega
          have i6 : (0 : Int) < (ws.length : Int) + 1 := by omega
          have hcl := actCount_le k
          obtain ⟨wd, hwd⟩ : ∃ wd, actWord k = wd := ⟨_, rfl⟩
          obtain ⟨m, hm⟩ : ∃ m, actCount k = m := ⟨_, rfl⟩
          rw [hwd] at hw
          rw [hm] at hn hcl
          by_cases hwe : wd = w0
          · subst hwe
            by_cases hme : ws.length = m
            · obtain rfl : m = ws.length := hme.symm
              have HKi := Lib.hid (kindOf_t (w0 := wd) (m := ws.length) hk1 hk5 hwd hm.symm)
              have m2 : (((ws.length : Int) + 1) == (ws.length : Int) + 1) = true := beq_self_eq_true _
              have m4 : IntKind.i64.wrap ((ws.length : Int) + 1) = (ws.length : Int) + 1 := by rw [IntKind.wrap_i64]; omega
              have m5 : ¬ ((ws.length : Int) + 1) < 1 := by omega
              have m6 : (1 : Int) ≤ (ws.length : Int) + 1 := by omega
              have AR0 : Hid (∀ n, Arr wr.heap.size ((wr.drewN n).alloc (.cells #[.int .i64 0, .int .i64 0, .int .i64 0, .int .i64 0] 71)) (numTo ws 0)) := fun n => arr_new (wr.drewN n)
              have D0 : Hid (∀ n, Below w1.heap.size w1 ((wr.drewN n).alloc (.cells #[.int .i64 0, .int .i64 0, .int .i64 0, .int .i64 0] 71))) := fun n => balloc (bdrewN HB.out n) _
              have hpos := actCount_pos hk1 hk5
              rw [hm] at hpos
              have hc1 : ¬ capv = 1 := by simp at hcap; omega
              clear hwd hm hme
              go_wp2_with fail
              go_quiet (fail)
              go_wp2
              go_loopw [49] (fun i wx => ∃ j : Nat, j ≤ ws.length ∧ i = .int .i64 j ∧ Hid (allTo' ws j) ∧ Hid (Arr wr.heap.size wx (numTo ws j)) ∧ Hid (Below w1.heap.size w1 wx)) (fun i _ => ws.length - (intOf i).toNat)
              case atStart => exact ⟨0, Nat.zero_le _, rfl, Lib.hid (fun t ht => by omega), AR0.out _, D0.out _⟩
              case round =>
                clear AR0 D0 HK e0
                obtain ⟨j, hj, rfl, HA, AR, HX⟩ := hrel
                have zx := HX.out.size
                have zar := AR.out.lt
                have X3 := Lib.hid (X1.out.below HX.out)
                by_cases hlt : j < ws.length
                · have j0 : (0 : Int) ≤ (j : Int) := by omega
                  have j1 : (j : Int) < (ws.length : Int) := by omega
                  have j2 : (j : Int) < 4 := by omega
                  have j3 : ¬ (j : Int) < 0 := by omega
                  have j4 : ¬ (ws.length : Int) ≤ (j : Int) := by omega
                  have j5 : ¬ (4 : Int) ≤ (j : Int) := by omega
                  obtain ⟨_, _, _, hq, hc2⟩ := TX.out.below HX.out
                  cases hq
                  obtain ⟨b2, o2, hb2, e1⟩ := hc2 (j + 1) (by simp; omega)
                  cases hb2
                  rw [show o + (j + 1) = o + 1 + j by omega] at e1
                  have hsh : (tx ws j).length ≤ 1000000000 := by
                    have := hshort (tx ws j) (by simp [tx, hlt])
                    omega
                  have HS := Lib.hid (fun n hn => numTo_step (n := n) hlt hn)
                  have HAS := Lib.hid (fun n hn => allTo_step (n := n) HA.out hn)
                  have HNo := Lib.hid (fun hn => uint_not hlt hn)
                  rw [show tx (wd :: ws) (j + 1) = tx ws j from rfl] at e1
                  generalize tx ws j = s at *
                  have hcj := AR.out.cell j (by omega)
                  have hfj := AR.out.free j (by omega)
                  cases hu : uintOf s with
                  | none =>
                    have H := Lib.hid (parse_f (w0 := wd) (ws := ws) (fun q => HNo.out hu q.1))
                    go_wp2_with (first | (go_at_call 46; refine (implParseUint s hsh _ (HT.out.below (bnext HB1.out HX.out))).mono ?_; unfold UP; rw [hu]; simp only [Option.isSome_none, Option.getD_none]; rintro e w3 ⟨rfl, hb3⟩; have HX3 := Lib.hid (bnext HX.out hb3); have X4 := X1.out.below HX3.out; have z3 := HX3.out.size; obtain ⟨r0, r1, r2, r3, r4, q0, q1, q2, q3, q4⟩ := X4; clear hb3))
                    refine bodyPost_ret (v := .tuple #[.agg #[.int .i64 0, .int .i64 0, .int .i64 0, .int .i64 0, .int .i64 0], .bool false]) (by simp [results, Tryz.results24, go_sem, r0, r1, r2, r3, r4]) rfl ?_
                    refine pp_no H.out ?_
                    repeat (first | with_reducible exact (bnext HB1.out HX3.out) | with_reducible refine bset ?_ (by simp only []; omega) _)
                  | some n =>
                    go_wp2_with (first | (go_at_call 46; refine (implParseUint s hsh _ (HT.out.below (bnext HB1.out HX.out))).mono ?_; unfold UP; rw [hu]; simp only [Option.isSome_some, Option.getD_some]; rintro e w3 ⟨rfl, hb3⟩; have HX3 := Lib.hid (bnext HX.out hb3); have AR3 := Lib.hid (AR.out.below hb3); have hcj := AR3.out.cell j (by omega); have hfj := AR3.out.free j (by omega); clear hb3))
                    go_roundw
                    case rel => exact ⟨j + 1, by omega, by go_num, HAS.out n hu, AR3.out.put (by omega) (HS.out n hu), bset HX3.out (by simp only []; omega) _⟩
                    case measure => simp [intOf]; omega
                · obtain rfl : j = ws.length := by omega
                  have H := Lib.hid (parse_keep (w0 := wd) (ws := ws) HKi.out (by omega) (uint_all HA.out))
                  have a0 := AR.out.cell 0 (by omega)
                  have a1 := AR.out.cell 1 (by omega)
                  have a2 := AR.out.cell 2 (by omega)
                  have a3 := AR.out.cell 3 (by omega)
                  rw [numTo_all] at a0 a1 a2 a3
                  generalize fieldNum ws 0 = n0 at *
                  generalize fieldNum ws 1 = n1 at *
                  generalize fieldNum ws 2 = n2 at *
                  generalize fieldNum ws 3 = n3 at *
                  obtain ⟨r, hr⟩ : ∃ r, keep k n0 n1 n2 n3 = r := ⟨_, rfl⟩
                  obtain ⟨⟨K, A, B, C, D⟩, ok⟩ := r
                  have HR := Lib.hid hr
                  clear hr HA
                  go_wp2_with (first | (go_at_call 47; refine (implKeepAct k n0 n1 n2 n3 _).mono ?_; rw [HR.out]; simp only [PP, PV]; rintro e w4 ⟨rfl, hb4⟩; have HX4 := Lib.hid (bnext (balloc HX.out _) hb4); have X4 := X1.out.below HX4.out; have z4 := HX4.out.size; obtain ⟨r0, r1, r2, r3, r4, q0, q1, q2, q3, q4⟩ := X4; clear hb4))
                  refine bodyPost_ret (v := .tuple #[.agg #[.int .i64 K, .int .i64 A, .int .i64 B, .int .i64 C, .int .i64 D], .bool ok]) (by simp [results, Tryz.results24, go_sem, r0, r1, r2, r3, r4]) rfl ?_
                  refine ⟨by rw [H.out, HR.out]; rfl, ?_⟩
                  repeat (first | with_reducible exact (bnext HB1.out HX4.out) | with_reducible refine bset ?_ (by simp only []; omega) _)
            · have HN := Lib.hid (kind_next HK.out (kind_count hk1 (by rw [hm]; exact hme)))
              have m1 : ¬ (ws.length : Int) = (m : Int) := by omega
              have m2 : (((ws.length : Int) + 1) == (m : Int) + 1) = false := beq_eq_false_iff_ne.2 (by omega)
              have m3 : ((ws.length : Int) == (m : Int)) = false := beq_eq_false_iff_ne.2 (by omega)
              have m4 : IntKind.i64.wrap ((m : Int) + 1) = (m : Int) + 1 := by rw [IntKind.wrap_i64]; omega
              clear hme hwd hm
              go_wp2_with fail
              go_quiet (fail)
              go_wp2
              go_roundw
              case rel => exact ⟨k + 1, by omega, by omega, by go_num, HN, Lib.hid (bdrewN HB.out _)⟩
              case measure => simp [intOf]; omega
          · have HN := Lib.hid (kind_next HK.out (kind_word (m := ws.length) hk1 (by rw [hwd]; exact hwe)))
            have c6 : ((bstr wd).toList == (bstr w0).toList) = false := beq_eq_false_iff_ne.2 fun q => hwe (by rw [bstr_toList, bstr_toList] at q; exact q)
            have c7 : (wd == w0) = false := beq_eq_false_iff_ne.2 hwe
            clear hwd hm
            go_wp2_with fail
            go_quiet (fail)
            go_wp2
            go_roundw
            case rel => exact ⟨k + 1, by omega, by omega, by go_num, HN, Lib.hid (bdrewN HB.out _)⟩
            case measure => simp [intOf]; omega
end Go.Proofs.YtlipfkalehikkaaGreatDoor
