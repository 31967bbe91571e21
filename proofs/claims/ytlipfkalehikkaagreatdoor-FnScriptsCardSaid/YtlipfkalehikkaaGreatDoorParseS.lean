/- The walk of ParseAct, in the reference. -/
import Derived.Test.YtlipfkalehikkaaGreatDoorKeep
import Derived.Test.YtlipfkalehikkaaGreatDoorParseI
import Derived.Test.YtlipfkalehikkaaGreatDoorGB
import Derived.Test.YtlipfkalehikkaaGreatDoorGA
import Derived.Deep.RegionHeld3
namespace Go.Proofs.YtlipfkalehikkaaGreatDoor
open Go.ChangeShapes Go.WideShapes Go.ChangeAt Go.RowKit

/-- the numbers of the first fields -/
def numL (ws : List (List UInt8)) (j : Nat) : List Int := (List.range j).map fun i => numOf (tx ws i)
theorem numL_len (ws : List (List UInt8)) (j : Nat) : (numL ws j).length = j := by simp [numL]
theorem numL_succ (ws : List (List UInt8)) (j : Nat) : numL ws (j + 1) = numL ws j ++ [numOf (tx ws j)] := by simp [numL, List.range_succ]
theorem numL_at (ws : List (List UInt8)) {t : Nat} (ht : t < 4) : nth (numL ws ws.length ++ [0, 0, 0, 0]) t = fieldNum ws t := by
  have hl := numL_len ws ws.length
  unfold nth fieldNum
  rw [List.getD_eq_getElem?_getD]
  rcases Nat.lt_or_ge t ws.length with q | q
  · rw [List.getElem?_append_left (by omega)]
    simp [numL, q, tx]
  · have e : uintOf [48] = some 0 := uintOf_iff.2 ⟨by omega, by rw [dec_small (by omega)]; rfl⟩
    have e2 : numOf [48] = 0 := numOf_uint e
    have e3 : ws.getD t [48] = [48] := by rw [List.getD_eq_getElem?_getD, List.getElem?_eq_none q]; rfl
    rw [List.getElem?_append_right (by omega), hl, e3, e2]
    rcases (show t - ws.length = 0 ∨ t - ws.length = 1 ∨ t - ws.length = 2 ∨ t - ws.length = 3 by omega) with q | q | q | q <;> rw [q] <;> rfl
theorem spaced_take {ws : List (List UInt8)} {j : Nat} (h : j < ws.length) : spaced (ws.take (j + 1)) = spaced (ws.take j) ++ (32 :: tx ws j) := by
  rw [List.take_succ_eq_append_getElem h, spaced_app]
  simp [spaced, tx, h]
def hit (w0 : List UInt8) (ws : List (List UInt8)) (k : Nat) : Prop := formatOf ws k = (w0 ++ spaced ws, true)
theorem hit_next {w0 : List UInt8} {ws : List (List UInt8)} {k : Nat} (h : ∀ j, 1 ≤ j → j < k → ¬ hit w0 ws j) (hk : ¬ hit w0 ws k) : ∀ j, 1 ≤ j → j < k + 1 → ¬ hit w0 ws j := fun j h1 h2 => by
  rcases Nat.lt_or_ge j k with q | q
  · exact h j h1 q
  · obtain rfl : j = k := by omega
    exact hk
theorem hit_none {w0 : List UInt8} {ws : List (List UInt8)} (h : ∀ j, 1 ≤ j → j < 6 → ¬ hit w0 ws j) (n0 : ¬ (32 : UInt8) ∈ w0) (ns : ∀ w ∈ ws, ¬ (32 : UInt8) ∈ w) : parseAct (some (w0 :: ws)) = (⟨0, 0, 0, 0, 0⟩, false) := by
  by_cases q : kindOf w0 ws.length = 0
  · exact parse_no q
  · obtain ⟨h1, h5, -, -⟩ := kindOf_f q
    exact parse_f fun z => h _ h1 (by omega) ((hit_iff h1 h5 n0 ns).2 ⟨rfl, z⟩)
theorem hit_some {w0 : List UInt8} {ws : List (List UInt8)} {k : Nat} (h1 : 1 ≤ k) (h5 : k ≤ 5) (h : hit w0 ws k) (n0 : ¬ (32 : UInt8) ∈ w0) (ns : ∀ w ∈ ws, ¬ (32 : UInt8) ∈ w) : parseAct (some (w0 :: ws)) = (⟨k, fieldNum ws 0, fieldNum ws 1, fieldNum ws 2, fieldNum ws 3⟩, true) := by
  obtain ⟨a, b⟩ := (hit_iff h1 h5 n0 ns).1 h
  exact parse_t a (by omega) b
theorem fieldNum_bd (ws : List (List UInt8)) (t : Nat) : -1000000000 ≤ fieldNum ws t ∧ fieldNum ws t ≤ 1000000000 := numOf_bd _
theorem cell_four_new (w : World) (x y z u : Value) (t : TypeId) : ∀ j v, [x, y, z, u][j]? = some v → (w.alloc (.cells #[x, y, z, u] t)).cell? ((⟨w.heap.size, 0, none⟩ : Addr).add j) = some v := by
  intro j v hj
  rw [Addr.add_lit, Nat.zero_add]
  rw [World.cell?_alloc_new]
  simpa using hj

set_option maxRecDepth 100000 in
set_option maxHeartbeats 8000000 in
theorem specParseAct (l : List UInt8) (hl : l.length ≤ 1000000000) (w : World) : Calls Tryz.prog 34 #[.string (bstr l)] w (PP (parseAct (splitFields l)) w) := by
  obtain ⟨i0, hi, hz0, hz1, hz2⟩ := info_parts Tryz.infoInt
  have B0 := Lib.hid (balloc (bref w) (.cells #[.int .i64 0, .int .i64 0, .int .i64 0, .int .i64 0, .int .i64 0] 49))
  have X0 := Lib.hid (five_new w (.int .i64 0) (.int .i64 0) (.int .i64 0) (.int .i64 0) (.int .i64 0))
  cases hF : splitFields l with
  | none =>
    go_enter Tryz.func34, Tryz.ntmps34
    go_wp2_with (first | (go_at_call 33; refine (specSplitFields l hl _).mono ?_; rw [hF]; simp only [Option.isSome_none, Option.getD_none]; rintro e w1 ⟨v, rfl, ho, hb1⟩; obtain ⟨adv, capv, rfl, hcap⟩ := own_formC ho; have HB1 := Lib.hid (bnext B0.out hb1); have X1 := Lib.hid (X0.out.below hb1); have zz := HB1.out.size; have zy := X1.out.lt; obtain ⟨r0, r1, r2, r3, r4, q0, q1, q2, q3, q4⟩ := X1.out; clear hb1))
    refine bodyPost_ret (v := .tuple #[.agg #[.int .i64 0, .int .i64 0, .int .i64 0, .int .i64 0, .int .i64 0], .bool false]) (by simp [results, Tryz.results34, go_sem, r0, r1, r2, r3, r4]) rfl ?_
    refine pp_no rfl ?_
    repeat (first | with_reducible exact HB1.out | with_reducible refine bset ?_ (by simp only []; omega) _)
  | some G =>
    cases G with
    | nil =>
      have hin : inB 0 1 5 = false := by decide
      go_enter Tryz.func34, Tryz.ntmps34
      go_wp2_with (first | (go_at_call 33; refine (specSplitFields l hl _).mono ?_; rw [hF]; simp only [Option.isSome_some, Option.getD_some]; rintro e w1 ⟨v, rfl, ho, hb1⟩; obtain ⟨adv, capv, rfl, hcap⟩ := own_formC ho; have HB1 := Lib.hid (bnext B0.out hb1); have X1 := Lib.hid (X0.out.below hb1); have zz := HB1.out.size; have zy := X1.out.lt; obtain ⟨r0, r1, r2, r3, r4, q0, q1, q2, q3, q4⟩ := X1.out; clear hb1) | (go_at_call 62; refine (l01In_any _ _ _ _).mono ?_; rw [hin]; rintro e w' ⟨rfl, rfl⟩))
      refine bodyPost_ret (v := .tuple #[.agg #[.int .i64 0, .int .i64 0, .int .i64 0, .int .i64 0, .int .i64 0], .bool false]) (by simp [results, Tryz.results34, go_sem, r0, r1, r2, r3, r4]) rfl ?_
      refine pp_no rfl ?_
      repeat (first | with_reducible exact HB1.out | with_reducible refine bset ?_ (by simp only []; omega) _)
    | cons w0 ws =>
      by_cases h4 : 4 < ws.length
      · have H := Lib.hid (parse_no (w0 := w0) (kindOf_4 h4))
        have hin : inB ((ws.length : Int) + 1) 1 5 = false := inB_f (by omega)
        go_enter Tryz.func34, Tryz.ntmps34
        go_wp2_with (first | (go_at_call 33; refine (specSplitFields l hl _).mono ?_; rw [hF]; simp only [Option.isSome_some, Option.getD_some]; rintro e w1 ⟨v, rfl, ho, hb1⟩; obtain ⟨adv, capv, rfl, hcap⟩ := own_formC ho; have HB1 := Lib.hid (bnext B0.out hb1); have X1 := Lib.hid (X0.out.below hb1); have zz := HB1.out.size; have zy := X1.out.lt; obtain ⟨r0, r1, r2, r3, r4, q0, q1, q2, q3, q4⟩ := X1.out; clear hb1) | (go_at_call 62; refine (l01In_any _ _ _ _).mono ?_; rw [hin]; rintro e w' ⟨rfl, rfl⟩))
        refine bodyPost_ret (v := .tuple #[.agg #[.int .i64 0, .int .i64 0, .int .i64 0, .int .i64 0, .int .i64 0], .bool false]) (by simp [results, Tryz.results34, go_sem, r0, r1, r2, r3, r4]) rfl ?_
        refine pp_no H.out ?_
        repeat (first | with_reducible exact HB1.out | with_reducible refine bset ?_ (by simp only []; omega) _)
      · have hin : inB ((ws.length : Int) + 1) 1 5 = true := inB_t (by omega) (by omega)
        have hshort := split_short hF
        have hno := split_no32 hF
        have hw4 : ws.length ≤ 4 := by omega
        have n0 := hno w0 (by simp)
        have ns := Lib.hid (fun w hw => hno w (List.mem_cons_of_mem _ hw))
        have hl0 : w0.length ≤ 600 := hshort w0 (by simp)
        clear h4 hno
        go_enter Tryz.func34, Tryz.ntmps34
        go_upto_region 5 with (first | (go_at_call 33; refine (specSplitFields l hl _).mono ?_; rw [hF]; simp only [Option.isSome_some, Option.getD_some]; rintro e w1 ⟨v, rfl, ho, hb1⟩; obtain ⟨adv, capv, rfl, hcap⟩ := own_formC ho; have HB1 := Lib.hid (bnext B0.out hb1); have X1 := Lib.hid (X0.out.below hb1); have zz := HB1.out.size; have zy := X1.out.lt; have TX := Lib.hid (Texts.of_own ho (by simp; omega)); clear ho; obtain ⟨_, _, _, hq, hc⟩ := TX.out; cases hq; obtain ⟨b, o, rfl, e0⟩ := hc 0 (by simp); rw [Nat.add_zero, show tx (w0 :: ws) 0 = w0 from rfl] at e0; have i6 : (0 : Int) < (ws.length : Int) + 1 := (by omega); clear hb1) | (go_at_call 62; refine (l01In_any _ _ _ _).mono ?_; rw [hin]; rintro e w' ⟨rfl, rfl⟩))
        have HR0 := Lib.hid (World.ownsRow_lit (e := 3) (size := 1) w1 #[] 0 (Nat.le_refl _) (by decide) rfl)
        have HW0 := Lib.hid (balloc (bref w1) (.cells #[] 3))
        clear e0
        go_wp2
        go_loopw [6, 7, 8] (fun s n i wr => ∃ (j : Nat) (t : List UInt8), j ≤ ws.length ∧ i = .int .i64 (j + 1) ∧ s = .string (bstr t) ∧ Hid (t = w0 ++ spaced (ws.take j)) ∧ t.length ≤ 601 * (j + 1) ∧ Hid (wr.ownsRow w1.heap.size 3 1 n j ((numL ws j).map (Value.int .i64))) ∧ Hid (Below w1.heap.size w1 wr)) (fun _ _ i _ => ws.length + 1 - (intOf i).toNat)
        case atStart => exact ⟨0, w0, Nat.zero_le _, rfl, rfl, Lib.hid (by simp [spaced]), by omega, HR0.out, HW0.out⟩
        case round =>
          clear HR0 HW0
          obtain ⟨j, t, hj, rfl, rfl, HT, htl, HO, HB⟩ := hrel
          have zr := HB.out.size
          by_cases hlt : j < ws.length
          · have j1 : (j : Int) + 1 < (ws.length : Int) + 1 := by omega
            have j0 : (0 : Int) ≤ (j : Int) + 1 := by omega
            have j3 : ¬ (j : Int) + 1 < 0 := by omega
            have j4 : ¬ (ws.length : Int) + 1 ≤ (j : Int) + 1 := by omega
            obtain ⟨_, _, _, hq, hc2⟩ := TX.out.below HB.out
            cases hq
            obtain ⟨b2, o2, hb2, e1⟩ := hc2 (j + 1) (by simp; omega)
            cases hb2
            rw [show tx (w0 :: ws) (j + 1) = tx ws j from rfl] at e1
            have hsh : (tx ws j).length ≤ 600 := hshort (tx ws j) (by simp [tx, hlt])
            have HS := Lib.hid (spaced_take hlt)
            have HNs := Lib.hid (numL_succ ws j)
            generalize hts : tx ws j = s at *
            obtain ⟨q, hqe⟩ : ∃ q, q = t ++ [32] := ⟨_, rfl⟩
            have ad1 : ∀ W : World, (Op.stringOp .add (bstr t) { data := #[32] }).run Tryz.prog W = .ok (.string (bstr q)) W := by rw [hqe]; exact add_to t [32] _ rfl (by simp; omega)
            obtain ⟨u, hu⟩ : ∃ u, u = q ++ s := ⟨_, rfl⟩
            have ad2 : ∀ W : World, (Op.stringOp .add (bstr q) (bstr s)).run Tryz.prog W = .ok (.string (bstr u)) W := by rw [hu]; exact add_at _ _ _ rfl (by rw [hqe]; simp; omega)
            have hul : u.length ≤ 601 * (j + 1 + 1) := by rw [hu, hqe]; simp; omega
            have HU : Hid (u = w0 ++ spaced (ws.take (j + 1))) := Lib.hid (by rw [hu, hqe, HT.out, HS.out]; simp)
            have TXr := Lib.hid (TX.out.below HB.out)
            clear hu hqe HT HS hts
            go_wp2_with (first | (go_at_call 63; refine (specNumber s (by omega) _).mono ?_; rintro e w3 ⟨rfl, hb3⟩; have HB3 := Lib.hid (bnext HB.out hb3); have HO3 := Lib.hid (own_below HO.out hb3); have z3 := HB3.out.size; clear hb3) | (at_builtin; (refine wpList_append_own _ rfl _ _ 25 rfl w1.heap.size 3 i0 (.int .i64 0) 1 8 Tryz.underlying25 hi hz0 hz1 hz2 rfl (by decide) _ _ _ rfl (HO3.out.alloc _) ⟨w3.heap.size, 0, none⟩ 1 1 [.int .i64 (numOf s)] rfl rfl (cell_one_new _ _ _) (ints_oneCell .i64 [numOf s]) (by unfold maxLen; omega) (by omega) (by simp; omega) ?_); intro v' w8 hown' hgrow hnil; have HN := Lib.hid (And.intro hown' (app_belowP HO3.out hgrow HB3.out (Nat.le_refl _))); clear hown' hgrow hnil))
            go_roundw
            case rel => exact ⟨j + 1, u, by omega, by go_num, rfl, HU, hul, Lib.hid (by rw [HNs.out]; simpa using HN.out.1), Lib.hid HN.out.2⟩
            case measure => simp [intOf]; omega
          · obtain rfl : j = ws.length := by omega
            have HS : Hid (t = w0 ++ spaced ws) := Lib.hid (by have q := HT.out; rw [List.take_length] at q; exact q)
            have jz : ¬ (ws.length : Int) + 1 < (ws.length : Int) + 1 := by omega
            clear HT
            go_upto_region 13 with (first | (at_builtin; (refine wpList_append_own _ rfl _ _ 25 rfl w1.heap.size 3 i0 (.int .i64 0) 1 8 Tryz.underlying25 hi hz0 hz1 hz2 rfl (by decide) _ _ _ rfl (HO.out.alloc _) ⟨wr.heap.size, 0, none⟩ 4 4 [.int .i64 0, .int .i64 0, .int .i64 0, .int .i64 0] rfl rfl (cell_four_new _ _ _ _ _ _) (ints_oneCell .i64 [0, 0, 0, 0]) (by unfold maxLen; omega) (by omega) (by simp; omega) ?_); intro v' w8 hown' hgrow hnil; have HN := Lib.hid (And.intro hown' (app_belowP HO.out hgrow HB.out (Nat.le_refl _))); clear hown' hgrow hnil))
            have hLl : (numL ws ws.length ++ [0, 0, 0, 0]).length = ws.length + 4 := by simp [numL_len]
            have HV : Ints w8 v' (numL ws ws.length ++ [0, 0, 0, 0]) := own_ints (by rw [hLl]; simpa using HN.out.1) (by rw [hLl]; omega)
            have HB8 := Lib.hid HN.out.2
            have HSOME := Lib.hid (fun (k : Nat) (h1 : 1 ≤ k) (h5 : k ≤ 5) (h : formatAct k (fieldNum ws 0) (fieldNum ws 1) (fieldNum ws 2) (fieldNum ws 3) = (t, true)) => hit_some (w0 := w0) (ws := ws) h1 h5 (by show formatOf ws k = _; rw [← HS.out]; exact h) n0 ns.out)
            have HNONE := Lib.hid (fun (h : ∀ j : Nat, 1 ≤ j → j < 6 → ¬ formatAct j (fieldNum ws 0) (fieldNum ws 1) (fieldNum ws 2) (fieldNum ws 3) = (t, true)) => hit_none (w0 := w0) (ws := ws) (fun j a b z => h j a b (by rw [HS.out]; exact z)) n0 ns.out)
            obtain ⟨_, adn, capn, hvn, hcn⟩ := HV
            rw [hLl] at hvn hcn
            obtain ⟨bn, on, rfl, c0⟩ := hcn 0 (by omega)
            obtain ⟨bn1, on1, h1_, c1⟩ := hcn 1 (by omega)
            obtain ⟨bn2, on2, h2_, c2⟩ := hcn 2 (by omega)
            obtain ⟨bn3, on3, h3_, c3⟩ := hcn 3 (by omega)
            cases h1_
            cases h2_
            cases h3_
            rw [numL_at ws (by omega)] at c0 c1 c2 c3
            rw [Nat.add_zero] at c0
            subst hvn
            generalize fieldNum ws 0 = n0_ at *
            generalize fieldNum ws 1 = n1_ at *
            generalize fieldNum ws 2 = n2_ at *
            generalize fieldNum ws 3 = n3_ at *
            clear hcn HN HO HS
            have CB := Lib.hid (And.intro c0 (And.intro c1 (And.intro c2 c3)))
            clear c0 c1 c2 c3
            have i0_ : (0 : Int) < (ws.length : Int) + 4 := by omega
            have i1_ : (1 : Int) < (ws.length : Int) + 4 := by omega
            have i2_ : (2 : Int) < (ws.length : Int) + 4 := by omega
            have i3_ : (3 : Int) < (ws.length : Int) + 4 := by omega
            go_loopw [9] (fun kd wr => ∃ k : Nat, 1 ≤ k ∧ k ≤ 6 ∧ kd = .int .i64 k ∧ Hid (∀ j : Nat, 1 ≤ j → j < k → ¬ formatAct j n0_ n1_ n2_ n3_ = (t, true)) ∧ Hid (Below w8.heap.size w8 wr)) (fun kd _ => 6 - (intOf kd).toNat)
            case atStart => exact ⟨1, Nat.le_refl _, by omega, rfl, Lib.hid (fun j h1 h2 => by omega), bref _⟩
            case round =>
              obtain ⟨k, hk1, hk6, rfl, HK, HX⟩ := hrel
              have HXX := Lib.hid (bnext HB8.out HX.out)
              have X9 := Lib.hid (X1.out.below HXX.out)
              have zx := HXX.out.size
              have zx9 := X9.out.lt
              by_cases h6 : k = 6
              · subst h6
                have H := Lib.hid (HNONE.out HK.out)
                obtain ⟨r0, r1, r2, r3, r4, q0, q1, q2, q3, q4⟩ := X9.out
                go_wp2
                refine bodyPost_ret (v := .tuple #[.agg #[.int .i64 0, .int .i64 0, .int .i64 0, .int .i64 0, .int .i64 0], .bool false]) (by simp [results, Tryz.results34, go_sem, r0, r1, r2, r3, r4]) rfl ?_
                refine pp_no H.out ?_
                repeat (first | with_reducible exact (bnext HB1.out HXX.out) | with_reducible refine bset ?_ (by simp only []; omega) _)
              · have hk5 : k ≤ 5 := by omega
                have i5 : (k : Int) ≤ 5 := by omega
                have c0 := (HX.out.cell (World.block_lt_of_cell? w8 _ CB.out.1)).trans CB.out.1
                have c1 := (HX.out.cell (World.block_lt_of_cell? w8 _ CB.out.2.1)).trans CB.out.2.1
                have c2 := (HX.out.cell (World.block_lt_of_cell? w8 _ CB.out.2.2.1)).trans CB.out.2.2.1
                have c3 := (HX.out.cell (World.block_lt_of_cell? w8 _ CB.out.2.2.2)).trans CB.out.2.2.2
                have hbn := World.block_lt_of_cell? wr _ c0
                simp only at hbn
                go_upto_region 15 with fail
                go_region_held3 (fun w' => w'.cell? ⟨bn, on, none⟩ = some (.int .i64 n0_) ∧ w'.cell? ⟨bn, on + 1, none⟩ = some (.int .i64 n1_) ∧ w'.cell? ⟨bn, on + 2, none⟩ = some (.int .i64 n2_) ∧ w'.cell? ⟨bn, on + 3, none⟩ = some (.int .i64 n3_))
                  (refine ⟨?_, ?_, ?_, ?_⟩ <;> go_simp)
                  (first | fail "no call")
                all_goals
                  obtain ⟨⟨q, okq⟩, hr⟩ : ∃ r, formatAct k n0_ n1_ n2_ n3_ = r := ⟨_, rfl⟩
                  have HR := Lib.hid hr
                  clear hr
                  cases okq with
                  | false =>
                    have HN := Lib.hid (fun (j : Nat) (a : 1 ≤ j) (b : j < k + 1) => show ¬ formatAct j n0_ n1_ n2_ n3_ = (t, true) from fun z => by
                      rcases Nat.lt_or_ge j k with y | y
                      · exact HK.out j a y z
                      · obtain rfl : j = k := by omega
                        rw [HR.out] at z; simp at z)
                    go_wp2_with (first | (go_at_call 64; refine (specFormatAct k n0_ n1_ n2_ n3_ _).mono ?_; rw [HR.out]; rintro e w4 ⟨rfl, hb4⟩; have HX4 : Hid (Below wr.heap.size wr w4) := Lib.hid (bnext (by repeat (first | with_reducible exact bref _ | with_reducible refine bset ?_ (by first | (simp only []; omega) | (simp; done) | (simp; omega)) _ | with_reducible refine balloc ?_ _ | with_reducible refine bdrew ?_)) hb4); clear hb4))
                    go_roundw
                    case rel => exact ⟨k + 1, by omega, by omega, by go_num, HN, Lib.hid (bnext HX.out HX4.out)⟩
                    case measure => simp [intOf]; omega
                  | true =>
                    by_cases hqt : q = t
                    · subst hqt
                      have H := Lib.hid (HSOME.out k hk1 hk5 HR.out)
                      go_wp2_with (first | (go_at_call 64; refine (specFormatAct k n0_ n1_ n2_ n3_ _).mono ?_; rw [HR.out]; rintro e w4 ⟨rfl, hb4⟩; have HX4 : Hid (Below wr.heap.size wr w4) := Lib.hid (bnext (by repeat (first | with_reducible exact bref _ | with_reducible refine bset ?_ (by first | (simp only []; omega) | (simp; done) | (simp; omega)) _ | with_reducible refine balloc ?_ _ | with_reducible refine bdrew ?_)) hb4); have F4 : Five wr.heap.size w4 (.int .i64 k) (.int .i64 n0_) (.int .i64 n1_) (.int .i64 n2_) (.int .i64 n3_) := Five.below (⟨by go_simp, by go_simp, by go_simp, by go_simp, by go_simp, by go_simp, by go_simp, by go_simp, by go_simp, by go_simp⟩) hb4; have X4 := X9.out.below HX4.out; have z4 := HX4.out.size; obtain ⟨d0, d1, d2, d3, d4, -, -, -, -, -⟩ := F4; obtain ⟨r0, r1, r2, r3, r4, q0, q1, q2, q3, q4⟩ := X4; clear hb4))
                      refine bodyPost_ret (v := .tuple #[.agg #[.int .i64 k, .int .i64 n0_, .int .i64 n1_, .int .i64 n2_, .int .i64 n3_], .bool true]) (by simp [results, Tryz.results34, go_sem, r0, r1, r2, r3, r4]) rfl ?_
                      refine pp_yes H.out ?_
                      repeat (first | with_reducible exact (bnext HB1.out (bnext HXX.out HX4.out)) | with_reducible refine bset ?_ (by simp only []; omega) _)
                    · have c6 : ((bstr q).toList == (bstr t).toList) = false := beq_eq_false_iff_ne.2 fun z => hqt (by rw [bstr_toList, bstr_toList] at z; exact z)
                      have c7 : (q == t) = false := beq_eq_false_iff_ne.2 hqt
                      have HN := Lib.hid (fun (j : Nat) (a : 1 ≤ j) (b : j < k + 1) => show ¬ formatAct j n0_ n1_ n2_ n3_ = (t, true) from fun z => by
                        rcases Nat.lt_or_ge j k with y | y
                        · exact HK.out j a y z
                        · obtain rfl : j = k := by omega
                          rw [HR.out, Prod.mk.injEq] at z; exact hqt z.1)
                      go_wp2_with (first | (go_at_call 64; refine (specFormatAct k n0_ n1_ n2_ n3_ _).mono ?_; rw [HR.out]; rintro e w4 ⟨rfl, hb4⟩; have HX4 : Hid (Below wr.heap.size wr w4) := Lib.hid (bnext (by repeat (first | with_reducible exact bref _ | with_reducible refine bset ?_ (by first | (simp only []; omega) | (simp; done) | (simp; omega)) _ | with_reducible refine balloc ?_ _ | with_reducible refine bdrew ?_)) hb4); clear hb4))
                      go_roundw
                      case rel => exact ⟨k + 1, by omega, by omega, by go_num, HN, Lib.hid (bnext HX.out HX4.out)⟩
                      case measure => simp [intOf]; omega
end Go.Proofs.YtlipfkalehikkaaGreatDoor
