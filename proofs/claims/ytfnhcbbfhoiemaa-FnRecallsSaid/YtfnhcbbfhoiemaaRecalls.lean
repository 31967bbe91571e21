/- The law of recalls, walked. -/
import Derived.Test.YtfnhcbbfhoiemaaDrawDays
import Derived.Test.YtfnhcbbfhoiemaaHas
import Derived.Test.YtfnhcbbfhoiemaaDays
namespace Go.Proofs.Ytfnhcbbfhoiemaa
open Go.ChangeShapes Go.WideShapes Go.ChangeAt Go.RowKit

set_option maxRecDepth 100000 in
set_option maxHeartbeats 2000000 in
theorem drawDays_any (v : Value) (bs : List Int) (w : World) (h : Bytes w v bs) : Calls Try.prog 15 #[v] w fun e w' => ∃ ad cap ad2 cap2 n xs ms b s, e = .returned (.tuple #[.slice ad n cap, .slice ad2 ms.length cap2, .int .i64 b, .int .i64 s]) ∧ RecL n xs ms b s ∧ Recs 3 w' (.slice ad n cap) n xs ∧ Ints w' (.slice ad2 ms.length cap2) ms ∧ Below w.heap.size w w' := by
  go_enter Try.func15, Try.ntmps15
  go_wp2_with (first | (go_at_call 58; refine (l01New_any v bs w h).mono ?_; rintro e w1 ⟨X, rfl, c1, hb1⟩; have lX := c1.lt; have yX := c1.xl; have HB1 := Lib.hid hb1; clear hb1) | (go_at_call 59; refine (l31List_any _ X v bs _ c1).mono ?_; rintro e w2 ⟨ad, n, cap, xs, rfl, HD, h1, h10, hr2, c2, o2⟩; have B2 := Lib.hid (Only.below HB1.out o2 lX); have hch := HD.chain h1 (by omega); have z2 := o2.size; have HR2 := Lib.hid hr2; clear c1 o2 hr2) | (go_at_call 60; refine (l36Days_any _ X v bs _ c2 w1.heap.size n _ xs HR2.out yX hch HD.len).mono ?_; rintro e w3 ⟨ad2, cap2, ms, rfl, HM, hm3, c3, o3⟩; have HR3 := Lib.hid (own_curP HR2.out o3 yX); have HM3 := Lib.hid hm3; have B3 := Lib.hid (Only.below B2.out o3 lX); have c3' := Lib.hid c3; clear c2 hm3 o3 c3) | (go_at_call_of 61 (Value.int .i64 (n : Int)); refine (l01Below_any _ X v bs _ _ c3'.out).mono ?_; rintro e w4 ⟨x4, rfl, p4, q4, _, c4, o4⟩; have q4 := q4 (by omega); have HR4 := Lib.hid (own_curP HR3.out o4 yX); have HM4 := Lib.hid (own_curP HM3.out o4 (by omega)); have B4 := Lib.hid (Only.below B3.out o4 lX); have c4' := Lib.hid c4; clear o4 c4) | (go_at_call_of 61 (Value.int .i64 15); refine (l01Below_any _ X v bs _ _ c4'.out).mono ?_; rintro e w5 ⟨x5, rfl, p5, q5, _, c5, o5⟩; have q5 := q5 (by omega); have HR5 := Lib.hid (own_curP HR4.out o5 yX); have HM5 := Lib.hid (own_curP HM4.out o5 (by omega)); have B5 := Lib.hid (Only.below B4.out o5 lX); clear o5 c5))
  refine bodyPost_ret (v := .tuple #[.slice ad n cap, .slice ad2 ms.length cap2, .int .i64 x4, .int .i64 x5]) (by simp [results, Try.results15, go_sem]) rfl ?_
  exact ⟨_, _, _, _, n, xs, ms, x4, x5, rfl, ⟨daysOk_t hch HM.len HM.ok, p4, q4, p5, by omega⟩, Recs.of_own HR5.out (by omega), Ints.of_own HM5.out (by have := HM.len; omega), B5.out⟩
structure RecS (vl vm va vb vc : Value) (n : Nat) (xs ms A B C : List Int) (w : World) : Prop where
  r : Recs 3 w vl n xs
  m : Ints w vm ms
  a : Ints w va A
  b : Ints w vb B
  c : Ints w vc C
theorem RecS.below {vl vm va vb vc : Value} {n : Nat} {xs ms A B C : List Int} {w w' : World} (h : RecS vl vm va vb vc n xs ms A B C w) (hb : Below w.heap.size w w') : RecS vl vm va vb vc n xs ms A B C w' := ⟨h.r.below hb, h.m.below hb, h.a.below hb, h.b.below hb, h.c.below hb⟩

set_option maxRecDepth 100000 in
set_option maxHeartbeats 8000000 in
theorem fnRecalls_any (v : Value) (bs : List Int) (w : World) (h : Bytes w v bs) : Calls Try.prog 3 #[v] w fun e w' => e = .returned (.bool true) ∧ Below w.heap.size w w' := by
  by_cases hbig : (1048576 : Int) < bs.length
  · have hd : decide ((1048576 : Int) < bs.length) = true := by simp; omega
    go_enter Try.func3, Try.ntmps3
    go_wp2_with (first | (go_at_call 14; refine (big_any v bs w h).mono ?_; rw [hd]; rintro e w' ⟨rfl, rfl⟩))
    go_ret
    exact ⟨rfl, bref _⟩
  · have hd : decide ((1048576 : Int) < bs.length) = false := by simp; omega
    go_enter Try.func3, Try.ntmps3
    go_upto_region 8 with (first | (go_at_call 14; refine (big_any v bs w h).mono ?_; rw [hd]; rintro e w' ⟨rfl, rfl⟩) | (go_at_call 15; refine (drawDays_any v bs w h).mono ?_; rintro e w1 ⟨adl, capl, adm, capm, n, xs, ms, b, s, rfl, L0, hr, hm, hb1⟩; have L := Lib.hid L0; have hn := chainOk_n (daysOk_chain L0.ok).1; have s0 := L0.s0; have s1 := L0.s1; have hs2 : (0 : Int) ≤ s / 2 := (by omega); have R := Lib.hid hr; have M := Lib.hid hm; have D := Lib.hid hb1; have HY := h.below hb1; clear L0 hr hm hb1) | (go_at_call_of 16 (Value.int .i64 s); refine (implAffectedBy _ n xs _ ms b s _ (R.out) (M.out)).mono ?_; rintro e w2 ⟨va, rfl, owna, -, hb⟩; obtain ⟨ada, capa, rfl⟩ := own_form owna; have R := Lib.hid (R.out.below hb); have M := Lib.hid (M.out.below hb); have D := Lib.hid (bnext D.out hb); have HY := HY.below hb; have Ia := Lib.hid (own_ints owna (by have := affected_len n xs ms b (s); omega)); clear hb owna) | (go_at_call_of 16 (Value.int .i64 0); refine (implAffectedBy _ n xs _ ms b 0 _ (R.out) (M.out)).mono ?_; rintro e w4 ⟨vc, rfl, ownc, -, hb⟩; obtain ⟨adc, capc, rfl⟩ := own_form ownc; have R := Lib.hid (R.out.below hb); have M := Lib.hid (M.out.below hb); have D := Lib.hid (bnext D.out hb); have HY := HY.below hb; have Ia := Lib.hid (Ia.out.below hb); have Ib := Lib.hid (Ib.out.below hb); have Ic := Lib.hid (own_ints ownc (by have := affected_len n xs ms b (0); omega)); clear hb ownc) | (go_at_call 16; refine (implAffectedBy _ n xs _ ms b (s / 2) _ (R.out) (M.out)).mono ?_; rintro e w3 ⟨vb, rfl, ownb, -, hb⟩; obtain ⟨adb, capb, rfl⟩ := own_form ownb; have R := Lib.hid (R.out.below hb); have M := Lib.hid (M.out.below hb); have D := Lib.hid (bnext D.out hb); have HY := HY.below hb; have Ia := Lib.hid (Ia.out.below hb); have Ib := Lib.hid (own_ints ownb (by have := affected_len n xs ms b ((s / 2)); omega)); clear hb ownb) | (go_at_call 17; refine (at_any v bs 0 _ HY (by omega)).mono ?_; rintro e w' ⟨a0, rfl, a1, a2, rfl⟩; obtain ⟨k0, hk0, hk1⟩ : ∃ k0 : Nat, a0 % (n : Int) = k0 ∧ k0 < n := ⟨(a0 % (n : Int)).toNat, by have := Int.emod_nonneg a0 (show (n : Int) ≠ 0 by omega); omega, by have := Int.emod_lt_of_pos a0 (show (0 : Int) < n by omega); omega⟩))
    generalize hA : affected n xs ms b s = A at *
    generalize hB : affected n xs ms b (s / 2) = B at *
    generalize hC : affected n xs ms b 0 = C at *
    have HE : Hid (∀ k : Nat, k < n → (k : Int) ∈ A → (k : Int) ∈ B ∧ (k : Int) ∈ C ∧ depends n xs k b = true ∧ ((k : Int) = b ∨ s ≤ nth ms k)) := fun k hk q => by rw [← hA] at q; rw [← hB, ← hC]; exact L.out.each hs2 (by omega) hk q
    have HI : Hid (∀ k : Nat, k < n → ((k : Int) ∈ A ↔ (k : Int) = b ∨ (s ≤ nth ms k ∧ cP xs k ∈ A))) := fun k hk => by rw [← hA]; exact L.out.iff hk
    have HDp : Hid (∀ k : Nat, k < n → decide ((k : Int) ∈ C) = depends n xs k b) := fun k hk => by rw [← hC]; exact L.out.depOf hk
    have HNg : Hid (∀ x : Int, x < 0 → ¬ x ∈ A) := fun x hx => by rw [← hA]; exact L.out.neg hx
    have hbad : b ∈ A := by rw [← hA]; exact L.out.bad
    have HCnt : Hid (countDep n xs b n = (C.length : Int)) := by have := L.out.count; rw [hC] at this; exact this.symm
    have HF := Lib.hid (L.out.first hk1)
    rw [hA] at HF
    have hok := L.out.ok
    have hlm : ms.length = n := (daysOk_chain hok).2
    have HLM := Lib.hid hlm
    have HLX := Lib.hid R.out.eq
    have hcpb : ∀ k : Nat, k < n → -1 ≤ cP xs k := fun k hk => (chainOk_p (daysOk_chain hok).1 hk).1
    have HCP := Lib.hid hcpb
    have RS := Lib.hid (show RecS (.slice adl n capl) (.slice adm ms.length capm) (.slice ada A.length capa) (.slice adb B.length capb) (.slice adc C.length capc) n xs ms A B C w4 from ⟨R.out, M.out, Ia.out, Ib.out, Ic.out⟩)
    clear hA hB hC R M Ia Ib Ic HY L hbig hd h hlm hcpb
    go_wp2_with (first | (go_at_call 18; refine (implFirstGood _ n xs _ ms k0 b s _ RS.out.r RS.out.m).mono ?_; rintro e w5 ⟨rfl, hb⟩; have RS := Lib.hid (RS.out.below hb); have D := Lib.hid (bnext D.out hb); clear hb) | (go_at_call_of 19 (Value.slice ada A.length capa); refine (has_any _ A _ _ RS.out.a).mono ?_; rintro e w' ⟨rfl, rfl⟩) | (go_at_call_of 19 (Value.slice adb B.length capb); refine (has_any _ B _ _ RS.out.b).mono ?_; rintro e w' ⟨rfl, rfl⟩) | (go_at_call_of 19 (Value.slice adc C.length capc); refine (has_any _ C _ _ RS.out.c).mono ?_; rintro e w' ⟨rfl, rfl⟩) | (go_at_call 20; refine (implCountBelow _ n xs b _ RS.out.r (by omega)).mono ?_; rw [HCnt.out]; rintro e w6 ⟨rfl, hb⟩; have RS := Lib.hid (RS.out.below hb); have D := Lib.hid (bnext D.out hb); clear hb))
    generalize firstGood n xs ms k0 b s = g at *
    go_loopw [12] (fun i wr => ∃ k : Nat, k ≤ n ∧ i = .int .i64 k ∧ Hid (Below w6.heap.size w6 wr)) (fun i _ => n - (intOf i).toNat)
    case atStart => exact ⟨0, Nat.zero_le _, rfl, bref _⟩
    case round =>
      obtain ⟨k, hk, rfl, HB⟩ := hrel
      have RS := Lib.hid (RS.out.below HB.out)
      by_cases hlt : k < n
      · obtain ⟨_, _, _, _, hv, hc⟩ := RS.out.r
        cases hv
        obtain ⟨bl, ol, rfl, e0, _, _, _⟩ := at3 HLX.out hc k hlt
        obtain ⟨_, _, _, hv2, hc2⟩ := RS.out.m
        cases hv2
        obtain ⟨bm, om, rfl, f0⟩ := hc2 k (by have := HLM.out; omega)
        clear hc hc2
        have hkm : k < ms.length := by have := HLM.out; omega
        have hiff := HI.out k hlt
        have hdep := HDp.out k hlt
        have hcp := HCP.out k hlt
        by_cases hkb : (k : Int) = b
        · have hAm : (k : Int) ∈ A := hiff.2 (.inl hkb)
          obtain ⟨hBm, hCm, hD, -⟩ := HE.out k hlt hAm
          clear hiff hdep
          subst hkb
          go_wp2_with (first | (go_at_call_of 19 (Value.slice ada A.length capa); refine (has_any _ A _ _ RS.out.a).mono ?_; rintro e w' ⟨rfl, rfl⟩) | (go_at_call_of 19 (Value.slice adb B.length capb); refine (has_any _ B _ _ RS.out.b).mono ?_; rintro e w' ⟨rfl, rfl⟩) | (go_at_call_of 19 (Value.slice adc C.length capc); refine (has_any _ C _ _ RS.out.c).mono ?_; rintro e w' ⟨rfl, rfl⟩) | (go_at_call 21; refine (implDoesDepend _ n xs _ _ _ RS.out.r).mono ?_; rw [hD]; rintro e w7 ⟨rfl, hbn⟩; have RS := Lib.hid (RS.out.below hbn); have HB := Lib.hid (bnext HB.out hbn); have e0 := (hbn.cell (World.block_lt_of_cell? _ _ e0)).trans e0; have f0 := (hbn.cell (World.block_lt_of_cell? _ _ f0)).trans f0; clear hbn))
          all_goals
            go_roundw
            case rel => exact ⟨k + 1, by omega, by go_num, HB.out⟩
            case measure => simp [intOf]; omega
        · have hkq : ((k : Int) == b) = false := by simpa using hkb
          by_cases hp : 0 ≤ cP xs k
          · by_cases hs : s ≤ nth ms k
            · by_cases hpA : cP xs k ∈ A
              · have hAm : (k : Int) ∈ A := hiff.2 (.inr ⟨hs, hpA⟩)
                obtain ⟨hBm, hCm, hD, -⟩ := HE.out k hlt hAm
                have hs' : ¬ nth ms k < s := by omega
                clear hiff hdep
                go_wp2_with (first | (go_at_call_of 19 (Value.slice ada A.length capa); refine (has_any _ A _ _ RS.out.a).mono ?_; rintro e w' ⟨rfl, rfl⟩) | (go_at_call_of 19 (Value.slice adb B.length capb); refine (has_any _ B _ _ RS.out.b).mono ?_; rintro e w' ⟨rfl, rfl⟩) | (go_at_call_of 19 (Value.slice adc C.length capc); refine (has_any _ C _ _ RS.out.c).mono ?_; rintro e w' ⟨rfl, rfl⟩) | (go_at_call 21; refine (implDoesDepend _ n xs _ _ _ RS.out.r).mono ?_; rw [hD]; rintro e w7 ⟨rfl, hbn⟩; have RS := Lib.hid (RS.out.below hbn); have HB := Lib.hid (bnext HB.out hbn); have e0 := (hbn.cell (World.block_lt_of_cell? _ _ e0)).trans e0; have f0 := (hbn.cell (World.block_lt_of_cell? _ _ f0)).trans f0; clear hbn))
                all_goals
                  go_roundw
                  case rel => exact ⟨k + 1, by omega, by go_num, HB.out⟩
                  case measure => simp [intOf]; omega
              · have hAm : ¬ (k : Int) ∈ A := fun q => by rcases hiff.1 q with q | q; exact hkb q; exact hpA q.2
                clear hiff
                by_cases hCm : (k : Int) ∈ C
                · have hD : depends n xs k b = true := by rw [← hdep]; exact decide_eq_true hCm
                  clear hdep
                  go_wp2_with (first | (go_at_call_of 19 (Value.slice ada A.length capa); refine (has_any _ A _ _ RS.out.a).mono ?_; rintro e w' ⟨rfl, rfl⟩) | (go_at_call_of 19 (Value.slice adb B.length capb); refine (has_any _ B _ _ RS.out.b).mono ?_; rintro e w' ⟨rfl, rfl⟩) | (go_at_call_of 19 (Value.slice adc C.length capc); refine (has_any _ C _ _ RS.out.c).mono ?_; rintro e w' ⟨rfl, rfl⟩) | (go_at_call 21; refine (implDoesDepend _ n xs _ _ _ RS.out.r).mono ?_; rw [hD]; rintro e w7 ⟨rfl, hbn⟩; have RS := Lib.hid (RS.out.below hbn); have HB := Lib.hid (bnext HB.out hbn); have e0 := (hbn.cell (World.block_lt_of_cell? _ _ e0)).trans e0; have f0 := (hbn.cell (World.block_lt_of_cell? _ _ f0)).trans f0; clear hbn))
                  all_goals
                    go_roundw
                    case rel => exact ⟨k + 1, by omega, by go_num, HB.out⟩
                    case measure => simp [intOf]; omega
                · have hD : depends n xs k b = false := by rw [← hdep]; exact decide_eq_false hCm
                  clear hdep
                  go_wp2_with (first | (go_at_call_of 19 (Value.slice ada A.length capa); refine (has_any _ A _ _ RS.out.a).mono ?_; rintro e w' ⟨rfl, rfl⟩) | (go_at_call_of 19 (Value.slice adb B.length capb); refine (has_any _ B _ _ RS.out.b).mono ?_; rintro e w' ⟨rfl, rfl⟩) | (go_at_call_of 19 (Value.slice adc C.length capc); refine (has_any _ C _ _ RS.out.c).mono ?_; rintro e w' ⟨rfl, rfl⟩) | (go_at_call 21; refine (implDoesDepend _ n xs _ _ _ RS.out.r).mono ?_; rw [hD]; rintro e w7 ⟨rfl, hbn⟩; have RS := Lib.hid (RS.out.below hbn); have HB := Lib.hid (bnext HB.out hbn); have e0 := (hbn.cell (World.block_lt_of_cell? _ _ e0)).trans e0; have f0 := (hbn.cell (World.block_lt_of_cell? _ _ f0)).trans f0; clear hbn))
                  all_goals
                    go_roundw
                    case rel => exact ⟨k + 1, by omega, by go_num, HB.out⟩
                    case measure => simp [intOf]; omega
            · have hAm : ¬ (k : Int) ∈ A := fun q => by rcases hiff.1 q with q | q; exact hkb q; exact hs q.1
              clear hiff
              by_cases hpA : cP xs k ∈ A
              · skip
                by_cases hCm : (k : Int) ∈ C
                · have hD : depends n xs k b = true := by rw [← hdep]; exact decide_eq_true hCm
                  clear hdep
                  go_wp2_with (first | (go_at_call_of 19 (Value.slice ada A.length capa); refine (has_any _ A _ _ RS.out.a).mono ?_; rintro e w' ⟨rfl, rfl⟩) | (go_at_call_of 19 (Value.slice adb B.length capb); refine (has_any _ B _ _ RS.out.b).mono ?_; rintro e w' ⟨rfl, rfl⟩) | (go_at_call_of 19 (Value.slice adc C.length capc); refine (has_any _ C _ _ RS.out.c).mono ?_; rintro e w' ⟨rfl, rfl⟩) | (go_at_call 21; refine (implDoesDepend _ n xs _ _ _ RS.out.r).mono ?_; rw [hD]; rintro e w7 ⟨rfl, hbn⟩; have RS := Lib.hid (RS.out.below hbn); have HB := Lib.hid (bnext HB.out hbn); have e0 := (hbn.cell (World.block_lt_of_cell? _ _ e0)).trans e0; have f0 := (hbn.cell (World.block_lt_of_cell? _ _ f0)).trans f0; clear hbn))
                  all_goals
                    go_roundw
                    case rel => exact ⟨k + 1, by omega, by go_num, HB.out⟩
                    case measure => simp [intOf]; omega
                · have hD : depends n xs k b = false := by rw [← hdep]; exact decide_eq_false hCm
                  clear hdep
                  go_wp2_with (first | (go_at_call_of 19 (Value.slice ada A.length capa); refine (has_any _ A _ _ RS.out.a).mono ?_; rintro e w' ⟨rfl, rfl⟩) | (go_at_call_of 19 (Value.slice adb B.length capb); refine (has_any _ B _ _ RS.out.b).mono ?_; rintro e w' ⟨rfl, rfl⟩) | (go_at_call_of 19 (Value.slice adc C.length capc); refine (has_any _ C _ _ RS.out.c).mono ?_; rintro e w' ⟨rfl, rfl⟩) | (go_at_call 21; refine (implDoesDepend _ n xs _ _ _ RS.out.r).mono ?_; rw [hD]; rintro e w7 ⟨rfl, hbn⟩; have RS := Lib.hid (RS.out.below hbn); have HB := Lib.hid (bnext HB.out hbn); have e0 := (hbn.cell (World.block_lt_of_cell? _ _ e0)).trans e0; have f0 := (hbn.cell (World.block_lt_of_cell? _ _ f0)).trans f0; clear hbn))
                  all_goals
                    go_roundw
                    case rel => exact ⟨k + 1, by omega, by go_num, HB.out⟩
                    case measure => simp [intOf]; omega
              · skip
                by_cases hCm : (k : Int) ∈ C
                · have hD : depends n xs k b = true := by rw [← hdep]; exact decide_eq_true hCm
                  clear hdep
                  go_wp2_with (first | (go_at_call_of 19 (Value.slice ada A.length capa); refine (has_any _ A _ _ RS.out.a).mono ?_; rintro e w' ⟨rfl, rfl⟩) | (go_at_call_of 19 (Value.slice adb B.length capb); refine (has_any _ B _ _ RS.out.b).mono ?_; rintro e w' ⟨rfl, rfl⟩) | (go_at_call_of 19 (Value.slice adc C.length capc); refine (has_any _ C _ _ RS.out.c).mono ?_; rintro e w' ⟨rfl, rfl⟩) | (go_at_call 21; refine (implDoesDepend _ n xs _ _ _ RS.out.r).mono ?_; rw [hD]; rintro e w7 ⟨rfl, hbn⟩; have RS := Lib.hid (RS.out.below hbn); have HB := Lib.hid (bnext HB.out hbn); have e0 := (hbn.cell (World.block_lt_of_cell? _ _ e0)).trans e0; have f0 := (hbn.cell (World.block_lt_of_cell? _ _ f0)).trans f0; clear hbn))
                  all_goals
                    go_roundw
                    case rel => exact ⟨k + 1, by omega, by go_num, HB.out⟩
                    case measure => simp [intOf]; omega
                · have hD : depends n xs k b = false := by rw [← hdep]; exact decide_eq_false hCm
                  clear hdep
                  go_wp2_with (first | (go_at_call_of 19 (Value.slice ada A.length capa); refine (has_any _ A _ _ RS.out.a).mono ?_; rintro e w' ⟨rfl, rfl⟩) | (go_at_call_of 19 (Value.slice adb B.length capb); refine (has_any _ B _ _ RS.out.b).mono ?_; rintro e w' ⟨rfl, rfl⟩) | (go_at_call_of 19 (Value.slice adc C.length capc); refine (has_any _ C _ _ RS.out.c).mono ?_; rintro e w' ⟨rfl, rfl⟩) | (go_at_call 21; refine (implDoesDepend _ n xs _ _ _ RS.out.r).mono ?_; rw [hD]; rintro e w7 ⟨rfl, hbn⟩; have RS := Lib.hid (RS.out.below hbn); have HB := Lib.hid (bnext HB.out hbn); have e0 := (hbn.cell (World.block_lt_of_cell? _ _ e0)).trans e0; have f0 := (hbn.cell (World.block_lt_of_cell? _ _ f0)).trans f0; clear hbn))
                  all_goals
                    go_roundw
                    case rel => exact ⟨k + 1, by omega, by go_num, HB.out⟩
                    case measure => simp [intOf]; omega
          · have hAm : ¬ (k : Int) ∈ A := fun q => by rcases hiff.1 q with q | q; exact hkb q; exact HNg.out _ (by omega) q.2
            clear hiff
            by_cases hCm : (k : Int) ∈ C
            · have hD : depends n xs k b = true := by rw [← hdep]; exact decide_eq_true hCm
              clear hdep
              go_wp2_with (first | (go_at_call_of 19 (Value.slice ada A.length capa); refine (has_any _ A _ _ RS.out.a).mono ?_; rintro e w' ⟨rfl, rfl⟩) | (go_at_call_of 19 (Value.slice adb B.length capb); refine (has_any _ B _ _ RS.out.b).mono ?_; rintro e w' ⟨rfl, rfl⟩) | (go_at_call_of 19 (Value.slice adc C.length capc); refine (has_any _ C _ _ RS.out.c).mono ?_; rintro e w' ⟨rfl, rfl⟩) | (go_at_call 21; refine (implDoesDepend _ n xs _ _ _ RS.out.r).mono ?_; rw [hD]; rintro e w7 ⟨rfl, hbn⟩; have RS := Lib.hid (RS.out.below hbn); have HB := Lib.hid (bnext HB.out hbn); have e0 := (hbn.cell (World.block_lt_of_cell? _ _ e0)).trans e0; have f0 := (hbn.cell (World.block_lt_of_cell? _ _ f0)).trans f0; clear hbn))
              all_goals
                go_roundw
                case rel => exact ⟨k + 1, by omega, by go_num, HB.out⟩
                case measure => simp [intOf]; omega
            · have hD : depends n xs k b = false := by rw [← hdep]; exact decide_eq_false hCm
              clear hdep
              go_wp2_with (first | (go_at_call_of 19 (Value.slice ada A.length capa); refine (has_any _ A _ _ RS.out.a).mono ?_; rintro e w' ⟨rfl, rfl⟩) | (go_at_call_of 19 (Value.slice adb B.length capb); refine (has_any _ B _ _ RS.out.b).mono ?_; rintro e w' ⟨rfl, rfl⟩) | (go_at_call_of 19 (Value.slice adc C.length capc); refine (has_any _ C _ _ RS.out.c).mono ?_; rintro e w' ⟨rfl, rfl⟩) | (go_at_call 21; refine (implDoesDepend _ n xs _ _ _ RS.out.r).mono ?_; rw [hD]; rintro e w7 ⟨rfl, hbn⟩; have RS := Lib.hid (RS.out.below hbn); have HB := Lib.hid (bnext HB.out hbn); have e0 := (hbn.cell (World.block_lt_of_cell? _ _ e0)).trans e0; have f0 := (hbn.cell (World.block_lt_of_cell? _ _ f0)).trans f0; clear hbn))
              all_goals
                go_roundw
                case rel => exact ⟨k + 1, by omega, by go_num, HB.out⟩
                case measure => simp [intOf]; omega
      · obtain rfl : k = n := by omega
        obtain ⟨hG, hK⟩ := HF.out
        have hok' : daysOk k xs ms = true := hok
        rcases hG with hG | ⟨hG0, hG1, hG2⟩
        · have hKA : (k0 : Int) ∈ A := by
            rcases hK with q | q
            · exact q
            · omega
          clear hK
          go_wp2_with (first | (go_at_call_of 19 (Value.slice ada A.length capa); refine (has_any _ A _ _ RS.out.a).mono ?_; rintro e w' ⟨rfl, rfl⟩) | (go_at_call_of 19 (Value.slice adb B.length capb); refine (has_any _ B _ _ RS.out.b).mono ?_; rintro e w' ⟨rfl, rfl⟩) | (go_at_call_of 19 (Value.slice adc C.length capc); refine (has_any _ C _ _ RS.out.c).mono ?_; rintro e w' ⟨rfl, rfl⟩) | (go_at_call 22; refine (implDaysOk _ k xs _ ms _ RS.out.r RS.out.m).mono ?_; rw [hok']; rintro e w8 ⟨rfl, hbn⟩; have RS := Lib.hid (RS.out.below hbn); have HB := Lib.hid (bnext HB.out hbn); clear hbn))
          all_goals
            go_ret
            exact ⟨rfl, bnext D.out HB.out⟩
        · have hGn : ¬ g < 0 := by omega
          rcases hK with hK | hK
          · go_wp2_with (first | (go_at_call_of 19 (Value.slice ada A.length capa); refine (has_any _ A _ _ RS.out.a).mono ?_; rintro e w' ⟨rfl, rfl⟩) | (go_at_call_of 19 (Value.slice adb B.length capb); refine (has_any _ B _ _ RS.out.b).mono ?_; rintro e w' ⟨rfl, rfl⟩) | (go_at_call_of 19 (Value.slice adc C.length capc); refine (has_any _ C _ _ RS.out.c).mono ?_; rintro e w' ⟨rfl, rfl⟩) | (go_at_call 22; refine (implDaysOk _ k xs _ ms _ RS.out.r RS.out.m).mono ?_; rw [hok']; rintro e w8 ⟨rfl, hbn⟩; have RS := Lib.hid (RS.out.below hbn); have HB := Lib.hid (bnext HB.out hbn); clear hbn) | (go_at_call 21; refine (implDoesDepend _ k xs _ g _ RS.out.r).mono ?_; rw [hG2]; rintro e w9 ⟨rfl, hbn⟩; have RS := Lib.hid (RS.out.below hbn); have HB := Lib.hid (bnext HB.out hbn); clear hbn))
            all_goals
              go_ret
              exact ⟨rfl, bnext D.out HB.out⟩
          · have hKb : (g == (k0 : Int)) = true := by rw [hK]; simp
            have hKA : ¬ (k0 : Int) ∈ A := by rw [← hK]; exact hG1
            clear hK
            go_wp2_with (first | (go_at_call_of 19 (Value.slice ada A.length capa); refine (has_any _ A _ _ RS.out.a).mono ?_; rintro e w' ⟨rfl, rfl⟩) | (go_at_call_of 19 (Value.slice adb B.length capb); refine (has_any _ B _ _ RS.out.b).mono ?_; rintro e w' ⟨rfl, rfl⟩) | (go_at_call_of 19 (Value.slice adc C.length capc); refine (has_any _ C _ _ RS.out.c).mono ?_; rintro e w' ⟨rfl, rfl⟩) | (go_at_call 22; refine (implDaysOk _ k xs _ ms _ RS.out.r RS.out.m).mono ?_; rw [hok']; rintro e w8 ⟨rfl, hbn⟩; have RS := Lib.hid (RS.out.below hbn); have HB := Lib.hid (bnext HB.out hbn); clear hbn) | (go_at_call 21; refine (implDoesDepend _ k xs _ g _ RS.out.r).mono ?_; rw [hG2]; rintro e w9 ⟨rfl, hbn⟩; have RS := Lib.hid (RS.out.below hbn); have HB := Lib.hid (bnext HB.out hbn); clear hbn))
            all_goals
              go_ret
              exact ⟨rfl, bnext D.out HB.out⟩
end Go.Proofs.Ytfnhcbbfhoiemaa
