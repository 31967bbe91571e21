/- The law of summaries, walked. -/
import Derived.Test.YtfnlniknclkeaaaDoorFormatHouse
import Derived.Test.YtfnlniknclkeaaaDoorDrawActs
import Derived.Test.YtfnlniknclkeaaaDoorGH
import Derived.Test.YtfnlniknclkeaaaDoorGA
import Derived.Deep.RegionHeld3
import Derived.Deep.RegionWith
namespace Go.Proofs.YtfnlniknclkeaaaDoor
open Go.ChangeShapes Go.WideShapes Go.ChangeAt Go.RowKit

theorem tx_line (h : HD) {k : Nat} (hk : k < h.n) : tx (linesTo h h.n ++ [dayLine h, sentLine h]) k = houseLine h k := by
  have hl := linesTo_len h h.n
  unfold tx
  rw [List.getD_eq_getElem?_getD, List.getElem?_append_left (by omega)]
  simp [linesTo, hk]
theorem tx_end (h : HD) : tx (linesTo h h.n ++ [dayLine h, sentLine h]) h.n = dayLine h ∧ tx (linesTo h h.n ++ [dayLine h, sentLine h]) (h.n + 1) = sentLine h := by
  have hl := linesTo_len h h.n
  constructor
  · unfold tx; rw [List.getD_eq_getElem?_getD, List.getElem?_append_right (by omega), hl, Nat.sub_self]; rfl
  · unfold tx; rw [List.getD_eq_getElem?_getD, List.getElem?_append_right (by omega), hl, Nat.add_sub_cancel_left]; rfl
set_option linter.unusedSimpArgs false in
set_option maxRecDepth 100000 in
set_option maxHeartbeats 8000000 in
theorem fnSummaries_any (v : Value) (bs : List Int) (w : World) (h : Bytes w v bs) (ht : Tab w) : Calls Tryd.prog 6 #[v] w fun e w' => e = .returned (.bool true) ∧ Below w.heap.size w w' := by
  by_cases hbig : (1048576 : Int) < bs.length
  · have hd : decide ((1048576 : Int) < bs.length) = true := by simp; omega
    go_enter Tryd.func6, Tryd.ntmps6
    go_wp2_with (first | (go_at_call 7; refine (big_any v bs w h).mono ?_; rw [hd]; rintro e w' ⟨rfl, rfl⟩))
    go_ret
    exact ⟨rfl, bref _⟩
  · have hd : decide ((1048576 : Int) < bs.length) = false := by simp; omega
    go_enter Tryd.func6, Tryd.ntmps6
    go_upto_region 4 with (first | (go_at_call 7; refine (big_any v bs w h).mono ?_; rw [hd]; rintro e w' ⟨rfl, rfl⟩) | (go_at_call 8; refine (drawActs_any v bs w h).mono ?_; rintro e w1 ⟨hx, ac0, am0, ao0, at0, cc0, cm0, co0, ct0, ada, n, capa, xs, rfl, ok, hO, hda, hn21, hra, hb1⟩; have HH := Lib.hid hO; have D := Lib.hid hb1; have BY := Lib.hid (h.below hb1); have HA := Lib.hid hra; have HAD := Lib.hid hda; clear hO hb1 hra hda))
    have X1 := Lib.hid (BoxH.first HH.out (Nat.le_refl _))
    have HA1 := Lib.hid (own_below HA.out (balloc (bref w1) (.cells #[.slice ac0 (hx).n cc0, .slice am0 (hx).ms.length cm0, .slice ao0 (hx).os.length co0, .slice at0 (hx).ts.length ct0, .int .i64 (hx).sent, .int .i64 (hx).day] 27)))
    have DX := Lib.hid (balloc D.out (.cells #[.slice ac0 (hx).n cc0, .slice am0 (hx).ms.length cm0, .slice ao0 (hx).os.length co0, .slice at0 (hx).ts.length ct0, .int .i64 (hx).sent, .int .i64 (hx).day] 27))
    have BY := Lib.hid (BY.out.below (balloc (bref w1) (.cells #[.slice ac0 (hx).n cc0, .slice am0 (hx).ms.length cm0, .slice ao0 (hx).os.length co0, .slice at0 (hx).ts.length ct0, .int .i64 (hx).sent, .int .i64 (hx).day] 27)))
    have TB := Lib.hid (ht.below DX.out)
    clear hbig hd h D HH HA ht
    generalize w1.alloc (.cells #[.slice ac0 (hx).n cc0, .slice am0 (hx).ms.length cm0, .slice ao0 (hx).os.length co0, .slice at0 (hx).ts.length ct0, .int .i64 (hx).sent, .int .i64 (hx).day] 27) = u1 at *
    clear HA1 HAD BY
    have hB := houseOk_B ok
    have HFt := formatHouse_t ok
    have hfa := houseOk_facts ok
    have hn12 := (chainOk_n (daysOk_chain hfa.days).1).2
    have HOL := Lib.hid (ownersOk_chain hfa.owners).2
    have HFO := Lib.hid (fun (k : Nat) (q : k < hx.n) => ownersOk_at' hfa.owners q)
    obtain ⟨d0, d1⟩ := hfa.day
    obtain ⟨t0, t1⟩ := hfa.sent
    have hlen : (formatHouse hx).length = hx.n + 2 := by rw [HFt, List.length_append, linesTo_len]; rfl
    have HT0 := Lib.hid (show tx (formatHouse hx) hx.n = dayLine hx ∧ tx (formatHouse hx) (hx.n + 1) = sentLine hx by rw [HFt]; exact tx_end hx)
    have HTk := Lib.hid (fun (k : Nat) (hk : k < hx.n) => show tx (formatHouse hx) k = houseLine hx k by rw [HFt]; exact tx_line hx hk)
    clear HFt hfa
    have g0 := X1.out.six.c0
    have g1 := X1.out.six.c1
    have g2 := X1.out.six.c2
    have g3 := X1.out.six.c3
    have g4 := X1.out.six.c4
    have g5 := X1.out.six.c5
    obtain ⟨FL, hFL⟩ : ∃ FL, formatHouse hx = FL := ⟨_, rfl⟩
    rw [hFL] at hlen HT0 HTk
    have HFL := Lib.hid hFL
    have HLN := Lib.hid hlen
    clear hFL hlen
    go_upto_region 6 with (first | (go_at_call 11; refine (implFormatHouse _ _ _ _ hx _ (X1.out.house.read hB) TB.out).mono ?_; rw [HFL.out]; rintro e w2 ⟨v2, rfl, ho2, hb2⟩; have TX0 := Texts.of_own ho2 (by rw [HLN.out]; omega); obtain ⟨adf, capf, hv2⟩ := own_form ho2; rw [HLN.out] at hv2; subst hv2; have TX := Lib.hid TX0; have X1 := Lib.hid (X1.out.below hb2); have DX := Lib.hid (bnext DX.out hb2); have TB := Lib.hid (TB.out.below hb2); clear ho2 hb2 TX0 g0 g1 g2 g3 g4 g5; have g0 := X1.out.six.c0; have g1 := X1.out.six.c1; have g2 := X1.out.six.c2; have g3 := X1.out.six.c3; have g4 := X1.out.six.c4; have g5 := X1.out.six.c5))
    obtain ⟨_, _, _, hvf, hcf⟩ := TX.out
    rw [HLN.out] at hvf hcf
    cases hvf
    obtain ⟨b, o, rfl, en⟩ := hcf hx.n (by omega)
    obtain ⟨b2, o2, h2_, en1⟩ := hcf (hx.n + 1) (by omega)
    cases h2_
    rw [HT0.out.1] at en
    rw [HT0.out.2] at en1
    have HCF := Lib.hid hcf
    clear hcf
    obtain ⟨a0, a1, s0, s1, E0, E1, ad1, ad2, L0, L1⟩ := end_steps (P := Tryd.prog) hx d0 d1 t0 t1
    unfold Adds at ad1 ad2
    rw [← L0] at en
    rw [← L1] at en1
    have hf0 : ∀ W : World, Tab W → Calls Tryd.prog 18 #[.int .i64 hx.day] W fun e w' => e = .returned (.string (bstr a0)) ∧ Below W.heap.size W w' := fun W t => by rw [E0]; exact implFormatInt _ (by omega) (by omega) W t
    have hf1 : ∀ W : World, Tab W → Calls Tryd.prog 18 #[.int .i64 hx.sent] W fun e w' => e = .returned (.string (bstr a1)) ∧ Below W.heap.size W w' := fun W t => by rw [E1]; exact implFormatInt _ (by omega) (by omega) W t
    clear L0 L1 E0 E1
    have hw2 : IntKind.i64.wrap ((hx.n : Int) + 2) = (hx.n : Int) + 2 := by rw [IntKind.wrap_i64]; omega
    have hw1 : IntKind.i64.wrap ((hx.n : Int) + 1) = (hx.n : Int) + 1 := by rw [IntKind.wrap_i64]; omega
    have hq2 : (((hx.n : Int) + 2) == (hx.n : Int) + 2) = true := beq_self_eq_true _
    have i0 : (0 : Int) ≤ (hx.n : Int) := by omega
    have i1 : (hx.n : Int) < (hx.n : Int) + 2 := by omega
    have i2 : (0 : Int) ≤ (hx.n : Int) + 1 := by omega
    have i3 : (hx.n : Int) + 1 < (hx.n : Int) + 2 := by omega
    have yb := World.block_lt_of_cell? w2 _ en
    simp only at yb
    have yx := X1.out.six.lt
    have MK : Hid (∀ w' : World, Below w2.heap.size w2 w' → w'.cell? ⟨w1.heap.size, 5, none⟩ = some (.int .i64 hx.day) ∧ w'.cell? ⟨w1.heap.size, 4, none⟩ = some (.int .i64 hx.sent) ∧ w'.cell? ⟨b, o + hx.n, none⟩ = some (.string (bstr s0)) ∧ w'.cell? ⟨b, o + (hx.n + 1), none⟩ = some (.string (bstr s1)) ∧ Below w2.heap.size w2 w') := fun w' hb => ⟨(hb.cell (p := ⟨w1.heap.size, 5, none⟩) yx).trans g5, (hb.cell (p := ⟨w1.heap.size, 4, none⟩) yx).trans g4, (hb.cell (p := ⟨b, o + hx.n, none⟩) yb).trans en, (hb.cell (p := ⟨b, o + (hx.n + 1), none⟩) yb).trans en1, hb⟩
    have TW := Lib.hid (fun (W : World) (q : Below w2.heap.size w2 W) => TB.out.below q)
    have hDr : Below w2.heap.size w2 w2.drew := bdrew (bref _)
    refine wp_region_held_drew (S := fun w' => w'.cell? ⟨w1.heap.size, 5, none⟩ = some (.int .i64 hx.day) ∧ w'.cell? ⟨w1.heap.size, 4, none⟩ = some (.int .i64 hx.sent) ∧ w'.cell? ⟨b, o + hx.n, none⟩ = some (.string (bstr s0)) ∧ w'.cell? ⟨b, o + (hx.n + 1), none⟩ = some (.string (bstr s1)) ∧ Below w2.heap.size w2 w') (by kernel_rfl) ?_ (fun hHeld_ => ?_)
    · exact MK.out _ hDr
    refine wpAnyH_take (i := 0) (v := ?v_a0) (hi := (by simp only [List.getElem?_toArray, List.getElem?_cons_zero]; rfl)) (by kernel_rfl) (by kernel_rfl) (by kernel_rfl) (by exact fun _ _ _ h => h) (Or.inl ⟨by rfl, ?hy_a0⟩) (by assumption) ?rest_a0
    case hy_a0 =>
      intro W hSW
      try dsimp only at hSW
      go_simp
      try with_reducible rfl
    try simp only [Act.put, List.setIfInBounds_toArray, List.set_cons_zero, List.set_cons_succ]
    refine wpAnyH_take (i := 1) (v := ?v_a1) (hi := (by simp only [List.getElem?_toArray, List.getElem?_cons_succ, List.getElem?_cons_zero]; rfl)) (by kernel_rfl) (by kernel_rfl) (by kernel_rfl) (by exact fun _ _ _ h => h) (Or.inl ⟨by rfl, ?hy_a1⟩) (by assumption) ?rest_a1
    case hy_a1 =>
      intro W hSW
      try dsimp only at hSW
      go_simp
      try with_reducible rfl
    try simp only [Act.put, List.setIfInBounds_toArray, List.set_cons_zero, List.set_cons_succ]
    refine wpAnyH_take (i := 2) (v := ?v_a2) (hi := (by simp only [List.getElem?_toArray, List.getElem?_cons_succ, List.getElem?_cons_zero]; rfl)) (by kernel_rfl) (by kernel_rfl) (by kernel_rfl) (by exact fun _ _ _ h => h) (Or.inl ⟨by rfl, ?hy_a2⟩) (by assumption) ?rest_a2
    case hy_a2 =>
      intro W hSW
      try dsimp only at hSW
      go_simp
      try with_reducible rfl
    try simp only [Act.put, List.setIfInBounds_toArray, List.set_cons_zero, List.set_cons_succ]
    refine wpAnyH_take (i := 3) (v := ?v_a3) (hi := (by simp only [List.getElem?_toArray, List.getElem?_cons_succ, List.getElem?_cons_zero]; rfl)) (by kernel_rfl) (by kernel_rfl) (by kernel_rfl) (by exact fun _ _ _ h => h) (Or.inl ⟨by rfl, ?hy_a3⟩) (by assumption) ?rest_a3
    case hy_a3 =>
      intro W hSW
      try dsimp only at hSW
      go_simp
      try with_reducible rfl
    try simp only [Act.put, List.setIfInBounds_toArray, List.set_cons_zero, List.set_cons_succ]
    refine wpAnyH_take (i := 4) (v := ?v_a4) (hi := (by simp only [List.getElem?_toArray, List.getElem?_cons_succ, List.getElem?_cons_zero]; rfl)) (by kernel_rfl) (by kernel_rfl) (by kernel_rfl) (by exact fun _ _ _ h => h) (Or.inl ⟨by rfl, ?hy_a4⟩) (by assumption) ?rest_a4
    case hy_a4 =>
      intro W hSW
      try dsimp only at hSW
      go_simp
      try with_reducible rfl
    try simp only [Act.put, List.setIfInBounds_toArray, List.set_cons_zero, List.set_cons_succ]
    refine wpAnyH_take (i := 5) (v := ?v_a5) (hi := (by simp only [List.getElem?_toArray, List.getElem?_cons_succ, List.getElem?_cons_zero]; rfl)) (by kernel_rfl) (by kernel_rfl) (by kernel_rfl) (by exact fun _ _ _ h => h) (Or.inl ⟨by rfl, ?hy_a5⟩) (by assumption) ?rest_a5
    case hy_a5 =>
      intro W hSW
      try dsimp only at hSW
      go_simp
      try with_reducible rfl
    try simp only [Act.put, List.setIfInBounds_toArray, List.set_cons_zero, List.set_cons_succ]
    refine wpAnyH_take (i := 6) (v := ?v_a6) (hi := (by simp only [List.getElem?_toArray, List.getElem?_cons_succ, List.getElem?_cons_zero]; rfl)) (by kernel_rfl) (by kernel_rfl) (by kernel_rfl) (by exact fun _ _ _ h => h) (Or.inl ⟨by rfl, ?hy_a6⟩) (by assumption) ?rest_a6
    case hy_a6 =>
      intro W hSW
      try dsimp only at hSW
      go_simp
      try with_reducible rfl
    try simp only [Act.put, List.setIfInBounds_toArray, List.set_cons_zero, List.set_cons_succ]
    refine wpAnyH_take (i := 7) (v := ?v_a7) (hi := (by simp only [List.getElem?_toArray, List.getElem?_cons_succ, List.getElem?_cons_zero]; rfl)) (by kernel_rfl) (by kernel_rfl) (by kernel_rfl) (by exact fun _ _ _ h => h) (Or.inl ⟨by rfl, ?hy_a7⟩) (by assumption) ?rest_a7
    case hy_a7 =>
      intro W hSW
      try dsimp only at hSW
      go_simp
      try with_reducible rfl
    try simp only [Act.put, List.setIfInBounds_toArray, List.set_cons_zero, List.set_cons_succ]
    refine wpAnyH_take (i := 8) (v := ?v_a8) (hi := (by simp only [List.getElem?_toArray, List.getElem?_cons_succ, List.getElem?_cons_zero]; rfl)) (by kernel_rfl) (by kernel_rfl) (by kernel_rfl) (by exact fun _ _ _ h => h) (Or.inl ⟨by rfl, ?hy_a8⟩) (by assumption) ?rest_a8
    case hy_a8 =>
      intro W hSW
      try dsimp only at hSW
      go_simp
      try with_reducible rfl
    try simp only [Act.put, List.setIfInBounds_toArray, List.set_cons_zero, List.set_cons_succ]
    refine wpAnyH_take (i := 9) (v := ?v_a9) (hi := (by simp only [List.getElem?_toArray, List.getElem?_cons_succ, List.getElem?_cons_zero]; rfl)) (by kernel_rfl) (by kernel_rfl) (by kernel_rfl) (by exact fun _ _ _ h => h) (Or.inl ⟨by rfl, ?hy_a9⟩) (by assumption) ?rest_a9
    case hy_a9 =>
      intro W hSW
      try dsimp only at hSW
      go_simp
      try with_reducible rfl
    try simp only [Act.put, List.setIfInBounds_toArray, List.set_cons_zero, List.set_cons_succ]
    refine wpAnyH_take (i := 10) (v := ?v_a10) (hi := (by simp only [List.getElem?_toArray, List.getElem?_cons_succ, List.getElem?_cons_zero]; rfl)) (by kernel_rfl) (by kernel_rfl) (by kernel_rfl) (by exact fun _ _ _ h => h) (Or.inl ⟨by rfl, ?hy_a10⟩) (by assumption) ?rest_a10
    case hy_a10 =>
      intro W hSW
      try dsimp only at hSW
      go_simp
      try with_reducible rfl
    try simp only [Act.put, List.setIfInBounds_toArray, List.set_cons_zero, List.set_cons_succ]
    refine wpAnyH_take (i := 11) (v := ?v_a11) (hi := (by simp only [List.getElem?_toArray, List.getElem?_cons_succ, List.getElem?_cons_zero]; rfl)) (by kernel_rfl) (by kernel_rfl) (by kernel_rfl) (by exact fun _ _ _ h => h) (Or.inl ⟨by rfl, ?hy_a11⟩) (by assumption) ?rest_a11
    case hy_a11 =>
      intro W hSW
      try dsimp only at hSW
      go_simp
      try with_reducible rfl
    try simp only [Act.put, List.setIfInBounds_toArray, List.set_cons_zero, List.set_cons_succ]
    refine wpAnyH_ready (rs := [12]) (by kernel_rfl) (by simp) ?_
    refine AllReadyH.cons (ho := (by simp only [List.getElem?_toArray, List.getElem?_cons_succ, List.getElem?_cons_zero]; rfl)) (fun K_ hK_ => ?_) AllReadyH.nil
    go_simp
    refine (hf0 _ (TW.out _ hDr)).mono ?_
    rintro e w2_ ⟨rfl, hb2⟩
    have hD2 : Below w2.heap.size w2 w2_ := bnext hDr hb2
    refine hK_.out _ _ ?_ (fun hHeld_ => ?_)
    · try dsimp only
      exact MK.out _ hD2
    clear hK_
    try simp only [Act.put, List.setIfInBounds_toArray, List.set_cons_zero, List.set_cons_succ]
    refine wpAnyH_take (i := 13) (v := ?v_a13) (hi := (by simp only [List.getElem?_toArray, List.getElem?_cons_succ, List.getElem?_cons_zero]; rfl)) (by kernel_rfl) (by kernel_rfl) (by kernel_rfl) (by exact fun _ _ _ h => h) (Or.inl ⟨by rfl, ?hy_a13⟩) (by assumption) ?rest_a13
    case hy_a13 =>
      intro W hSW
      try dsimp only at hSW
      go_simp
      try with_reducible rfl
    try simp only [Act.put, List.setIfInBounds_toArray, List.set_cons_zero, List.set_cons_succ]
    refine wpAnyH_take (i := 14) (v := ?v_a14) (hi := (by simp only [List.getElem?_toArray, List.getElem?_cons_succ, List.getElem?_cons_zero]; rfl)) (by kernel_rfl) (by kernel_rfl) (by kernel_rfl) (by exact fun _ _ _ h => h) (Or.inl ⟨by rfl, ?hy_a14⟩) (by assumption) ?rest_a14
    case hy_a14 =>
      intro W hSW
      try dsimp only at hSW
      go_simp
      try with_reducible rfl
    try simp only [Act.put, List.setIfInBounds_toArray, List.set_cons_zero, List.set_cons_succ]
    refine wpAnyH_take (i := 15) (v := ?v_a15) (hi := (by simp only [List.getElem?_toArray, List.getElem?_cons_succ, List.getElem?_cons_zero]; rfl)) (by kernel_rfl) (by kernel_rfl) (by kernel_rfl) (by exact fun _ _ _ h => h) (Or.inl ⟨by rfl, ?hy_a15⟩) (by assumption) ?rest_a15
    case hy_a15 =>
      intro W hSW
      try dsimp only at hSW
      go_simp
      try with_reducible rfl
    try simp only [Act.put, List.setIfInBounds_toArray, List.set_cons_zero, List.set_cons_succ]
    refine wpAnyH_take (i := 16) (v := ?v_a16) (hi := (by simp only [List.getElem?_toArray, List.getElem?_cons_succ, List.getElem?_cons_zero]; rfl)) (by kernel_rfl) (by kernel_rfl) (by kernel_rfl) (by exact fun _ _ _ h => h) (Or.inl ⟨by rfl, ?hy_a16⟩) (by assumption) ?rest_a16
    case hy_a16 =>
      intro W hSW
      try dsimp only at hSW
      go_simp
      try with_reducible rfl
    try simp only [Act.put, List.setIfInBounds_toArray, List.set_cons_zero, List.set_cons_succ]
    refine wpAnyH_take (i := 17) (v := ?v_a17) (hi := (by simp only [List.getElem?_toArray, List.getElem?_cons_succ, List.getElem?_cons_zero]; rfl)) (by kernel_rfl) (by kernel_rfl) (by kernel_rfl) (by exact fun _ _ _ h => h) (Or.inl ⟨by rfl, ?hy_a17⟩) (by assumption) ?rest_a17
    case hy_a17 =>
      intro W hSW
      try dsimp only at hSW
      go_simp
      try with_reducible rfl
    try simp only [Act.put, List.setIfInBounds_toArray, List.set_cons_zero, List.set_cons_succ]
    refine wpAnyH_take (i := 18) (v := ?v_a18) (hi := (by simp only [List.getElem?_toArray, List.getElem?_cons_succ, List.getElem?_cons_zero]; rfl)) (by kernel_rfl) (by kernel_rfl) (by kernel_rfl) (by exact fun _ _ _ h => h) (Or.inl ⟨by rfl, ?hy_a18⟩) (by assumption) ?rest_a18
    case hy_a18 =>
      intro W hSW
      try dsimp only at hSW
      go_simp
      try with_reducible rfl
    try simp only [Act.put, List.setIfInBounds_toArray, List.set_cons_zero, List.set_cons_succ]
    refine wpAnyH_take (i := 19) (v := ?v_a19) (hi := (by simp only [List.getElem?_toArray, List.getElem?_cons_succ, List.getElem?_cons_zero]; rfl)) (by kernel_rfl) (by kernel_rfl) (by kernel_rfl) (by exact fun _ _ _ h => h) (Or.inl ⟨by rfl, ?hy_a19⟩) (by assumption) ?rest_a19
    case hy_a19 =>
      intro W hSW
      try dsimp only at hSW
      go_simp
      try with_reducible rfl
    try simp only [Act.put, List.setIfInBounds_toArray, List.set_cons_zero, List.set_cons_succ]
    refine wpAnyH_take (i := 20) (v := ?v_a20) (hi := (by simp only [List.getElem?_toArray, List.getElem?_cons_succ, List.getElem?_cons_zero]; rfl)) (by kernel_rfl) (by kernel_rfl) (by kernel_rfl) (by exact fun _ _ _ h => h) (Or.inl ⟨by rfl, ?hy_a20⟩) (by assumption) ?rest_a20
    case hy_a20 =>
      intro W hSW
      try dsimp only at hSW
      go_simp
      try with_reducible rfl
    try simp only [Act.put, List.setIfInBounds_toArray, List.set_cons_zero, List.set_cons_succ]
    refine wpAnyH_take (i := 21) (v := ?v_a21) (hi := (by simp only [List.getElem?_toArray, List.getElem?_cons_succ, List.getElem?_cons_zero]; rfl)) (by kernel_rfl) (by kernel_rfl) (by kernel_rfl) (by exact fun _ _ _ h => h) (Or.inl ⟨by rfl, ?hy_a21⟩) (by assumption) ?rest_a21
    case hy_a21 =>
      intro W hSW
      try dsimp only at hSW
      go_simp
      try with_reducible rfl
    try simp only [Act.put, List.setIfInBounds_toArray, List.set_cons_zero, List.set_cons_succ]
    refine wpAnyH_take (i := 22) (v := ?v_a22) (hi := (by simp only [List.getElem?_toArray, List.getElem?_cons_succ, List.getElem?_cons_zero]; rfl)) (by kernel_rfl) (by kernel_rfl) (by kernel_rfl) (by exact fun _ _ _ h => h) (Or.inl ⟨by rfl, ?hy_a22⟩) (by assumption) ?rest_a22
    case hy_a22 =>
      intro W hSW
      try dsimp only at hSW
      go_simp
      try with_reducible rfl
    try simp only [Act.put, List.setIfInBounds_toArray, List.set_cons_zero, List.set_cons_succ]
    refine wpAnyH_take (i := 23) (v := ?v_a23) (hi := (by simp only [List.getElem?_toArray, List.getElem?_cons_succ, List.getElem?_cons_zero]; rfl)) (by kernel_rfl) (by kernel_rfl) (by kernel_rfl) (by exact fun _ _ _ h => h) (Or.inl ⟨by rfl, ?hy_a23⟩) (by assumption) ?rest_a23
    case hy_a23 =>
      intro W hSW
      try dsimp only at hSW
      go_simp
      try with_reducible rfl
    try simp only [Act.put, List.setIfInBounds_toArray, List.set_cons_zero, List.set_cons_succ]
    refine wpAnyH_ready (rs := [24]) (by kernel_rfl) (by simp) ?_
    refine AllReadyH.cons (ho := (by simp only [List.getElem?_toArray, List.getElem?_cons_succ, List.getElem?_cons_zero]; rfl)) (fun K_ hK_ => ?_) AllReadyH.nil
    go_simp
    refine (hf1 _ (TW.out _ hD2)).mono ?_
    rintro e w3_ ⟨rfl, hb3⟩
    have hD3 : Below w2.heap.size w2 w3_ := bnext hD2 hb3
    refine hK_.out _ _ ?_ (fun hHeld_ => ?_)
    · try dsimp only
      exact MK.out _ hD3
    clear hK_
    try simp only [Act.put, List.setIfInBounds_toArray, List.set_cons_zero, List.set_cons_succ]
    refine wpAnyH_take (i := 25) (v := ?v_a25) (hi := (by simp only [List.getElem?_toArray, List.getElem?_cons_succ, List.getElem?_cons_zero]; rfl)) (by kernel_rfl) (by kernel_rfl) (by kernel_rfl) (by exact fun _ _ _ h => h) (Or.inl ⟨by rfl, ?hy_a25⟩) (by assumption) ?rest_a25
    case hy_a25 =>
      intro W hSW
      try dsimp only at hSW
      go_simp
      try with_reducible rfl
    try simp only [Act.put, List.setIfInBounds_toArray, List.set_cons_zero, List.set_cons_succ]
    refine wpAnyH_take (i := 26) (v := ?v_a26) (hi := (by simp only [List.getElem?_toArray, List.getElem?_cons_succ, List.getElem?_cons_zero]; rfl)) (by kernel_rfl) (by kernel_rfl) (by kernel_rfl) (by exact fun _ _ _ h => h) (Or.inl ⟨by rfl, ?hy_a26⟩) (by assumption) ?rest_a26
    case hy_a26 =>
      intro W hSW
      try dsimp only at hSW
      go_simp
      try with_reducible rfl
    try simp only [Act.put, List.setIfInBounds_toArray, List.set_cons_zero, List.set_cons_succ]
    refine wpAnyH_take (i := 27) (v := ?v_a27) (hi := (by simp only [List.getElem?_toArray, List.getElem?_cons_succ, List.getElem?_cons_zero]; rfl)) (by kernel_rfl) (by kernel_rfl) (by kernel_rfl) (by exact fun _ _ _ h => h) (Or.inl ⟨by rfl, ?hy_a27⟩) (by assumption) ?rest_a27
    case hy_a27 =>
      intro W hSW
      try dsimp only at hSW
      go_simp
      try with_reducible rfl
    try simp only [Act.put, List.setIfInBounds_toArray, List.set_cons_zero, List.set_cons_succ]
    refine wpAnyH_done (by kernel_rfl) ?_ _
    have HB3 : Below w2.heap.size w2 w3_ := hD3
    have HB3 := Lib.hid HB3
    clear hb2 hb3 hf0 hf1 ad1 ad2 MK TW hD2 hD3 hDr g0 g1 g2 g3 g4 g5 en en1
    go_wp2_with fail
    go_loopw [7] (fun i wr => ∃ k : Nat, k ≤ hx.n ∧ i = .int .i64 k ∧ Hid (Below w2.heap.size w2 wr)) (fun i _ => hx.n - (intOf i).toNat)
    case atStart => exact ⟨0, Nat.zero_le _, rfl, HB3.out⟩
    case round =>
      clear HB3
      obtain ⟨k, hk, rfl, HB⟩ := hrel
      by_cases hlt : k < hx.n
      · have hkn : (k : Int) < (hx.n : Int) := by omega
        have X3 := Lib.hid (X1.out.below HB.out)
        have HI0 := Lib.hid (X3.out.house.read hB)
        have g0 := X3.out.six.c0
        have g1 := X3.out.six.c1
        have g2 := X3.out.six.c2
        have g3 := X3.out.six.c3
        have g4 := X3.out.six.c4
        have g5 := X3.out.six.c5
        obtain ⟨_, _, _, hv, hc⟩ := HI0.out.o
        cases hv
        obtain ⟨bo, oo, rfl, eo⟩ := hc k (by have := HOL.out; omega)
        clear hc
        have zo := World.block_lt_of_cell? wr _ eo
        simp only at zo
        obtain ⟨bt_, ot_, h2_, et0⟩ := HCF.out k (by omega)
        cases h2_
        have et1 := (HB.out.cell (World.block_lt_of_cell? w2 _ et0)).trans et0
        have HLk := Lib.hid (HTk.out k hlt)
        have i1 : (0 : Int) ≤ (k : Int) := by omega
        have i2 : (k : Int) < (hx.os.length : Int) := by have := HOL.out; omega
        have i3 : (k : Int) < (hx.n : Int) + 2 := by omega
        obtain ⟨o0, o1⟩ := HFO.out k (by omega)
        have wbd := weightIn_bd hx.n hx.xs k
        have ebd := errorIn_bd hx.n hx.xs k
        obtain ⟨a0, a1, a2, a3, s1, s2, s3, s4, s5, s6, s7, E0, E1, E2, E3, ad1, ad2, ad3, ad4, ad5, ad6, ad7, L6, L7⟩ := line_steps (P := Tryd.prog) hx k (by omega) (by omega) (by omega)
        unfold Adds at ad1 ad2 ad3 ad4 ad5 ad6 ad7
        have hf0 : ∀ W : World, Tab W → Calls Tryd.prog 18 #[.int .i64 (k : Int)] W fun e w' => e = .returned (.string (bstr a0)) ∧ Below W.heap.size W w' := fun W t => by rw [E0]; exact implFormatInt _ (by omega) (by omega) W t
        have hf1 : ∀ W : World, Tab W → Calls Tryd.prog 18 #[.int .i64 (weightIn hx.n hx.xs (k : Int))] W fun e w' => e = .returned (.string (bstr a1)) ∧ Below W.heap.size W w' := fun W t => by rw [E1]; exact implFormatInt _ (by omega) (by omega) W t
        have hf2 : ∀ W : World, Tab W → Calls Tryd.prog 18 #[.int .i64 (errorIn hx.n hx.xs (k : Int))] W fun e w' => e = .returned (.string (bstr a2)) ∧ Below W.heap.size W w' := fun W t => by rw [E2]; exact implFormatInt _ (by omega) (by omega) W t
        have hf3 : ∀ W : World, Tab W → Calls Tryd.prog 18 #[.int .i64 (nth hx.os k)] W fun e w' => e = .returned (.string (bstr a3)) ∧ Below W.heap.size W w' := fun W t => by rw [E3]; exact implFormatInt _ (by omega) (by omega) W t
        replace L6 := Lib.hid L6
        replace L7 := Lib.hid L7
        clear E0 E1 E2 E3 wbd ebd o0 o1 et0
        have yx3 := X3.out.six.lt
        have RW := Lib.hid (fun (W : World) (q : Below wr.heap.size wr W) => (HI0.out.below q).c)
        have TW := Lib.hid (fun (W : World) (q : Below wr.heap.size wr W) => TB.out.below (bnext HB.out q))
        have MK : Hid (∀ w', Below wr.heap.size wr w' → w'.cell? ⟨w1.heap.size, 0, none⟩ = some (.slice ac0 hx.n cc0) ∧ w'.cell? ⟨w1.heap.size, 2, none⟩ = some (.slice (some ⟨bo, oo, none⟩) hx.os.length co0) ∧ w'.cell? ⟨bo, oo + k, none⟩ = some (.int .i64 (nth hx.os k)) ∧ Below wr.heap.size wr w') := fun w' hb => ⟨(hb.cell (p := ⟨w1.heap.size, 0, none⟩) yx3).trans g0, (hb.cell (p := ⟨w1.heap.size, 2, none⟩) yx3).trans g2, (hb.cell (p := ⟨bo, oo + k, none⟩) zo).trans eo, hb⟩
        have hDr : Below wr.heap.size wr wr.drew := bdrew (bref _)
        go_upto_region 11 with fail
        go_region_held3 (fun w' => w'.cell? ⟨w1.heap.size, 0, none⟩ = some (.slice ac0 hx.n cc0) ∧ w'.cell? ⟨w1.heap.size, 2, none⟩ = some (.slice (some ⟨bo, oo, none⟩) hx.os.length co0) ∧ w'.cell? ⟨bo, oo + k, none⟩ = some (.int .i64 (nth hx.os k)) ∧ Below wr.heap.size wr w')
          (first | with_reducible exact MK.out _ hDr | (go_split_ands; with_reducible exact MK.out _ (bnext (by assumption) hb2)) | (go_split_ands; with_reducible exact MK.out _ (bnext (by assumption) hb3)) | (go_split_ands; with_reducible exact MK.out _ (bnext (by assumption) hb4)) | (go_split_ands; with_reducible exact MK.out _ (bnext (by assumption) hb5)) | (go_split_ands; with_reducible exact MK.out _ (bnext (by assumption) hb6)) | (go_split_ands; with_reducible exact MK.out _ (bnext (by assumption) hb7)))
          (first | (go_at_call_of 18 (Value.int .i64 (k : Int)); go_split_ands; refine (hf0 _ (TW.out _ (by assumption))).mono ?_; rintro e w2_ ⟨rfl, hb2⟩) | (go_at_call 19; go_split_ands; refine (implWeightIn _ hx.n hx.xs (k : Int) _ (RW.out _ (by assumption))).mono ?_; rintro e w3_ ⟨rfl, hb3⟩) | (go_at_call_of 18 (Value.int .i64 (weightIn hx.n hx.xs (k : Int))); go_split_ands; refine (hf1 _ (TW.out _ (by assumption))).mono ?_; rintro e w4_ ⟨rfl, hb4⟩) | (go_at_call 20; go_split_ands; refine (implErrorIn _ hx.n hx.xs (k : Int) _ (RW.out _ (by assumption))).mono ?_; rintro e w5_ ⟨rfl, hb5⟩) | (go_at_call_of 18 (Value.int .i64 (errorIn hx.n hx.xs (k : Int))); go_split_ands; refine (hf2 _ (TW.out _ (by assumption))).mono ?_; rintro e w6_ ⟨rfl, hb6⟩) | (go_at_call_of 18 (Value.int .i64 (nth hx.os k)); go_split_ands; refine (hf3 _ (TW.out _ (by assumption))).mono ?_; rintro e w7_ ⟨rfl, hb7⟩))
        go_split_ands
        have HQ7 : Below wr.heap.size wr w7_ := by assumption
        have HB7 := Lib.hid (bnext HB.out HQ7)
        have g3' := (HQ7.cell (p := ⟨w1.heap.size, 3, none⟩) yx3).trans g3
        have et := (HQ7.cell (World.block_lt_of_cell? wr _ et1)).trans et1
        have HI := Lib.hid (HI0.out.below HQ7).t
        clear hb2 hb3 hb4 hb5 hb6 hb7 hf0 hf1 hf2 hf3 ad1 ad2 ad3 ad4 ad5 ad6 HQ7 RW MK TW g0 g1 g2 g3 g4 g5 et1 eo
        by_cases hin : (k : Int) ∈ hx.ts
        · skip
          have hd : decide ((k : Int) ∈ hx.ts) = true := by simpa using hin
          have hln : tx FL k = s7 := by rw [HLk.out]; unfold houseLine; rw [if_pos hin]; exact L7.out.symm
          rw [hln] at et
          clear hin hln
          go_wp2_with (first | (go_at_call 21; refine (has_any _ hx.ts (k : Int) _ HI.out).mono ?_; rw [hd]; rintro e w' ⟨rfl, rfl⟩))
          go_roundw
          case rel => exact ⟨k + 1, by omega, by go_num, HB7⟩
          case measure => simp [intOf]; omega
        · skip
          have hd : decide ((k : Int) ∈ hx.ts) = false := by simpa using hin
          have hln : tx FL k = s6 := by rw [HLk.out]; unfold houseLine; rw [if_neg hin]; exact L6.out.symm
          rw [hln] at et
          clear hin hln
          go_wp2_with (first | (go_at_call 21; refine (has_any _ hx.ts (k : Int) _ HI.out).mono ?_; rw [hd]; rintro e w' ⟨rfl, rfl⟩))
          go_roundw
          case rel => exact ⟨k + 1, by omega, by go_num, HB7⟩
          case measure => simp [intOf]; omega
      · obtain rfl : k = hx.n := by omega
        go_wp2_with fail
        go_ret
        exact ⟨rfl, bnext DX.out HB.out⟩
end Go.Proofs.YtfnlniknclkeaaaDoor
