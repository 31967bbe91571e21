/- The law of houses, walked. -/
import Derived.Test.YtfnlniknclkeaaaHousesFn
import Derived.Test.YtfnlniknclkeaaaDrawHouse
import Derived.Test.YtfnlniknclkeaaaGK
import Derived.Test.YtfnlniknclkeaaaGH
import Derived.Test.YtfnlniknclkeaaaGA
import Derived.Test.YtfnlniknclkeaaaTold
import Derived.BigQuiet
import Derived.Deep.DeepCutAuto
import Derived.Deep.RegionHeld3
import Derived.Deep.RegionWith
import Derived.IntWalk
namespace Go.Proofs.Ytfnlniknclkeaaa
open Go.ChangeShapes Go.WideShapes Go.ChangeAt Go.RowKit

def atV (bs : List Int) (i : Nat) : Int := if bs.length = 0 then 0 else nth bs ((((i : Int) * 5 + 1) % (bs.length : Int)).toNat)
theorem at_val (v : Value) (bs : List Int) (i : Nat) (w : World) (h : Bytes w v bs) (hi : i ≤ 100000) : Calls Try.prog 8 #[v, .int .i64 i] w fun e w' => e = .returned (.int .i64 (atV bs i)) ∧ w = w' := by
  obtain ⟨hl, ad, cap, rfl, hc⟩ := h
  by_cases h0 : bs.length = 0
  · have h1 : ((bs.length : Int) == 0) = true := by rw [beq_iff_eq]; omega
    have HE := Lib.hid (show atV bs i = 0 from if_pos h0)
    clear hc h0
    go_enter Try.func8, Try.ntmps8
    go_wp2
    go_ret
    exact ⟨by rw [HE.out]; rfl, rfl⟩
  · have h1 : ((bs.length : Int) == 0) = false := by rw [beq_eq_false_iff_ne]; omega
    have HE := Lib.hid (show atV bs i = _ from if_neg h0)
    obtain ⟨j, hj, hj2⟩ : ∃ j : Nat, ((i : Int) * 5 + 1) % (bs.length : Int) = (j : Int) ∧ j < bs.length := by
      have a := Int.emod_nonneg ((i : Int) * 5 + 1) (show (bs.length : Int) ≠ 0 by omega)
      have b := Int.emod_lt_of_pos ((i : Int) * 5 + 1) (show (0 : Int) < bs.length by omega)
      exact ⟨(((i : Int) * 5 + 1) % (bs.length : Int)).toNat, by omega, by omega⟩
    have HJ := Lib.hid hj
    obtain ⟨b, o, rfl, e0, e1, e2⟩ := hc j hj2
    clear hc h0
    go_enter Try.func8, Try.ntmps8
    go_wp2
    go_ret
    exact ⟨by rw [HE.out, HJ.out]; rfl, rfl⟩
theorem atV_bd {w : World} {v : Value} {bs : List Int} (h : Bytes w v bs) (i : Nat) : 0 ≤ atV bs i ∧ atV bs i ≤ 255 := by
  unfold atV
  split
  · omega
  · obtain ⟨hl, ad, cap, rfl, hc⟩ := h
    have a := Int.emod_nonneg ((i : Int) * 5 + 1) (show (bs.length : Int) ≠ 0 by omega)
    have b := Int.emod_lt_of_pos ((i : Int) * 5 + 1) (show (0 : Int) < bs.length by omega)
    obtain ⟨_, _, _, _, e1, e2⟩ := hc _ (show (((i : Int) * 5 + 1) % (bs.length : Int)).toNat < bs.length by omega)
    exact ⟨e1, e2⟩
theorem same_any (u v : Value) (xs : List Int) (w : World) (hu : Ints w u xs) (hv : Ints w v xs) : Calls Try.prog 10 #[u, v] w fun e w' => e = .returned (.bool true) ∧ Below w.heap.size w w' := by
  obtain ⟨hl, ada, capa, rfl, hc⟩ := hu
  obtain ⟨_, adb, capb, rfl, hd⟩ := hv
  have HC := Lib.hid hc
  have HD := Lib.hid hd
  clear hc hd
  go_enter Try.func10, Try.ntmps10
  go_wp2_with fail
  go_loopw [5] (fun i wr => ∃ k : Nat, k ≤ xs.length ∧ i = .int .i64 k ∧ Hid (Below w.heap.size w wr)) (fun i _ => xs.length - (intOf i).toNat)
  case atStart => exact ⟨0, Nat.zero_le _, rfl, bref _⟩
  case round =>
    obtain ⟨k, hk, rfl, HB⟩ := hrel
    by_cases hlt : k < xs.length
    · obtain ⟨b, o, rfl, e0⟩ := HC.out k hlt
      obtain ⟨b', o', rfl, e1⟩ := HD.out k hlt
      have e0 := (HB.out.cell (World.block_lt_of_cell? w _ e0)).trans e0
      have e1 := (HB.out.cell (World.block_lt_of_cell? w _ e1)).trans e1
      have i1 : (0 : Int) ≤ (k : Int) := by omega
      have i2 : (k : Int) < (xs.length : Int) := by omega
      have i3 : ¬ (k : Int) < 0 := by omega
      have i4 : ¬ (xs.length : Int) ≤ (k : Int) := by omega
      generalize nth xs k = s at *
      go_wp2_with fail
      go_quiet (fail)
      go_wp2
      go_roundw
      case rel => exact ⟨k + 1, by omega, by go_num, bdrewN HB.out _⟩
      case measure => simp [intOf]; omega
    · obtain rfl : k = xs.length := by omega
      go_wp2
      go_ret
      exact ⟨rfl, HB.out⟩
/-- what the law asks of the two withdrawals -/
structure TwoW (hx h1 h2 : HD) (b s : Int) (L1 : List (Int × List Int)) : Prop where
  one : withdraw hx b s = (h1, L1, true)
  two : withdraw h1 b s = (h2, [], true)
  ok1 : houseOk h1 = true
  n1 : h1.n = hx.n
  ts2 : h2.ts = h1.ts
  sent2 : h2.sent = h1.sent
  sent1 : h1.sent = hx.sent + (L1.length : Int)
  told : toldOnce L1 = true
  wf : ∀ k, k < L1.length → (Lit.int .i64 (lOwner L1 k)).wf = true ∧ ∀ x ∈ lCopies L1 k, (Lit.int .i64 x).wf = true
  bulk : bulk L1 ≤ 1048576
  letb : LetB L1
  mem : ∀ k : Nat, k < hx.n → ((k : Int) ∈ h1.ts ↔ (k : Int) ∈ hx.ts ∨ (k : Int) ∈ affected hx.n hx.xs hx.ms b s)
  safe : ∀ k : Nat, k < hx.n → decide ((k : Int) ∈ safeL h1) = !decide ((k : Int) ∈ h1.ts)
  num : L1.length ≤ 21
theorem wf_small {x : Int} (h0 : 0 ≤ x) (h1 : x ≤ 1000) : (Lit.int .i64 x).wf = true := by
  simp [Lit.wf, IntKind.min, IntKind.max, IntKind.signed, IntKind.bits]; omega
theorem HousesL.all {hx : HD} {b s : Int} (l : HousesL hx b s) : ∃ h1 h2 L1, TwoW hx h1 h2 b s L1 := by
  have LW := l.let
  have hf := wF_len hx b s
  have hn := houseOk_n l.ok
  refine ⟨_, _, _, l.one, l.two, l.ok1, rfl, l.ts2, l.sent2, rfl, LW.told, fun k hk => ?_, ?_, wL_b hx b s, fun k _ => l.mem _, fun k hk => safe_mem (h := wH hx b s) l.ok1 hk, wL_len hx b s⟩
  · have a := LW.bd k hk
    refine ⟨wf_small a.1 (by omega), fun x hx' => ?_⟩
    obtain ⟨i, hi, e⟩ := List.getElem_of_mem hx'
    have c := LW.each k i hk hi
    rw [show nth (lCopies (wL hx b s) k) i = x by simp [nth, hi, e]] at c
    exact wf_small c.1 (by omega)
  · have a := LW.count
    unfold countL at a
    unfold bulk bulkTo
    have c := newOnes_len [] (wF hx b s)
    have d := wL_len hx b s
    omega
set_option linter.unusedSimpArgs false in
set_option maxRecDepth 100000 in
set_option maxHeartbeats 16000000 in
theorem fnHouses_any (v : Value) (bs : List Int) (w : World) (h : Bytes w v bs) : Calls Try.prog 3 #[v] w fun e w' => e = .returned (.bool true) ∧ Below w.heap.size w w' := by
  by_cases hbig : (1048576 : Int) < bs.length
  · have hd : decide ((1048576 : Int) < bs.length) = true := by simp; omega
    go_enter Try.func3, Try.ntmps3
    go_wp2_with (first | (go_at_call 6; refine (big_any v bs w h).mono ?_; rw [hd]; rintro e w' ⟨rfl, rfl⟩))
    go_ret
    exact ⟨rfl, bref _⟩
  · have hd : decide ((1048576 : Int) < bs.length) = false := by simp; omega
    have A0 := atV_bd h 0
    have A1 := atV_bd h 1
    have A2 := atV_bd h 2
    go_enter Try.func3, Try.ntmps3
    go_upto_region 4 with (first | (go_at_call 6; refine (big_any v bs w h).mono ?_; rw [hd]; rintro e w' ⟨rfl, rfl⟩) | (go_at_call 7; refine (drawHouse_any v bs w h).mono ?_; rintro e w1 ⟨hx, ac0, am0, ao0, at0, cc0, cm0, co0, ct0, rfl, ok, sb, db, hO, hb1⟩; have HH := Lib.hid hO; have D := Lib.hid hb1; have BY := Lib.hid (h.below hb1); have yw := hb1.size; clear hO hb1))
    have X1 := Lib.hid (BoxH.first HH.out (Nat.le_refl _))
    have DD := Lib.hid (balloc D.out (.cells #[.slice ac0 (hx).n cc0, .slice am0 (hx).ms.length cm0, .slice ao0 (hx).os.length co0, .slice at0 (hx).ts.length ct0, .int .i64 (hx).sent, .int .i64 (hx).day] 27))
    have BY1 := Lib.hid (BY.out.below (balloc (bref w1) (.cells #[.slice ac0 (hx).n cc0, .slice am0 (hx).ms.length cm0, .slice ao0 (hx).os.length co0, .slice at0 (hx).ts.length ct0, .int .i64 (hx).sent, .int .i64 (hx).day] 27)))
    have y1 : w1.heap.size < (w1.alloc (.cells #[.slice ac0 (hx).n cc0, .slice am0 (hx).ms.length cm0, .slice ao0 (hx).os.length co0, .slice at0 (hx).ts.length ct0, .int .i64 (hx).sent, .int .i64 (hx).day] 27)).heap.size := by simp
    have hlen := (HH.out.read (by have c := houseOk_b ok; exact ⟨by have := c.n; omega, by have := c.ms; omega, by have := c.os; omega, by have := c.ts; omega⟩)).c.eq
    clear hbig hd h D BY HH
    generalize w1.alloc (.cells #[.slice ac0 (hx).n cc0, .slice am0 (hx).ms.length cm0, .slice ao0 (hx).os.length co0, .slice at0 (hx).ts.length ct0, .int .i64 (hx).sent, .int .i64 (hx).day] 27) = u1 at *
    have hn := houseOk_n ok
    obtain ⟨b, hbe, hb0, hb1⟩ : ∃ b : Int, (atV bs 0).tmod (hx.n : Int) = b ∧ 0 ≤ b ∧ b < hx.n := ⟨_, rfl, Int.tmod_nonneg _ A0.1, Int.tmod_lt_of_pos _ (by omega)⟩
    obtain ⟨s, hse, hs0, hs1⟩ : ∃ s : Int, (atV bs 1) % 12 = s ∧ 0 ≤ s ∧ s < 12 := ⟨_, rfl, by omega, by omega⟩
    have LL := Lib.hid (HousesL.mk (h := hx) (b := b) (s := s) ok (by have := hlen; omega) sb db hb0 hb1 hs0 hs1)
    have hnz : ¬ (hx.n : Int) = 0 := by omega
    have hnzn : ¬ hx.n = 0 := by omega
    have hnzb : ((hx.n : Int) == 0) = false := beq_eq_false_iff_ne.2 hnz
    have MK : Hid (∀ w' : World, Below u1.heap.size u1 w' → w'.cell? ⟨w1.heap.size, 0, none⟩ = some (.slice ac0 hx.n cc0) ∧ Bytes w' v bs ∧ Below u1.heap.size u1 w') := fun w' hb => ⟨(hb.cell (p := ⟨w1.heap.size, 0, none⟩) y1).trans X1.out.six.c0, BY1.out.below hb, hb⟩
    generalize hA0 : atV bs 0 = a0 at *
    generalize hA1 : atV bs 1 = a1 at *
    generalize hA2 : atV bs 2 = a2 at *
    have HA0 := Lib.hid hA0
    have HA1 := Lib.hid hA1
    have HA2 := Lib.hid hA2
    clear hA0 hA1 hA2
    go_region_held3 (fun w' => w'.cell? ⟨w1.heap.size, 0, none⟩ = some (.slice ac0 hx.n cc0) ∧ Bytes w' v bs ∧ Below u1.heap.size u1 w')
      (first | exact MK.out _ (bdrew (bref _)) | (go_split_ands; exact MK.out _ (by assumption)))
      (first | (go_at_call 8; go_split_ands; refine (at_val v bs 0 _ (by assumption) (by omega)).mono ?_; rw [HA0.out]; rintro e w' ⟨rfl, rfl⟩))
    have DX := Lib.hid (bnext DD.out (bdrew (bref u1)))
    have X3 := Lib.hid (X1.out.below (bdrew (bref u1)))
    have BY := Lib.hid (BY1.out.below (bdrew (bref u1)))
    clear MK X1 DD BY1 y1
    generalize u1.drew = u2 at *
    have hB : HouseB hx 1048576 := by have c := houseOk_b ok; exact ⟨by have := c.n; omega, by have := c.ms; omega, by have := c.os; omega, by have := c.ts; omega⟩
    obtain ⟨h1, h2, L1, TW⟩ := LL.out.all
    have TW := Lib.hid TW
    have hB1 : HouseB h1 1048576 := by have c := houseOk_b TW.out.ok1; exact ⟨by have := c.n; omega, by have := c.ms; omega, by have := c.os; omega, by have := c.ts; omega⟩
    have hnum := TW.out.num
    have g0 := X3.out.six.c0
    have g1 := X3.out.six.c1
    have g2 := X3.out.six.c2
    have g3 := X3.out.six.c3
    have g4 := X3.out.six.c4
    have g5 := X3.out.six.c5
    go_upto_region 7 with (first | (go_at_call 8; refine (at_val v bs 1 _ BY.out (by omega)).mono ?_; rw [HA1.out]; rintro e w' ⟨rfl, rfl⟩) | (go_at_call 9; refine (implWithdraw _ _ _ _ hx b s _ (X3.out.house.read hB) X3.out.house.nils hB).mono ?_; rw [TW.out.one]; rintro e w3 ⟨ac3, cc3, am3, cm3, ao3, co3, at3, ct3, al3, cl3, rfl, hO3, ⟨p3, q3, pa3, qa3, hl3, -, -, -, -⟩, hb3⟩; dsimp only at hO3 hl3))
    have X6 := Lib.hid (BoxH.first hO3 (Nat.le_refl _))
    have X3 := Lib.hid (X3.out.below (bnext hb3 (balloc (bref w3) (.cells #[.slice ac3 (h1).n cc3, .slice am3 (h1).ms.length cm3, .slice ao3 (h1).os.length co3, .slice at3 (h1).ts.length ct3, .int .i64 (h1).sent, .int .i64 (h1).day] 27))))
    have DX := Lib.hid (bnext DX.out (bnext hb3 (balloc (bref w3) (.cells #[.slice ac3 (h1).n cc3, .slice am3 (h1).ms.length cm3, .slice ao3 (h1).os.length co3, .slice at3 (h1).ts.length ct3, .int .i64 (h1).sent, .int .i64 (h1).day] 27))))
    have BY := Lib.hid (BY.out.below (bnext hb3 (balloc (bref w3) (.cells #[.slice ac3 (h1).n cc3, .slice am3 (h1).ms.length cm3, .slice ao3 (h1).os.length co3, .slice at3 (h1).ts.length ct3, .int .i64 (h1).sent, .int .i64 (h1).day] 27))))
    have HL := Lib.hid (hl3.below (balloc (bref w3) (.cells #[.slice ac3 (h1).n cc3, .slice am3 (h1).ms.length cm3, .slice ao3 (h1).os.length co3, .slice at3 (h1).ts.length ct3, .int .i64 (h1).sent, .int .i64 (h1).day] 27)))
    clear hl3 hO3 hb3 g0 g1 g2 g3 g4 g5
    generalize w3.alloc (.cells #[.slice ac3 (h1).n cc3, .slice am3 (h1).ms.length cm3, .slice ao3 (h1).os.length co3, .slice at3 (h1).ts.length ct3, .int .i64 (h1).sent, .int .i64 (h1).day] 27) = u3 at *
    have k0 := X6.out.six.c0
    have k1 := X6.out.six.c1
    have k2 := X6.out.six.c2
    have k3 := X6.out.six.c3
    have k4 := X6.out.six.c4
    have k5 := X6.out.six.c5
    go_upto_region 8 with (first | (go_at_call 9; refine (implWithdraw _ _ _ _ h1 b s _ (X6.out.house.read hB1) X6.out.house.nils hB1).mono ?_; rw [TW.out.two]; rintro e w4 ⟨ac4, cc4, am4, cm4, ao4, co4, at4, ct4, al4, cl4, rfl, hO4, -, hb4⟩; dsimp only at hO4))
    have X9 := Lib.hid (BoxH.first hO4 (Nat.le_refl _))
    have X3 := Lib.hid (X3.out.below (bnext hb4 (balloc (bref w4) (.cells #[.slice ac4 (h2).n cc4, .slice am4 (h2).ms.length cm4, .slice ao4 (h2).os.length co4, .slice at4 (h2).ts.length ct4, .int .i64 (h2).sent, .int .i64 (h2).day] 27))))
    have X6 := Lib.hid (X6.out.below (bnext hb4 (balloc (bref w4) (.cells #[.slice ac4 (h2).n cc4, .slice am4 (h2).ms.length cm4, .slice ao4 (h2).os.length co4, .slice at4 (h2).ts.length ct4, .int .i64 (h2).sent, .int .i64 (h2).day] 27))))
    have DX := Lib.hid (bnext DX.out (bnext hb4 (balloc (bref w4) (.cells #[.slice ac4 (h2).n cc4, .slice am4 (h2).ms.length cm4, .slice ao4 (h2).os.length co4, .slice at4 (h2).ts.length ct4, .int .i64 (h2).sent, .int .i64 (h2).day] 27))))
    have BY := Lib.hid (BY.out.below (bnext hb4 (balloc (bref w4) (.cells #[.slice ac4 (h2).n cc4, .slice am4 (h2).ms.length cm4, .slice ao4 (h2).os.length co4, .slice at4 (h2).ts.length ct4, .int .i64 (h2).sent, .int .i64 (h2).day] 27))))
    have HL := Lib.hid ((HL.out.below hb4).below (balloc (bref w4) (.cells #[.slice ac4 (h2).n cc4, .slice am4 (h2).ms.length cm4, .slice ao4 (h2).os.length co4, .slice at4 (h2).ts.length ct4, .int .i64 (h2).sent, .int .i64 (h2).day] 27)))
    clear hO4 hb4 k0 k1 k2 k3 k4 k5
    generalize w4.alloc (.cells #[.slice ac4 (h2).n cc4, .slice am4 (h2).ms.length cm4, .slice ao4 (h2).os.length co4, .slice at4 (h2).ts.length ct4, .int .i64 (h2).sent, .int .i64 (h2).day] 27) = u4 at *
    have sn1 := TW.out.sent1.symm
    have sn2 := TW.out.sent2
    have ts2 := TW.out.ts2
    have sx := (houseOk_facts ok).sent
    obtain ⟨sx0, sx1⟩ := sx
    have HLr := Lib.hid (HL.out.read TW.out.letb)
    have g0 := X3.out.six.c0
    have g1 := X3.out.six.c1
    have g2 := X3.out.six.c2
    have g3 := X3.out.six.c3
    have g4 := X3.out.six.c4
    have g5 := X3.out.six.c5
    have k0 := X6.out.six.c0
    have k1 := X6.out.six.c1
    have k2 := X6.out.six.c2
    have k3 := X6.out.six.c3
    have k4 := X6.out.six.c4
    have k5 := X6.out.six.c5
    have m0 := X9.out.six.c0
    have m1 := X9.out.six.c1
    have m2 := X9.out.six.c2
    have m3 := X9.out.six.c3
    have m4 := X9.out.six.c4
    have m5 := X9.out.six.c5
    have I6 := Lib.hid (X6.out.house.read hB1).t
    have I9 : Ints u4 (.slice at4 h1.ts.length ct4) h1.ts := by have q := X9.out.house.t.own; rw [ts2] at q; exact own_ints q (by have := hB1.ts; omega)
    have I9 := Lib.hid I9
    have R3 := Lib.hid (X3.out.house.read hB)

    go_upto_region 10 with (first | (go_at_call 10; refine (same_any _ _ h1.ts _ I6.out I9.out).mono ?_; rintro e w5 ⟨rfl, hb5⟩; have X3 := Lib.hid (X3.out.below hb5); have X6 := Lib.hid (X6.out.below hb5); have X9 := Lib.hid (X9.out.below hb5); have BY := Lib.hid (BY.out.below hb5); have HLr := Lib.hid (HLr.out.below hb5); have R3 := Lib.hid (R3.out.below hb5); have DX := Lib.hid (bnext DX.out hb5); have g0 := X3.out.six.c0; have g1 := X3.out.six.c1; have g2 := X3.out.six.c2; have g3 := X3.out.six.c3; have g4 := X3.out.six.c4; have g5 := X3.out.six.c5; have k0 := X6.out.six.c0; have k1 := X6.out.six.c1; have k2 := X6.out.six.c2; have k3 := X6.out.six.c3; have k4 := X6.out.six.c4; have k5 := X6.out.six.c5; have m0 := X9.out.six.c0; have m1 := X9.out.six.c1; have m2 := X9.out.six.c2; have m3 := X9.out.six.c3; have m4 := X9.out.six.c4; have m5 := X9.out.six.c5; clear hb5) | (go_at_call 11; refine (implHouseOk _ _ _ _ h1 _ (X6.out.house.read hB1)).mono ?_; rw [TW.out.ok1]; rintro e w6 ⟨rfl, hb6⟩; have X3 := Lib.hid (X3.out.below hb6); have X6 := Lib.hid (X6.out.below hb6); have X9 := Lib.hid (X9.out.below hb6); have BY := Lib.hid (BY.out.below hb6); have HLr := Lib.hid (HLr.out.below hb6); have R3 := Lib.hid (R3.out.below hb6); have DX := Lib.hid (bnext DX.out hb6); have g0 := X3.out.six.c0; have g1 := X3.out.six.c1; have g2 := X3.out.six.c2; have g3 := X3.out.six.c3; have g4 := X3.out.six.c4; have g5 := X3.out.six.c5; have k0 := X6.out.six.c0; have k1 := X6.out.six.c1; have k2 := X6.out.six.c2; have k3 := X6.out.six.c3; have k4 := X6.out.six.c4; have k5 := X6.out.six.c5; have m0 := X9.out.six.c0; have m1 := X9.out.six.c1; have m2 := X9.out.six.c2; have m3 := X9.out.six.c3; have m4 := X9.out.six.c4; have m5 := X9.out.six.c5; clear hb6) | (go_at_call 12; refine (implIsToldOnce _ L1 _ HLr.out TW.out.wf TW.out.bulk).mono ?_; rw [TW.out.told]; rintro e w7 ⟨rfl, hb7⟩; have X3 := Lib.hid (X3.out.below hb7); have X6 := Lib.hid (X6.out.below hb7); have X9 := Lib.hid (X9.out.below hb7); have BY := Lib.hid (BY.out.below hb7); have R3 := Lib.hid (R3.out.below hb7); have DX := Lib.hid (bnext DX.out hb7); have g0 := X3.out.six.c0; have g1 := X3.out.six.c1; have g2 := X3.out.six.c2; have g3 := X3.out.six.c3; have g4 := X3.out.six.c4; have g5 := X3.out.six.c5; have k0 := X6.out.six.c0; have k1 := X6.out.six.c1; have k2 := X6.out.six.c2; have k3 := X6.out.six.c3; have k4 := X6.out.six.c4; have k5 := X6.out.six.c5; have m0 := X9.out.six.c0; have m1 := X9.out.six.c1; have m2 := X9.out.six.c2; have m3 := X9.out.six.c3; have m4 := X9.out.six.c4; have m5 := X9.out.six.c5; clear hb7))
    have HM := Lib.hid TW.out.mem
    have HS := Lib.hid TW.out.safe
    have laf := affected_len hx.n hx.xs hx.ms b s
    have hA0 := HA0.out
    clear sn1 sn2 ts2 hA0 X9 I6 I9 m0 m1 m2 m3 m4 m5 HL HLr
    go_wp2_with (first | (go_at_call 13; refine (implAffectedBy _ hx.n hx.xs _ hx.ms b s _ R3.out.c R3.out.m).mono ?_; rintro e w8 ⟨va, rfl, hoa, -, hb8⟩; obtain ⟨aa, ca, rfl⟩ := own_form hoa; have IA := Lib.hid (own_ints hoa (by omega)); have X3 := Lib.hid (X3.out.below hb8); have X6 := Lib.hid (X6.out.below hb8); have BY := Lib.hid (BY.out.below hb8); have DX := Lib.hid (bnext DX.out hb8); clear hoa hb8 g0 g1 g2 g3 g4 g5 k0 k1 k2 k3 k4 k5; have g0 := X3.out.six.c0; have g1 := X3.out.six.c1; have g2 := X3.out.six.c2; have g3 := X3.out.six.c3; have g4 := X3.out.six.c4; have g5 := X3.out.six.c5))
    generalize affected hx.n hx.xs hx.ms b s = A at *
    go_loopw [13] (fun i wr => ∃ k : Nat, k ≤ hx.n ∧ i = .int .i64 k ∧ Hid (Below w8.heap.size w8 wr)) (fun i _ => hx.n - (intOf i).toNat)
    case atStart => exact ⟨0, Nat.zero_le _, rfl, bref _⟩
    case round =>
      obtain ⟨k, hk, rfl, HB⟩ := hrel
      have X3 := Lib.hid (X3.out.below HB.out)
      have X6 := Lib.hid (X6.out.below HB.out)
      have g0 := X3.out.six.c0
      have g1 := X3.out.six.c1
      have g2 := X3.out.six.c2
      have g3 := X3.out.six.c3
      have g4 := X3.out.six.c4
      have g5 := X3.out.six.c5
      by_cases hlt : k < hx.n
      · have I3 := Lib.hid (fun (W : World) (q : Below wr.heap.size wr W) => (((X3.out.house.read hB).below q).t))
        have H6 := Lib.hid (fun (W : World) (q : Below wr.heap.size wr W) => ((X6.out.house.read hB1).below q))
        have IAr := Lib.hid (fun (W : World) (q : Below wr.heap.size wr W) => (IA.out.below HB.out).below q)
        have y3 := X3.out.six.lt
        have y6 := X6.out.six.lt
        have hmk := HM.out k hlt
        have hsk := HS.out k hlt
        have MK : Hid (∀ w' : World, Below wr.heap.size wr w' → w'.cell? ⟨w3.heap.size, 0, none⟩ = some (.slice ac3 h1.n cc3) ∧ w'.cell? ⟨w3.heap.size, 1, none⟩ = some (.slice am3 h1.ms.length cm3) ∧ w'.cell? ⟨w3.heap.size, 2, none⟩ = some (.slice ao3 h1.os.length co3) ∧ w'.cell? ⟨w3.heap.size, 3, none⟩ = some (.slice at3 h1.ts.length ct3) ∧ w'.cell? ⟨w3.heap.size, 4, none⟩ = some (.int .i64 h1.sent) ∧ w'.cell? ⟨w3.heap.size, 5, none⟩ = some (.int .i64 h1.day) ∧ w'.cell? ⟨w1.heap.size, 3, none⟩ = some (.slice at0 hx.ts.length ct0) ∧ Below wr.heap.size wr w') := fun w' hb => ⟨(hb.cell (p := ⟨w3.heap.size, 0, none⟩) y6).trans X6.out.six.c0, (hb.cell (p := ⟨w3.heap.size, 1, none⟩) y6).trans X6.out.six.c1, (hb.cell (p := ⟨w3.heap.size, 2, none⟩) y6).trans X6.out.six.c2, (hb.cell (p := ⟨w3.heap.size, 3, none⟩) y6).trans X6.out.six.c3, (hb.cell (p := ⟨w3.heap.size, 4, none⟩) y6).trans X6.out.six.c4, (hb.cell (p := ⟨w3.heap.size, 5, none⟩) y6).trans X6.out.six.c5, (hb.cell (p := ⟨w1.heap.size, 3, none⟩) y3).trans X3.out.six.c3, hb⟩
        go_upto_region 14 with fail
        by_cases q3 : (k : Int) ∈ hx.ts
        · have d3 : decide ((k : Int) ∈ hx.ts) = true := decide_eq_true q3
          have d6 : decide ((k : Int) ∈ h1.ts) = true := decide_eq_true (hmk.2 (.inl q3))
          have ds : decide ((k : Int) ∈ safeL h1) = false := by rw [hsk, d6]; rfl
          clear hmk hsk q3
          as_aux_lemma =>
            refine wp_region_held_drew (S := fun w' => w'.cell? ⟨w3.heap.size, 0, none⟩ = some (.slice ac3 h1.n cc3) ∧ w'.cell? ⟨w3.heap.size, 1, none⟩ = some (.slice am3 h1.ms.length cm3) ∧ w'.cell? ⟨w3.heap.size, 2, none⟩ = some (.slice ao3 h1.os.length co3) ∧ w'.cell? ⟨w3.heap.size, 3, none⟩ = some (.slice at3 h1.ts.length ct3) ∧ w'.cell? ⟨w3.heap.size, 4, none⟩ = some (.int .i64 h1.sent) ∧ w'.cell? ⟨w3.heap.size, 5, none⟩ = some (.int .i64 h1.day) ∧ w'.cell? ⟨w1.heap.size, 3, none⟩ = some (.slice at0 hx.ts.length ct0) ∧ Below wr.heap.size wr w') (by kernel_rfl) ?_ (fun hHeld_ => ?_)
            · exact MK.out _ (bdrew (bref _))
            refine wpAnyH_take (i := 0) (v := ?v_r0) (hi := (by simp only [List.getElem?_toArray, List.getElem?_cons_zero]; rfl)) (by kernel_rfl) (by kernel_rfl) (by kernel_rfl) (by exact fun _ _ _ h => h) (Or.inl ⟨by rfl, ?hy_r0⟩) (by assumption) ?rest_r0
            case hy_r0 =>
              intro W hSW
              try dsimp only at hSW
              go_simp
              try with_reducible rfl
            try simp only [Act.put, List.setIfInBounds_toArray, List.set_cons_zero, List.set_cons_succ]
            refine wpAnyH_take (i := 1) (v := ?v_r1) (hi := (by simp only [List.getElem?_toArray, List.getElem?_cons_succ, List.getElem?_cons_zero]; rfl)) (by kernel_rfl) (by kernel_rfl) (by kernel_rfl) (by exact fun _ _ _ h => h) (Or.inl ⟨by rfl, ?hy_r1⟩) (by assumption) ?rest_r1
            case hy_r1 =>
              intro W hSW
              try dsimp only at hSW
              go_simp
              try with_reducible rfl
            try simp only [Act.put, List.setIfInBounds_toArray, List.set_cons_zero, List.set_cons_succ]
            refine wpAnyH_take (i := 2) (v := ?v_r2) (hi := (by simp only [List.getElem?_toArray, List.getElem?_cons_succ, List.getElem?_cons_zero]; rfl)) (by kernel_rfl) (by kernel_rfl) (by kernel_rfl) (by exact fun _ _ _ h => h) (Or.inl ⟨by rfl, ?hy_r2⟩) (by assumption) ?rest_r2
            case hy_r2 =>
              intro W hSW
              try dsimp only at hSW
              go_simp
              try with_reducible rfl
            try simp only [Act.put, List.setIfInBounds_toArray, List.set_cons_zero, List.set_cons_succ]
            refine wpAnyH_take (i := 4) (v := ?v_r4) (hi := (by simp only [List.getElem?_toArray, List.getElem?_cons_succ, List.getElem?_cons_zero]; rfl)) (by kernel_rfl) (by kernel_rfl) (by kernel_rfl) (by exact fun _ _ _ h => h) (Or.inl ⟨by rfl, ?hy_r4⟩) (by assumption) ?rest_r4
            case hy_r4 =>
              intro W hSW
              try dsimp only at hSW
              go_simp
              try with_reducible rfl
            try simp only [Act.put, List.setIfInBounds_toArray, List.set_cons_zero, List.set_cons_succ]
            refine wpAnyH_take (i := 5) (v := ?v_r5) (hi := (by simp only [List.getElem?_toArray, List.getElem?_cons_succ, List.getElem?_cons_zero]; rfl)) (by kernel_rfl) (by kernel_rfl) (by kernel_rfl) (by exact fun _ _ _ h => h) (Or.inl ⟨by rfl, ?hy_r5⟩) (by assumption) ?rest_r5
            case hy_r5 =>
              intro W hSW
              try dsimp only at hSW
              go_simp
              try with_reducible rfl
            try simp only [Act.put, List.setIfInBounds_toArray, List.set_cons_zero, List.set_cons_succ]
            refine wpAnyH_take (i := 6) (v := ?v_r6) (hi := (by simp only [List.getElem?_toArray, List.getElem?_cons_succ, List.getElem?_cons_zero]; rfl)) (by kernel_rfl) (by kernel_rfl) (by kernel_rfl) (by exact fun _ _ _ h => h) (Or.inl ⟨by rfl, ?hy_r6⟩) (by assumption) ?rest_r6
            case hy_r6 =>
              intro W hSW
              try dsimp only at hSW
              go_simp
              try with_reducible rfl
            try simp only [Act.put, List.setIfInBounds_toArray, List.set_cons_zero, List.set_cons_succ]
            refine wpAnyH_ready (rs := [3]) (by kernel_rfl) (by simp) ?_
            refine AllReadyH.cons (ho := (by simp only [List.getElem?_toArray, List.getElem?_cons_succ, List.getElem?_cons_zero]; rfl)) (fun K_ hK_ => ?_) AllReadyH.nil
            go_simp
            refine (has_any (Value.slice at3 h1.ts.length ct3) h1.ts _ _ (H6.out _ (bdrew (bref _))).t).mono ?_
            rw [d6]
            rintro e w' ⟨rfl, rfl⟩
            refine hK_.out _ _ ?_ (fun hHeld_ => ?_)
            · try dsimp only
              exact MK.out _ (bdrew (bref _))
            clear hK_
            try simp only [Act.put, List.setIfInBounds_toArray, List.set_cons_zero, List.set_cons_succ]
            refine wpAnyH_ready (rs := [7]) (by kernel_rfl) (by simp) ?_
            refine AllReadyH.cons (ho := (by simp only [List.getElem?_toArray, List.getElem?_cons_succ, List.getElem?_cons_zero]; rfl)) (fun K_ hK_ => ?_) AllReadyH.nil
            go_simp
            refine (has_any (Value.slice at0 hx.ts.length ct0) hx.ts _ _ (I3.out _ (bdrew (bref _)))).mono ?_
            rw [d3]
            rintro e w' ⟨rfl, rfl⟩
            refine hK_.out _ _ ?_ (fun hHeld_ => ?_)
            · try dsimp only
              exact MK.out _ (bdrew (bref _))
            clear hK_
            try simp only [Act.put, List.setIfInBounds_toArray, List.set_cons_zero, List.set_cons_succ]
            refine wpAnyH_take (i := 8) (v := ?v_r8) (hi := (by simp only [List.getElem?_toArray, List.getElem?_cons_succ, List.getElem?_cons_zero]; rfl)) (by kernel_rfl) (by kernel_rfl) (by kernel_rfl) (by exact fun _ _ _ h => h) (Or.inl ⟨by rfl, ?hy_r8⟩) (by assumption) ?rest_r8
            case hy_r8 =>
              intro W hSW
              try dsimp only at hSW
              go_simp
              try with_reducible rfl
            try simp only [Act.put, List.setIfInBounds_toArray, List.set_cons_zero, List.set_cons_succ]
            refine wpAnyH_take (i := 9) (v := undef) (hi := (by simp only [List.getElem?_toArray, List.getElem?_cons_succ, List.getElem?_cons_zero]; rfl)) (by kernel_rfl) (by kernel_rfl) (by kernel_rfl) (by exact fun _ _ _ h => h) (Or.inr ⟨by rfl, rfl⟩) (by assumption) ?_
            try simp only [Act.put, List.setIfInBounds_toArray, List.set_cons_zero, List.set_cons_succ]
            refine wpAnyH_take (i := 10) (v := undef) (hi := (by simp only [List.getElem?_toArray, List.getElem?_cons_succ, List.getElem?_cons_zero]; rfl)) (by kernel_rfl) (by kernel_rfl) (by kernel_rfl) (by exact fun _ _ _ h => h) (Or.inr ⟨by rfl, rfl⟩) (by assumption) ?_
            try simp only [Act.put, List.setIfInBounds_toArray, List.set_cons_zero, List.set_cons_succ]
            refine wpAnyH_take (i := 11) (v := undef) (hi := (by simp only [List.getElem?_toArray, List.getElem?_cons_succ, List.getElem?_cons_zero]; rfl)) (by kernel_rfl) (by kernel_rfl) (by kernel_rfl) (by exact fun _ _ _ h => h) (Or.inr ⟨by rfl, rfl⟩) (by assumption) ?_
            try simp only [Act.put, List.setIfInBounds_toArray, List.set_cons_zero, List.set_cons_succ]
            refine wpAnyH_take (i := 12) (v := ?v_r12) (hi := (by simp only [List.getElem?_toArray, List.getElem?_cons_succ, List.getElem?_cons_zero]; rfl)) (by kernel_rfl) (by kernel_rfl) (by kernel_rfl) (by exact fun _ _ _ h => h) (Or.inl ⟨by rfl, ?hy_r12⟩) (by assumption) ?rest_r12
            case hy_r12 =>
              intro W hSW
              try dsimp only at hSW
              go_simp
              try with_reducible rfl
            try simp only [Act.put, List.setIfInBounds_toArray, List.set_cons_zero, List.set_cons_succ]
            refine wpAnyH_take (i := 13) (v := ?v_r13) (hi := (by simp only [List.getElem?_toArray, List.getElem?_cons_succ, List.getElem?_cons_zero]; rfl)) (by kernel_rfl) (by kernel_rfl) (by kernel_rfl) (by exact fun _ _ _ h => h) (Or.inl ⟨by rfl, ?hy_r13⟩) (by assumption) ?rest_r13
            case hy_r13 =>
              intro W hSW
              try dsimp only at hSW
              go_simp
              try with_reducible rfl
            try simp only [Act.put, List.setIfInBounds_toArray, List.set_cons_zero, List.set_cons_succ]
            refine wpAnyH_take (i := 14) (v := ?v_r14) (hi := (by simp only [List.getElem?_toArray, List.getElem?_cons_succ, List.getElem?_cons_zero]; rfl)) (by kernel_rfl) (by kernel_rfl) (by kernel_rfl) (by exact fun _ _ _ h => h) (Or.inl ⟨by rfl, ?hy_r14⟩) (by assumption) ?rest_r14
            case hy_r14 =>
              intro W hSW
              try dsimp only at hSW
              go_simp
              try with_reducible rfl
            try simp only [Act.put, List.setIfInBounds_toArray, List.set_cons_zero, List.set_cons_succ]
            refine wpAnyH_take (i := 15) (v := ?v_r15) (hi := (by simp only [List.getElem?_toArray, List.getElem?_cons_succ, List.getElem?_cons_zero]; rfl)) (by kernel_rfl) (by kernel_rfl) (by kernel_rfl) (by exact fun _ _ _ h => h) (Or.inl ⟨by rfl, ?hy_r15⟩) (by assumption) ?rest_r15
            case hy_r15 =>
              intro W hSW
              try dsimp only at hSW
              go_simp
              try with_reducible rfl
            try simp only [Act.put, List.setIfInBounds_toArray, List.set_cons_zero, List.set_cons_succ]
            refine wpAnyH_take (i := 17) (v := ?v_r17) (hi := (by simp only [List.getElem?_toArray, List.getElem?_cons_succ, List.getElem?_cons_zero]; rfl)) (by kernel_rfl) (by kernel_rfl) (by kernel_rfl) (by exact fun _ _ _ h => h) (Or.inl ⟨by rfl, ?hy_r17⟩) (by assumption) ?rest_r17
            case hy_r17 =>
              intro W hSW
              try dsimp only at hSW
              go_simp
              try with_reducible rfl
            try simp only [Act.put, List.setIfInBounds_toArray, List.set_cons_zero, List.set_cons_succ]
            refine wpAnyH_take (i := 19) (v := ?v_r19) (hi := (by simp only [List.getElem?_toArray, List.getElem?_cons_succ, List.getElem?_cons_zero]; rfl)) (by kernel_rfl) (by kernel_rfl) (by kernel_rfl) (by exact fun _ _ _ h => h) (Or.inl ⟨by rfl, ?hy_r19⟩) (by assumption) ?rest_r19
            case hy_r19 =>
              intro W hSW
              try dsimp only at hSW
              go_simp
              try with_reducible rfl
            try simp only [Act.put, List.setIfInBounds_toArray, List.set_cons_zero, List.set_cons_succ]
            refine wpAnyH_take (i := 20) (v := ?v_r20) (hi := (by simp only [List.getElem?_toArray, List.getElem?_cons_succ, List.getElem?_cons_zero]; rfl)) (by kernel_rfl) (by kernel_rfl) (by kernel_rfl) (by exact fun _ _ _ h => h) (Or.inl ⟨by rfl, ?hy_r20⟩) (by assumption) ?rest_r20
            case hy_r20 =>
              intro W hSW
              try dsimp only at hSW
              go_simp
              try with_reducible rfl
            try simp only [Act.put, List.setIfInBounds_toArray, List.set_cons_zero, List.set_cons_succ]
            refine wpAnyH_take (i := 21) (v := ?v_r21) (hi := (by simp only [List.getElem?_toArray, List.getElem?_cons_succ, List.getElem?_cons_zero]; rfl)) (by kernel_rfl) (by kernel_rfl) (by kernel_rfl) (by exact fun _ _ _ h => h) (Or.inl ⟨by rfl, ?hy_r21⟩) (by assumption) ?rest_r21
            case hy_r21 =>
              intro W hSW
              try dsimp only at hSW
              go_simp
              try with_reducible rfl
            try simp only [Act.put, List.setIfInBounds_toArray, List.set_cons_zero, List.set_cons_succ]
            refine wpAnyH_ready (rs := [16]) (by kernel_rfl) (by simp) ?_
            refine AllReadyH.cons (ho := (by simp only [List.getElem?_toArray, List.getElem?_cons_succ, List.getElem?_cons_zero]; rfl)) (fun K_ hK_ => ?_) AllReadyH.nil
            go_simp
            refine (implSafeCopies _ _ _ _ h1 _ (H6.out _ (bdrew (bref _)))).mono ?_
            rintro e w9 ⟨vs, rfl, hos, -, hb9⟩
            obtain ⟨as_, cs_, rfl⟩ := own_form hos
            have IS := Lib.hid (own_ints hos (by have := safeL_len h1; omega))
            clear hos
            refine hK_.out _ _ ?_ (fun hHeld_ => ?_)
            · try dsimp only
              exact MK.out _ (bnext (bdrew (bref _)) hb9)
            clear hK_
            try simp only [Act.put, List.setIfInBounds_toArray, List.set_cons_zero, List.set_cons_succ]
            refine wpAnyH_ready (rs := [18]) (by kernel_rfl) (by simp) ?_
            refine AllReadyH.cons (ho := (by simp only [List.getElem?_toArray, List.getElem?_cons_succ, List.getElem?_cons_zero]; rfl)) (fun K_ hK_ => ?_) AllReadyH.nil
            go_simp
            refine (has_any (Value.slice as_ (safeL h1).length cs_) (safeL h1) _ _ IS.out).mono ?_
            rw [ds]
            rintro e w' ⟨rfl, rfl⟩
            refine hK_.out _ _ ?_ (fun hHeld_ => ?_)
            · try dsimp only
              exact MK.out _ (bnext (bdrew (bref _)) hb9)
            clear hK_
            try simp only [Act.put, List.setIfInBounds_toArray, List.set_cons_zero, List.set_cons_succ]
            refine wpAnyH_ready (rs := [22]) (by kernel_rfl) (by simp) ?_
            refine AllReadyH.cons (ho := (by simp only [List.getElem?_toArray, List.getElem?_cons_succ, List.getElem?_cons_zero]; rfl)) (fun K_ hK_ => ?_) AllReadyH.nil
            go_simp
            refine (has_any (Value.slice at3 h1.ts.length ct3) h1.ts _ _ (H6.out _ (bnext (bdrew (bref _)) hb9)).t).mono ?_
            rw [d6]
            rintro e w' ⟨rfl, rfl⟩
            refine hK_.out _ _ ?_ (fun hHeld_ => ?_)
            · try dsimp only
              exact MK.out _ (bnext (bdrew (bref _)) hb9)
            clear hK_
            try simp only [Act.put, List.setIfInBounds_toArray, List.set_cons_zero, List.set_cons_succ]
            refine wpAnyH_take (i := 23) (v := ?v_r23) (hi := (by simp only [List.getElem?_toArray, List.getElem?_cons_succ, List.getElem?_cons_zero]; rfl)) (by kernel_rfl) (by kernel_rfl) (by kernel_rfl) (by exact fun _ _ _ h => h) (Or.inl ⟨by rfl, ?hy_r23⟩) (by assumption) ?rest_r23
            case hy_r23 =>
              intro W hSW
              try dsimp only at hSW
              go_simp
              try with_reducible rfl
            try simp only [Act.put, List.setIfInBounds_toArray, List.set_cons_zero, List.set_cons_succ]
            refine wpAnyH_take (i := 24) (v := ?v_r24) (hi := (by simp only [List.getElem?_toArray, List.getElem?_cons_succ, List.getElem?_cons_zero]; rfl)) (by kernel_rfl) (by kernel_rfl) (by kernel_rfl) (by exact fun _ _ _ h => h) (Or.inl ⟨by rfl, ?hy_r24⟩) (by assumption) ?rest_r24
            case hy_r24 =>
              intro W hSW
              try dsimp only at hSW
              go_simp
              try with_reducible rfl
            try simp only [Act.put, List.setIfInBounds_toArray, List.set_cons_zero, List.set_cons_succ]
            refine wpAnyH_done (by kernel_rfl) ?_ _
            go_wp2_with fail
            go_roundw
            case rel => exact ⟨k + 1, by omega, by go_num, bnext HB.out (bnext (bdrew (bref _)) hb9)⟩
            case measure => simp [intOf]; omega
        · by_cases qA : (k : Int) ∈ A
          · have d3 : decide ((k : Int) ∈ hx.ts) = false := decide_eq_false q3
            have dA : decide ((k : Int) ∈ A) = true := decide_eq_true qA
            have d6 : decide ((k : Int) ∈ h1.ts) = true := decide_eq_true (hmk.2 (.inr qA))
            have ds : decide ((k : Int) ∈ safeL h1) = false := by rw [hsk, d6]; rfl
            clear hmk hsk q3 qA
            as_aux_lemma =>
              go_region_held3 (fun w' => w'.cell? ⟨w3.heap.size, 0, none⟩ = some (.slice ac3 h1.n cc3) ∧ w'.cell? ⟨w3.heap.size, 1, none⟩ = some (.slice am3 h1.ms.length cm3) ∧ w'.cell? ⟨w3.heap.size, 2, none⟩ = some (.slice ao3 h1.os.length co3) ∧ w'.cell? ⟨w3.heap.size, 3, none⟩ = some (.slice at3 h1.ts.length ct3) ∧ w'.cell? ⟨w3.heap.size, 4, none⟩ = some (.int .i64 h1.sent) ∧ w'.cell? ⟨w3.heap.size, 5, none⟩ = some (.int .i64 h1.day) ∧ w'.cell? ⟨w1.heap.size, 3, none⟩ = some (.slice at0 hx.ts.length ct0) ∧ Below wr.heap.size wr w')
                (first | exact MK.out _ (bdrew (bref _)) | (go_split_ands; exact MK.out _ (bnext (by assumption) hb9)) | (go_split_ands; exact MK.out _ (by assumption)))
                (first | (go_at_call_of 14 (Value.slice at3 h1.ts.length ct3); go_split_ands; refine (has_any _ h1.ts _ _ (H6.out _ (by assumption)).t).mono ?_; rw [d6]; rintro e w' ⟨rfl, rfl⟩)
                       | (go_at_call_of 14 (Value.slice at0 hx.ts.length ct0); go_split_ands; refine (has_any _ hx.ts _ _ (I3.out _ (by assumption))).mono ?_; rw [d3]; rintro e w' ⟨rfl, rfl⟩)
                       | (go_at_call_of 14 (Value.slice aa A.length ca); go_split_ands; refine (has_any _ A _ _ (IAr.out _ (by assumption))).mono ?_; rw [dA]; rintro e w' ⟨rfl, rfl⟩)
                       | (go_at_call 15; go_split_ands; refine (implSafeCopies _ _ _ _ h1 _ (H6.out _ (by assumption))).mono ?_; rintro e w9 ⟨vs, rfl, hos, -, hb9⟩; obtain ⟨as_, cs_, rfl⟩ := own_form hos; have IS := Lib.hid (own_ints hos (by have := safeL_len h1; omega)); clear hos)
                       | (go_at_call 14; go_split_ands; refine (has_any _ (safeL h1) _ _ IS.out).mono ?_; rw [ds]; rintro e w' ⟨rfl, rfl⟩))
              go_split_ands
              have HBf : Below wr.heap.size wr w9 := by assumption
              go_wp2_with fail
              go_roundw
              case rel => exact ⟨k + 1, by omega, by go_num, bnext HB.out HBf⟩
              case measure => simp [intOf]; omega
          · have d3 : decide ((k : Int) ∈ hx.ts) = false := decide_eq_false q3
            have dA : decide ((k : Int) ∈ A) = false := decide_eq_false qA
            have d6 : decide ((k : Int) ∈ h1.ts) = false := decide_eq_false fun z => by rcases hmk.1 z with z | z; exact q3 z; exact qA z
            have ds : decide ((k : Int) ∈ safeL h1) = true := by rw [hsk, d6]; rfl
            clear hmk hsk q3 qA
            as_aux_lemma =>
              go_region_held3 (fun w' => w'.cell? ⟨w3.heap.size, 0, none⟩ = some (.slice ac3 h1.n cc3) ∧ w'.cell? ⟨w3.heap.size, 1, none⟩ = some (.slice am3 h1.ms.length cm3) ∧ w'.cell? ⟨w3.heap.size, 2, none⟩ = some (.slice ao3 h1.os.length co3) ∧ w'.cell? ⟨w3.heap.size, 3, none⟩ = some (.slice at3 h1.ts.length ct3) ∧ w'.cell? ⟨w3.heap.size, 4, none⟩ = some (.int .i64 h1.sent) ∧ w'.cell? ⟨w3.heap.size, 5, none⟩ = some (.int .i64 h1.day) ∧ w'.cell? ⟨w1.heap.size, 3, none⟩ = some (.slice at0 hx.ts.length ct0) ∧ Below wr.heap.size wr w')
                (first | exact MK.out _ (bdrew (bref _)) | (go_split_ands; exact MK.out _ (bnext (by assumption) hb9)) | (go_split_ands; exact MK.out _ (by assumption)))
                (first | (go_at_call_of 14 (Value.slice at3 h1.ts.length ct3); go_split_ands; refine (has_any _ h1.ts _ _ (H6.out _ (by assumption)).t).mono ?_; rw [d6]; rintro e w' ⟨rfl, rfl⟩)
                       | (go_at_call_of 14 (Value.slice at0 hx.ts.length ct0); go_split_ands; refine (has_any _ hx.ts _ _ (I3.out _ (by assumption))).mono ?_; rw [d3]; rintro e w' ⟨rfl, rfl⟩)
                       | (go_at_call_of 14 (Value.slice aa A.length ca); go_split_ands; refine (has_any _ A _ _ (IAr.out _ (by assumption))).mono ?_; rw [dA]; rintro e w' ⟨rfl, rfl⟩)
                       | (go_at_call 15; go_split_ands; refine (implSafeCopies _ _ _ _ h1 _ (H6.out _ (by assumption))).mono ?_; rintro e w9 ⟨vs, rfl, hos, -, hb9⟩; obtain ⟨as_, cs_, rfl⟩ := own_form hos; have IS := Lib.hid (own_ints hos (by have := safeL_len h1; omega)); clear hos)
                       | (go_at_call 14; go_split_ands; refine (has_any _ (safeL h1) _ _ IS.out).mono ?_; rw [ds]; rintro e w' ⟨rfl, rfl⟩))
              go_split_ands
              have HBf : Below wr.heap.size wr w9 := by assumption
              go_wp2_with fail
              go_roundw
              case rel => exact ⟨k + 1, by omega, by go_num, bnext HB.out HBf⟩
              case measure => simp [intOf]; omega
      · obtain rfl : k = hx.n := by omega
        have BY := Lib.hid (BY.out.below HB.out)
        have DX := Lib.hid (bnext DX.out HB.out)
        have A2' := atV_bd BY.out 2
        rw [HA2.out] at A2'
        obtain ⟨t9, ht9, hm9, t90, t91⟩ : ∃ t9 : Int, a2.tmod 9 = t9 ∧ a2 % 9 = t9 ∧ 0 ≤ t9 ∧ t9 < 9 := ⟨a2 % 9, Int.tmod_eq_emod_of_nonneg A2'.1, rfl, by omega, by omega⟩
        have hw9 : IntKind.i64.wrap (1 + t9) = 1 + t9 := by rw [IntKind.wrap_i64]; omega
        have hdy := (houseOk_facts ok).day
        obtain ⟨dy0, dy1⟩ := hdy
        have hml := Lib.hid (daysOk_chain (houseOk_facts ok).days).2
        clear X6 HM HS IA hlt hk
        by_cases h12 : hx.n < 12
        · have i12 : (hx.n : Int) < 12 := by omega
          have MY := Lib.hid (LL.out.mk_yes h12)
          have okm := Lib.hid (LL.out.more h12)
          have nm := Lib.hid (show (hx.more b 3 1 2).n = hx.n + 1 from rfl)
          have mm := Lib.hid (show (hx.more b 3 1 2).ms.length = hx.n + 1 by simp [HD.more, hml.out])
          have dm := Lib.hid (show nth (hx.more b 3 1 2).ms hx.n = hx.day from nth_appr (j := 0) (by have := hml.out; omega))
          have hBc : HouseB (hx.more b 3 1 2) 1048576 := by have c := houseOk_b okm.out; exact ⟨by have := c.n; omega, by have := c.ms; omega, by have := c.os; omega, by have := c.ts; omega⟩
          generalize hx.more b 3 1 2 = hc at *
          as_aux_lemma =>
            go_wp2_with fail
            refine (implMakeCopy _ _ _ _ hx b 3 1 2 _ (X3.out.house.read hB) X3.out.house.nils hB).mono ?_
            rw [MY.out]
            rintro e w5 ⟨ac5, cc5, am5, cm5, ao5, co5, at5, ct5, rfl, hO5, hb5⟩
            dsimp only at hO5
            have XC := Lib.hid (BoxH.first hO5 (Nat.le_refl _))
            have X3 := Lib.hid (X3.out.below (bnext hb5 (balloc (bref w5) (.cells #[.slice ac5 (hc).n cc5, .slice am5 (hc).ms.length cm5, .slice ao5 (hc).os.length co5, .slice at5 (hc).ts.length ct5, .int .i64 (hc).sent, .int .i64 (hc).day] 27))))
            have BY := Lib.hid (BY.out.below (bnext hb5 (balloc (bref w5) (.cells #[.slice ac5 (hc).n cc5, .slice am5 (hc).ms.length cm5, .slice ao5 (hc).os.length co5, .slice at5 (hc).ts.length ct5, .int .i64 (hc).sent, .int .i64 (hc).day] 27))))
            have DX := Lib.hid (bnext DX.out (bnext hb5 (balloc (bref w5) (.cells #[.slice ac5 (hc).n cc5, .slice am5 (hc).ms.length cm5, .slice ao5 (hc).os.length co5, .slice at5 (hc).ts.length ct5, .int .i64 (hc).sent, .int .i64 (hc).day] 27))))
            clear hO5 hb5
            go_upto_region 17 with fail
            generalize w5.alloc (.cells #[.slice ac5 (hc).n cc5, .slice am5 (hc).ms.length cm5, .slice ao5 (hc).os.length co5, .slice at5 (hc).ts.length ct5, .int .i64 (hc).sent, .int .i64 (hc).day] 27) = u5 at *
            clear g0 g1 g2 g3 g4 g5
            have y17 := X3.out.six.lt
            have MK : Hid (∀ w' : World, Below u5.heap.size u5 w' → w'.cell? ⟨w1.heap.size, 0, none⟩ = some (.slice ac0 hx.n cc0) ∧ w'.cell? ⟨w1.heap.size, 1, none⟩ = some (.slice am0 hx.ms.length cm0) ∧ w'.cell? ⟨w1.heap.size, 2, none⟩ = some (.slice ao0 hx.os.length co0) ∧ w'.cell? ⟨w1.heap.size, 3, none⟩ = some (.slice at0 hx.ts.length ct0) ∧ w'.cell? ⟨w1.heap.size, 4, none⟩ = some (.int .i64 hx.sent) ∧ w'.cell? ⟨w1.heap.size, 5, none⟩ = some (.int .i64 hx.day) ∧ Below u5.heap.size u5 w') := fun w' hb => ⟨(hb.cell (p := ⟨w1.heap.size, 0, none⟩) y17).trans X3.out.six.c0, (hb.cell (p := ⟨w1.heap.size, 1, none⟩) y17).trans X3.out.six.c1, (hb.cell (p := ⟨w1.heap.size, 2, none⟩) y17).trans X3.out.six.c2, (hb.cell (p := ⟨w1.heap.size, 3, none⟩) y17).trans X3.out.six.c3, (hb.cell (p := ⟨w1.heap.size, 4, none⟩) y17).trans X3.out.six.c4, (hb.cell (p := ⟨w1.heap.size, 5, none⟩) y17).trans X3.out.six.c5, hb⟩
            have RH := Lib.hid (fun (W : World) (q : Below u5.heap.size u5 W) => ((X3.out.house.read hB).below q))
            have BYH := Lib.hid (fun (W : World) (q : Below u5.heap.size u5 W) => BY.out.below q)
            have SZ := Lib.hid (show Six u5.heap.size ((u5.alloc (.cells #[.slice none 0 0, .slice none 0 0, .slice none 0 0, .slice none 0 0, .int .i64 0, .int .i64 0] 27)).drew) (.slice none 0 0) (.slice none 0 0) (.slice none 0 0) (.slice none 0 0) (.int .i64 0) (.int .i64 0) from ⟨by go_simp, by go_simp, by go_simp, by go_simp, by go_simp, by go_simp, by go_simp, by go_simp, by go_simp, by go_simp, by go_simp, by go_simp⟩)
            have hDr : Below u5.heap.size u5 u5.drew := bdrew (bref _)
            have hDa : Below u5.heap.size u5 (u5.alloc (.cells #[.slice none 0 0, .slice none 0 0, .slice none 0 0, .slice none 0 0, .int .i64 0, .int .i64 0] 27)).drew := bdrew (balloc (bref _) _)
            have LP := Lib.hid (LL.out.pass (show (1 : Int) ≤ 1 + t9 by omega) (show 1 + t9 ≤ 9 by omega))
            have hld := Lib.hid (show (hx.later (1 + t9)).day = hx.day + (1 + t9) from rfl)
            generalize hx.later (1 + t9) = hl at *
            have hnx := X3.out.house.nils
            go_cut [16, 17] (fun p q wx => ∃ (P : Nat) (ac6 am6 ao6 at6 : Option Addr) (cc6 cm6 co6 ct6 : Nat), p = .pointer (some ⟨P, 0, none⟩) ∧ q = .bool true ∧ Hid (BoxH P u5.heap.size wx (.slice ac6 (hl).n cc6) (.slice am6 (hl).ms.length cm6) (.slice ao6 (hl).os.length co6) (.slice at6 (hl).ts.length ct6) hl) ∧ Hid (Below u5.heap.size u5 wx))
            case first => as_aux_lemma =>
              go_region_held3 (fun w' => w'.cell? ⟨w1.heap.size, 0, none⟩ = some (.slice ac0 hx.n cc0) ∧ w'.cell? ⟨w1.heap.size, 1, none⟩ = some (.slice am0 hx.ms.length cm0) ∧ w'.cell? ⟨w1.heap.size, 2, none⟩ = some (.slice ao0 hx.os.length co0) ∧ w'.cell? ⟨w1.heap.size, 3, none⟩ = some (.slice at0 hx.ts.length ct0) ∧ w'.cell? ⟨w1.heap.size, 4, none⟩ = some (.int .i64 hx.sent) ∧ w'.cell? ⟨w1.heap.size, 5, none⟩ = some (.int .i64 hx.day) ∧ Below u5.heap.size u5 w')
                (first | with_reducible exact MK.out _ hDr | with_reducible exact MK.out _ hDa | with_reducible exact MK.out _ hq6 | with_reducible exact MK.out _ qA | with_reducible exact MK.out _ qV | with_reducible exact MK.out _ qP | (go_split_ands; with_reducible exact MK.out _ (by assumption)) | fail "keep")
                (first | (go_at_call 8; go_split_ands; refine (at_val v bs 2 _ (BYH.out _ (by assumption)) (by omega)).mono ?_; rw [HA2.out]; rintro e w' ⟨rfl, rfl⟩)
                       | (go_at_call 17; go_split_ands; refine (implPassDays _ _ _ _ hx (1 + t9) _ (RH.out _ (by assumption)) hnx hB).mono ?_; rw [LP.out]; rintro e w6 ⟨ac6, cc6, am6, cm6, ao6, co6, at6, ct6, rfl, hO6, hb6⟩; dsimp only at hO6; have hq6 : Below u5.heap.size u5 w6 := (by first | exact bnext hDr hb6 | exact bnext hDa hb6); have qA : Below u5.heap.size u5 (w6.alloc (.cells #[.slice none 0 0, .slice none 0 0, .slice none 0 0, .slice none 0 0, .int .i64 0, .int .i64 0] 27)) := balloc hq6 _; have qV : Below u5.heap.size u5 (w6.alloc (.cells #[.slice ac6 (hl).n cc6, .slice am6 (hl).ms.length cm6, .slice ao6 (hl).os.length co6, .slice at6 (hl).ts.length ct6, .int .i64 (hl).sent, .int .i64 (hl).day] 27)) := balloc hq6 _; have qP : Below u5.heap.size u5 (put6 w6 u5.heap.size (.slice ac6 (hl).n cc6) (.slice am6 (hl).ms.length cm6) (.slice ao6 (hl).os.length co6) (.slice at6 (hl).ts.length ct6) (.int .i64 hl.sent) (.int .i64 hl.day)) := Only.below hq6 (only_put6 w6 u5.heap.size _ _ _ _ _ _) (Nat.le_refl _); (try (have SX := SZ.out.below hb6; have SXH := Lib.hid SX; obtain ⟨e0, e1, e2, e3, e4, e5, ef0, ef1, ef2, ef3, ef4, ef5⟩ := SX))))
              all_goals
                go_wp2_with fail
                go_meet
                first
                | (have yq : u5.heap.size < ((u5.alloc (.cells #[.slice none 0 0, .slice none 0 0, .slice none 0 0, .slice none 0 0, .int .i64 0, .int .i64 0] 27)).drew).heap.size := by simp
                   have oB := only_put6 w6 u5.heap.size (.slice ac6 (hl).n cc6) (.slice am6 (hl).ms.length cm6) (.slice ao6 (hl).os.length co6) (.slice at6 (hl).ts.length ct6) (.int .i64 hl.sent) (.int .i64 hl.day)
                   exact ⟨u5.heap.size, ac6, am6, ao6, at6, cc6, cm6, co6, ct6, rfl, rfl, Lib.hid ⟨SXH.out.put, (hO6.only oB (off_r (by simp))).wide (by simp) oB.size, row_far hO6.c yq, row_far hO6.m yq, row_far hO6.o yq, row_far hO6.t yq⟩, Lib.hid qP⟩)
                | exact ⟨w6.heap.size, ac6, am6, ao6, at6, cc6, cm6, co6, ct6, rfl, rfl, Lib.hid (BoxH.first (hO6.wide (by simp) (Nat.le_refl _)) (Nat.le_refl _)), Lib.hid qV⟩
            case rest => as_aux_lemma =>
              obtain ⟨P, ac6, am6, ao6, at6, cc6, cm6, co6, ct6, rfl, rfl, XP, HBx⟩ := hcut
              have X3 := Lib.hid (X3.out.below HBx.out)
              have XC := Lib.hid (XC.out.below HBx.out)
              have BY := Lib.hid (BY.out.below HBx.out)
              have DX := Lib.hid (bnext DX.out HBx.out)
              clear HBx MK RH BYH SZ hDr hDa LP hnx
              go_wp2_with fail
              refine (implNewHouse 1000 2 _).mono ?_
              have NT := Lib.hid new_two
              rw [NT.out.1]
              generalize firstHouse 1000 2 = hf at *
              rintro e w7 ⟨ac7, cc7, am7, cm7, ao7, co7, at7, ct7, rfl, hO7, hb7⟩
              dsimp only at hO7
              have XN := Lib.hid (BoxH.first hO7 (Nat.le_refl _))
              have X3 := Lib.hid (X3.out.below (bnext hb7 (balloc (bref w7) (.cells #[.slice ac7 (hf).n cc7, .slice am7 (hf).ms.length cm7, .slice ao7 (hf).os.length co7, .slice at7 (hf).ts.length ct7, .int .i64 (hf).sent, .int .i64 (hf).day] 27))))
              have BY := Lib.hid (BY.out.below (bnext hb7 (balloc (bref w7) (.cells #[.slice ac7 (hf).n cc7, .slice am7 (hf).ms.length cm7, .slice ao7 (hf).os.length co7, .slice at7 (hf).ts.length ct7, .int .i64 (hf).sent, .int .i64 (hf).day] 27))))
              have XC := Lib.hid (XC.out.below (bnext hb7 (balloc (bref w7) (.cells #[.slice ac7 (hf).n cc7, .slice am7 (hf).ms.length cm7, .slice ao7 (hf).os.length co7, .slice at7 (hf).ts.length ct7, .int .i64 (hf).sent, .int .i64 (hf).day] 27))))
              have XP := Lib.hid (XP.out.below (bnext hb7 (balloc (bref w7) (.cells #[.slice ac7 (hf).n cc7, .slice am7 (hf).ms.length cm7, .slice ao7 (hf).os.length co7, .slice at7 (hf).ts.length ct7, .int .i64 (hf).sent, .int .i64 (hf).day] 27))))
              have DX := Lib.hid (bnext DX.out (bnext hb7 (balloc (bref w7) (.cells #[.slice ac7 (hf).n cc7, .slice am7 (hf).ms.length cm7, .slice ao7 (hf).os.length co7, .slice at7 (hf).ts.length ct7, .int .i64 (hf).sent, .int .i64 (hf).day] 27))))
              clear hO7 hb7
              have hBf : HouseB hf 1048576 := by have c := houseOk_b NT.out.2.1; exact ⟨by have := c.n; omega, by have := c.ms; omega, by have := c.os; omega, by have := c.ts; omega⟩
              go_upto_region 19 with fail
              generalize w7.alloc (.cells #[.slice ac7 (hf).n cc7, .slice am7 (hf).ms.length cm7, .slice ao7 (hf).os.length co7, .slice at7 (hf).ts.length ct7, .int .i64 (hf).sent, .int .i64 (hf).day] 27) = u8 at *
              have yx3 := X3.out.six.lt
              have yxp := XP.out.six.lt
              have yxn := XN.out.six.lt
              have yxc := XC.out.six.lt
              have RC8 := Lib.hid (XC.out.house.read hBc)
              obtain ⟨_, _, _, hq, hcm⟩ := RC8.out.m
              cases hq
              obtain ⟨bm, om, rfl, em⟩ := hcm hx.n (by have := mm.out; omega)
              rw [dm.out] at em
              clear hcm
              have HC8 := Lib.hid (fun (W : World) (q : Below u8.heap.size u8 W) => RC8.out.below q)
              have RN8 := Lib.hid (XN.out.house.read hBf)
              have HN8 := Lib.hid (fun (W : World) (q : Below u8.heap.size u8 W) => RN8.out.below q)
              have BY8 := Lib.hid (fun (W : World) (q : Below u8.heap.size u8 W) => BY.out.below q)
              have MK : Hid (∀ w' : World, Below u8.heap.size u8 w' → w'.cell? ⟨w1.heap.size, 0, none⟩ = some (.slice ac0 hx.n cc0) ∧ w'.cell? ⟨w1.heap.size, 5, none⟩ = some (.int .i64 hx.day) ∧ w'.cell? ⟨P, 5, none⟩ = some (.int .i64 hl.day) ∧ w'.cell? ⟨w7.heap.size, 0, none⟩ = some (.slice ac7 (hf).n cc7) ∧ w'.cell? ⟨w7.heap.size, 1, none⟩ = some (.slice am7 (hf).ms.length cm7) ∧ w'.cell? ⟨w7.heap.size, 2, none⟩ = some (.slice ao7 (hf).os.length co7) ∧ w'.cell? ⟨w7.heap.size, 3, none⟩ = some (.slice at7 (hf).ts.length ct7) ∧ w'.cell? ⟨w7.heap.size, 4, none⟩ = some (.int .i64 hf.sent) ∧ w'.cell? ⟨w7.heap.size, 5, none⟩ = some (.int .i64 hf.day) ∧ w'.cell? ⟨w5.heap.size, 0, none⟩ = some (.slice ac5 (hc).n cc5) ∧ w'.cell? ⟨w5.heap.size, 1, none⟩ = some (.slice (some ⟨bm, om, none⟩) (hc).ms.length cm5) ∧ w'.cell? ⟨w5.heap.size, 2, none⟩ = some (.slice ao5 (hc).os.length co5) ∧ w'.cell? ⟨w5.heap.size, 3, none⟩ = some (.slice at5 (hc).ts.length ct5) ∧ w'.cell? ⟨w5.heap.size, 4, none⟩ = some (.int .i64 hc.sent) ∧ w'.cell? ⟨w5.heap.size, 5, none⟩ = some (.int .i64 hc.day) ∧ w'.cell? ⟨bm, om + hx.n, none⟩ = some (.int .i64 hx.day) ∧ Below u8.heap.size u8 w') := fun w' hb => ⟨(hb.cell (p := ⟨w1.heap.size, 0, none⟩) yx3).trans X3.out.six.c0, (hb.cell (p := ⟨w1.heap.size, 5, none⟩) yx3).trans X3.out.six.c5, (hb.cell (p := ⟨P, 5, none⟩) yxp).trans XP.out.six.c5, (hb.cell (p := ⟨w7.heap.size, 0, none⟩) yxn).trans XN.out.six.c0, (hb.cell (p := ⟨w7.heap.size, 1, none⟩) yxn).trans XN.out.six.c1, (hb.cell (p := ⟨w7.heap.size, 2, none⟩) yxn).trans XN.out.six.c2, (hb.cell (p := ⟨w7.heap.size, 3, none⟩) yxn).trans XN.out.six.c3, (hb.cell (p := ⟨w7.heap.size, 4, none⟩) yxn).trans XN.out.six.c4, (hb.cell (p := ⟨w7.heap.size, 5, none⟩) yxn).trans XN.out.six.c5, (hb.cell (p := ⟨w5.heap.size, 0, none⟩) yxc).trans XC.out.six.c0, (hb.cell (p := ⟨w5.heap.size, 1, none⟩) yxc).trans XC.out.six.c1, (hb.cell (p := ⟨w5.heap.size, 2, none⟩) yxc).trans XC.out.six.c2, (hb.cell (p := ⟨w5.heap.size, 3, none⟩) yxc).trans XC.out.six.c3, (hb.cell (p := ⟨w5.heap.size, 4, none⟩) yxc).trans XC.out.six.c4, (hb.cell (p := ⟨w5.heap.size, 5, none⟩) yxc).trans XC.out.six.c5, (hb.cell (p := ⟨bm, om + hx.n, none⟩) (World.block_lt_of_cell? _ _ em)).trans em, hb⟩
              have HNT := Lib.hid NT.out.2.2
              have hDr : Below u8.heap.size u8 u8.drew := bdrew (bref _)
              refine wp_region_held_drew (S := fun w' => w'.cell? ⟨w1.heap.size, 0, none⟩ = some (.slice ac0 hx.n cc0) ∧ w'.cell? ⟨w1.heap.size, 5, none⟩ = some (.int .i64 hx.day) ∧ w'.cell? ⟨P, 5, none⟩ = some (.int .i64 hl.day) ∧ w'.cell? ⟨w7.heap.size, 0, none⟩ = some (.slice ac7 (hf).n cc7) ∧ w'.cell? ⟨w7.heap.size, 1, none⟩ = some (.slice am7 (hf).ms.length cm7) ∧ w'.cell? ⟨w7.heap.size, 2, none⟩ = some (.slice ao7 (hf).os.length co7) ∧ w'.cell? ⟨w7.heap.size, 3, none⟩ = some (.slice at7 (hf).ts.length ct7) ∧ w'.cell? ⟨w7.heap.size, 4, none⟩ = some (.int .i64 hf.sent) ∧ w'.cell? ⟨w7.heap.size, 5, none⟩ = some (.int .i64 hf.day) ∧ w'.cell? ⟨w5.heap.size, 0, none⟩ = some (.slice ac5 (hc).n cc5) ∧ w'.cell? ⟨w5.heap.size, 1, none⟩ = some (.slice (some ⟨bm, om, none⟩) (hc).ms.length cm5) ∧ w'.cell? ⟨w5.heap.size, 2, none⟩ = some (.slice ao5 (hc).os.length co5) ∧ w'.cell? ⟨w5.heap.size, 3, none⟩ = some (.slice at5 (hc).ts.length ct5) ∧ w'.cell? ⟨w5.heap.size, 4, none⟩ = some (.int .i64 hc.sent) ∧ w'.cell? ⟨w5.heap.size, 5, none⟩ = some (.int .i64 hc.day) ∧ w'.cell? ⟨bm, om + hx.n, none⟩ = some (.int .i64 hx.day) ∧ Below u8.heap.size u8 w') (by kernel_rfl) ?_ (fun hHeld_ => ?_)
              · exact MK.out _ hDr
              as_aux_lemma =>
                refine wpAnyH_take (i := 0) (v := ?v_y0) (hi := (by simp only [List.getElem?_toArray, List.getElem?_cons_zero]; rfl)) (by kernel_rfl) (by kernel_rfl) (by kernel_rfl) (by exact fun _ _ _ h => h) (Or.inl ⟨by rfl, ?hy_y0⟩) (by assumption) ?rest_y0
                case hy_y0 =>
                  intro W hSW
                  try dsimp only at hSW
                  go_simp
                  try with_reducible rfl
                try simp only [Act.put, List.setIfInBounds_toArray, List.set_cons_zero, List.set_cons_succ]
                refine wpAnyH_take (i := 1) (v := ?v_y1) (hi := (by simp only [List.getElem?_toArray, List.getElem?_cons_succ, List.getElem?_cons_zero]; rfl)) (by kernel_rfl) (by kernel_rfl) (by kernel_rfl) (by exact fun _ _ _ h => h) (Or.inl ⟨by rfl, ?hy_y1⟩) (by assumption) ?rest_y1
                case hy_y1 =>
                  intro W hSW
                  try dsimp only at hSW
                  go_simp
                  try with_reducible rfl
                try simp only [Act.put, List.setIfInBounds_toArray, List.set_cons_zero, List.set_cons_succ]
                refine wpAnyH_take (i := 2) (v := ?v_y2) (hi := (by simp only [List.getElem?_toArray, List.getElem?_cons_succ, List.getElem?_cons_zero]; rfl)) (by kernel_rfl) (by kernel_rfl) (by kernel_rfl) (by exact fun _ _ _ h => h) (Or.inl ⟨by rfl, ?hy_y2⟩) (by assumption) ?rest_y2
                case hy_y2 =>
                  intro W hSW
                  try dsimp only at hSW
                  go_simp
                  try with_reducible rfl
                try simp only [Act.put, List.setIfInBounds_toArray, List.set_cons_zero, List.set_cons_succ]
                refine wpAnyH_take (i := 3) (v := ?v_y3) (hi := (by simp only [List.getElem?_toArray, List.getElem?_cons_succ, List.getElem?_cons_zero]; rfl)) (by kernel_rfl) (by kernel_rfl) (by kernel_rfl) (by exact fun _ _ _ h => h) (Or.inl ⟨by rfl, ?hy_y3⟩) (by assumption) ?rest_y3
                case hy_y3 =>
                  intro W hSW
                  try dsimp only at hSW
                  go_simp
                  try with_reducible rfl
                try simp only [Act.put, List.setIfInBounds_toArray, List.set_cons_zero, List.set_cons_succ]
                refine wpAnyH_take (i := 4) (v := ?v_y4) (hi := (by simp only [List.getElem?_toArray, List.getElem?_cons_succ, List.getElem?_cons_zero]; rfl)) (by kernel_rfl) (by kernel_rfl) (by kernel_rfl) (by exact fun _ _ _ h => h) (Or.inl ⟨by rfl, ?hy_y4⟩) (by assumption) ?rest_y4
                case hy_y4 =>
                  have d_ : decide ((hx.n : Int) < 12) = true := decide_eq_true (by omega)
                  intro W hSW
                  try dsimp only at hSW
                  go_simp
                  try with_reducible rfl
                try simp only [Act.put, List.setIfInBounds_toArray, List.set_cons_zero, List.set_cons_succ]
                refine wpAnyH_take (i := 5) (v := ?v_y5) (hi := (by simp only [List.getElem?_toArray, List.getElem?_cons_succ, List.getElem?_cons_zero]; rfl)) (by kernel_rfl) (by kernel_rfl) (by kernel_rfl) (by exact fun _ _ _ h => h) (Or.inl ⟨by rfl, ?hy_y5⟩) (by assumption) ?rest_y5
                case hy_y5 =>
                  intro W hSW
                  try dsimp only at hSW
                  go_simp
                  try with_reducible rfl
                try simp only [Act.put, List.setIfInBounds_toArray, List.set_cons_zero, List.set_cons_succ]
                refine wpAnyH_take (i := 6) (v := ?v_y6) (hi := (by simp only [List.getElem?_toArray, List.getElem?_cons_succ, List.getElem?_cons_zero]; rfl)) (by kernel_rfl) (by kernel_rfl) (by kernel_rfl) (by exact fun _ _ _ h => h) (Or.inl ⟨by rfl, ?hy_y6⟩) (by assumption) ?rest_y6
                case hy_y6 =>
                  intro W hSW
                  try dsimp only at hSW
                  go_simp
                  try with_reducible rfl
                try simp only [Act.put, List.setIfInBounds_toArray, List.set_cons_zero, List.set_cons_succ]
                refine wpAnyH_take (i := 7) (v := ?v_y7) (hi := (by simp only [List.getElem?_toArray, List.getElem?_cons_succ, List.getElem?_cons_zero]; rfl)) (by kernel_rfl) (by kernel_rfl) (by kernel_rfl) (by exact fun _ _ _ h => h) (Or.inl ⟨by rfl, ?hy_y7⟩) (by assumption) ?rest_y7
                case hy_y7 =>
                  intro W hSW
                  try dsimp only at hSW
                  go_simp
                  try with_reducible rfl
                try simp only [Act.put, List.setIfInBounds_toArray, List.set_cons_zero, List.set_cons_succ]
                refine wpAnyH_take (i := 8) (v := ?v_y8) (hi := (by simp only [List.getElem?_toArray, List.getElem?_cons_succ, List.getElem?_cons_zero]; rfl)) (by kernel_rfl) (by kernel_rfl) (by kernel_rfl) (by exact fun _ _ _ h => h) (Or.inl ⟨by rfl, ?hy_y8⟩) (by assumption) ?rest_y8
                case hy_y8 =>
                  intro W hSW
                  try dsimp only at hSW
                  go_simp
                  try with_reducible rfl
                try simp only [Act.put, List.setIfInBounds_toArray, List.set_cons_zero, List.set_cons_succ]
                refine wpAnyH_take (i := 9) (v := ?v_y9) (hi := (by simp only [List.getElem?_toArray, List.getElem?_cons_succ, List.getElem?_cons_zero]; rfl)) (by kernel_rfl) (by kernel_rfl) (by kernel_rfl) (by exact fun _ _ _ h => h) (Or.inl ⟨by rfl, ?hy_y9⟩) (by assumption) ?rest_y9
                case hy_y9 =>
                  intro W hSW
                  try dsimp only at hSW
                  go_simp
                  try with_reducible rfl
                try simp only [Act.put, List.setIfInBounds_toArray, List.set_cons_zero, List.set_cons_succ]
                refine wpAnyH_take (i := 10) (v := ?v_y10) (hi := (by simp only [List.getElem?_toArray, List.getElem?_cons_succ, List.getElem?_cons_zero]; rfl)) (by kernel_rfl) (by kernel_rfl) (by kernel_rfl) (by exact fun _ _ _ h => h) (Or.inl ⟨by rfl, ?hy_y10⟩) (by assumption) ?rest_y10
                case hy_y10 =>
                  intro W hSW
                  try dsimp only at hSW
                  go_simp
                  try with_reducible rfl
                try simp only [Act.put, List.setIfInBounds_toArray, List.set_cons_zero, List.set_cons_succ]
                refine wpAnyH_ready (rs := [11]) (by kernel_rfl) (by simp) ?_
                refine AllReadyH.cons (ho := (by simp only [List.getElem?_toArray, List.getElem?_cons_succ, List.getElem?_cons_zero]; rfl)) (fun K_ hK_ => ?_) AllReadyH.nil
                go_simp
                refine (implHouseOk _ _ _ _ hc _ (HC8.out _ hDr)).mono ?_
                rw [okm.out]
                rintro e w9_ ⟨rfl, hb9_⟩
                have hD9 : Below u8.heap.size u8 w9_ := bnext hDr hb9_
                refine hK_.out _ _ ?_ (fun hHeld_ => ?_)
                · try dsimp only
                  exact MK.out _ hD9
                clear hK_
                try simp only [Act.put, List.setIfInBounds_toArray, List.set_cons_zero, List.set_cons_succ]
                refine wpAnyH_take (i := 12) (v := ?v_y12) (hi := (by simp only [List.getElem?_toArray, List.getElem?_cons_succ, List.getElem?_cons_zero]; rfl)) (by kernel_rfl) (by kernel_rfl) (by kernel_rfl) (by exact fun _ _ _ h => h) (Or.inl ⟨by rfl, ?hy_y12⟩) (by assumption) ?rest_y12
                case hy_y12 =>
                  intro W hSW
                  try dsimp only at hSW
                  go_simp
                  try with_reducible rfl
                try simp only [Act.put, List.setIfInBounds_toArray, List.set_cons_zero, List.set_cons_succ]
                as_aux_lemma =>
                  refine wpAnyH_take (i := 13) (v := ?v_y13) (hi := (by simp only [List.getElem?_toArray, List.getElem?_cons_succ, List.getElem?_cons_zero]; rfl)) (by kernel_rfl) (by kernel_rfl) (by kernel_rfl) (by exact fun _ _ _ h => h) (Or.inl ⟨by rfl, ?hy_y13⟩) (by assumption) ?rest_y13
                  case hy_y13 =>
                    intro W hSW
                    try dsimp only at hSW
                    go_simp
                    try with_reducible rfl
                  try simp only [Act.put, List.setIfInBounds_toArray, List.set_cons_zero, List.set_cons_succ]
                  refine wpAnyH_take (i := 14) (v := ?v_y14) (hi := (by simp only [List.getElem?_toArray, List.getElem?_cons_succ, List.getElem?_cons_zero]; rfl)) (by kernel_rfl) (by kernel_rfl) (by kernel_rfl) (by exact fun _ _ _ h => h) (Or.inl ⟨by rfl, ?hy_y14⟩) (by assumption) ?rest_y14
                  case hy_y14 =>
                    intro W hSW
                    try dsimp only at hSW
                    go_simp
                    try with_reducible rfl
                  try simp only [Act.put, List.setIfInBounds_toArray, List.set_cons_zero, List.set_cons_succ]
                  refine wpAnyH_take (i := 15) (v := ?v_y15) (hi := (by simp only [List.getElem?_toArray, List.getElem?_cons_succ, List.getElem?_cons_zero]; rfl)) (by kernel_rfl) (by kernel_rfl) (by kernel_rfl) (by exact fun _ _ _ h => h) (Or.inl ⟨by rfl, ?hy_y15⟩) (by assumption) ?rest_y15
                  case hy_y15 =>
                    intro W hSW
                    try dsimp only at hSW
                    go_simp
                    try with_reducible rfl
                  try simp only [Act.put, List.setIfInBounds_toArray, List.set_cons_zero, List.set_cons_succ]
                  refine wpAnyH_take (i := 16) (v := ?v_y16) (hi := (by simp only [List.getElem?_toArray, List.getElem?_cons_succ, List.getElem?_cons_zero]; rfl)) (by kernel_rfl) (by kernel_rfl) (by kernel_rfl) (by exact fun _ _ _ h => h) (Or.inl ⟨by rfl, ?hy_y16⟩) (by assumption) ?rest_y16
                  case hy_y16 =>
                    intro W hSW
                    try dsimp only at hSW
                    go_simp
                    try with_reducible rfl
                  try simp only [Act.put, List.setIfInBounds_toArray, List.set_cons_zero, List.set_cons_succ]
                  refine wpAnyH_take (i := 17) (v := ?v_y17) (hi := (by simp only [List.getElem?_toArray, List.getElem?_cons_succ, List.getElem?_cons_zero]; rfl)) (by kernel_rfl) (by kernel_rfl) (by kernel_rfl) (by exact fun _ _ _ h => h) (Or.inl ⟨by rfl, ?hy_y17⟩) (by assumption) ?rest_y17
                  case hy_y17 =>
                    intro W hSW
                    try dsimp only at hSW
                    go_simp
                    try with_reducible rfl
                  try simp only [Act.put, List.setIfInBounds_toArray, List.set_cons_zero, List.set_cons_succ]
                  refine wpAnyH_take (i := 18) (v := ?v_y18) (hi := (by simp only [List.getElem?_toArray, List.getElem?_cons_succ, List.getElem?_cons_zero]; rfl)) (by kernel_rfl) (by kernel_rfl) (by kernel_rfl) (by exact fun _ _ _ h => h) (Or.inl ⟨by rfl, ?hy_y18⟩) (by assumption) ?rest_y18
                  case hy_y18 =>
                    intro W hSW
                    try dsimp only at hSW
                    go_simp
                    try with_reducible rfl
                  try simp only [Act.put, List.setIfInBounds_toArray, List.set_cons_zero, List.set_cons_succ]
                  refine wpAnyH_take (i := 19) (v := ?v_y19) (hi := (by simp only [List.getElem?_toArray, List.getElem?_cons_succ, List.getElem?_cons_zero]; rfl)) (by kernel_rfl) (by kernel_rfl) (by kernel_rfl) (by exact fun _ _ _ h => h) (Or.inl ⟨by rfl, ?hy_y19⟩) (by assumption) ?rest_y19
                  case hy_y19 =>
                    have hw_ : IntKind.i64.wrap ((hx.n : Int) + 1) = (hx.n : Int) + 1 := by rw [IntKind.wrap_i64]; omega
                    intro W hSW
                    try dsimp only at hSW
                    go_simp
                    try with_reducible rfl
                  try simp only [Act.put, List.setIfInBounds_toArray, List.set_cons_zero, List.set_cons_succ]
                  refine wpAnyH_take (i := 20) (v := ?v_y20) (hi := (by simp only [List.getElem?_toArray, List.getElem?_cons_succ, List.getElem?_cons_zero]; rfl)) (by kernel_rfl) (by kernel_rfl) (by kernel_rfl) (by exact fun _ _ _ h => h) (Or.inl ⟨by rfl, ?hy_y20⟩) (by assumption) ?rest_y20
                  case hy_y20 =>
                    have hq_ : ((hc.n : Int) == (hx.n : Int) + 1) = true := by rw [beq_iff_eq]; have := nm.out; omega
                    intro W hSW
                    try dsimp only at hSW
                    go_simp
                    try with_reducible rfl
                  try simp only [Act.put, List.setIfInBounds_toArray, List.set_cons_zero, List.set_cons_succ]
                  refine wpAnyH_take (i := 21) (v := ?v_y21) (hi := (by simp only [List.getElem?_toArray, List.getElem?_cons_succ, List.getElem?_cons_zero]; rfl)) (by kernel_rfl) (by kernel_rfl) (by kernel_rfl) (by exact fun _ _ _ h => h) (Or.inl ⟨by rfl, ?hy_y21⟩) (by assumption) ?rest_y21
                  case hy_y21 =>
                    intro W hSW
                    try dsimp only at hSW
                    go_simp
                    try with_reducible rfl
                  try simp only [Act.put, List.setIfInBounds_toArray, List.set_cons_zero, List.set_cons_succ]
                  refine wpAnyH_take (i := 22) (v := ?v_y22) (hi := (by simp only [List.getElem?_toArray, List.getElem?_cons_succ, List.getElem?_cons_zero]; rfl)) (by kernel_rfl) (by kernel_rfl) (by kernel_rfl) (by exact fun _ _ _ h => h) (Or.inl ⟨by rfl, ?hy_y22⟩) (by assumption) ?rest_y22
                  case hy_y22 =>
                    intro W hSW
                    try dsimp only at hSW
                    go_simp
                    try with_reducible rfl
                  try simp only [Act.put, List.setIfInBounds_toArray, List.set_cons_zero, List.set_cons_succ]
                  refine wpAnyH_take (i := 23) (v := ?v_y23) (hi := (by simp only [List.getElem?_toArray, List.getElem?_cons_succ, List.getElem?_cons_zero]; rfl)) (by kernel_rfl) (by kernel_rfl) (by kernel_rfl) (by exact fun _ _ _ h => h) (Or.inl ⟨by rfl, ?hy_y23⟩) (by assumption) ?rest_y23
                  case hy_y23 =>
                    intro W hSW
                    try dsimp only at hSW
                    go_simp
                    try with_reducible rfl
                  try simp only [Act.put, List.setIfInBounds_toArray, List.set_cons_zero, List.set_cons_succ]
                  refine wpAnyH_take (i := 24) (v := ?v_y24) (hi := (by simp only [List.getElem?_toArray, List.getElem?_cons_succ, List.getElem?_cons_zero]; rfl)) (by kernel_rfl) (by kernel_rfl) (by kernel_rfl) (by exact fun _ _ _ h => h) (Or.inl ⟨by rfl, ?hy_y24⟩) (by assumption) ?rest_y24
                  case hy_y24 =>
                    intro W hSW
                    try dsimp only at hSW
                    go_simp
                    try with_reducible rfl
                  try simp only [Act.put, List.setIfInBounds_toArray, List.set_cons_zero, List.set_cons_succ]
                  as_aux_lemma =>
                    refine wpAnyH_take (i := 25) (v := ?v_y25) (hi := (by simp only [List.getElem?_toArray, List.getElem?_cons_succ, List.getElem?_cons_zero]; rfl)) (by kernel_rfl) (by kernel_rfl) (by kernel_rfl) (by exact fun _ _ _ h => h) (Or.inl ⟨by rfl, ?hy_y25⟩) (by assumption) ?rest_y25
                    case hy_y25 =>
                      intro W hSW
                      try dsimp only at hSW
                      go_simp
                      try with_reducible rfl
                    try simp only [Act.put, List.setIfInBounds_toArray, List.set_cons_zero, List.set_cons_succ]
                    refine wpAnyH_take (i := 26) (v := ?v_y26) (hi := (by simp only [List.getElem?_toArray, List.getElem?_cons_succ, List.getElem?_cons_zero]; rfl)) (by kernel_rfl) (by kernel_rfl) (by kernel_rfl) (by exact fun _ _ _ h => h) (Or.inl ⟨by rfl, ?hy_y26⟩) (by assumption) ?rest_y26
                    case hy_y26 =>
                      intro W hSW
                      try dsimp only at hSW
                      go_simp
                      try with_reducible rfl
                    try simp only [Act.put, List.setIfInBounds_toArray, List.set_cons_zero, List.set_cons_succ]
                    refine wpAnyH_take (i := 27) (v := ?v_y27) (hi := (by simp only [List.getElem?_toArray, List.getElem?_cons_succ, List.getElem?_cons_zero]; rfl)) (by kernel_rfl) (by kernel_rfl) (by kernel_rfl) (by exact fun _ _ _ h => h) (Or.inl ⟨by rfl, ?hy_y27⟩) (by assumption) ?rest_y27
                    case hy_y27 =>
                      intro W hSW
                      try dsimp only at hSW
                      go_simp
                      try with_reducible rfl
                    try simp only [Act.put, List.setIfInBounds_toArray, List.set_cons_zero, List.set_cons_succ]
                    refine wpAnyH_take (i := 28) (v := ?v_y28) (hi := (by simp only [List.getElem?_toArray, List.getElem?_cons_succ, List.getElem?_cons_zero]; rfl)) (by kernel_rfl) (by kernel_rfl) (by kernel_rfl) (by exact fun _ _ _ h => h) (Or.inl ⟨by rfl, ?hy_y28⟩) (by assumption) ?rest_y28
                    case hy_y28 =>
                      intro W hSW
                      try dsimp only at hSW
                      go_simp
                      try with_reducible rfl
                    try simp only [Act.put, List.setIfInBounds_toArray, List.set_cons_zero, List.set_cons_succ]
                    refine wpAnyH_take (i := 29) (v := ?v_y29) (hi := (by simp only [List.getElem?_toArray, List.getElem?_cons_succ, List.getElem?_cons_zero]; rfl)) (by kernel_rfl) (by kernel_rfl) (by kernel_rfl) (by exact fun _ _ _ h => h) (Or.inl ⟨by rfl, ?hy_y29⟩) (by assumption) ?rest_y29
                    case hy_y29 =>
                      have hq_ : ((hc.ms.length : Int) == (hc.n : Int)) = true := by rw [beq_iff_eq]; have := nm.out; have := mm.out; omega
                      intro W hSW
                      try dsimp only at hSW
                      go_simp
                      try with_reducible rfl
                    try simp only [Act.put, List.setIfInBounds_toArray, List.set_cons_zero, List.set_cons_succ]
                    refine wpAnyH_take (i := 30) (v := ?v_y30) (hi := (by simp only [List.getElem?_toArray, List.getElem?_cons_succ, List.getElem?_cons_zero]; rfl)) (by kernel_rfl) (by kernel_rfl) (by kernel_rfl) (by exact fun _ _ _ h => h) (Or.inl ⟨by rfl, ?hy_y30⟩) (by assumption) ?rest_y30
                    case hy_y30 =>
                      intro W hSW
                      try dsimp only at hSW
                      go_simp
                      try with_reducible rfl
                    try simp only [Act.put, List.setIfInBounds_toArray, List.set_cons_zero, List.set_cons_succ]
                    refine wpAnyH_take (i := 31) (v := ?v_y31) (hi := (by simp only [List.getElem?_toArray, List.getElem?_cons_succ, List.getElem?_cons_zero]; rfl)) (by kernel_rfl) (by kernel_rfl) (by kernel_rfl) (by exact fun _ _ _ h => h) (Or.inl ⟨by rfl, ?hy_y31⟩) (by assumption) ?rest_y31
                    case hy_y31 =>
                      intro W hSW
                      try dsimp only at hSW
                      go_simp
                      try with_reducible rfl
                    try simp only [Act.put, List.setIfInBounds_toArray, List.set_cons_zero, List.set_cons_succ]
                    refine wpAnyH_take (i := 32) (v := ?v_y32) (hi := (by simp only [List.getElem?_toArray, List.getElem?_cons_succ, List.getElem?_cons_zero]; rfl)) (by kernel_rfl) (by kernel_rfl) (by kernel_rfl) (by exact fun _ _ _ h => h) (Or.inl ⟨by rfl, ?hy_y32⟩) (by assumption) ?rest_y32
                    case hy_y32 =>
                      intro W hSW
                      try dsimp only at hSW
                      go_simp
                      try with_reducible rfl
                    try simp only [Act.put, List.setIfInBounds_toArray, List.set_cons_zero, List.set_cons_succ]
                    refine wpAnyH_take (i := 33) (v := ?v_y33) (hi := (by simp only [List.getElem?_toArray, List.getElem?_cons_succ, List.getElem?_cons_zero]; rfl)) (by kernel_rfl) (by kernel_rfl) (by kernel_rfl) (by exact fun _ _ _ h => h) (Or.inl ⟨by rfl, ?hy_y33⟩) (by assumption) ?rest_y33
                    case hy_y33 =>
                      intro W hSW
                      try dsimp only at hSW
                      go_simp
                      try with_reducible rfl
                    try simp only [Act.put, List.setIfInBounds_toArray, List.set_cons_zero, List.set_cons_succ]
                    refine wpAnyH_take (i := 34) (v := ?v_y34) (hi := (by simp only [List.getElem?_toArray, List.getElem?_cons_succ, List.getElem?_cons_zero]; rfl)) (by kernel_rfl) (by kernel_rfl) (by kernel_rfl) (by exact fun _ _ _ h => h) (Or.inl ⟨by rfl, ?hy_y34⟩) (by assumption) ?rest_y34
                    case hy_y34 =>
                      intro W hSW
                      try dsimp only at hSW
                      go_simp
                      try with_reducible rfl
                    try simp only [Act.put, List.setIfInBounds_toArray, List.set_cons_zero, List.set_cons_succ]
                    refine wpAnyH_take (i := 35) (v := ?v_y35) (hi := (by simp only [List.getElem?_toArray, List.getElem?_cons_succ, List.getElem?_cons_zero]; rfl)) (by kernel_rfl) (by kernel_rfl) (by kernel_rfl) (by exact fun _ _ _ h => h) (Or.inl ⟨by rfl, ?hy_y35⟩) (by assumption) ?rest_y35
                    case hy_y35 =>
                      intro W hSW
                      try dsimp only at hSW
                      go_simp
                      try with_reducible rfl
                    try simp only [Act.put, List.setIfInBounds_toArray, List.set_cons_zero, List.set_cons_succ]
                    refine wpAnyH_take (i := 36) (v := ?v_y36) (hi := (by simp only [List.getElem?_toArray, List.getElem?_cons_succ, List.getElem?_cons_zero]; rfl)) (by kernel_rfl) (by kernel_rfl) (by kernel_rfl) (by exact fun _ _ _ h => h) (Or.inl ⟨by rfl, ?hy_y36⟩) (by assumption) ?rest_y36
                    case hy_y36 =>
                      intro W hSW
                      try dsimp only at hSW
                      go_simp
                      try with_reducible rfl
                    try simp only [Act.put, List.setIfInBounds_toArray, List.set_cons_zero, List.set_cons_succ]
                    as_aux_lemma =>
                      refine wpAnyH_take (i := 37) (v := ?v_y37) (hi := (by simp only [List.getElem?_toArray, List.getElem?_cons_succ, List.getElem?_cons_zero]; rfl)) (by kernel_rfl) (by kernel_rfl) (by kernel_rfl) (by exact fun _ _ _ h => h) (Or.inl ⟨by rfl, ?hy_y37⟩) (by assumption) ?rest_y37
                      case hy_y37 =>
                        have e1_ : (hx.n : Int) < (hc.ms.length : Int) := by have := mm.out; omega
                        have e2_ : (0 : Int) ≤ (hx.n : Int) := by omega
                        intro W hSW
                        try dsimp only at hSW
                        go_simp
                        try with_reducible rfl
                      try simp only [Act.put, List.setIfInBounds_toArray, List.set_cons_zero, List.set_cons_succ]
                      refine wpAnyH_take (i := 38) (v := ?v_y38) (hi := (by simp only [List.getElem?_toArray, List.getElem?_cons_succ, List.getElem?_cons_zero]; rfl)) (by kernel_rfl) (by kernel_rfl) (by kernel_rfl) (by exact fun _ _ _ h => h) (Or.inl ⟨by rfl, ?hy_y38⟩) (by assumption) ?rest_y38
                      case hy_y38 =>
                        intro W hSW
                        try dsimp only at hSW
                        go_simp
                        try with_reducible rfl
                      try simp only [Act.put, List.setIfInBounds_toArray, List.set_cons_zero, List.set_cons_succ]
                      refine wpAnyH_take (i := 39) (v := ?v_y39) (hi := (by simp only [List.getElem?_toArray, List.getElem?_cons_succ, List.getElem?_cons_zero]; rfl)) (by kernel_rfl) (by kernel_rfl) (by kernel_rfl) (by exact fun _ _ _ h => h) (Or.inl ⟨by rfl, ?hy_y39⟩) (by assumption) ?rest_y39
                      case hy_y39 =>
                        intro W hSW
                        try dsimp only at hSW
                        go_simp
                        try with_reducible rfl
                      try simp only [Act.put, List.setIfInBounds_toArray, List.set_cons_zero, List.set_cons_succ]
                      refine wpAnyH_take (i := 40) (v := ?v_y40) (hi := (by simp only [List.getElem?_toArray, List.getElem?_cons_succ, List.getElem?_cons_zero]; rfl)) (by kernel_rfl) (by kernel_rfl) (by kernel_rfl) (by exact fun _ _ _ h => h) (Or.inl ⟨by rfl, ?hy_y40⟩) (by assumption) ?rest_y40
                      case hy_y40 =>
                        intro W hSW
                        try dsimp only at hSW
                        go_simp
                        try with_reducible rfl
                      try simp only [Act.put, List.setIfInBounds_toArray, List.set_cons_zero, List.set_cons_succ]
                      refine wpAnyH_take (i := 41) (v := ?v_y41) (hi := (by simp only [List.getElem?_toArray, List.getElem?_cons_succ, List.getElem?_cons_zero]; rfl)) (by kernel_rfl) (by kernel_rfl) (by kernel_rfl) (by exact fun _ _ _ h => h) (Or.inl ⟨by rfl, ?hy_y41⟩) (by assumption) ?rest_y41
                      case hy_y41 =>
                        intro W hSW
                        try dsimp only at hSW
                        go_simp
                        try with_reducible rfl
                      try simp only [Act.put, List.setIfInBounds_toArray, List.set_cons_zero, List.set_cons_succ]
                      refine wpAnyH_take (i := 42) (v := ?v_y42) (hi := (by simp only [List.getElem?_toArray, List.getElem?_cons_succ, List.getElem?_cons_zero]; rfl)) (by kernel_rfl) (by kernel_rfl) (by kernel_rfl) (by exact fun _ _ _ h => h) (Or.inl ⟨by rfl, ?hy_y42⟩) (by assumption) ?rest_y42
                      case hy_y42 =>
                        intro W hSW
                        try dsimp only at hSW
                        go_simp
                        try with_reducible rfl
                      try simp only [Act.put, List.setIfInBounds_toArray, List.set_cons_zero, List.set_cons_succ]
                      refine wpAnyH_take (i := 43) (v := ?v_y43) (hi := (by simp only [List.getElem?_toArray, List.getElem?_cons_succ, List.getElem?_cons_zero]; rfl)) (by kernel_rfl) (by kernel_rfl) (by kernel_rfl) (by exact fun _ _ _ h => h) (Or.inl ⟨by rfl, ?hy_y43⟩) (by assumption) ?rest_y43
                      case hy_y43 =>
                        intro W hSW
                        try dsimp only at hSW
                        go_simp
                        try with_reducible rfl
                      try simp only [Act.put, List.setIfInBounds_toArray, List.set_cons_zero, List.set_cons_succ]
                      refine wpAnyH_take (i := 44) (v := ?v_y44) (hi := (by simp only [List.getElem?_toArray, List.getElem?_cons_succ, List.getElem?_cons_zero]; rfl)) (by kernel_rfl) (by kernel_rfl) (by kernel_rfl) (by exact fun _ _ _ h => h) (Or.inl ⟨by rfl, ?hy_y44⟩) (by assumption) ?rest_y44
                      case hy_y44 =>
                        intro W hSW
                        try dsimp only at hSW
                        go_simp
                        try with_reducible rfl
                      try simp only [Act.put, List.setIfInBounds_toArray, List.set_cons_zero, List.set_cons_succ]
                      refine wpAnyH_take (i := 45) (v := ?v_y45) (hi := (by simp only [List.getElem?_toArray, List.getElem?_cons_succ, List.getElem?_cons_zero]; rfl)) (by kernel_rfl) (by kernel_rfl) (by kernel_rfl) (by exact fun _ _ _ h => h) (Or.inl ⟨by rfl, ?hy_y45⟩) (by assumption) ?rest_y45
                      case hy_y45 =>
                        intro W hSW
                        try dsimp only at hSW
                        go_simp
                        try with_reducible rfl
                      try simp only [Act.put, List.setIfInBounds_toArray, List.set_cons_zero, List.set_cons_succ]
                      refine wpAnyH_take (i := 46) (v := ?v_y46) (hi := (by simp only [List.getElem?_toArray, List.getElem?_cons_succ, List.getElem?_cons_zero]; rfl)) (by kernel_rfl) (by kernel_rfl) (by kernel_rfl) (by exact fun _ _ _ h => h) (Or.inl ⟨by rfl, ?hy_y46⟩) (by assumption) ?rest_y46
                      case hy_y46 =>
                        intro W hSW
                        try dsimp only at hSW
                        go_simp
                        try with_reducible rfl
                      try simp only [Act.put, List.setIfInBounds_toArray, List.set_cons_zero, List.set_cons_succ]
                      refine wpAnyH_take (i := 47) (v := ?v_y47) (hi := (by simp only [List.getElem?_toArray, List.getElem?_cons_succ, List.getElem?_cons_zero]; rfl)) (by kernel_rfl) (by kernel_rfl) (by kernel_rfl) (by exact fun _ _ _ h => h) (Or.inl ⟨by rfl, ?hy_y47⟩) (by assumption) ?rest_y47
                      case hy_y47 =>
                        intro W hSW
                        try dsimp only at hSW
                        go_simp
                        try with_reducible rfl
                      try simp only [Act.put, List.setIfInBounds_toArray, List.set_cons_zero, List.set_cons_succ]
                      refine wpAnyH_take (i := 48) (v := ?v_y48) (hi := (by simp only [List.getElem?_toArray, List.getElem?_cons_succ, List.getElem?_cons_zero]; rfl)) (by kernel_rfl) (by kernel_rfl) (by kernel_rfl) (by exact fun _ _ _ h => h) (Or.inl ⟨by rfl, ?hy_y48⟩) (by assumption) ?rest_y48
                      case hy_y48 =>
                        intro W hSW
                        try dsimp only at hSW
                        go_simp
                        try with_reducible rfl
                      try simp only [Act.put, List.setIfInBounds_toArray, List.set_cons_zero, List.set_cons_succ]
                      as_aux_lemma =>
                        refine wpAnyH_take (i := 49) (v := ?v_y49) (hi := (by simp only [List.getElem?_toArray, List.getElem?_cons_succ, List.getElem?_cons_zero]; rfl)) (by kernel_rfl) (by kernel_rfl) (by kernel_rfl) (by exact fun _ _ _ h => h) (Or.inl ⟨by rfl, ?hy_y49⟩) (by assumption) ?rest_y49
                        case hy_y49 =>
                          intro W hSW
                          try dsimp only at hSW
                          go_simp
                          try with_reducible rfl
                        try simp only [Act.put, List.setIfInBounds_toArray, List.set_cons_zero, List.set_cons_succ]
                        refine wpAnyH_take (i := 50) (v := ?v_y50) (hi := (by simp only [List.getElem?_toArray, List.getElem?_cons_succ, List.getElem?_cons_zero]; rfl)) (by kernel_rfl) (by kernel_rfl) (by kernel_rfl) (by exact fun _ _ _ h => h) (Or.inl ⟨by rfl, ?hy_y50⟩) (by assumption) ?rest_y50
                        case hy_y50 =>
                          intro W hSW
                          try dsimp only at hSW
                          go_simp
                          try with_reducible rfl
                        try simp only [Act.put, List.setIfInBounds_toArray, List.set_cons_zero, List.set_cons_succ]
                        refine wpAnyH_take (i := 51) (v := ?v_y51) (hi := (by simp only [List.getElem?_toArray, List.getElem?_cons_succ, List.getElem?_cons_zero]; rfl)) (by kernel_rfl) (by kernel_rfl) (by kernel_rfl) (by exact fun _ _ _ h => h) (Or.inl ⟨by rfl, ?hy_y51⟩) (by assumption) ?rest_y51
                        case hy_y51 =>
                          intro W hSW
                          try dsimp only at hSW
                          go_simp
                          try with_reducible rfl
                        try simp only [Act.put, List.setIfInBounds_toArray, List.set_cons_zero, List.set_cons_succ]
                        refine wpAnyH_take (i := 52) (v := ?v_y52) (hi := (by simp only [List.getElem?_toArray, List.getElem?_cons_succ, List.getElem?_cons_zero]; rfl)) (by kernel_rfl) (by kernel_rfl) (by kernel_rfl) (by exact fun _ _ _ h => h) (Or.inl ⟨by rfl, ?hy_y52⟩) (by assumption) ?rest_y52
                        case hy_y52 =>
                          intro W hSW
                          try dsimp only at hSW
                          go_simp
                          try with_reducible rfl
                        try simp only [Act.put, List.setIfInBounds_toArray, List.set_cons_zero, List.set_cons_succ]
                        refine wpAnyH_take (i := 53) (v := ?v_y53) (hi := (by simp only [List.getElem?_toArray, List.getElem?_cons_succ, List.getElem?_cons_zero]; rfl)) (by kernel_rfl) (by kernel_rfl) (by kernel_rfl) (by exact fun _ _ _ h => h) (Or.inl ⟨by rfl, ?hy_y53⟩) (by assumption) ?rest_y53
                        case hy_y53 =>
                          have hw_ : IntKind.i64.wrap (hx.day + 1) = hx.day + 1 := by rw [IntKind.wrap_i64]; omega
                          intro W hSW
                          try dsimp only at hSW
                          go_simp
                          try with_reducible rfl
                        try simp only [Act.put, List.setIfInBounds_toArray, List.set_cons_zero, List.set_cons_succ]
                        refine wpAnyH_take (i := 54) (v := ?v_y54) (hi := (by simp only [List.getElem?_toArray, List.getElem?_cons_succ, List.getElem?_cons_zero]; rfl)) (by kernel_rfl) (by kernel_rfl) (by kernel_rfl) (by exact fun _ _ _ h => h) (Or.inl ⟨by rfl, ?hy_y54⟩) (by assumption) ?rest_y54
                        case hy_y54 =>
                          intro W hSW
                          try dsimp only at hSW
                          go_simp
                          try with_reducible rfl
                        try simp only [Act.put, List.setIfInBounds_toArray, List.set_cons_zero, List.set_cons_succ]
                        refine wpAnyH_ready (rs := [55]) (by kernel_rfl) (by simp) ?_
                        refine AllReadyH.cons (ho := (by simp only [List.getElem?_toArray, List.getElem?_cons_succ, List.getElem?_cons_zero]; rfl)) (fun K_ hK_ => ?_) AllReadyH.nil
                        go_simp
                        refine (at_val v bs 2 _ (BY8.out _ hD9) (by omega)).mono ?_
                        rw [HA2.out]
                        rintro e w' ⟨rfl, rfl⟩
                        refine hK_.out _ _ ?_ (fun hHeld_ => ?_)
                        · try dsimp only
                          exact MK.out _ hD9
                        clear hK_
                        try simp only [Act.put, List.setIfInBounds_toArray, List.set_cons_zero, List.set_cons_succ]
                        refine wpAnyH_take (i := 56) (v := ?v_y56) (hi := (by simp only [List.getElem?_toArray, List.getElem?_cons_succ, List.getElem?_cons_zero]; rfl)) (by kernel_rfl) (by kernel_rfl) (by kernel_rfl) (by exact fun _ _ _ h => h) (Or.inl ⟨by rfl, ?hy_y56⟩) (by assumption) ?rest_y56
                        case hy_y56 =>
                          intro W hSW
                          try dsimp only at hSW
                          go_simp
                          try with_reducible rfl
                        try simp only [Act.put, List.setIfInBounds_toArray, List.set_cons_zero, List.set_cons_succ]
                        refine wpAnyH_take (i := 57) (v := ?v_y57) (hi := (by simp only [List.getElem?_toArray, List.getElem?_cons_succ, List.getElem?_cons_zero]; rfl)) (by kernel_rfl) (by kernel_rfl) (by kernel_rfl) (by exact fun _ _ _ h => h) (Or.inl ⟨by rfl, ?hy_y57⟩) (by assumption) ?rest_y57
                        case hy_y57 =>
                          have hw_ : IntKind.i64.wrap (hx.day + 1 + t9) = hx.day + 1 + t9 := by rw [IntKind.wrap_i64]; omega
                          intro W hSW
                          try dsimp only at hSW
                          go_simp
                          try with_reducible rfl
                        try simp only [Act.put, List.setIfInBounds_toArray, List.set_cons_zero, List.set_cons_succ]
                        refine wpAnyH_take (i := 58) (v := ?v_y58) (hi := (by simp only [List.getElem?_toArray, List.getElem?_cons_succ, List.getElem?_cons_zero]; rfl)) (by kernel_rfl) (by kernel_rfl) (by kernel_rfl) (by exact fun _ _ _ h => h) (Or.inl ⟨by rfl, ?hy_y58⟩) (by assumption) ?rest_y58
                        case hy_y58 =>
                          have hq_ : (hl.day == hx.day + 1 + t9) = true := by rw [beq_iff_eq]; have := hld.out; omega
                          intro W hSW
                          try dsimp only at hSW
                          go_simp
                          try with_reducible rfl
                        try simp only [Act.put, List.setIfInBounds_toArray, List.set_cons_zero, List.set_cons_succ]
                        refine wpAnyH_take (i := 59) (v := ?v_y59) (hi := (by simp only [List.getElem?_toArray, List.getElem?_cons_succ, List.getElem?_cons_zero]; rfl)) (by kernel_rfl) (by kernel_rfl) (by kernel_rfl) (by exact fun _ _ _ h => h) (Or.inl ⟨by rfl, ?hy_y59⟩) (by assumption) ?rest_y59
                        case hy_y59 =>
                          intro W hSW
                          try dsimp only at hSW
                          go_simp
                          try with_reducible rfl
                        try simp only [Act.put, List.setIfInBounds_toArray, List.set_cons_zero, List.set_cons_succ]
                        refine wpAnyH_take (i := 60) (v := ?v_y60) (hi := (by simp only [List.getElem?_toArray, List.getElem?_cons_succ, List.getElem?_cons_zero]; rfl)) (by kernel_rfl) (by kernel_rfl) (by kernel_rfl) (by exact fun _ _ _ h => h) (Or.inl ⟨by rfl, ?hy_y60⟩) (by assumption) ?rest_y60
                        case hy_y60 =>
                          intro W hSW
                          try dsimp only at hSW
                          go_simp
                          try with_reducible rfl
                        try simp only [Act.put, List.setIfInBounds_toArray, List.set_cons_zero, List.set_cons_succ]
                        as_aux_lemma =>
                          refine wpAnyH_take (i := 61) (v := ?v_y61) (hi := (by simp only [List.getElem?_toArray, List.getElem?_cons_succ, List.getElem?_cons_zero]; rfl)) (by kernel_rfl) (by kernel_rfl) (by kernel_rfl) (by exact fun _ _ _ h => h) (Or.inl ⟨by rfl, ?hy_y61⟩) (by assumption) ?rest_y61
                          case hy_y61 =>
                            intro W hSW
                            try dsimp only at hSW
                            go_simp
                            try with_reducible rfl
                          try simp only [Act.put, List.setIfInBounds_toArray, List.set_cons_zero, List.set_cons_succ]
                          refine wpAnyH_take (i := 62) (v := ?v_y62) (hi := (by simp only [List.getElem?_toArray, List.getElem?_cons_succ, List.getElem?_cons_zero]; rfl)) (by kernel_rfl) (by kernel_rfl) (by kernel_rfl) (by exact fun _ _ _ h => h) (Or.inl ⟨by rfl, ?hy_y62⟩) (by assumption) ?rest_y62
                          case hy_y62 =>
                            intro W hSW
                            try dsimp only at hSW
                            go_simp
                            try with_reducible rfl
                          try simp only [Act.put, List.setIfInBounds_toArray, List.set_cons_zero, List.set_cons_succ]
                          refine wpAnyH_take (i := 63) (v := ?v_y63) (hi := (by simp only [List.getElem?_toArray, List.getElem?_cons_succ, List.getElem?_cons_zero]; rfl)) (by kernel_rfl) (by kernel_rfl) (by kernel_rfl) (by exact fun _ _ _ h => h) (Or.inl ⟨by rfl, ?hy_y63⟩) (by assumption) ?rest_y63
                          case hy_y63 =>
                            intro W hSW
                            try dsimp only at hSW
                            go_simp
                            try with_reducible rfl
                          try simp only [Act.put, List.setIfInBounds_toArray, List.set_cons_zero, List.set_cons_succ]
                          refine wpAnyH_take (i := 64) (v := ?v_y64) (hi := (by simp only [List.getElem?_toArray, List.getElem?_cons_succ, List.getElem?_cons_zero]; rfl)) (by kernel_rfl) (by kernel_rfl) (by kernel_rfl) (by exact fun _ _ _ h => h) (Or.inl ⟨by rfl, ?hy_y64⟩) (by assumption) ?rest_y64
                          case hy_y64 =>
                            intro W hSW
                            try dsimp only at hSW
                            go_simp
                            try with_reducible rfl
                          try simp only [Act.put, List.setIfInBounds_toArray, List.set_cons_zero, List.set_cons_succ]
                          refine wpAnyH_ready (rs := [65]) (by kernel_rfl) (by simp) ?_
                          refine AllReadyH.cons (ho := (by simp only [List.getElem?_toArray, List.getElem?_cons_succ, List.getElem?_cons_zero]; rfl)) (fun K_ hK_ => ?_) AllReadyH.nil
                          go_simp
                          refine (implHouseOk _ _ _ _ hf _ (HN8.out _ hD9)).mono ?_
                          rw [NT.out.2.1]
                          rintro e w10_ ⟨rfl, hb10_⟩
                          have hD10 : Below u8.heap.size u8 w10_ := bnext hD9 hb10_
                          refine hK_.out _ _ ?_ (fun hHeld_ => ?_)
                          · try dsimp only
                            exact MK.out _ hD10
                          clear hK_
                          try simp only [Act.put, List.setIfInBounds_toArray, List.set_cons_zero, List.set_cons_succ]
                          refine wpAnyH_take (i := 66) (v := ?v_y66) (hi := (by simp only [List.getElem?_toArray, List.getElem?_cons_succ, List.getElem?_cons_zero]; rfl)) (by kernel_rfl) (by kernel_rfl) (by kernel_rfl) (by exact fun _ _ _ h => h) (Or.inl ⟨by rfl, ?hy_y66⟩) (by assumption) ?rest_y66
                          case hy_y66 =>
                            intro W hSW
                            try dsimp only at hSW
                            go_simp
                            try with_reducible rfl
                          try simp only [Act.put, List.setIfInBounds_toArray, List.set_cons_zero, List.set_cons_succ]
                          refine wpAnyH_take (i := 67) (v := ?v_y67) (hi := (by simp only [List.getElem?_toArray, List.getElem?_cons_succ, List.getElem?_cons_zero]; rfl)) (by kernel_rfl) (by kernel_rfl) (by kernel_rfl) (by exact fun _ _ _ h => h) (Or.inl ⟨by rfl, ?hy_y67⟩) (by assumption) ?rest_y67
                          case hy_y67 =>
                            intro W hSW
                            try dsimp only at hSW
                            go_simp
                            try with_reducible rfl
                          try simp only [Act.put, List.setIfInBounds_toArray, List.set_cons_zero, List.set_cons_succ]
                          refine wpAnyH_take (i := 68) (v := ?v_y68) (hi := (by simp only [List.getElem?_toArray, List.getElem?_cons_succ, List.getElem?_cons_zero]; rfl)) (by kernel_rfl) (by kernel_rfl) (by kernel_rfl) (by exact fun _ _ _ h => h) (Or.inl ⟨by rfl, ?hy_y68⟩) (by assumption) ?rest_y68
                          case hy_y68 =>
                            intro W hSW
                            try dsimp only at hSW
                            go_simp
                            try with_reducible rfl
                          try simp only [Act.put, List.setIfInBounds_toArray, List.set_cons_zero, List.set_cons_succ]
                          refine wpAnyH_ready (rs := [69]) (by kernel_rfl) (by simp) ?_
                          refine AllReadyH.cons (ho := (by simp only [List.getElem?_toArray, List.getElem?_cons_succ, List.getElem?_cons_zero]; rfl)) (fun K_ hK_ => ?_) AllReadyH.nil
                          go_simp
                          refine (implSafeCopies _ _ _ _ hf _ (HN8.out _ hD10)).mono ?_
                          rintro e w11_ ⟨vs, rfl, hos, -, hb11_⟩
                          obtain ⟨as_, cs_, rfl⟩ := own_form hos
                          clear hos
                          have hD11 : Below u8.heap.size u8 w11_ := bnext hD10 hb11_
                          refine hK_.out _ _ ?_ (fun hHeld_ => ?_)
                          · try dsimp only
                            exact MK.out _ hD11
                          clear hK_
                          try simp only [Act.put, List.setIfInBounds_toArray, List.set_cons_zero, List.set_cons_succ]
                          refine wpAnyH_take (i := 70) (v := ?v_y70) (hi := (by simp only [List.getElem?_toArray, List.getElem?_cons_succ, List.getElem?_cons_zero]; rfl)) (by kernel_rfl) (by kernel_rfl) (by kernel_rfl) (by exact fun _ _ _ h => h) (Or.inl ⟨by rfl, ?hy_y70⟩) (by assumption) ?rest_y70
                          case hy_y70 =>
                            intro W hSW
                            try dsimp only at hSW
                            go_simp
                            try with_reducible rfl
                          try simp only [Act.put, List.setIfInBounds_toArray, List.set_cons_zero, List.set_cons_succ]
                          refine wpAnyH_take (i := 71) (v := ?v_y71) (hi := (by simp only [List.getElem?_toArray, List.getElem?_cons_succ, List.getElem?_cons_zero]; rfl)) (by kernel_rfl) (by kernel_rfl) (by kernel_rfl) (by exact fun _ _ _ h => h) (Or.inl ⟨by rfl, ?hy_y71⟩) (by assumption) ?rest_y71
                          case hy_y71 =>
                            have hq_ : (((safeL hf).length : Int) == 1) = true := by rw [HNT.out]; rfl
                            intro W hSW
                            try dsimp only at hSW
                            go_simp
                            try with_reducible rfl
                          try simp only [Act.put, List.setIfInBounds_toArray, List.set_cons_zero, List.set_cons_succ]
                          refine wpAnyH_take (i := 72) (v := ?v_y72) (hi := (by simp only [List.getElem?_toArray, List.getElem?_cons_succ, List.getElem?_cons_zero]; rfl)) (by kernel_rfl) (by kernel_rfl) (by kernel_rfl) (by exact fun _ _ _ h => h) (Or.inl ⟨by rfl, ?hy_y72⟩) (by assumption) ?rest_y72
                          case hy_y72 =>
                            intro W hSW
                            try dsimp only at hSW
                            go_simp
                            try with_reducible rfl
                          try simp only [Act.put, List.setIfInBounds_toArray, List.set_cons_zero, List.set_cons_succ]
                          as_aux_lemma =>
                            refine wpAnyH_take (i := 73) (v := ?v_y73) (hi := (by simp only [List.getElem?_toArray, List.getElem?_cons_succ, List.getElem?_cons_zero]; rfl)) (by kernel_rfl) (by kernel_rfl) (by kernel_rfl) (by exact fun _ _ _ h => h) (Or.inl ⟨by rfl, ?hy_y73⟩) (by assumption) ?rest_y73
                            case hy_y73 =>
                              intro W hSW
                              try dsimp only at hSW
                              go_simp
                              try with_reducible rfl
                            try simp only [Act.put, List.setIfInBounds_toArray, List.set_cons_zero, List.set_cons_succ]
                            refine wpAnyH_done (by kernel_rfl) ?_ _
                            go_wp2_with fail
                            go_ret
                            exact ⟨rfl, bnext DX.out hD11⟩
        · have i12 : ¬ (hx.n : Int) < 12 := by omega
          have MY := Lib.hid (LL.out.mk_no h12)
          as_aux_lemma =>
            go_wp2_with fail
            refine (implMakeCopy _ _ _ _ hx b 3 1 2 _ (X3.out.house.read hB) X3.out.house.nils hB).mono ?_
            rw [MY.out]
            rintro e w5 ⟨ac5, cc5, am5, cm5, ao5, co5, at5, ct5, rfl, hO5, hb5⟩
            dsimp only at hO5
            have XC := Lib.hid (BoxH.first hO5 (Nat.le_refl _))
            have X3 := Lib.hid (X3.out.below (bnext hb5 (balloc (bref w5) (.cells #[.slice ac5 (hx).n cc5, .slice am5 (hx).ms.length cm5, .slice ao5 (hx).os.length co5, .slice at5 (hx).ts.length ct5, .int .i64 (hx).sent, .int .i64 (hx).day] 27))))
            have BY := Lib.hid (BY.out.below (bnext hb5 (balloc (bref w5) (.cells #[.slice ac5 (hx).n cc5, .slice am5 (hx).ms.length cm5, .slice ao5 (hx).os.length co5, .slice at5 (hx).ts.length ct5, .int .i64 (hx).sent, .int .i64 (hx).day] 27))))
            have DX := Lib.hid (bnext DX.out (bnext hb5 (balloc (bref w5) (.cells #[.slice ac5 (hx).n cc5, .slice am5 (hx).ms.length cm5, .slice ao5 (hx).os.length co5, .slice at5 (hx).ts.length ct5, .int .i64 (hx).sent, .int .i64 (hx).day] 27))))
            clear hO5 hb5
            go_upto_region 17 with fail
            generalize w5.alloc (.cells #[.slice ac5 (hx).n cc5, .slice am5 (hx).ms.length cm5, .slice ao5 (hx).os.length co5, .slice at5 (hx).ts.length ct5, .int .i64 (hx).sent, .int .i64 (hx).day] 27) = u5 at *
            clear g0 g1 g2 g3 g4 g5
            have y17 := X3.out.six.lt
            have MK : Hid (∀ w' : World, Below u5.heap.size u5 w' → w'.cell? ⟨w1.heap.size, 0, none⟩ = some (.slice ac0 hx.n cc0) ∧ w'.cell? ⟨w1.heap.size, 1, none⟩ = some (.slice am0 hx.ms.length cm0) ∧ w'.cell? ⟨w1.heap.size, 2, none⟩ = some (.slice ao0 hx.os.length co0) ∧ w'.cell? ⟨w1.heap.size, 3, none⟩ = some (.slice at0 hx.ts.length ct0) ∧ w'.cell? ⟨w1.heap.size, 4, none⟩ = some (.int .i64 hx.sent) ∧ w'.cell? ⟨w1.heap.size, 5, none⟩ = some (.int .i64 hx.day) ∧ Below u5.heap.size u5 w') := fun w' hb => ⟨(hb.cell (p := ⟨w1.heap.size, 0, none⟩) y17).trans X3.out.six.c0, (hb.cell (p := ⟨w1.heap.size, 1, none⟩) y17).trans X3.out.six.c1, (hb.cell (p := ⟨w1.heap.size, 2, none⟩) y17).trans X3.out.six.c2, (hb.cell (p := ⟨w1.heap.size, 3, none⟩) y17).trans X3.out.six.c3, (hb.cell (p := ⟨w1.heap.size, 4, none⟩) y17).trans X3.out.six.c4, (hb.cell (p := ⟨w1.heap.size, 5, none⟩) y17).trans X3.out.six.c5, hb⟩
            have RH := Lib.hid (fun (W : World) (q : Below u5.heap.size u5 W) => ((X3.out.house.read hB).below q))
            have BYH := Lib.hid (fun (W : World) (q : Below u5.heap.size u5 W) => BY.out.below q)
            have SZ := Lib.hid (show Six u5.heap.size ((u5.alloc (.cells #[.slice none 0 0, .slice none 0 0, .slice none 0 0, .slice none 0 0, .int .i64 0, .int .i64 0] 27)).drew) (.slice none 0 0) (.slice none 0 0) (.slice none 0 0) (.slice none 0 0) (.int .i64 0) (.int .i64 0) from ⟨by go_simp, by go_simp, by go_simp, by go_simp, by go_simp, by go_simp, by go_simp, by go_simp, by go_simp, by go_simp, by go_simp, by go_simp⟩)
            have hDr : Below u5.heap.size u5 u5.drew := bdrew (bref _)
            have hDa : Below u5.heap.size u5 (u5.alloc (.cells #[.slice none 0 0, .slice none 0 0, .slice none 0 0, .slice none 0 0, .int .i64 0, .int .i64 0] 27)).drew := bdrew (balloc (bref _) _)
            have LP := Lib.hid (LL.out.pass (show (1 : Int) ≤ 1 + t9 by omega) (show 1 + t9 ≤ 9 by omega))
            have hld := Lib.hid (show (hx.later (1 + t9)).day = hx.day + (1 + t9) from rfl)
            generalize hx.later (1 + t9) = hl at *
            have hnx := X3.out.house.nils
            go_cut [16, 17] (fun p q wx => ∃ (P : Nat) (ac6 am6 ao6 at6 : Option Addr) (cc6 cm6 co6 ct6 : Nat), p = .pointer (some ⟨P, 0, none⟩) ∧ q = .bool true ∧ Hid (BoxH P u5.heap.size wx (.slice ac6 (hl).n cc6) (.slice am6 (hl).ms.length cm6) (.slice ao6 (hl).os.length co6) (.slice at6 (hl).ts.length ct6) hl) ∧ Hid (Below u5.heap.size u5 wx))
            case first => as_aux_lemma =>
              go_region_held3 (fun w' => w'.cell? ⟨w1.heap.size, 0, none⟩ = some (.slice ac0 hx.n cc0) ∧ w'.cell? ⟨w1.heap.size, 1, none⟩ = some (.slice am0 hx.ms.length cm0) ∧ w'.cell? ⟨w1.heap.size, 2, none⟩ = some (.slice ao0 hx.os.length co0) ∧ w'.cell? ⟨w1.heap.size, 3, none⟩ = some (.slice at0 hx.ts.length ct0) ∧ w'.cell? ⟨w1.heap.size, 4, none⟩ = some (.int .i64 hx.sent) ∧ w'.cell? ⟨w1.heap.size, 5, none⟩ = some (.int .i64 hx.day) ∧ Below u5.heap.size u5 w')
                (first | with_reducible exact MK.out _ hDr | with_reducible exact MK.out _ hDa | with_reducible exact MK.out _ hq6 | with_reducible exact MK.out _ qA | with_reducible exact MK.out _ qV | with_reducible exact MK.out _ qP | (go_split_ands; with_reducible exact MK.out _ (by assumption)) | fail "keep")
                (first | (go_at_call 8; go_split_ands; refine (at_val v bs 2 _ (BYH.out _ (by assumption)) (by omega)).mono ?_; rw [HA2.out]; rintro e w' ⟨rfl, rfl⟩)
                       | (go_at_call 17; go_split_ands; refine (implPassDays _ _ _ _ hx (1 + t9) _ (RH.out _ (by assumption)) hnx hB).mono ?_; rw [LP.out]; rintro e w6 ⟨ac6, cc6, am6, cm6, ao6, co6, at6, ct6, rfl, hO6, hb6⟩; dsimp only at hO6; have hq6 : Below u5.heap.size u5 w6 := (by first | exact bnext hDr hb6 | exact bnext hDa hb6); have qA : Below u5.heap.size u5 (w6.alloc (.cells #[.slice none 0 0, .slice none 0 0, .slice none 0 0, .slice none 0 0, .int .i64 0, .int .i64 0] 27)) := balloc hq6 _; have qV : Below u5.heap.size u5 (w6.alloc (.cells #[.slice ac6 (hl).n cc6, .slice am6 (hl).ms.length cm6, .slice ao6 (hl).os.length co6, .slice at6 (hl).ts.length ct6, .int .i64 (hl).sent, .int .i64 (hl).day] 27)) := balloc hq6 _; have qP : Below u5.heap.size u5 (put6 w6 u5.heap.size (.slice ac6 (hl).n cc6) (.slice am6 (hl).ms.length cm6) (.slice ao6 (hl).os.length co6) (.slice at6 (hl).ts.length ct6) (.int .i64 hl.sent) (.int .i64 hl.day)) := Only.below hq6 (only_put6 w6 u5.heap.size _ _ _ _ _ _) (Nat.le_refl _); (try (have SX := SZ.out.below hb6; have SXH := Lib.hid SX; obtain ⟨e0, e1, e2, e3, e4, e5, ef0, ef1, ef2, ef3, ef4, ef5⟩ := SX))))
              all_goals
                go_wp2_with fail
                go_meet
                first
                | (have yq : u5.heap.size < ((u5.alloc (.cells #[.slice none 0 0, .slice none 0 0, .slice none 0 0, .slice none 0 0, .int .i64 0, .int .i64 0] 27)).drew).heap.size := by simp
                   have oB := only_put6 w6 u5.heap.size (.slice ac6 (hl).n cc6) (.slice am6 (hl).ms.length cm6) (.slice ao6 (hl).os.length co6) (.slice at6 (hl).ts.length ct6) (.int .i64 hl.sent) (.int .i64 hl.day)
                   exact ⟨u5.heap.size, ac6, am6, ao6, at6, cc6, cm6, co6, ct6, rfl, rfl, Lib.hid ⟨SXH.out.put, (hO6.only oB (off_r (by simp))).wide (by simp) oB.size, row_far hO6.c yq, row_far hO6.m yq, row_far hO6.o yq, row_far hO6.t yq⟩, Lib.hid qP⟩)
                | exact ⟨w6.heap.size, ac6, am6, ao6, at6, cc6, cm6, co6, ct6, rfl, rfl, Lib.hid (BoxH.first (hO6.wide (by simp) (Nat.le_refl _)) (Nat.le_refl _)), Lib.hid qV⟩
            case rest => as_aux_lemma =>
              obtain ⟨P, ac6, am6, ao6, at6, cc6, cm6, co6, ct6, rfl, rfl, XP, HBx⟩ := hcut
              have X3 := Lib.hid (X3.out.below HBx.out)
              have XC := Lib.hid (XC.out.below HBx.out)
              have BY := Lib.hid (BY.out.below HBx.out)
              have DX := Lib.hid (bnext DX.out HBx.out)
              clear HBx MK RH BYH SZ hDr hDa LP hnx
              go_wp2_with fail
              refine (implNewHouse 1000 2 _).mono ?_
              have NT := Lib.hid new_two
              rw [NT.out.1]
              generalize firstHouse 1000 2 = hf at *
              rintro e w7 ⟨ac7, cc7, am7, cm7, ao7, co7, at7, ct7, rfl, hO7, hb7⟩
              dsimp only at hO7
              have XN := Lib.hid (BoxH.first hO7 (Nat.le_refl _))
              have X3 := Lib.hid (X3.out.below (bnext hb7 (balloc (bref w7) (.cells #[.slice ac7 (hf).n cc7, .slice am7 (hf).ms.length cm7, .slice ao7 (hf).os.length co7, .slice at7 (hf).ts.length ct7, .int .i64 (hf).sent, .int .i64 (hf).day] 27))))
              have BY := Lib.hid (BY.out.below (bnext hb7 (balloc (bref w7) (.cells #[.slice ac7 (hf).n cc7, .slice am7 (hf).ms.length cm7, .slice ao7 (hf).os.length co7, .slice at7 (hf).ts.length ct7, .int .i64 (hf).sent, .int .i64 (hf).day] 27))))
              have XC := Lib.hid (XC.out.below (bnext hb7 (balloc (bref w7) (.cells #[.slice ac7 (hf).n cc7, .slice am7 (hf).ms.length cm7, .slice ao7 (hf).os.length co7, .slice at7 (hf).ts.length ct7, .int .i64 (hf).sent, .int .i64 (hf).day] 27))))
              have XP := Lib.hid (XP.out.below (bnext hb7 (balloc (bref w7) (.cells #[.slice ac7 (hf).n cc7, .slice am7 (hf).ms.length cm7, .slice ao7 (hf).os.length co7, .slice at7 (hf).ts.length ct7, .int .i64 (hf).sent, .int .i64 (hf).day] 27))))
              have DX := Lib.hid (bnext DX.out (bnext hb7 (balloc (bref w7) (.cells #[.slice ac7 (hf).n cc7, .slice am7 (hf).ms.length cm7, .slice ao7 (hf).os.length co7, .slice at7 (hf).ts.length ct7, .int .i64 (hf).sent, .int .i64 (hf).day] 27))))
              clear hO7 hb7
              have hBf : HouseB hf 1048576 := by have c := houseOk_b NT.out.2.1; exact ⟨by have := c.n; omega, by have := c.ms; omega, by have := c.os; omega, by have := c.ts; omega⟩
              go_upto_region 19 with fail
              generalize w7.alloc (.cells #[.slice ac7 (hf).n cc7, .slice am7 (hf).ms.length cm7, .slice ao7 (hf).os.length co7, .slice at7 (hf).ts.length ct7, .int .i64 (hf).sent, .int .i64 (hf).day] 27) = u8 at *
              have yx3 := X3.out.six.lt
              have yxp := XP.out.six.lt
              have yxn := XN.out.six.lt
              have RN8 := Lib.hid (XN.out.house.read hBf)
              have HN8 := Lib.hid (fun (W : World) (q : Below u8.heap.size u8 W) => RN8.out.below q)
              have BY8 := Lib.hid (fun (W : World) (q : Below u8.heap.size u8 W) => BY.out.below q)
              have MK : Hid (∀ w' : World, Below u8.heap.size u8 w' → w'.cell? ⟨w1.heap.size, 0, none⟩ = some (.slice ac0 hx.n cc0) ∧ w'.cell? ⟨w1.heap.size, 5, none⟩ = some (.int .i64 hx.day) ∧ w'.cell? ⟨P, 5, none⟩ = some (.int .i64 hl.day) ∧ w'.cell? ⟨w7.heap.size, 0, none⟩ = some (.slice ac7 (hf).n cc7) ∧ w'.cell? ⟨w7.heap.size, 1, none⟩ = some (.slice am7 (hf).ms.length cm7) ∧ w'.cell? ⟨w7.heap.size, 2, none⟩ = some (.slice ao7 (hf).os.length co7) ∧ w'.cell? ⟨w7.heap.size, 3, none⟩ = some (.slice at7 (hf).ts.length ct7) ∧ w'.cell? ⟨w7.heap.size, 4, none⟩ = some (.int .i64 hf.sent) ∧ w'.cell? ⟨w7.heap.size, 5, none⟩ = some (.int .i64 hf.day) ∧ Below u8.heap.size u8 w') := fun w' hb => ⟨(hb.cell (p := ⟨w1.heap.size, 0, none⟩) yx3).trans X3.out.six.c0, (hb.cell (p := ⟨w1.heap.size, 5, none⟩) yx3).trans X3.out.six.c5, (hb.cell (p := ⟨P, 5, none⟩) yxp).trans XP.out.six.c5, (hb.cell (p := ⟨w7.heap.size, 0, none⟩) yxn).trans XN.out.six.c0, (hb.cell (p := ⟨w7.heap.size, 1, none⟩) yxn).trans XN.out.six.c1, (hb.cell (p := ⟨w7.heap.size, 2, none⟩) yxn).trans XN.out.six.c2, (hb.cell (p := ⟨w7.heap.size, 3, none⟩) yxn).trans XN.out.six.c3, (hb.cell (p := ⟨w7.heap.size, 4, none⟩) yxn).trans XN.out.six.c4, (hb.cell (p := ⟨w7.heap.size, 5, none⟩) yxn).trans XN.out.six.c5, hb⟩
              have HNT := Lib.hid NT.out.2.2
              have hDr : Below u8.heap.size u8 u8.drew := bdrew (bref _)
              refine wp_region_held_drew (S := fun w' => w'.cell? ⟨w1.heap.size, 0, none⟩ = some (.slice ac0 hx.n cc0) ∧ w'.cell? ⟨w1.heap.size, 5, none⟩ = some (.int .i64 hx.day) ∧ w'.cell? ⟨P, 5, none⟩ = some (.int .i64 hl.day) ∧ w'.cell? ⟨w7.heap.size, 0, none⟩ = some (.slice ac7 (hf).n cc7) ∧ w'.cell? ⟨w7.heap.size, 1, none⟩ = some (.slice am7 (hf).ms.length cm7) ∧ w'.cell? ⟨w7.heap.size, 2, none⟩ = some (.slice ao7 (hf).os.length co7) ∧ w'.cell? ⟨w7.heap.size, 3, none⟩ = some (.slice at7 (hf).ts.length ct7) ∧ w'.cell? ⟨w7.heap.size, 4, none⟩ = some (.int .i64 hf.sent) ∧ w'.cell? ⟨w7.heap.size, 5, none⟩ = some (.int .i64 hf.day) ∧ Below u8.heap.size u8 w') (by kernel_rfl) ?_ (fun hHeld_ => ?_)
              · exact MK.out _ hDr
              as_aux_lemma =>
                refine wpAnyH_take (i := 0) (v := ?v_n0) (hi := (by simp only [List.getElem?_toArray, List.getElem?_cons_zero]; rfl)) (by kernel_rfl) (by kernel_rfl) (by kernel_rfl) (by exact fun _ _ _ h => h) (Or.inl ⟨by rfl, ?hy_n0⟩) (by assumption) ?rest_n0
                case hy_n0 =>
                  intro W hSW
                  try dsimp only at hSW
                  go_simp
                  try with_reducible rfl
                try simp only [Act.put, List.setIfInBounds_toArray, List.set_cons_zero, List.set_cons_succ]
                refine wpAnyH_take (i := 1) (v := ?v_n1) (hi := (by simp only [List.getElem?_toArray, List.getElem?_cons_succ, List.getElem?_cons_zero]; rfl)) (by kernel_rfl) (by kernel_rfl) (by kernel_rfl) (by exact fun _ _ _ h => h) (Or.inl ⟨by rfl, ?hy_n1⟩) (by assumption) ?rest_n1
                case hy_n1 =>
                  intro W hSW
                  try dsimp only at hSW
                  go_simp
                  try with_reducible rfl
                try simp only [Act.put, List.setIfInBounds_toArray, List.set_cons_zero, List.set_cons_succ]
                refine wpAnyH_take (i := 2) (v := ?v_n2) (hi := (by simp only [List.getElem?_toArray, List.getElem?_cons_succ, List.getElem?_cons_zero]; rfl)) (by kernel_rfl) (by kernel_rfl) (by kernel_rfl) (by exact fun _ _ _ h => h) (Or.inl ⟨by rfl, ?hy_n2⟩) (by assumption) ?rest_n2
                case hy_n2 =>
                  intro W hSW
                  try dsimp only at hSW
                  go_simp
                  try with_reducible rfl
                try simp only [Act.put, List.setIfInBounds_toArray, List.set_cons_zero, List.set_cons_succ]
                refine wpAnyH_take (i := 3) (v := ?v_n3) (hi := (by simp only [List.getElem?_toArray, List.getElem?_cons_succ, List.getElem?_cons_zero]; rfl)) (by kernel_rfl) (by kernel_rfl) (by kernel_rfl) (by exact fun _ _ _ h => h) (Or.inl ⟨by rfl, ?hy_n3⟩) (by assumption) ?rest_n3
                case hy_n3 =>
                  intro W hSW
                  try dsimp only at hSW
                  go_simp
                  try with_reducible rfl
                try simp only [Act.put, List.setIfInBounds_toArray, List.set_cons_zero, List.set_cons_succ]
                refine wpAnyH_take (i := 4) (v := ?v_n4) (hi := (by simp only [List.getElem?_toArray, List.getElem?_cons_succ, List.getElem?_cons_zero]; rfl)) (by kernel_rfl) (by kernel_rfl) (by kernel_rfl) (by exact fun _ _ _ h => h) (Or.inl ⟨by rfl, ?hy_n4⟩) (by assumption) ?rest_n4
                case hy_n4 =>
                  have d_ : decide ((hx.n : Int) < 12) = false := decide_eq_false (by omega)
                  intro W hSW
                  try dsimp only at hSW
                  go_simp
                  try with_reducible rfl
                try simp only [Act.put, List.setIfInBounds_toArray, List.set_cons_zero, List.set_cons_succ]
                refine wpAnyH_take (i := 5) (v := ?v_n5) (hi := (by simp only [List.getElem?_toArray, List.getElem?_cons_succ, List.getElem?_cons_zero]; rfl)) (by kernel_rfl) (by kernel_rfl) (by kernel_rfl) (by exact fun _ _ _ h => h) (Or.inl ⟨by rfl, ?hy_n5⟩) (by assumption) ?rest_n5
                case hy_n5 =>
                  intro W hSW
                  try dsimp only at hSW
                  go_simp
                  try with_reducible rfl
                try simp only [Act.put, List.setIfInBounds_toArray, List.set_cons_zero, List.set_cons_succ]
                refine wpAnyH_take (i := 6) (v := ?v_n6) (hi := (by simp only [List.getElem?_toArray, List.getElem?_cons_succ, List.getElem?_cons_zero]; rfl)) (by kernel_rfl) (by kernel_rfl) (by kernel_rfl) (by exact fun _ _ _ h => h) (Or.inl ⟨by rfl, ?hy_n6⟩) (by assumption) ?rest_n6
                case hy_n6 =>
                  intro W hSW
                  try dsimp only at hSW
                  go_simp
                  try with_reducible rfl
                try simp only [Act.put, List.setIfInBounds_toArray, List.set_cons_zero, List.set_cons_succ]
                refine wpAnyH_take (i := 7) (v := ?v_n7) (hi := (by simp only [List.getElem?_toArray, List.getElem?_cons_succ, List.getElem?_cons_zero]; rfl)) (by kernel_rfl) (by kernel_rfl) (by kernel_rfl) (by exact fun _ _ _ h => h) (Or.inl ⟨by rfl, ?hy_n7⟩) (by assumption) ?rest_n7
                case hy_n7 =>
                  intro W hSW
                  try dsimp only at hSW
                  go_simp
                  try with_reducible rfl
                try simp only [Act.put, List.setIfInBounds_toArray, List.set_cons_zero, List.set_cons_succ]
                refine wpAnyH_take (i := 8) (v := ?v_n8) (hi := (by simp only [List.getElem?_toArray, List.getElem?_cons_succ, List.getElem?_cons_zero]; rfl)) (by kernel_rfl) (by kernel_rfl) (by kernel_rfl) (by exact fun _ _ _ h => h) (Or.inl ⟨by rfl, ?hy_n8⟩) (by assumption) ?rest_n8
                case hy_n8 =>
                  intro W hSW
                  try dsimp only at hSW
                  go_simp
                  try with_reducible rfl
                try simp only [Act.put, List.setIfInBounds_toArray, List.set_cons_zero, List.set_cons_succ]
                refine wpAnyH_take (i := 9) (v := ?v_n9) (hi := (by simp only [List.getElem?_toArray, List.getElem?_cons_succ, List.getElem?_cons_zero]; rfl)) (by kernel_rfl) (by kernel_rfl) (by kernel_rfl) (by exact fun _ _ _ h => h) (Or.inl ⟨by rfl, ?hy_n9⟩) (by assumption) ?rest_n9
                case hy_n9 =>
                  intro W hSW
                  try dsimp only at hSW
                  go_simp
                  try with_reducible rfl
                try simp only [Act.put, List.setIfInBounds_toArray, List.set_cons_zero, List.set_cons_succ]
                refine wpAnyH_take (i := 10) (v := undef) (hi := (by simp only [List.getElem?_toArray, List.getElem?_cons_succ, List.getElem?_cons_zero]; rfl)) (by kernel_rfl) (by kernel_rfl) (by kernel_rfl) (by exact fun _ _ _ h => h) (Or.inr ⟨by rfl, rfl⟩) (by assumption) ?_
                try simp only [Act.put, List.setIfInBounds_toArray, List.set_cons_zero, List.set_cons_succ]
                refine wpAnyH_take (i := 11) (v := undef) (hi := (by simp only [List.getElem?_toArray, List.getElem?_cons_succ, List.getElem?_cons_zero]; rfl)) (by kernel_rfl) (by kernel_rfl) (by kernel_rfl) (by exact fun _ _ _ h => h) (Or.inr ⟨by rfl, rfl⟩) (by assumption) ?_
                try simp only [Act.put, List.setIfInBounds_toArray, List.set_cons_zero, List.set_cons_succ]
                as_aux_lemma =>
                  refine wpAnyH_take (i := 12) (v := undef) (hi := (by simp only [List.getElem?_toArray, List.getElem?_cons_succ, List.getElem?_cons_zero]; rfl)) (by kernel_rfl) (by kernel_rfl) (by kernel_rfl) (by exact fun _ _ _ h => h) (Or.inr ⟨by rfl, rfl⟩) (by assumption) ?_
                  try simp only [Act.put, List.setIfInBounds_toArray, List.set_cons_zero, List.set_cons_succ]
                  refine wpAnyH_take (i := 13) (v := undef) (hi := (by simp only [List.getElem?_toArray, List.getElem?_cons_succ, List.getElem?_cons_zero]; rfl)) (by kernel_rfl) (by kernel_rfl) (by kernel_rfl) (by exact fun _ _ _ h => h) (Or.inr ⟨by rfl, rfl⟩) (by assumption) ?_
                  try simp only [Act.put, List.setIfInBounds_toArray, List.set_cons_zero, List.set_cons_succ]
                  refine wpAnyH_take (i := 14) (v := undef) (hi := (by simp only [List.getElem?_toArray, List.getElem?_cons_succ, List.getElem?_cons_zero]; rfl)) (by kernel_rfl) (by kernel_rfl) (by kernel_rfl) (by exact fun _ _ _ h => h) (Or.inr ⟨by rfl, rfl⟩) (by assumption) ?_
                  try simp only [Act.put, List.setIfInBounds_toArray, List.set_cons_zero, List.set_cons_succ]
                  refine wpAnyH_take (i := 15) (v := undef) (hi := (by simp only [List.getElem?_toArray, List.getElem?_cons_succ, List.getElem?_cons_zero]; rfl)) (by kernel_rfl) (by kernel_rfl) (by kernel_rfl) (by exact fun _ _ _ h => h) (Or.inr ⟨by rfl, rfl⟩) (by assumption) ?_
                  try simp only [Act.put, List.setIfInBounds_toArray, List.set_cons_zero, List.set_cons_succ]
                  refine wpAnyH_take (i := 16) (v := undef) (hi := (by simp only [List.getElem?_toArray, List.getElem?_cons_succ, List.getElem?_cons_zero]; rfl)) (by kernel_rfl) (by kernel_rfl) (by kernel_rfl) (by exact fun _ _ _ h => h) (Or.inr ⟨by rfl, rfl⟩) (by assumption) ?_
                  try simp only [Act.put, List.setIfInBounds_toArray, List.set_cons_zero, List.set_cons_succ]
                  refine wpAnyH_take (i := 17) (v := undef) (hi := (by simp only [List.getElem?_toArray, List.getElem?_cons_succ, List.getElem?_cons_zero]; rfl)) (by kernel_rfl) (by kernel_rfl) (by kernel_rfl) (by exact fun _ _ _ h => h) (Or.inr ⟨by rfl, rfl⟩) (by assumption) ?_
                  try simp only [Act.put, List.setIfInBounds_toArray, List.set_cons_zero, List.set_cons_succ]
                  refine wpAnyH_take (i := 18) (v := undef) (hi := (by simp only [List.getElem?_toArray, List.getElem?_cons_succ, List.getElem?_cons_zero]; rfl)) (by kernel_rfl) (by kernel_rfl) (by kernel_rfl) (by exact fun _ _ _ h => h) (Or.inr ⟨by rfl, rfl⟩) (by assumption) ?_
                  try simp only [Act.put, List.setIfInBounds_toArray, List.set_cons_zero, List.set_cons_succ]
                  refine wpAnyH_take (i := 19) (v := undef) (hi := (by simp only [List.getElem?_toArray, List.getElem?_cons_succ, List.getElem?_cons_zero]; rfl)) (by kernel_rfl) (by kernel_rfl) (by kernel_rfl) (by exact fun _ _ _ h => h) (Or.inr ⟨by rfl, rfl⟩) (by assumption) ?_
                  try simp only [Act.put, List.setIfInBounds_toArray, List.set_cons_zero, List.set_cons_succ]
                  refine wpAnyH_take (i := 20) (v := undef) (hi := (by simp only [List.getElem?_toArray, List.getElem?_cons_succ, List.getElem?_cons_zero]; rfl)) (by kernel_rfl) (by kernel_rfl) (by kernel_rfl) (by exact fun _ _ _ h => h) (Or.inr ⟨by rfl, rfl⟩) (by assumption) ?_
                  try simp only [Act.put, List.setIfInBounds_toArray, List.set_cons_zero, List.set_cons_succ]
                  refine wpAnyH_take (i := 21) (v := undef) (hi := (by simp only [List.getElem?_toArray, List.getElem?_cons_succ, List.getElem?_cons_zero]; rfl)) (by kernel_rfl) (by kernel_rfl) (by kernel_rfl) (by exact fun _ _ _ h => h) (Or.inr ⟨by rfl, rfl⟩) (by assumption) ?_
                  try simp only [Act.put, List.setIfInBounds_toArray, List.set_cons_zero, List.set_cons_succ]
                  refine wpAnyH_take (i := 22) (v := undef) (hi := (by simp only [List.getElem?_toArray, List.getElem?_cons_succ, List.getElem?_cons_zero]; rfl)) (by kernel_rfl) (by kernel_rfl) (by kernel_rfl) (by exact fun _ _ _ h => h) (Or.inr ⟨by rfl, rfl⟩) (by assumption) ?_
                  try simp only [Act.put, List.setIfInBounds_toArray, List.set_cons_zero, List.set_cons_succ]
                  refine wpAnyH_take (i := 23) (v := undef) (hi := (by simp only [List.getElem?_toArray, List.getElem?_cons_succ, List.getElem?_cons_zero]; rfl)) (by kernel_rfl) (by kernel_rfl) (by kernel_rfl) (by exact fun _ _ _ h => h) (Or.inr ⟨by rfl, rfl⟩) (by assumption) ?_
                  try simp only [Act.put, List.setIfInBounds_toArray, List.set_cons_zero, List.set_cons_succ]
                  as_aux_lemma =>
                    refine wpAnyH_take (i := 24) (v := undef) (hi := (by simp only [List.getElem?_toArray, List.getElem?_cons_succ, List.getElem?_cons_zero]; rfl)) (by kernel_rfl) (by kernel_rfl) (by kernel_rfl) (by exact fun _ _ _ h => h) (Or.inr ⟨by rfl, rfl⟩) (by assumption) ?_
                    try simp only [Act.put, List.setIfInBounds_toArray, List.set_cons_zero, List.set_cons_succ]
                    refine wpAnyH_take (i := 25) (v := undef) (hi := (by simp only [List.getElem?_toArray, List.getElem?_cons_succ, List.getElem?_cons_zero]; rfl)) (by kernel_rfl) (by kernel_rfl) (by kernel_rfl) (by exact fun _ _ _ h => h) (Or.inr ⟨by rfl, rfl⟩) (by assumption) ?_
                    try simp only [Act.put, List.setIfInBounds_toArray, List.set_cons_zero, List.set_cons_succ]
                    refine wpAnyH_take (i := 26) (v := undef) (hi := (by simp only [List.getElem?_toArray, List.getElem?_cons_succ, List.getElem?_cons_zero]; rfl)) (by kernel_rfl) (by kernel_rfl) (by kernel_rfl) (by exact fun _ _ _ h => h) (Or.inr ⟨by rfl, rfl⟩) (by assumption) ?_
                    try simp only [Act.put, List.setIfInBounds_toArray, List.set_cons_zero, List.set_cons_succ]
                    refine wpAnyH_take (i := 27) (v := undef) (hi := (by simp only [List.getElem?_toArray, List.getElem?_cons_succ, List.getElem?_cons_zero]; rfl)) (by kernel_rfl) (by kernel_rfl) (by kernel_rfl) (by exact fun _ _ _ h => h) (Or.inr ⟨by rfl, rfl⟩) (by assumption) ?_
                    try simp only [Act.put, List.setIfInBounds_toArray, List.set_cons_zero, List.set_cons_succ]
                    refine wpAnyH_take (i := 28) (v := undef) (hi := (by simp only [List.getElem?_toArray, List.getElem?_cons_succ, List.getElem?_cons_zero]; rfl)) (by kernel_rfl) (by kernel_rfl) (by kernel_rfl) (by exact fun _ _ _ h => h) (Or.inr ⟨by rfl, rfl⟩) (by assumption) ?_
                    try simp only [Act.put, List.setIfInBounds_toArray, List.set_cons_zero, List.set_cons_succ]
                    refine wpAnyH_take (i := 29) (v := undef) (hi := (by simp only [List.getElem?_toArray, List.getElem?_cons_succ, List.getElem?_cons_zero]; rfl)) (by kernel_rfl) (by kernel_rfl) (by kernel_rfl) (by exact fun _ _ _ h => h) (Or.inr ⟨by rfl, rfl⟩) (by assumption) ?_
                    try simp only [Act.put, List.setIfInBounds_toArray, List.set_cons_zero, List.set_cons_succ]
                    refine wpAnyH_take (i := 30) (v := undef) (hi := (by simp only [List.getElem?_toArray, List.getElem?_cons_succ, List.getElem?_cons_zero]; rfl)) (by kernel_rfl) (by kernel_rfl) (by kernel_rfl) (by exact fun _ _ _ h => h) (Or.inr ⟨by rfl, rfl⟩) (by assumption) ?_
                    try simp only [Act.put, List.setIfInBounds_toArray, List.set_cons_zero, List.set_cons_succ]
                    refine wpAnyH_take (i := 31) (v := undef) (hi := (by simp only [List.getElem?_toArray, List.getElem?_cons_succ, List.getElem?_cons_zero]; rfl)) (by kernel_rfl) (by kernel_rfl) (by kernel_rfl) (by exact fun _ _ _ h => h) (Or.inr ⟨by rfl, rfl⟩) (by assumption) ?_
                    try simp only [Act.put, List.setIfInBounds_toArray, List.set_cons_zero, List.set_cons_succ]
                    refine wpAnyH_take (i := 32) (v := undef) (hi := (by simp only [List.getElem?_toArray, List.getElem?_cons_succ, List.getElem?_cons_zero]; rfl)) (by kernel_rfl) (by kernel_rfl) (by kernel_rfl) (by exact fun _ _ _ h => h) (Or.inr ⟨by rfl, rfl⟩) (by assumption) ?_
                    try simp only [Act.put, List.setIfInBounds_toArray, List.set_cons_zero, List.set_cons_succ]
                    refine wpAnyH_take (i := 33) (v := undef) (hi := (by simp only [List.getElem?_toArray, List.getElem?_cons_succ, List.getElem?_cons_zero]; rfl)) (by kernel_rfl) (by kernel_rfl) (by kernel_rfl) (by exact fun _ _ _ h => h) (Or.inr ⟨by rfl, rfl⟩) (by assumption) ?_
                    try simp only [Act.put, List.setIfInBounds_toArray, List.set_cons_zero, List.set_cons_succ]
                    refine wpAnyH_take (i := 34) (v := undef) (hi := (by simp only [List.getElem?_toArray, List.getElem?_cons_succ, List.getElem?_cons_zero]; rfl)) (by kernel_rfl) (by kernel_rfl) (by kernel_rfl) (by exact fun _ _ _ h => h) (Or.inr ⟨by rfl, rfl⟩) (by assumption) ?_
                    try simp only [Act.put, List.setIfInBounds_toArray, List.set_cons_zero, List.set_cons_succ]
                    refine wpAnyH_take (i := 35) (v := undef) (hi := (by simp only [List.getElem?_toArray, List.getElem?_cons_succ, List.getElem?_cons_zero]; rfl)) (by kernel_rfl) (by kernel_rfl) (by kernel_rfl) (by exact fun _ _ _ h => h) (Or.inr ⟨by rfl, rfl⟩) (by assumption) ?_
                    try simp only [Act.put, List.setIfInBounds_toArray, List.set_cons_zero, List.set_cons_succ]
                    as_aux_lemma =>
                      refine wpAnyH_take (i := 36) (v := undef) (hi := (by simp only [List.getElem?_toArray, List.getElem?_cons_succ, List.getElem?_cons_zero]; rfl)) (by kernel_rfl) (by kernel_rfl) (by kernel_rfl) (by exact fun _ _ _ h => h) (Or.inr ⟨by rfl, rfl⟩) (by assumption) ?_
                      try simp only [Act.put, List.setIfInBounds_toArray, List.set_cons_zero, List.set_cons_succ]
                      refine wpAnyH_take (i := 37) (v := undef) (hi := (by simp only [List.getElem?_toArray, List.getElem?_cons_succ, List.getElem?_cons_zero]; rfl)) (by kernel_rfl) (by kernel_rfl) (by kernel_rfl) (by exact fun _ _ _ h => h) (Or.inr ⟨by rfl, rfl⟩) (by assumption) ?_
                      try simp only [Act.put, List.setIfInBounds_toArray, List.set_cons_zero, List.set_cons_succ]
                      refine wpAnyH_take (i := 38) (v := undef) (hi := (by simp only [List.getElem?_toArray, List.getElem?_cons_succ, List.getElem?_cons_zero]; rfl)) (by kernel_rfl) (by kernel_rfl) (by kernel_rfl) (by exact fun _ _ _ h => h) (Or.inr ⟨by rfl, rfl⟩) (by assumption) ?_
                      try simp only [Act.put, List.setIfInBounds_toArray, List.set_cons_zero, List.set_cons_succ]
                      refine wpAnyH_take (i := 39) (v := undef) (hi := (by simp only [List.getElem?_toArray, List.getElem?_cons_succ, List.getElem?_cons_zero]; rfl)) (by kernel_rfl) (by kernel_rfl) (by kernel_rfl) (by exact fun _ _ _ h => h) (Or.inr ⟨by rfl, rfl⟩) (by assumption) ?_
                      try simp only [Act.put, List.setIfInBounds_toArray, List.set_cons_zero, List.set_cons_succ]
                      refine wpAnyH_take (i := 40) (v := undef) (hi := (by simp only [List.getElem?_toArray, List.getElem?_cons_succ, List.getElem?_cons_zero]; rfl)) (by kernel_rfl) (by kernel_rfl) (by kernel_rfl) (by exact fun _ _ _ h => h) (Or.inr ⟨by rfl, rfl⟩) (by assumption) ?_
                      try simp only [Act.put, List.setIfInBounds_toArray, List.set_cons_zero, List.set_cons_succ]
                      refine wpAnyH_take (i := 41) (v := undef) (hi := (by simp only [List.getElem?_toArray, List.getElem?_cons_succ, List.getElem?_cons_zero]; rfl)) (by kernel_rfl) (by kernel_rfl) (by kernel_rfl) (by exact fun _ _ _ h => h) (Or.inr ⟨by rfl, rfl⟩) (by assumption) ?_
                      try simp only [Act.put, List.setIfInBounds_toArray, List.set_cons_zero, List.set_cons_succ]
                      refine wpAnyH_take (i := 42) (v := undef) (hi := (by simp only [List.getElem?_toArray, List.getElem?_cons_succ, List.getElem?_cons_zero]; rfl)) (by kernel_rfl) (by kernel_rfl) (by kernel_rfl) (by exact fun _ _ _ h => h) (Or.inr ⟨by rfl, rfl⟩) (by assumption) ?_
                      try simp only [Act.put, List.setIfInBounds_toArray, List.set_cons_zero, List.set_cons_succ]
                      refine wpAnyH_take (i := 43) (v := ?v_n43) (hi := (by simp only [List.getElem?_toArray, List.getElem?_cons_succ, List.getElem?_cons_zero]; rfl)) (by kernel_rfl) (by kernel_rfl) (by kernel_rfl) (by exact fun _ _ _ h => h) (Or.inl ⟨by rfl, ?hy_n43⟩) (by assumption) ?rest_n43
                      case hy_n43 =>
                        intro W hSW
                        try dsimp only at hSW
                        go_simp
                        try with_reducible rfl
                      try simp only [Act.put, List.setIfInBounds_toArray, List.set_cons_zero, List.set_cons_succ]
                      refine wpAnyH_take (i := 44) (v := ?v_n44) (hi := (by simp only [List.getElem?_toArray, List.getElem?_cons_succ, List.getElem?_cons_zero]; rfl)) (by kernel_rfl) (by kernel_rfl) (by kernel_rfl) (by exact fun _ _ _ h => h) (Or.inl ⟨by rfl, ?hy_n44⟩) (by assumption) ?rest_n44
                      case hy_n44 =>
                        intro W hSW
                        try dsimp only at hSW
                        go_simp
                        try with_reducible rfl
                      try simp only [Act.put, List.setIfInBounds_toArray, List.set_cons_zero, List.set_cons_succ]
                      refine wpAnyH_take (i := 45) (v := ?v_n45) (hi := (by simp only [List.getElem?_toArray, List.getElem?_cons_succ, List.getElem?_cons_zero]; rfl)) (by kernel_rfl) (by kernel_rfl) (by kernel_rfl) (by exact fun _ _ _ h => h) (Or.inl ⟨by rfl, ?hy_n45⟩) (by assumption) ?rest_n45
                      case hy_n45 =>
                        intro W hSW
                        try dsimp only at hSW
                        go_simp
                        try with_reducible rfl
                      try simp only [Act.put, List.setIfInBounds_toArray, List.set_cons_zero, List.set_cons_succ]
                      refine wpAnyH_take (i := 46) (v := ?v_n46) (hi := (by simp only [List.getElem?_toArray, List.getElem?_cons_succ, List.getElem?_cons_zero]; rfl)) (by kernel_rfl) (by kernel_rfl) (by kernel_rfl) (by exact fun _ _ _ h => h) (Or.inl ⟨by rfl, ?hy_n46⟩) (by assumption) ?rest_n46
                      case hy_n46 =>
                        intro W hSW
                        try dsimp only at hSW
                        go_simp
                        try with_reducible rfl
                      try simp only [Act.put, List.setIfInBounds_toArray, List.set_cons_zero, List.set_cons_succ]
                      refine wpAnyH_take (i := 47) (v := ?v_n47) (hi := (by simp only [List.getElem?_toArray, List.getElem?_cons_succ, List.getElem?_cons_zero]; rfl)) (by kernel_rfl) (by kernel_rfl) (by kernel_rfl) (by exact fun _ _ _ h => h) (Or.inl ⟨by rfl, ?hy_n47⟩) (by assumption) ?rest_n47
                      case hy_n47 =>
                        intro W hSW
                        try dsimp only at hSW
                        go_simp
                        try with_reducible rfl
                      try simp only [Act.put, List.setIfInBounds_toArray, List.set_cons_zero, List.set_cons_succ]
                      as_aux_lemma =>
                        refine wpAnyH_take (i := 48) (v := ?v_n48) (hi := (by simp only [List.getElem?_toArray, List.getElem?_cons_succ, List.getElem?_cons_zero]; rfl)) (by kernel_rfl) (by kernel_rfl) (by kernel_rfl) (by exact fun _ _ _ h => h) (Or.inl ⟨by rfl, ?hy_n48⟩) (by assumption) ?rest_n48
                        case hy_n48 =>
                          intro W hSW
                          try dsimp only at hSW
                          go_simp
                          try with_reducible rfl
                        try simp only [Act.put, List.setIfInBounds_toArray, List.set_cons_zero, List.set_cons_succ]
                        refine wpAnyH_take (i := 49) (v := ?v_n49) (hi := (by simp only [List.getElem?_toArray, List.getElem?_cons_succ, List.getElem?_cons_zero]; rfl)) (by kernel_rfl) (by kernel_rfl) (by kernel_rfl) (by exact fun _ _ _ h => h) (Or.inl ⟨by rfl, ?hy_n49⟩) (by assumption) ?rest_n49
                        case hy_n49 =>
                          intro W hSW
                          try dsimp only at hSW
                          go_simp
                          try with_reducible rfl
                        try simp only [Act.put, List.setIfInBounds_toArray, List.set_cons_zero, List.set_cons_succ]
                        refine wpAnyH_take (i := 50) (v := ?v_n50) (hi := (by simp only [List.getElem?_toArray, List.getElem?_cons_succ, List.getElem?_cons_zero]; rfl)) (by kernel_rfl) (by kernel_rfl) (by kernel_rfl) (by exact fun _ _ _ h => h) (Or.inl ⟨by rfl, ?hy_n50⟩) (by assumption) ?rest_n50
                        case hy_n50 =>
                          intro W hSW
                          try dsimp only at hSW
                          go_simp
                          try with_reducible rfl
                        try simp only [Act.put, List.setIfInBounds_toArray, List.set_cons_zero, List.set_cons_succ]
                        refine wpAnyH_take (i := 51) (v := ?v_n51) (hi := (by simp only [List.getElem?_toArray, List.getElem?_cons_succ, List.getElem?_cons_zero]; rfl)) (by kernel_rfl) (by kernel_rfl) (by kernel_rfl) (by exact fun _ _ _ h => h) (Or.inl ⟨by rfl, ?hy_n51⟩) (by assumption) ?rest_n51
                        case hy_n51 =>
                          intro W hSW
                          try dsimp only at hSW
                          go_simp
                          try with_reducible rfl
                        try simp only [Act.put, List.setIfInBounds_toArray, List.set_cons_zero, List.set_cons_succ]
                        refine wpAnyH_take (i := 52) (v := ?v_n52) (hi := (by simp only [List.getElem?_toArray, List.getElem?_cons_succ, List.getElem?_cons_zero]; rfl)) (by kernel_rfl) (by kernel_rfl) (by kernel_rfl) (by exact fun _ _ _ h => h) (Or.inl ⟨by rfl, ?hy_n52⟩) (by assumption) ?rest_n52
                        case hy_n52 =>
                          intro W hSW
                          try dsimp only at hSW
                          go_simp
                          try with_reducible rfl
                        try simp only [Act.put, List.setIfInBounds_toArray, List.set_cons_zero, List.set_cons_succ]
                        refine wpAnyH_take (i := 53) (v := ?v_n53) (hi := (by simp only [List.getElem?_toArray, List.getElem?_cons_succ, List.getElem?_cons_zero]; rfl)) (by kernel_rfl) (by kernel_rfl) (by kernel_rfl) (by exact fun _ _ _ h => h) (Or.inl ⟨by rfl, ?hy_n53⟩) (by assumption) ?rest_n53
                        case hy_n53 =>
                          have hw_ : IntKind.i64.wrap (hx.day + 1) = hx.day + 1 := by rw [IntKind.wrap_i64]; omega
                          intro W hSW
                          try dsimp only at hSW
                          go_simp
                          try with_reducible rfl
                        try simp only [Act.put, List.setIfInBounds_toArray, List.set_cons_zero, List.set_cons_succ]
                        refine wpAnyH_take (i := 54) (v := ?v_n54) (hi := (by simp only [List.getElem?_toArray, List.getElem?_cons_succ, List.getElem?_cons_zero]; rfl)) (by kernel_rfl) (by kernel_rfl) (by kernel_rfl) (by exact fun _ _ _ h => h) (Or.inl ⟨by rfl, ?hy_n54⟩) (by assumption) ?rest_n54
                        case hy_n54 =>
                          intro W hSW
                          try dsimp only at hSW
                          go_simp
                          try with_reducible rfl
                        try simp only [Act.put, List.setIfInBounds_toArray, List.set_cons_zero, List.set_cons_succ]
                        refine wpAnyH_ready (rs := [55]) (by kernel_rfl) (by simp) ?_
                        refine AllReadyH.cons (ho := (by simp only [List.getElem?_toArray, List.getElem?_cons_succ, List.getElem?_cons_zero]; rfl)) (fun K_ hK_ => ?_) AllReadyH.nil
                        go_simp
                        refine (at_val v bs 2 _ (BY8.out _ hDr) (by omega)).mono ?_
                        rw [HA2.out]
                        rintro e w' ⟨rfl, rfl⟩
                        refine hK_.out _ _ ?_ (fun hHeld_ => ?_)
                        · try dsimp only
                          exact MK.out _ hDr
                        clear hK_
                        try simp only [Act.put, List.setIfInBounds_toArray, List.set_cons_zero, List.set_cons_succ]
                        refine wpAnyH_take (i := 56) (v := ?v_n56) (hi := (by simp only [List.getElem?_toArray, List.getElem?_cons_succ, List.getElem?_cons_zero]; rfl)) (by kernel_rfl) (by kernel_rfl) (by kernel_rfl) (by exact fun _ _ _ h => h) (Or.inl ⟨by rfl, ?hy_n56⟩) (by assumption) ?rest_n56
                        case hy_n56 =>
                          intro W hSW
                          try dsimp only at hSW
                          go_simp
                          try with_reducible rfl
                        try simp only [Act.put, List.setIfInBounds_toArray, List.set_cons_zero, List.set_cons_succ]
                        refine wpAnyH_take (i := 57) (v := ?v_n57) (hi := (by simp only [List.getElem?_toArray, List.getElem?_cons_succ, List.getElem?_cons_zero]; rfl)) (by kernel_rfl) (by kernel_rfl) (by kernel_rfl) (by exact fun _ _ _ h => h) (Or.inl ⟨by rfl, ?hy_n57⟩) (by assumption) ?rest_n57
                        case hy_n57 =>
                          have hw_ : IntKind.i64.wrap (hx.day + 1 + t9) = hx.day + 1 + t9 := by rw [IntKind.wrap_i64]; omega
                          intro W hSW
                          try dsimp only at hSW
                          go_simp
                          try with_reducible rfl
                        try simp only [Act.put, List.setIfInBounds_toArray, List.set_cons_zero, List.set_cons_succ]
                        refine wpAnyH_take (i := 58) (v := ?v_n58) (hi := (by simp only [List.getElem?_toArray, List.getElem?_cons_succ, List.getElem?_cons_zero]; rfl)) (by kernel_rfl) (by kernel_rfl) (by kernel_rfl) (by exact fun _ _ _ h => h) (Or.inl ⟨by rfl, ?hy_n58⟩) (by assumption) ?rest_n58
                        case hy_n58 =>
                          have hq_ : (hl.day == hx.day + 1 + t9) = true := by rw [beq_iff_eq]; have := hld.out; omega
                          intro W hSW
                          try dsimp only at hSW
                          go_simp
                          try with_reducible rfl
                        try simp only [Act.put, List.setIfInBounds_toArray, List.set_cons_zero, List.set_cons_succ]
                        refine wpAnyH_take (i := 59) (v := ?v_n59) (hi := (by simp only [List.getElem?_toArray, List.getElem?_cons_succ, List.getElem?_cons_zero]; rfl)) (by kernel_rfl) (by kernel_rfl) (by kernel_rfl) (by exact fun _ _ _ h => h) (Or.inl ⟨by rfl, ?hy_n59⟩) (by assumption) ?rest_n59
                        case hy_n59 =>
                          intro W hSW
                          try dsimp only at hSW
                          go_simp
                          try with_reducible rfl
                        try simp only [Act.put, List.setIfInBounds_toArray, List.set_cons_zero, List.set_cons_succ]
                        as_aux_lemma =>
                          refine wpAnyH_take (i := 60) (v := ?v_n60) (hi := (by simp only [List.getElem?_toArray, List.getElem?_cons_succ, List.getElem?_cons_zero]; rfl)) (by kernel_rfl) (by kernel_rfl) (by kernel_rfl) (by exact fun _ _ _ h => h) (Or.inl ⟨by rfl, ?hy_n60⟩) (by assumption) ?rest_n60
                          case hy_n60 =>
                            intro W hSW
                            try dsimp only at hSW
                            go_simp
                            try with_reducible rfl
                          try simp only [Act.put, List.setIfInBounds_toArray, List.set_cons_zero, List.set_cons_succ]
                          refine wpAnyH_take (i := 61) (v := ?v_n61) (hi := (by simp only [List.getElem?_toArray, List.getElem?_cons_succ, List.getElem?_cons_zero]; rfl)) (by kernel_rfl) (by kernel_rfl) (by kernel_rfl) (by exact fun _ _ _ h => h) (Or.inl ⟨by rfl, ?hy_n61⟩) (by assumption) ?rest_n61
                          case hy_n61 =>
                            intro W hSW
                            try dsimp only at hSW
                            go_simp
                            try with_reducible rfl
                          try simp only [Act.put, List.setIfInBounds_toArray, List.set_cons_zero, List.set_cons_succ]
                          refine wpAnyH_take (i := 62) (v := ?v_n62) (hi := (by simp only [List.getElem?_toArray, List.getElem?_cons_succ, List.getElem?_cons_zero]; rfl)) (by kernel_rfl) (by kernel_rfl) (by kernel_rfl) (by exact fun _ _ _ h => h) (Or.inl ⟨by rfl, ?hy_n62⟩) (by assumption) ?rest_n62
                          case hy_n62 =>
                            intro W hSW
                            try dsimp only at hSW
                            go_simp
                            try with_reducible rfl
                          try simp only [Act.put, List.setIfInBounds_toArray, List.set_cons_zero, List.set_cons_succ]
                          refine wpAnyH_take (i := 63) (v := ?v_n63) (hi := (by simp only [List.getElem?_toArray, List.getElem?_cons_succ, List.getElem?_cons_zero]; rfl)) (by kernel_rfl) (by kernel_rfl) (by kernel_rfl) (by exact fun _ _ _ h => h) (Or.inl ⟨by rfl, ?hy_n63⟩) (by assumption) ?rest_n63
                          case hy_n63 =>
                            intro W hSW
                            try dsimp only at hSW
                            go_simp
                            try with_reducible rfl
                          try simp only [Act.put, List.setIfInBounds_toArray, List.set_cons_zero, List.set_cons_succ]
                          refine wpAnyH_take (i := 64) (v := ?v_n64) (hi := (by simp only [List.getElem?_toArray, List.getElem?_cons_succ, List.getElem?_cons_zero]; rfl)) (by kernel_rfl) (by kernel_rfl) (by kernel_rfl) (by exact fun _ _ _ h => h) (Or.inl ⟨by rfl, ?hy_n64⟩) (by assumption) ?rest_n64
                          case hy_n64 =>
                            intro W hSW
                            try dsimp only at hSW
                            go_simp
                            try with_reducible rfl
                          try simp only [Act.put, List.setIfInBounds_toArray, List.set_cons_zero, List.set_cons_succ]
                          refine wpAnyH_ready (rs := [65]) (by kernel_rfl) (by simp) ?_
                          refine AllReadyH.cons (ho := (by simp only [List.getElem?_toArray, List.getElem?_cons_succ, List.getElem?_cons_zero]; rfl)) (fun K_ hK_ => ?_) AllReadyH.nil
                          go_simp
                          refine (implHouseOk _ _ _ _ hf _ (HN8.out _ hDr)).mono ?_
                          rw [NT.out.2.1]
                          rintro e w10_ ⟨rfl, hb10_⟩
                          have hD10 : Below u8.heap.size u8 w10_ := bnext hDr hb10_
                          refine hK_.out _ _ ?_ (fun hHeld_ => ?_)
                          · try dsimp only
                            exact MK.out _ hD10
                          clear hK_
                          try simp only [Act.put, List.setIfInBounds_toArray, List.set_cons_zero, List.set_cons_succ]
                          refine wpAnyH_take (i := 66) (v := ?v_n66) (hi := (by simp only [List.getElem?_toArray, List.getElem?_cons_succ, List.getElem?_cons_zero]; rfl)) (by kernel_rfl) (by kernel_rfl) (by kernel_rfl) (by exact fun _ _ _ h => h) (Or.inl ⟨by rfl, ?hy_n66⟩) (by assumption) ?rest_n66
                          case hy_n66 =>
                            intro W hSW
                            try dsimp only at hSW
                            go_simp
                            try with_reducible rfl
                          try simp only [Act.put, List.setIfInBounds_toArray, List.set_cons_zero, List.set_cons_succ]
                          refine wpAnyH_take (i := 67) (v := ?v_n67) (hi := (by simp only [List.getElem?_toArray, List.getElem?_cons_succ, List.getElem?_cons_zero]; rfl)) (by kernel_rfl) (by kernel_rfl) (by kernel_rfl) (by exact fun _ _ _ h => h) (Or.inl ⟨by rfl, ?hy_n67⟩) (by assumption) ?rest_n67
                          case hy_n67 =>
                            intro W hSW
                            try dsimp only at hSW
                            go_simp
                            try with_reducible rfl
                          try simp only [Act.put, List.setIfInBounds_toArray, List.set_cons_zero, List.set_cons_succ]
                          refine wpAnyH_take (i := 68) (v := ?v_n68) (hi := (by simp only [List.getElem?_toArray, List.getElem?_cons_succ, List.getElem?_cons_zero]; rfl)) (by kernel_rfl) (by kernel_rfl) (by kernel_rfl) (by exact fun _ _ _ h => h) (Or.inl ⟨by rfl, ?hy_n68⟩) (by assumption) ?rest_n68
                          case hy_n68 =>
                            intro W hSW
                            try dsimp only at hSW
                            go_simp
                            try with_reducible rfl
                          try simp only [Act.put, List.setIfInBounds_toArray, List.set_cons_zero, List.set_cons_succ]
                          refine wpAnyH_ready (rs := [69]) (by kernel_rfl) (by simp) ?_
                          refine AllReadyH.cons (ho := (by simp only [List.getElem?_toArray, List.getElem?_cons_succ, List.getElem?_cons_zero]; rfl)) (fun K_ hK_ => ?_) AllReadyH.nil
                          go_simp
                          refine (implSafeCopies _ _ _ _ hf _ (HN8.out _ hD10)).mono ?_
                          rintro e w11_ ⟨vs, rfl, hos, -, hb11_⟩
                          obtain ⟨as_, cs_, rfl⟩ := own_form hos
                          clear hos
                          have hD11 : Below u8.heap.size u8 w11_ := bnext hD10 hb11_
                          refine hK_.out _ _ ?_ (fun hHeld_ => ?_)
                          · try dsimp only
                            exact MK.out _ hD11
                          clear hK_
                          try simp only [Act.put, List.setIfInBounds_toArray, List.set_cons_zero, List.set_cons_succ]
                          refine wpAnyH_take (i := 70) (v := ?v_n70) (hi := (by simp only [List.getElem?_toArray, List.getElem?_cons_succ, List.getElem?_cons_zero]; rfl)) (by kernel_rfl) (by kernel_rfl) (by kernel_rfl) (by exact fun _ _ _ h => h) (Or.inl ⟨by rfl, ?hy_n70⟩) (by assumption) ?rest_n70
                          case hy_n70 =>
                            intro W hSW
                            try dsimp only at hSW
                            go_simp
                            try with_reducible rfl
                          try simp only [Act.put, List.setIfInBounds_toArray, List.set_cons_zero, List.set_cons_succ]
                          refine wpAnyH_take (i := 71) (v := ?v_n71) (hi := (by simp only [List.getElem?_toArray, List.getElem?_cons_succ, List.getElem?_cons_zero]; rfl)) (by kernel_rfl) (by kernel_rfl) (by kernel_rfl) (by exact fun _ _ _ h => h) (Or.inl ⟨by rfl, ?hy_n71⟩) (by assumption) ?rest_n71
                          case hy_n71 =>
                            have hq_ : (((safeL hf).length : Int) == 1) = true := by rw [HNT.out]; rfl
                            intro W hSW
                            try dsimp only at hSW
                            go_simp
                            try with_reducible rfl
                          try simp only [Act.put, List.setIfInBounds_toArray, List.set_cons_zero, List.set_cons_succ]
                          as_aux_lemma =>
                            refine wpAnyH_take (i := 72) (v := ?v_n72) (hi := (by simp only [List.getElem?_toArray, List.getElem?_cons_succ, List.getElem?_cons_zero]; rfl)) (by kernel_rfl) (by kernel_rfl) (by kernel_rfl) (by exact fun _ _ _ h => h) (Or.inl ⟨by rfl, ?hy_n72⟩) (by assumption) ?rest_n72
                            case hy_n72 =>
                              intro W hSW
                              try dsimp only at hSW
                              go_simp
                              try with_reducible rfl
                            try simp only [Act.put, List.setIfInBounds_toArray, List.set_cons_zero, List.set_cons_succ]
                            refine wpAnyH_take (i := 73) (v := ?v_n73) (hi := (by simp only [List.getElem?_toArray, List.getElem?_cons_succ, List.getElem?_cons_zero]; rfl)) (by kernel_rfl) (by kernel_rfl) (by kernel_rfl) (by exact fun _ _ _ h => h) (Or.inl ⟨by rfl, ?hy_n73⟩) (by assumption) ?rest_n73
                            case hy_n73 =>
                              intro W hSW
                              try dsimp only at hSW
                              go_simp
                              try with_reducible rfl
                            try simp only [Act.put, List.setIfInBounds_toArray, List.set_cons_zero, List.set_cons_succ]
                            refine wpAnyH_done (by kernel_rfl) ?_ _
                            go_wp2_with fail
                            go_ret
                            exact ⟨rfl, bnext DX.out hD11⟩
end Go.Proofs.Ytfnlniknclkeaaa
