/- The law of letters, walked. -/
import Derived.Test.YtdeongecbmjkjaaDoorLetLawFn
import Derived.Test.YtdeongecbmjkjaaDoorDrawOwn
import Derived.Test.YtdeongecbmjkjaaDoorLetters
import Derived.Test.YtdeongecbmjkjaaDoorNewOnes
import Derived.Test.YtdeongecbmjkjaaDoorTold
import Derived.Test.YtdeongecbmjkjaaDoorOwners
import Derived.Test.YtdeongecbmjkjaaDoorHas
import Derived.Test.YtdeongecbmjkjaaDoorCode
import Derived.Test.YtdeongecbmjkjaaDoorLetText
import Derived.BigQuiet
import Derived.Deep.DeepCutAuto
namespace Go.Proofs.YtdeongecbmjkjaaDoor
open Go.ChangeShapes Go.WideShapes Go.ChangeAt Go.RowKit

theorem quietL {P : Program} {f : FuncId} {args : Array Value} {w : World} {n : Nat} {v : Value} (h : Calls P f args (w.drewN n) fun e w' => e = .returned v ∧ w.drewN n = w') : Calls P f args (w.drewN n) fun e w'' => e = .returned v ∧ ∃ m, w'' = w.drewN m :=
  h.mono fun _ _ ⟨he, hm⟩ => ⟨he, n, hm.symm⟩
theorem quietL_add {P : Program} {f : FuncId} {args : Array Value} {w : World} {a n : Nat} {v : Value} (h : Calls P f args (w.drewN (a + n)) fun e w' => e = .returned v ∧ w.drewN (a + n) = w') :
    Calls P f args (w.drewN (a + n)) fun e w'' => e = .returned v ∧ ∃ m, w'' = w.drewN (a + m) :=
  h.mono fun _ _ ⟨he, hm⟩ => ⟨he, n, hm.symm⟩
theorem int_wfL {x : Int} (h0 : -9223372036854775808 ≤ x) (h1 : x ≤ 9223372036854775807) : (Lit.int .i64 x).wf = true := by
  simp [Lit.wf, IntKind.min, IntKind.max, IntKind.signed, IntKind.bits]; omega
/-- what the law reads -/
structure LetR (vl vo vs vL : Value) (n : Nat) (xs os ss : List Int) (ls : List (Int × List Int)) (w : World) : Prop where
  r : Recs 3 w vl n xs
  o : Ints w vo os
  s : Ints w vs ss
  l : Letters w vL ls
  t : Tab w
theorem LetR.below {vl vo vs vL : Value} {n : Nat} {xs os ss : List Int} {ls : List (Int × List Int)} {w w' : World} (h : LetR vl vo vs vL n xs os ss ls w) (hb : Below w.heap.size w w') : LetR vl vo vs vL n xs os ss ls w' := ⟨h.r.below hb, h.o.below hb, h.s.below hb, h.l.below hb, h.t.below hb⟩
set_option maxRecDepth 100000 in
set_option maxHeartbeats 8000000 in
theorem fnLetters_any (v : Value) (bs : List Int) (w : World) (h : Bytes w v bs) (ht : Tab w) : Calls Tryd.prog 10 #[v] w fun e w' => e = .returned (.bool true) ∧ Below w.heap.size w w' := by
  by_cases hbig : (1048576 : Int) < bs.length
  · have hd : decide ((1048576 : Int) < bs.length) = true := by simp; omega
    go_enter Tryd.func10, Tryd.ntmps10
    go_wp2_with (first | (go_at_call 33; refine (big_any v bs w h).mono ?_; rw [hd]; rintro e w' ⟨rfl, rfl⟩))
    go_ret
    exact ⟨rfl, bref _⟩
  · have hd : decide ((1048576 : Int) < bs.length) = false := by simp; omega
    go_enter Tryd.func10, Tryd.ntmps10
    go_wp2_with (first | (go_at_call 33; refine (big_any v bs w h).mono ?_; rw [hd]; rintro e w' ⟨rfl, rfl⟩) | (go_at_call 42; refine (drawOwners_any v bs w h).mono ?_; rintro e w1 ⟨adl, capl, ado, capo, ads, caps, n, xs, os, ss, rfl, hch, hn, hol, hsl, hob, hsb, hnk, hr, ho, hs, hb1⟩; have HNK := Lib.hid hnk; have LL := Lib.hid (letLaw hch hol hob hsb); have HOL := Lib.hid hol; have R := Lib.hid hr; have O := Lib.hid ho; have S := Lib.hid hs; have D := Lib.hid hb1; have TB := Lib.hid (ht.below hb1); clear hr ho hs hb1 hob hsb hol hnk) | (go_at_call 43; refine (implLettersFor _ n xs _ os _ ss _ R.out O.out S.out HNK.out (by omega)).mono ?_; rintro e w2 ⟨adL, capL, rfl, hL, hb2⟩; have HL := Lib.hid hL; have R := Lib.hid (R.out.below hb2); have O := Lib.hid (O.out.below hb2); have S := Lib.hid (S.out.below hb2); have D := Lib.hid (bnext D.out hb2); have TB := Lib.hid (TB.out.below hb2); clear hL hb2) | (go_at_call 44; refine (implNewOnesV (.slice none 0 0) [] _ ss _ ⟨by simp, none, 0, rfl, fun i hi => absurd hi (by simp)⟩ S.out HNK.out (by omega)).mono ?_; rintro e w3 ⟨u3, rfl, hown3, hb3⟩; obtain ⟨ad3, cap3, rfl⟩ := own_form hown3; have HB3 := Lib.hid hb3; clear hown3 hb3))
    generalize hls : lettersFor n xs os ss = ls at *
    generalize hnw : newOnes [] ss = nw at *
    have HNW := Lib.hid hnw
    have hbd := LL.out.bd; have hsm := LL.out.some; have hnum := LL.out.num
    have hcnt : Hid (countL ls = (nw.length : Int)) := by have := LL.out.count; rw [hnw] at this; exact this
    have hnl : nw.length ≤ 5 := by rw [← hnw]; have := newOnes_len [] ss; omega
    have hbk : bulk ls ≤ 1048576 := by
      have a := hcnt.out
      unfold countL at a
      unfold bulk bulkTo
      omega
    have HBD := Lib.hid hbd
    have HSM := Lib.hid hsm
    have RS := Lib.hid (show LetR (.slice adl n capl) (.slice ado os.length capo) (.slice ads ss.length caps) (.slice adL ls.length capL) n xs os ss ls w2 from ⟨R.out, O.out, S.out, by obtain ⟨vs, hv⟩ := HL.out; exact hv.reads (by omega) (fun i hi => by have := hsm i hi; omega), TB.out⟩)
    have RS := Lib.hid (RS.out.below HB3.out)
    have D := Lib.hid (bnext D.out HB3.out)
    clear hls hnw hbd hsm R O S TB HL HB3 h ht hbig hd
    go_loopw [8] (fun i wr => ∃ k : Nat, k ≤ ls.length ∧ i = .int .i64 k ∧ Hid (Below w3.heap.size w3 wr)) (fun i _ => ls.length - (intOf i).toNat)
    case atStart => exact ⟨0, Nat.zero_le _, rfl, bref _⟩
    case round =>
      obtain ⟨k, hk, rfl, HB⟩ := hrel
      have RW := Lib.hid (RS.out.below HB.out)
      by_cases hlt : k < ls.length
      · obtain ⟨_, _, _, hv, hc⟩ := RW.out.l
        cases hv
        obtain ⟨b, o, u, rfl, e0, e1, hi⟩ := hc k hlt
        obtain ⟨_, adu, capu, rfl, hci⟩ := hi
        obtain ⟨w0, w20⟩ := HBD.out k hlt
        obtain ⟨l0, l5⟩ := HSM.out k hlt
        have HCI := Lib.hid hci
        have HEA := Lib.hid (fun i hi => LL.out.each k i hlt hi)
        have hlen0 : (((lCopies ls k).length : Int) == 0) = false := by rw [beq_eq_false_iff_ne]; omega
        have hlen1 : ¬ ((lCopies ls k).length : Int) = 0 := by omega
        generalize hcs : lCopies ls k = cs at *
        generalize how : lOwner ls k = ow at *
        have HCS := Lib.hid hcs
        have HOW := Lib.hid how
        clear hci
        have i1 : (0 : Int) ≤ (k : Int) := by omega
        have i2 : (k : Int) < (ls.length : Int) := by omega
        have i3 : ¬ (k : Int) < 0 := by omega
        have i4 : ¬ (ls.length : Int) ≤ (k : Int) := by omega
        go_upto_region 9 with fail
        go_cut [56] from 26 to 120 (fun p wx => p = .bool false ∧ ∃ m, wx = wr.drewN m)
        case first =>
          by_cases hk0 : k = 0
          · have hk1 : ¬ (0 : Int) < (k : Int) := by omega
            have hk2 : ¬ 0 < k := by omega
            have hk3 : decide ((0 : Int) < (k : Int)) = false := decide_eq_false hk1
            clear hc hcs how hk0
            go_quiet (fail)
            go_wp2_with fail
            go_meet
            case rel => exact ⟨rfl, _, rfl⟩
          · obtain ⟨j, hj⟩ : ∃ j : Nat, j = k - 1 := ⟨_, rfl⟩
            have hk1 : (0 : Int) < (k : Int) := by omega
            have hk2 : 0 < k := by omega
            have hk3 : decide ((0 : Int) < (k : Int)) = true := decide_eq_true hk1
            have hkj : IntKind.i64.wrap ((k : Int) - 1) = (j : Int) := by rw [IntKind.wrap_i64]; omega
            have hjl : j < ls.length := by omega
            have j1 : (0 : Int) ≤ (j : Int) := by omega
            have j2 : (j : Int) < (ls.length : Int) := by omega
            have j3 : ¬ (j : Int) < 0 := by omega
            have j4 : ¬ (ls.length : Int) ≤ (j : Int) := by omega
            have has := LL.out.asc k (by omega) hlt
            rw [← hj, how] at has
            obtain ⟨b', o', u', hbo, g0, _, _⟩ := hc j hjl
            cases hbo
            generalize lOwner ls j = oj at *
            have hle : ¬ ow ≤ oj := by omega
            clear hc hcs how hj
            go_quiet (fail)
            go_wp2_with fail
            go_meet
            case rel => exact ⟨rfl, _, rfl⟩
        case rest =>
          obtain ⟨rfl, m, rfl⟩ := hcut
          have RW := Lib.hid (RW.out.below (bdrewN (bref wr) m))
          have HB := Lib.hid (bdrewN HB.out m)
          have HII := Lib.hid ((show Ints wr (.slice adu cs.length capu) cs from ⟨by omega, adu, capu, rfl, HCI.out⟩).below (bdrewN (bref wr) m))
          have E0 := Lib.hid (((bdrewN (bref wr) m).cell (p := ⟨b, o + k * 2, none⟩) (World.block_lt_of_cell? wr _ e0)).trans e0)
          have E1 := Lib.hid (((bdrewN (bref wr) m).cell (p := ⟨b, o + k * 2 + 1, none⟩) (World.block_lt_of_cell? wr _ e1)).trans e1)
          clear e0 e1 hc hcs how HCI
          generalize wr.drewN m = W at *
          have e0 := E0.out
          obtain ⟨a, ha⟩ : ∃ a, a = Lib.itoa ow := ⟨_, rfl⟩
          have hal : a.length ≤ 20 := by rw [ha]; exact itoa_len (by omega) (by omega)
          have ad1 := add_at (P := Tryd.prog) [116, 111, 32] a { data := #[116, 111, 32] } rfl (by simp; omega)
          obtain ⟨b1, hb1⟩ : ∃ b, b = [116, 111, 32] ++ a := ⟨_, rfl⟩
          have hbl : b1.length ≤ 23 := by rw [hb1]; simp; omega
          have ad2 := add_to (P := Tryd.prog) b1 [58] { data := #[58] } rfl (by simp; omega)
          obtain ⟨d, hd⟩ : ∃ d, d = b1 ++ [58] := ⟨_, rfl⟩
          have hdl : d.length ≤ 24 := by rw [hd]; simp; omega
          rw [← hd] at ad2
          rw [← hb1] at ad1
          have HDD : Hid (d = [116, 111, 32] ++ Lib.itoa ow ++ [58]) := by rw [hd, hb1, ha]; rfl
          have HA := Lib.hid ha
          clear hd hb1 ha
          have hfi : ∀ W : World, Tab W → Calls Tryd.prog 35 #[.int .i64 ow] W fun e w' => e = .returned (.string (bstr a)) ∧ Below W.heap.size W w' := fun W t_ => by rw [HA.out]; exact implFormatInt ow (by omega) (by omega) W t_
          go_wp2_with (first | (go_at_call 35; refine (hfi _ RW.out.t).mono ?_; rintro e w4 ⟨rfl, hb4⟩; have RW := Lib.hid (RW.out.below hb4); have HB := Lib.hid (bnext HB.out hb4); have HII := Lib.hid (HII.out.below hb4); have E0 := Lib.hid ((hb4.cell (World.block_lt_of_cell? _ _ E0.out)).trans E0.out); have E1 := Lib.hid ((hb4.cell (World.block_lt_of_cell? _ _ E1.out)).trans E1.out); clear hb4))
          clear ad1 ad2 hfi e0
          go_loopw [9, 10] (fun s i wi => ∃ (i' : Nat) (t : List UInt8), i' ≤ cs.length ∧ i = .int .i64 i' ∧ s = .string (bstr t) ∧ Hid (t = d ++ numsTo (nth cs) i') ∧ t.length ≤ 24 + 21 * i' ∧ Hid (Below w4.heap.size w4 wi)) (fun _ i _ => cs.length - (intOf i).toNat)
          case atStart => exact ⟨0, d, Nat.zero_le _, rfl, rfl, by simp [numsTo, Hid], by omega, bref _⟩
          case round =>
            obtain ⟨i', t, hi', rfl, rfl, HT, htl, HBi⟩ := hrel
            have e0 := (HBi.out.cell (World.block_lt_of_cell? _ _ E0.out)).trans E0.out
            have e1 := (HBi.out.cell (World.block_lt_of_cell? _ _ E1.out)).trans E1.out
            have RWi := Lib.hid (RW.out.below HBi.out)
            by_cases hil : i' < cs.length
            · obtain ⟨_, _, _, hv3, hc3⟩ := HII.out.below HBi.out
              cases hv3
              obtain ⟨b2, o2, rfl, g0⟩ := hc3 i' hil
              have hea := HEA.out i' hil
              obtain ⟨x0, x1, x2, x3⟩ := hea
              obtain ⟨γ, hγ⟩ := Int.eq_ofNat_of_zero_le x0
              rw [hγ] at x1 x2 x3 g0
              rw [Int.toNat_natCast] at x2
              obtain ⟨_, _, _, hv4, hc4⟩ := RWi.out.o
              cases hv4
              obtain ⟨b3, o3, rfl, f0⟩ := hc4 γ (by have := HOL.out; omega)
              rw [x2] at f0
              clear hc3 hc4 x2
              have hγo : γ < os.length := by have := HOL.out; omega
              have y1 : (0 : Int) ≤ (γ : Int) := by omega
              have y2 : (γ : Int) < (os.length : Int) := by omega
              have y3 : ¬ (γ : Int) < 0 := by omega
              have y4 : ¬ (os.length : Int) ≤ (γ : Int) := by omega
              have y5 : ¬ (n : Int) ≤ (γ : Int) := by omega
              have y6 : ¬ n ≤ γ := by omega
              have y7 : decide ((γ : Int) < 0) = false := decide_eq_false y3
              have HHS : Hid (∀ q : Nat, Calls Tryd.prog 38 #[.slice ads ss.length caps, .int .i64 γ] (wr.drewN q) fun e w' => e = .returned (.bool true) ∧ wr.drewN q = w') := fun q => by
                have := has_any (.slice ads ss.length caps) ss γ (wr.drewN q) (RWi.out.s.below (bdrewN (bref wr) q))
                rw [decide_eq_true x3] at this
                exact this
              have HG := Lib.hid hγ
              clear hγ x3
              go_upto_region 16 with fail
              go_cut [108] from 65 to 113 (fun p wx => p = .bool false ∧ ∃ m, wx = wr.drewN m)
              case first =>
                go_quiet ((go_at_call 38; first | exact quietL (HHS.out _) | exact quietL_add (HHS.out _)))
                go_wp2_with fail
                go_meet
                case rel => exact ⟨rfl, _, rfl⟩
              case rest =>
                obtain ⟨rfl, m2, rfl⟩ := hcut
                have RWi := Lib.hid (RWi.out.below (bdrewN (bref wr) m2))
                have HBi := Lib.hid (bdrewN HBi.out m2)
                generalize wr.drewN m2 = W2 at *
                obtain ⟨c', hcd⟩ : ∃ c', c' = Lib.itoa (γ : Int) := ⟨_, rfl⟩
                have hcl : c'.length ≤ 20 := by rw [hcd]; exact itoa_len (by omega) (by omega)
                have HC := Lib.hid hcd
                clear hcd
                have hfk : ∀ W : World, Tab W → Calls Tryd.prog 35 #[.int .i64 (γ : Int)] W fun e w' => e = .returned (.string (bstr c')) ∧ Below W.heap.size W w' := fun W t_ => by rw [HC.out]; exact implFormatInt _ (by omega) (by omega) W t_
                obtain ⟨g, hg⟩ : ∃ g, g = t ++ [32] := ⟨_, rfl⟩
                have hgl : g.length ≤ 25 + 21 * i' := by rw [hg]; simp; omega
                have ad3 : ∀ W : World, (Op.stringOp .add (bstr t) { data := #[32] }).run Tryd.prog W = .ok (.string (bstr g)) W := by rw [hg]; exact add_to t [32] _ rfl (by simp; omega)
                obtain ⟨q, hq⟩ : ∃ q, q = g ++ c' := ⟨_, rfl⟩
                have hql : q.length ≤ 24 + 21 * (i' + 1) := by rw [hq, hg]; simp; omega
                have ad4 : ∀ W : World, (Op.stringOp .add (bstr g) (bstr c')).run Tryd.prog W = .ok (.string (bstr q)) W := by rw [hq]; exact add_at _ _ _ rfl (by omega)
                have HT' : Hid (q = d ++ numsTo (nth cs) (i' + 1)) := Lib.hid (by rw [hq, hg]; simp only [numsTo]; rw [HG.out, ← HC.out, ← List.append_assoc d, ← HT.out]; simp)
                clear hg hq
                go_wp2_with (first | (go_at_call 35; refine (hfk _ RWi.out.t).mono ?_; rintro e w5 ⟨rfl, hb5⟩; have HB5 := Lib.hid (bnext HBi.out hb5); clear hb5))
                go_roundw
                case rel => exact ⟨i' + 1, q, by omega, by go_num, rfl, HT', hql, HB5.out⟩
                case measure => simp [intOf]; omega
            · obtain rfl : i' = cs.length := by omega
              have hin : inB ow 0 20 = true := by simp [inB]; omega
              have hall : allTo (fun j => inB (nth cs j) 0 11) cs.length = true := allTo_of fun j hj => by have := HEA.out j hj; simp [inB]; omega
              have HLT : Hid (letterText ow cs = t) := Lib.hid (by rw [letterText_t hin hall, ← HDD.out]; exact HT.out.symm)
              have HIw := Lib.hid (HII.out.below HBi.out)
              clear hin hall
              go_wp2_with (first | (go_at_call 17; refine (implLetterText ow _ cs _ HIw.out RWi.out.t (by omega)).mono ?_; rw [HLT.out]; rintro e w5 ⟨rfl, hb5⟩; have HB5 := Lib.hid (bnext (bnext HB.out HBi.out) hb5); clear hb5))
              go_roundw
              case rel => exact ⟨k + 1, by omega, by go_num, HB5.out⟩
              case measure => simp [intOf]; omega
      · obtain rfl : k = ls.length := by omega
        have hwf : ∀ k, k < ls.length → (Lit.int .i64 (lOwner ls k)).wf = true ∧ ∀ x ∈ lCopies ls k, (Lit.int .i64 x).wf = true := fun k hk => by
          have a := HBD.out k hk
          refine ⟨int_wfL (by omega) (by omega), fun x hx => ?_⟩
          obtain ⟨i, hi, e⟩ := List.getElem_of_mem hx
          have q := LL.out.each k i hk hi
          rw [show nth (lCopies ls k) i = x by simp [nth, hi, e]] at q
          exact int_wfL (by omega) (by omega)
        go_wp2_with (first | (go_at_call 45; refine (implIsToldOnce _ ls _ RW.out.l hwf hbk).mono ?_; rw [LL.out.told]; rintro e w5 ⟨rfl, hb⟩; have RW := Lib.hid (RW.out.below hb); have HB := Lib.hid (bnext HB.out hb); clear hb) | (go_at_call 46; refine (implCountLetters _ ls _ RW.out.l hbk).mono ?_; rw [hcnt.out]; rintro e w6 ⟨rfl, hb⟩; have RW := Lib.hid (RW.out.below hb); have HB := Lib.hid (bnext HB.out hb); clear hb) | (go_at_call 44; refine (implNewOnesV _ ss _ ss _ RW.out.s RW.out.s HNK.out (by omega)).mono ?_; rw [LL.out.none]; rintro e w7 ⟨u7, rfl, hown7, hb⟩; obtain ⟨ad7, cap7, rfl⟩ := own_form hown7; have RW := Lib.hid (RW.out.below hb); have HB := Lib.hid (bnext HB.out hb); clear hb hown7) | (go_at_call 47; refine (implOwnersOk _ n xs _ os _ RW.out.r RW.out.o).mono ?_; rw [LL.out.owners]; rintro e w8 ⟨rfl, hb⟩; have HB := Lib.hid (bnext HB.out hb); clear hb))
        all_goals
          go_ret
          exact ⟨rfl, bnext D.out HB.out⟩
end Go.Proofs.YtdeongecbmjkjaaDoor
