/- The walks of ParseUint and of the reference's number of a field. -/
import Derived.Test.YtlipfkalehikkaaGreatDoorSplitFn
import Derived.Test.YtlipfkalehikkaaGreatDoorShelfA
namespace Go.Proofs.YtlipfkalehikkaaGreatDoor
open Go.ChangeShapes Go.WideShapes Go.ChangeAt Go.RowKit

/-- what the program's reading of acts reads: the tables, and the library's error -/
structure ParT (w : World) : Prop where
  act : ActT w
  err : ∃ tp p, w.cell? ⟨6, 0, none⟩ = some (.iface tp p)
theorem ParT.below {w w' : World} (h : ParT w) (hb : Below w.heap.size w w') : ParT w' :=
  ⟨h.act.below hb, by obtain ⟨tp, p, e⟩ := h.err; exact ⟨tp, p, (hb.cell (World.block_lt_of_cell? w _ e)).trans e⟩⟩
theorem uint_len {l : List UInt8} {n : Nat} (h : uintOf l = some n) : 1 ≤ l.length ∧ l.length ≤ 10 := by
  obtain ⟨h1, rfl⟩ := uintOf_iff.1 h
  have := dec_len 9 n (by omega)
  obtain ⟨c, r, e, -, -⟩ := decDigits_head (u := n)
  refine ⟨by rw [e]; simp, by omega⟩
theorem uint_no {l : List UInt8} (h : ¬ (1 ≤ l.length ∧ l.length ≤ 10)) : uintOf l = none := by
  cases q : uintOf l with
  | none => rfl
  | some n => exact absurd (uint_len q) h
theorem uint_err {l : List UInt8} (h : Lib.atoi l = none) : uintOf l = none := by
  cases q : uintOf l with
  | none => rfl
  | some n =>
    obtain ⟨-, rfl⟩ := uintOf_iff.1 q
    rw [atoi_digits] at h; cases h
theorem uint_bad {l : List UInt8} {z : Int} (h : Lib.atoi l = some z) (hz : ¬ (0 ≤ z ∧ z ≤ 1000000000 ∧ Lib.itoa z = l)) : uintOf l = none := by
  cases q : uintOf l with
  | none => rfl
  | some n =>
    obtain ⟨h1, e⟩ := uintOf_iff.1 q
    subst e
    rw [atoi_digits, Option.some.injEq] at h
    subst h
    exact absurd ⟨by omega, by omega, itoa_pos n⟩ hz
theorem uint_good {l : List UInt8} {z : Int} (h0 : 0 ≤ z) (h1 : z ≤ 1000000000) (e : Lib.itoa z = l) : uintOf l = some z.toNat := by rw [← e]; exact uintOf_itoa h0 h1
theorem uint_dec {l : List UInt8} {m : Nat} (h : Lib.decFrom 0 l = some m) (hz : ¬ (m ≤ 1000000000 ∧ Lib.itoa m = l)) : uintOf l = none := by
  cases q : uintOf l with
  | none => rfl
  | some n =>
    obtain ⟨h1, e⟩ := uintOf_iff.1 q
    subst e
    rw [decFrom_digits, Option.some.injEq] at h
    subst h
    exact absurd ⟨h1, itoa_pos n⟩ hz
theorem dec_step {l : List UInt8} {k m : Nat} (h : Lib.decFrom 0 (l.take k) = some m) (hk : k < l.length) (h0 : 48 ≤ (bt l k).toNat) (h1 : (bt l k).toNat ≤ 57) : Lib.decFrom 0 (l.take (k + 1)) = some (m * 10 + ((bt l k).toNat - 48)) := by
  refine Lib.decFrom_take l k 0 m (bt l k) _ h ?_ ?_
  · simp [bt, hk]
  · unfold Lib.digitVal; rw [if_pos ⟨h0, h1⟩]
theorem dec_none {l : List UInt8} {k : Nat} (hk : k < l.length) (hb : ¬ (48 ≤ (bt l k).toNat ∧ (bt l k).toNat ≤ 57)) : uintOf l = none := by
  cases q : uintOf l with
  | none => rfl
  | some n =>
    obtain ⟨-, e⟩ := uintOf_iff.1 q
    have hm := digits_mem (u := n) (bt l k) (by rw [← e]; simp [bt, hk])
    exact absurd hm hb
theorem dec_bound {l : List UInt8} {k m : Nat} (h : Lib.decFrom 0 (l.take k) = some m) (hk : k ≤ 10) : m < 10000000000 := by
  have := Lib.decFrom_lt _ _ _ h
  have e : (10 : Nat) ^ (l.take k).length ≤ 10 ^ 10 := Nat.pow_le_pow_right (by omega) (by simp; omega)
  omega
theorem numOf_neg {l : List UInt8} (h : 1 < l.length) (h0 : (bt l 0).toNat = 45) : numOf l = -(((uintOf (l.drop 1)).getD 0 : Nat) : Int) := by
  match l, h with
  | x :: y :: r, _ =>
    have e : x = 45 := UInt8.toNat.inj (by simpa [bt] using h0)
    subst e
    rfl
theorem numOf_pos {l : List UInt8} (h : ¬ (1 < l.length ∧ (bt l 0).toNat = 45)) : numOf l = (((uintOf l).getD 0 : Nat) : Int) := by
  unfold numOf
  split
  next c r => exact absurd ⟨by simp, by simp [bt]⟩ h
  · rfl
theorem numOf_bd (l : List UInt8) : -1000000000 ≤ numOf l ∧ numOf l ≤ 1000000000 := by
  have u : ∀ x : List UInt8, (uintOf x).getD 0 ≤ 1000000000 := fun x => by
    cases q : uintOf x with
    | none => simp
    | some n => exact (uintOf_iff.1 q).1
  unfold numOf
  split
  next c r => have := u (c :: r); omega
  · have := u l; omega
theorem bstr_toList (l : List UInt8) : (bstr l).toList = l := ByteArray.toList_mk l
def UP (l : List UInt8) (w : World) (e : Ending) (w' : World) : Prop := e = .returned (.tuple #[.int .i64 (((uintOf l).getD 0 : Nat) : Int), .bool (uintOf l).isSome]) ∧ Below w.heap.size w w'
theorem up_none {l : List UInt8} {w w' : World} (h : uintOf l = none) (hb : Below w.heap.size w w') : UP l w (.returned (.tuple #[.int .i64 0, .bool false])) w' := ⟨by rw [h]; rfl, hb⟩
theorem up_some {l : List UInt8} {w w' : World} {z : Int} (h0 : 0 ≤ z) (h : uintOf l = some z.toNat) (hb : Below w.heap.size w w') : UP l w (.returned (.tuple #[.int .i64 z, .bool true])) w' := ⟨by rw [h, Option.getD_some, Int.toNat_of_nonneg h0]; rfl, hb⟩

set_option maxRecDepth 100000 in
set_option maxHeartbeats 4000000 in
theorem implParseUint (l : List UInt8) (hl : l.length ≤ 1000000000) (w : World) (ht : ParT w) : Calls Tryz.prog 46 #[.string (bstr l)] w (UP l w) := by
  have hsz := bstr_size l
  by_cases c1 : l.length < 1
  · have i1 : (l.length : Int) < 1 := by omega
    have H := Lib.hid (uint_no (l := l) (by omega))
    go_enter Tryz.func46, Tryz.ntmps46
    go_wp2
    refine bodyPost_ret (v := .tuple #[Value.int .i64 0, .bool false]) (by simp [results, Tryz.results46, go_sem]) rfl ?_
    exact up_none H.out (bref _)
  · have i1 : ¬ (l.length : Int) < 1 := by omega
    by_cases c2 : 10 < l.length
    · have i2 : (10 : Int) < (l.length : Int) := by omega
      have H := Lib.hid (uint_no (l := l) (by omega))
      go_enter Tryz.func46, Tryz.ntmps46
      go_wp2
      refine bodyPost_ret (v := .tuple #[Value.int .i64 0, .bool false]) (by simp [results, Tryz.results46, go_sem]) rfl ?_
      exact up_none H.out (bref _)
    · have i2 : ¬ (10 : Int) < (l.length : Int) := by omega
      cases ha : Lib.atoi l with
      | none =>
        have H := Lib.hid (uint_err ha)
        obtain ⟨tp, p, hv⟩ := ht.err
        have HA := Lib.hid ha
        have HV := Lib.hid hv
        clear ha hv
        go_enter Tryz.func46, Tryz.ntmps46
        go_wp2_with (first | (go_at_call 80; refine (Go.Proofs.Any.strconv_Atoi_err laysAtoi (bstr l) (by rw [bstr_size]; omega) HA.out (.iface tp p) _ HV.out (Or.inr ⟨tp, p, rfl⟩)).mono ?_; rintro e w1 ⟨N, rfl, -, -, hb1⟩; have HB1 := Lib.hid hb1; clear hb1))
        refine bodyPost_ret (v := .tuple #[Value.int .i64 0, .bool false]) (by simp [results, Tryz.results46, go_sem]) rfl ?_
        exact up_none H.out HB1.out
      | some z =>
        have HA := Lib.hid ha
        clear ha
        by_cases c3 : z < 0
        · have H := Lib.hid (uint_bad HA.out (by omega))
          go_enter Tryz.func46, Tryz.ntmps46
          go_wp2_with (first | (go_at_call 80; refine (Go.Proofs.Any.strconv_Atoi { laysAtoi with } (bstr l) z (by rw [bstr_size]; omega) HA.out _).mono ?_; rintro e w1 ⟨rfl, t_, rfl⟩; have HB1 := Lib.hid (Lib.bytesWorld_below w 5 t_)))
          refine bodyPost_ret (v := .tuple #[Value.int .i64 0, .bool false]) (by simp [results, Tryz.results46, go_sem]) rfl ?_
          exact up_none H.out HB1.out
        · by_cases c4 : 1000000000 < z
          · have H := Lib.hid (uint_bad HA.out (by omega))
            go_enter Tryz.func46, Tryz.ntmps46
            go_wp2_with (first | (go_at_call 80; refine (Go.Proofs.Any.strconv_Atoi { laysAtoi with } (bstr l) z (by rw [bstr_size]; omega) HA.out _).mono ?_; rintro e w1 ⟨rfl, t_, rfl⟩; have HB1 := Lib.hid (Lib.bytesWorld_below w 5 t_)))
            refine bodyPost_ret (v := .tuple #[Value.int .i64 0, .bool false]) (by simp [results, Tryz.results46, go_sem]) rfl ?_
            exact up_none H.out HB1.out
          · obtain ⟨a, hae⟩ : ∃ a, a = Lib.itoa z := ⟨_, rfl⟩
            have hfk : ∀ W : World, Tab W → Calls Tryz.prog 11 #[.int .i64 z] W fun e w' => e = .returned (.string (bstr a)) ∧ Below W.heap.size W w' := fun W t => by rw [hae]; exact implFormatInt _ (by omega) (by omega) W t
            have HE := Lib.hid hae
            clear hae
            by_cases c5 : a = l
            · have H := Lib.hid (uint_good (show 0 ≤ z by omega) (show z ≤ 1000000000 by omega) (HE.out.symm.trans c5))
              have z0 : 0 ≤ z := by omega
              subst c5
              go_enter Tryz.func46, Tryz.ntmps46
              go_wp2_with (first | (go_at_call 80; refine (Go.Proofs.Any.strconv_Atoi { laysAtoi with } (bstr a) z (by rw [bstr_size]; omega) HA.out _).mono ?_; rintro e w1 ⟨rfl, t_, rfl⟩; have HB1 := Lib.hid (Lib.bytesWorld_below w 5 t_)) | (go_at_call 11; refine (hfk _ (ht.act.tab.below HB1.out)).mono ?_; rintro e w2 ⟨rfl, hb2⟩; have HB2 := Lib.hid (bnext HB1.out hb2); clear hb2))
              refine bodyPost_ret (v := .tuple #[Value.int .i64 z, .bool true]) (by simp [results, Tryz.results46, go_sem]) rfl ?_
              exact up_some z0 H.out HB2.out
            · have H := Lib.hid (uint_bad HA.out (fun q => c5 (by rw [HE.out]; exact q.2.2)))
              have c6 : ((bstr a).toList == (bstr l).toList) = false := beq_eq_false_iff_ne.2 fun q => c5 (by rw [bstr_toList, bstr_toList] at q; exact q)
              have c7 : (a == l) = false := beq_eq_false_iff_ne.2 c5
              go_enter Tryz.func46, Tryz.ntmps46
              go_wp2_with (first | (go_at_call 80; refine (Go.Proofs.Any.strconv_Atoi { laysAtoi with } (bstr l) z (by rw [bstr_size]; omega) HA.out _).mono ?_; rintro e w1 ⟨rfl, t_, rfl⟩; have HB1 := Lib.hid (Lib.bytesWorld_below w 5 t_)) | (go_at_call 11; refine (hfk _ (ht.act.tab.below HB1.out)).mono ?_; rintro e w2 ⟨rfl, hb2⟩; have HB2 := Lib.hid (bnext HB1.out hb2); clear hb2))
              refine bodyPost_ret (v := .tuple #[Value.int .i64 0, .bool false]) (by simp [results, Tryz.results46, go_sem]) rfl ?_
              exact up_none H.out HB2.out

set_option maxRecDepth 100000 in
set_option maxHeartbeats 4000000 in
theorem specParseUint (l : List UInt8) (hl : l.length ≤ 1000000000) (w : World) : Calls Tryz.prog 87 #[.string (bstr l)] w (UP l w) := by
  have hsz := bstr_size l
  by_cases c2 : 10 < l.length
  · have i2 : (10 : Int) < (l.length : Int) := by omega
    have H := Lib.hid (uint_no (l := l) (by omega))
    go_enter Tryz.func87, Tryz.ntmps87
    go_wp2
    refine bodyPost_ret (v := .tuple #[Value.int .i64 0, .bool false]) (by simp [results, Tryz.results87, go_sem]) rfl ?_
    exact up_none H.out (bref _)
  · have i2 : ¬ (10 : Int) < (l.length : Int) := by omega
    go_enter Tryz.func87, Tryz.ntmps87
    go_wp2
    go_loopw [4, 5] (fun n i wr => ∃ k m : Nat, k ≤ l.length ∧ i = .int .i64 k ∧ n = .int .i64 m ∧ Hid (Lib.decFrom 0 (l.take k) = some m) ∧ Hid (Below w.heap.size w wr)) (fun _ i _ => l.length - (intOf i).toNat)
    case atStart => exact ⟨0, 0, Nat.zero_le _, rfl, rfl, Lib.hid (by simp [Lib.decFrom]), bref _⟩
    case round =>
      obtain ⟨k, m, hk, rfl, rfl, HD, HB⟩ := hrel
      have hm := dec_bound HD.out (by omega)
      by_cases hlt : k < l.length
      · have hlt' : (k : Int) < (l.length : Int) := by omega
        have hix := fun W => index_bstr (P := Tryz.prog) Tryz.underlying9 hlt W
        by_cases c0 : (bt l k).toNat < 48
        · have c0' : ((bt l k).toNat : Int) < 48 := by omega
          have H := Lib.hid (dec_none hlt (by omega))
          go_wp2
          refine bodyPost_ret (v := .tuple #[Value.int .i64 0, .bool false]) (by simp [results, Tryz.results87, go_sem]) rfl ?_
          exact up_none H.out HB.out
        · have c0' : ¬ ((bt l k).toNat : Int) < 48 := by omega
          by_cases c9 : 57 < (bt l k).toNat
          · have c9' : (57 : Int) < ((bt l k).toNat : Int) := by omega
            have H := Lib.hid (dec_none hlt (by omega))
            go_wp2
            refine bodyPost_ret (v := .tuple #[Value.int .i64 0, .bool false]) (by simp [results, Tryz.results87, go_sem]) rfl ?_
            exact up_none H.out HB.out
          · have c9' : ¬ (57 : Int) < ((bt l k).toNat : Int) := by omega
            have HN := Lib.hid (dec_step HD.out hlt (by omega) (by omega))
            obtain ⟨d, hd⟩ : ∃ d : Nat, (bt l k).toNat = d := ⟨_, rfl⟩
            rw [hd] at hix c0' c9' HN c0 c9
            clear hd
            go_wp2
            go_roundw
            case rel => exact ⟨k + 1, m * 10 + (d - 48), by omega, by go_num, by congr 1; omega, HN, HB⟩
            case measure => simp [intOf]; omega
      · obtain rfl : k = l.length := by omega
        have HD' : Hid (Lib.decFrom 0 l = some m) := Lib.hid (by have q := HD.out; rw [List.take_length] at q; exact q)
        clear HD
        by_cases c4 : 1000000000 < m
        · have c4' : (1000000000 : Int) < (m : Int) := by omega
          have H := Lib.hid (uint_dec HD'.out (by omega))
          go_wp2
          refine bodyPost_ret (v := .tuple #[Value.int .i64 0, .bool false]) (by simp [results, Tryz.results87, go_sem]) rfl ?_
          exact up_none H.out HB.out
        · have c4' : ¬ (1000000000 : Int) < (m : Int) := by omega
          obtain ⟨a, hae⟩ : ∃ a, a = Lib.itoa m := ⟨_, rfl⟩
          have hfk : ∀ W : World, Calls Tryz.prog 37 #[.int .i64 (m : Int)] W fun e w' => e = .returned (.string (bstr a)) ∧ Below W.heap.size W w' := fun W => by rw [hae]; exact specFormatInt _ (by omega) (by omega) W
          have HE := Lib.hid hae
          clear hae
          by_cases c5 : a = l
          · have H := Lib.hid (uint_good (show 0 ≤ (m : Int) by omega) (show (m : Int) ≤ 1000000000 by omega) (HE.out.symm.trans c5))
            have z0 : 0 ≤ (m : Int) := by omega
            subst c5
            go_wp2_with (first | (go_at_call 37; refine (hfk _).mono ?_; rintro e w2 ⟨rfl, hb2⟩; have HB2 := Lib.hid (bnext HB.out hb2); clear hb2))
            refine bodyPost_ret (v := .tuple #[Value.int .i64 (m : Int), .bool true]) (by simp [results, Tryz.results87, go_sem]) rfl ?_
            exact up_some z0 H.out HB2.out
          · have H := Lib.hid (uint_dec HD'.out (fun q => c5 (by rw [HE.out]; exact q.2)))
            have c6 : ((bstr a).toList == (bstr l).toList) = false := beq_eq_false_iff_ne.2 fun q => c5 (by rw [bstr_toList, bstr_toList] at q; exact q)
            have c7 : (a == l) = false := beq_eq_false_iff_ne.2 c5
            go_wp2_with (first | (go_at_call 37; refine (hfk _).mono ?_; rintro e w2 ⟨rfl, hb2⟩; have HB2 := Lib.hid (bnext HB.out hb2); clear hb2))
            refine bodyPost_ret (v := .tuple #[Value.int .i64 0, .bool false]) (by simp [results, Tryz.results87, go_sem]) rfl ?_
            exact up_none H.out HB2.out

set_option maxRecDepth 100000 in
set_option maxHeartbeats 4000000 in
theorem specNumber (l : List UInt8) (hl : l.length ≤ 1000000000) (w : World) : Calls Tryz.prog 63 #[.string (bstr l)] w fun e w' => e = .returned (.int .i64 (numOf l)) ∧ Below w.heap.size w w' := by
  have hsz := bstr_size l
  by_cases c1 : 1 < l.length
  · have i1 : (1 : Int) < (l.length : Int) := by omega
    have hix0 := fun W => index_bstr (P := Tryz.prog) Tryz.underlying9 (show 0 < l.length by omega) W
    have hix : ∀ W, (Instr.index 9 (.string (bstr l)) (.int .i64 0)).run Tryz.prog W = .ok (.int .u8 ((bt l 0).toNat : Int)) W := hix0
    clear hix0
    have hs1 : ∀ W, (Instr.slice 9 (.string (bstr l)) (some (.int .i64 1)) none none).run Tryz.prog W = .ok (.string (bstr (l.drop 1))) W := fun W => slice_from (P := Tryz.prog) Tryz.underlying9 (show 1 ≤ l.length by omega) W
    by_cases c2 : (bt l 0).toNat = 45
    · have i2 : (((bt l 0).toNat : Int) == 45) = true := by rw [beq_iff_eq]; omega
      have H := Lib.hid (numOf_neg c1 c2)
      have hdl : (l.drop 1).length ≤ 1000000000 := by simp; omega
      have hbd := numOf_bd l
      rw [H.out] at hbd
      generalize l.drop 1 = d at hs1 H hdl hbd
      generalize (bt l 0).toNat = c at hix i2
      clear c2
      go_enter Tryz.func63, Tryz.ntmps63
      go_wp2_with (first | (go_at_call 87; refine (specParseUint d (by first | omega | (simp; omega)) _).mono ?_; rintro e w1 ⟨rfl, hb1⟩; have HB1 := Lib.hid hb1; clear hb1))
      go_ret
      exact ⟨by rw [H.out]; rfl, HB1.out⟩
    · have i2 : (((bt l 0).toNat : Int) == 45) = false := by rw [beq_eq_false_iff_ne]; omega
      have H := Lib.hid (numOf_pos (l := l) (fun q => c2 q.2))
      generalize (bt l 0).toNat = c at hix i2
      clear c2 hs1
      go_enter Tryz.func63, Tryz.ntmps63
      go_wp2_with (first | (go_at_call 87; refine (specParseUint l (by first | omega | (simp; omega)) _).mono ?_; rintro e w1 ⟨rfl, hb1⟩; have HB1 := Lib.hid hb1; clear hb1))
      go_ret
      exact ⟨by rw [H.out]; rfl, HB1.out⟩
  · have i1 : ¬ (1 : Int) < (l.length : Int) := by omega
    have H := Lib.hid (numOf_pos (l := l) (fun q => c1 q.1))
    go_enter Tryz.func63, Tryz.ntmps63
    go_wp2_with (first | (go_at_call 87; refine (specParseUint l (by first | omega | (simp; omega)) _).mono ?_; rintro e w1 ⟨rfl, hb1⟩; have HB1 := Lib.hid hb1; clear hb1))
    go_ret
    exact ⟨by rw [H.out]; rfl, HB1.out⟩
end Go.Proofs.YtlipfkalehikkaaGreatDoor
