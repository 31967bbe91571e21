/- The text of a letter, walked. -/
import Derived.Test.YtdeongecbmjkjaaDoorFormat
import Derived.Test.YtdeongecbmjkjaaDoorScalar
namespace Go.Proofs.YtdeongecbmjkjaaDoor
open Go.ChangeShapes Go.WideShapes Go.ChangeAt Go.RowKit

theorem add_at {P : Program} (x y : List UInt8) (s : ByteArray) (hs : s = bstr x) (h : x.length + y.length ≤ 1000000000) : ∀ W : World, (Op.stringOp .add s (bstr y)).run P W = .ok (.string (bstr (x ++ y))) W := fun W => by subst hs; exact add_bstr W x y h
theorem add_to {P : Program} (x y : List UInt8) (s : ByteArray) (hs : s = bstr y) (h : x.length + y.length ≤ 1000000000) : ∀ W : World, (Op.stringOp .add (bstr x) s).run P W = .ok (.string (bstr (x ++ y))) W := fun W => by subst hs; exact add_bstr W x y h
/-- the numbers' texts, each behind a space -/
def numsTo (f : Nat → Int) : Nat → List UInt8
  | 0 => []
  | k + 1 => numsTo f k ++ (32 :: Lib.itoa (f k))
def letterText (o : Int) (ks : List Int) : List UInt8 := if inB o 0 20 = true ∧ allTo (fun j => inB (nth ks j) 0 11) ks.length = true then [116, 111, 32] ++ Lib.itoa o ++ [58] ++ numsTo (nth ks) ks.length else []
theorem letterText_o {o : Int} {ks : List Int} (h : inB o 0 20 = false) : letterText o ks = [] := if_neg (by simp [h])
theorem letterText_k {o : Int} {ks : List Int} {k : Nat} (hk : k < ks.length) (h : inB (nth ks k) 0 11 = false) : letterText o ks = [] := if_neg (by rw [allTo_no (p := fun j => inB (nth ks j) 0 11) hk h]; simp)
theorem letterText_t {o : Int} {ks : List Int} (h : inB o 0 20 = true) (h1 : allTo (fun j => inB (nth ks j) 0 11) ks.length = true) : letterText o ks = [116, 111, 32] ++ Lib.itoa o ++ [58] ++ numsTo (nth ks) ks.length := if_pos ⟨h, h1⟩

set_option maxRecDepth 100000 in
set_option maxHeartbeats 2000000 in
theorem implLetterText (o : Int) (v : Value) (ks : List Int) (w : World) (h : Ints w v ks) (ht : Tab w) (h20 : ks.length ≤ 1048576) : Calls Tryd.prog 17 #[.agg #[.int .i64 o, v]] w fun e w' => e = .returned (.string (bstr (letterText o ks))) ∧ Below w.heap.size w w' := by
  obtain ⟨hl, adv, capv, rfl, hc⟩ := h
  have hI : Ints w (.slice adv ks.length capv) ks := ⟨hl, adv, capv, rfl, hc⟩
  clear hc
  have HI := Lib.hid (hI.alloc (.cells #[.int .i64 o, .slice adv ks.length capv] 34))
  have B0 := Lib.hid (balloc (bref w) (.cells #[.int .i64 o, .slice adv ks.length capv] 34))
  clear hI
  cases hin : inB o 0 20 with
  | false =>
    go_enter Tryd.func17, Tryd.ntmps17
    go_wp2_with (first | (go_at_call 54; refine (in_any _ _ _ _).mono ?_; rw [hin]; rintro e w' ⟨rfl, rfl⟩))
    go_ret
    exact ⟨by rw [letterText_o hin]; rfl, B0.out⟩
  | true =>
    obtain ⟨o0, o1⟩ := inB_le hin
    obtain ⟨a, ha⟩ : ∃ a, a = Lib.itoa o := ⟨_, rfl⟩
    have hal : a.length ≤ 20 := by rw [ha]; exact itoa_len (by omega) (by omega)
    have ad1 := add_at (P := Tryd.prog) [116, 111, 32] a { data := #[116, 111, 32] } rfl (by simp; omega)
    obtain ⟨b, hb⟩ : ∃ b, b = [116, 111, 32] ++ a := ⟨_, rfl⟩
    have hbl : b.length ≤ 23 := by rw [hb]; simp; omega
    have ad2 := add_to (P := Tryd.prog) b [58] { data := #[58] } rfl (by simp; omega)
    obtain ⟨d, hd⟩ : ∃ d, d = b ++ [58] := ⟨_, rfl⟩
    have hdl : d.length ≤ 24 := by rw [hd]; simp; omega
    rw [← hd] at ad2
    rw [← hb] at ad1
    have HD : Hid (d = [116, 111, 32] ++ Lib.itoa o ++ [58]) := by rw [hd, hb, ha]; rfl
    have HA := Lib.hid ha
    clear hd hb ha
    go_enter Tryd.func17, Tryd.ntmps17
    have hfi : ∀ W : World, Tab W → Calls Tryd.prog 35 #[.int .i64 o] W fun e w' => e = .returned (.string (bstr a)) ∧ Below W.heap.size W w' := fun W t => by rw [HA.out]; exact implFormatInt o (by omega) (by omega) W t
    go_wp2_with (first | (go_at_call 54; refine (in_any _ _ _ _).mono ?_; rw [hin]; rintro e w' ⟨rfl, rfl⟩) | (go_at_call 35; refine (hfi _ (ht.below B0.out)).mono ?_; rintro e w1 ⟨rfl, hb1⟩; have HI1 := Lib.hid (HI.out.below hb1); have B1 := Lib.hid (bnext B0.out hb1); have c0 : w1.cell? ⟨w.heap.size, 1, none⟩ = some (.slice adv ks.length capv) := (hb1.cell (p := ⟨w.heap.size, 1, none⟩) (by simp)).trans (by go_simp); have z1 : w.heap.size < w1.heap.size := (by have q := hb1.size; simp at q; omega); clear hb1))
    have C0 := Lib.hid c0
    clear c0 ad1 ad2 hfi
    go_loopw [3, 18] (fun s i wr => ∃ (k : Nat) (t : List UInt8), k ≤ ks.length ∧ i = .int .i64 k ∧ s = .string (bstr t) ∧ Hid (t = d ++ numsTo (nth ks) k) ∧ Hid (allTo (fun j => inB (nth ks j) 0 11) k = true) ∧ t.length ≤ 24 + 21 * k ∧ Hid (Below w1.heap.size w1 wr)) (fun _ i _ => ks.length - (intOf i).toNat)
    case atStart => exact ⟨0, d, Nat.zero_le _, rfl, rfl, by simp [numsTo, Hid], rfl, by omega, bref _⟩
    case round =>
      obtain ⟨k, t, hk, rfl, rfl, HT, HK, htl, HB⟩ := hrel
      have c0 := (HB.out.cell (p := ⟨w.heap.size, 1, none⟩) z1).trans C0.out
      by_cases hlt : k < ks.length
      · obtain ⟨_, _, _, hv, hc⟩ := HI1.out.below HB.out
        cases hv
        obtain ⟨b1, o2, rfl, e0⟩ := hc k hlt
        clear hc
        cases hik : inB (nth ks k) 0 11 with
        | false =>
          go_wp2_with (first | (go_at_call 54; refine (in_any _ _ _ _).mono ?_; rw [hik]; rintro e w' ⟨rfl, rfl⟩))
          go_ret
          exact ⟨by rw [letterText_k hlt hik]; rfl, bnext B1.out HB.out⟩
        | true =>
          obtain ⟨k0, k1⟩ := inB_le hik
          obtain ⟨c, hcd⟩ : ∃ c, c = Lib.itoa (nth ks k) := ⟨_, rfl⟩
          have hcl : c.length ≤ 20 := by rw [hcd]; exact itoa_len (by omega) (by omega)
          have HC := Lib.hid hcd
          clear hcd
          have hfk : ∀ W : World, Tab W → Calls Tryd.prog 35 #[.int .i64 (nth ks k)] W fun e w' => e = .returned (.string (bstr c)) ∧ Below W.heap.size W w' := fun W t => by rw [HC.out]; exact implFormatInt _ (by omega) (by omega) W t
          obtain ⟨g, hg⟩ : ∃ g, g = (32 : UInt8) :: c := ⟨_, rfl⟩
          have hgl : g.length ≤ 21 := by rw [hg]; simp; omega
          have ad3 : ∀ W : World, (Op.stringOp .add { data := #[32] } (bstr c)).run Tryd.prog W = .ok (.string (bstr g)) W := by rw [hg]; exact add_at [32] c _ rfl (by simp; omega)
          obtain ⟨q, hq⟩ : ∃ q, q = t ++ g := ⟨_, rfl⟩
          have hql : q.length ≤ 24 + 21 * (k + 1) := by rw [hq, hg]; simp; omega
          have ad4 : ∀ W : World, (Op.stringOp .add (bstr t) (bstr g)).run Tryd.prog W = .ok (.string (bstr q)) W := by rw [hq]; exact add_at _ _ _ rfl (by omega)
          have HT' : Hid (q = d ++ numsTo (nth ks) (k + 1)) := Lib.hid (by rw [hq, hg]; simp only [numsTo]; rw [← HC.out, ← List.append_assoc d, ← HT.out]; try rfl)
          have HK' : Hid (allTo (fun j => inB (nth ks j) 0 11) (k + 1) = true) := allTo_of fun j hj => by
            rcases Nat.lt_or_ge j k with z | z
            · exact allTo_at HK.out z
            · obtain rfl : j = k := by omega
              exact hik
          have hB := bnext B1.out HB.out
          clear hg hq
          go_wp2_with (first | (go_at_call 54; refine (in_any _ _ _ _).mono ?_; rw [hik]; rintro e w' ⟨rfl, rfl⟩) | (go_at_call 35; refine (hfk _ (ht.below hB)).mono ?_; rintro e w2 ⟨rfl, hb2⟩; have HB2 := Lib.hid (bnext HB.out hb2); clear hb2))
          go_roundw
          case rel => exact ⟨k + 1, q, by omega, by go_num, rfl, HT', HK', hql, HB2.out⟩
          case measure => simp [intOf]; omega
      · obtain rfl : k = ks.length := by omega
        have e := letterText_t hin HK.out
        have HE : Hid (letterText o ks = t) := by rw [e, ← HD.out]; exact HT.out.symm
        clear e
        go_wp2_with fail
        go_ret
        exact ⟨by rw [HE.out]; rfl, bnext B1.out HB.out⟩

set_option maxRecDepth 100000 in
set_option maxHeartbeats 2000000 in
theorem specLetterText (o : Int) (v : Value) (ks : List Int) (w : World) (h : Ints w v ks) (h20 : ks.length ≤ 1048576) : Calls Tryd.prog 15 #[.agg #[.int .i64 o, v]] w fun e w' => e = .returned (.string (bstr (letterText o ks))) ∧ Below w.heap.size w w' := by
  obtain ⟨hl, adv, capv, rfl, hc⟩ := h
  have hI : Ints w (.slice adv ks.length capv) ks := ⟨hl, adv, capv, rfl, hc⟩
  clear hc
  have HI := Lib.hid (hI.alloc (.cells #[.int .i64 o, .slice adv ks.length capv] 34))
  have B0 := Lib.hid (balloc (bref w) (.cells #[.int .i64 o, .slice adv ks.length capv] 34))
  clear hI
  cases hin : inB o 0 20 with
  | false =>
    go_enter Tryd.func15, Tryd.ntmps15
    go_wp2_with (first | (go_at_call 52; refine (l01In_any _ _ _ _).mono ?_; rw [hin]; rintro e w' ⟨rfl, rfl⟩))
    go_ret
    exact ⟨by rw [letterText_o hin]; rfl, B0.out⟩
  | true =>
    obtain ⟨o0, o1⟩ := inB_le hin
    obtain ⟨a, ha⟩ : ∃ a, a = Lib.itoa o := ⟨_, rfl⟩
    have hal : a.length ≤ 20 := by rw [ha]; exact itoa_len (by omega) (by omega)
    have ad1 := add_at (P := Tryd.prog) [116, 111, 32] a { data := #[116, 111, 32] } rfl (by simp; omega)
    obtain ⟨b, hb⟩ : ∃ b, b = [116, 111, 32] ++ a := ⟨_, rfl⟩
    have hbl : b.length ≤ 23 := by rw [hb]; simp; omega
    have ad2 := add_to (P := Tryd.prog) b [58] { data := #[58] } rfl (by simp; omega)
    obtain ⟨d, hd⟩ : ∃ d, d = b ++ [58] := ⟨_, rfl⟩
    have hdl : d.length ≤ 24 := by rw [hd]; simp; omega
    rw [← hd] at ad2
    rw [← hb] at ad1
    have HD : Hid (d = [116, 111, 32] ++ Lib.itoa o ++ [58]) := by rw [hd, hb, ha]; rfl
    have HA := Lib.hid ha
    clear hd hb ha
    go_enter Tryd.func15, Tryd.ntmps15
    have hfi : ∀ W : World, Calls Tryd.prog 49 #[.int .i64 o] W fun e w' => e = .returned (.string (bstr a)) ∧ Below W.heap.size W w' := fun W => by rw [HA.out]; exact specFormatInt o (by omega) (by omega) W
    go_wp2_with (first | (go_at_call 52; refine (l01In_any _ _ _ _).mono ?_; rw [hin]; rintro e w' ⟨rfl, rfl⟩) | (go_at_call 49; refine (hfi _).mono ?_; rintro e w1 ⟨rfl, hb1⟩; have HI1 := Lib.hid (HI.out.below hb1); have B1 := Lib.hid (bnext B0.out hb1); have c0 : w1.cell? ⟨w.heap.size, 1, none⟩ = some (.slice adv ks.length capv) := (hb1.cell (p := ⟨w.heap.size, 1, none⟩) (by simp)).trans (by go_simp); have z1 : w.heap.size < w1.heap.size := (by have q := hb1.size; simp at q; omega); clear hb1))
    have C0 := Lib.hid c0
    clear c0 ad1 ad2 hfi
    go_loopw [3, 4] (fun s i wr => ∃ (k : Nat) (t : List UInt8), k ≤ ks.length ∧ i = .int .i64 k ∧ s = .string (bstr t) ∧ Hid (t = d ++ numsTo (nth ks) k) ∧ Hid (allTo (fun j => inB (nth ks j) 0 11) k = true) ∧ t.length ≤ 24 + 21 * k ∧ Hid (Below w1.heap.size w1 wr)) (fun _ i _ => ks.length - (intOf i).toNat)
    case atStart => exact ⟨0, d, Nat.zero_le _, rfl, rfl, by simp [numsTo, Hid], rfl, by omega, bref _⟩
    case round =>
      obtain ⟨k, t, hk, rfl, rfl, HT, HK, htl, HB⟩ := hrel
      have c0 := (HB.out.cell (p := ⟨w.heap.size, 1, none⟩) z1).trans C0.out
      by_cases hlt : k < ks.length
      · obtain ⟨_, _, _, hv, hc⟩ := HI1.out.below HB.out
        cases hv
        obtain ⟨b1, o2, rfl, e0⟩ := hc k hlt
        clear hc
        cases hik : inB (nth ks k) 0 11 with
        | false =>
          go_wp2_with (first | (go_at_call 52; refine (l01In_any _ _ _ _).mono ?_; rw [hik]; rintro e w' ⟨rfl, rfl⟩))
          go_ret
          exact ⟨by rw [letterText_k hlt hik]; rfl, bnext B1.out HB.out⟩
        | true =>
          obtain ⟨k0, k1⟩ := inB_le hik
          obtain ⟨c, hcd⟩ : ∃ c, c = Lib.itoa (nth ks k) := ⟨_, rfl⟩
          have hcl : c.length ≤ 20 := by rw [hcd]; exact itoa_len (by omega) (by omega)
          have HC := Lib.hid hcd
          clear hcd
          have hfk : ∀ W : World, Calls Tryd.prog 49 #[.int .i64 (nth ks k)] W fun e w' => e = .returned (.string (bstr c)) ∧ Below W.heap.size W w' := fun W => by rw [HC.out]; exact specFormatInt _ (by omega) (by omega) W
          obtain ⟨g, hg⟩ : ∃ g, g = t ++ [32] := ⟨_, rfl⟩
          have hgl : g.length ≤ 25 + 21 * k := by rw [hg]; simp; omega
          have ad3 : ∀ W : World, (Op.stringOp .add (bstr t) { data := #[32] }).run Tryd.prog W = .ok (.string (bstr g)) W := by rw [hg]; exact add_to t [32] _ rfl (by simp; omega)
          obtain ⟨q, hq⟩ : ∃ q, q = g ++ c := ⟨_, rfl⟩
          have hql : q.length ≤ 24 + 21 * (k + 1) := by rw [hq, hg]; simp; omega
          have ad4 : ∀ W : World, (Op.stringOp .add (bstr g) (bstr c)).run Tryd.prog W = .ok (.string (bstr q)) W := by rw [hq]; exact add_at _ _ _ rfl (by omega)
          have HT' : Hid (q = d ++ numsTo (nth ks) (k + 1)) := Lib.hid (by rw [hq, hg]; simp only [numsTo]; rw [← HC.out, ← List.append_assoc d, ← HT.out]; simp)
          have HK' : Hid (allTo (fun j => inB (nth ks j) 0 11) (k + 1) = true) := allTo_of fun j hj => by
            rcases Nat.lt_or_ge j k with z | z
            · exact allTo_at HK.out z
            · obtain rfl : j = k := by omega
              exact hik
          have hB := bnext B1.out HB.out
          clear hg hq
          go_wp2_with (first | (go_at_call 52; refine (l01In_any _ _ _ _).mono ?_; rw [hik]; rintro e w' ⟨rfl, rfl⟩) | (go_at_call 49; refine (hfk _).mono ?_; rintro e w2 ⟨rfl, hb2⟩; have HB2 := Lib.hid (bnext HB.out hb2); clear hb2))
          go_roundw
          case rel => exact ⟨k + 1, q, by omega, by go_num, rfl, HT', HK', hql, HB2.out⟩
          case measure => simp [intOf]; omega
      · obtain rfl : k = ks.length := by omega
        have e := letterText_t hin HK.out
        have HE : Hid (letterText o ks = t) := by rw [e, ← HD.out]; exact HT.out.symm
        clear e
        go_wp2_with fail
        go_ret
        exact ⟨by rw [HE.out]; rfl, bnext B1.out HB.out⟩
end Go.Proofs.YtdeongecbmjkjaaDoor
