/- The walks of the greatest delay and of CanBeInTime, in the program and in the reference. -/
import Derived.Test.YtdchgbhhlocmdaaTimeFn
import Derived.Test.YtdchgbhhlocmdaaDueOrder
import Derived.Test.YtdchgbhhlocmdaaL31Has
namespace Go.Proofs.Ytdchgbhhlocmdaa
open Go.ChangeShapes Go.WideShapes Go.ChangeAt Go.RowKit

theorem due_at {w : World} {ad : Option Addr} {n cap : Nat} {xs : List Int} (h : Recs 2 w (.slice ad n cap) n xs) {k : Nat} (hk : k < n) : ∃ b o, ad = some ⟨b, o, none⟩ ∧ w.cell? ⟨b, o + k * 2, none⟩ = some (.int .i64 (dueV xs k)) ∧ w.cell? ⟨b, o + k * 2 + 1, none⟩ = some (.int .i64 (dayV xs k)) := by
  obtain ⟨_, he, ad', cap', hv, hc⟩ := h
  cases hv
  obtain ⟨b, o, rfl, e0, e1, _⟩ := atVisit (w := w) he hc k hk
  exact ⟨b, o, rfl, e0, e1⟩
set_option maxHeartbeats 1000000 in
theorem delay_any (v : Value) (n : Nat) (xs : List Int) (u : Value) (L : List Int) (w : World) (h : Recs 2 w v n xs) (hL : Ints w u L) (hv : visitsOk n xs = true) (hR : InR n L) (hl : L.length ≤ 1000) :
    Calls Try.prog 67 #[v, u] w fun e w' => e = .returned (.int .i64 (delayL xs L)) ∧ w = w' := by
  obtain ⟨adv, capv, rfl⟩ : ∃ ad cap, v = .slice ad n cap := by obtain ⟨_, _, ad, cap, hh, _⟩ := h; exact ⟨ad, cap, hh⟩
  have hn12 := visitsOk_n hv
  have HB := Lib.hid (delayD_bd hv hR)
  have HV := Lib.hid (fun k hk => visitsOk_at hv (k := k) hk)
  obtain ⟨_, adu, capu, rfl, hc⟩ := hL
  go_enter Try.func67, Try.ntmps67
  go_wp2
  go_loop [5, 6, 11] (fun a d i => ∃ k : Nat, k ≤ L.length ∧ i = .int .i64 k ∧ d = .int .i64 (delayD xs L k).1 ∧ a = .int .i64 (delayD xs L k).2) (fun _ _ i => L.length - (intOf i).toNat)
  case atStart => exact ⟨0, Nat.zero_le _, rfl, rfl, rfl⟩
  case round =>
    obtain ⟨k, hk, rfl, rfl, rfl⟩ := hrel
    by_cases hlt : k < L.length
    · obtain ⟨b, o, rfl, e0⟩ := hc k hlt
      obtain ⟨r1, r2⟩ := hR k hlt
      have r3 : (nth L k).toNat < n := by omega
      obtain ⟨lb, lo, rfl, g0, g1⟩ := due_at h r3
      obtain ⟨d1, d2, d3, d4⟩ := HB.out k hk
      obtain ⟨p1, p2, p3, p4⟩ := HV.out _ r3
      have H1 := Lib.hid (show (delayD xs L (k + 1)).1 = (delayD xs L k).1 + dayV xs (nth L k).toNat from rfl)
      have H2 := Lib.hid (show (delayD xs L (k + 1)).2 = max (delayD xs L k).2 ((delayD xs L k).1 + dayV xs (nth L k).toNat - dueV xs (nth L k).toNat) from rfl)
      clear hc hR
      go_wp2
      go_round
      case rel => exact ⟨k + 1, by omega, by go_num, by rw [H1.out], by rw [H2.out]⟩
      case measure => simp [intOf]; omega
    · obtain rfl : k = L.length := by omega
      clear hc hR
      go_wp2
      go_ret
      exact ⟨rfl, rfl⟩

set_option maxHeartbeats 1000000 in
theorem implCanBeInTime (v : Value) (n : Nat) (xs : List Int) (w : World) (h : Recs 2 w v n xs) : Calls Try.prog 22 #[v] w fun e w' => e = .returned (.bool (canBe n xs)) ∧ Below w.heap.size w w' := by
  obtain ⟨adv, capv, rfl⟩ : ∃ ad cap, v = .slice ad n cap := by obtain ⟨_, _, ad, cap, hh, _⟩ := h; exact ⟨ad, cap, hh⟩
  cases h1 : visitsOk n xs with
  | false =>
    have HX := Lib.hid (canBe_f h1)
    go_enter Try.func22, Try.ntmps22
    go_wp2_with (first | (go_at_call 30; refine (implVisitsOk _ n xs _ h).mono ?_; rw [h1]; rintro e w1 ⟨rfl, hb1⟩))
    go_ret
    exact ⟨by rw [HX.out]; rfl, hb1⟩
  | true =>
    have HX := Lib.hid (canBe_t h1)
    have hn12 := visitsOk_n h1
    have hdl := dueP_len n xs
    have HDI := Lib.hid (dueP_in n xs)
    have HDO := Lib.hid (dueOrder_t h1)
    go_enter Try.func22, Try.ntmps22
    go_wp2_with (first | (go_at_call 30; refine (implVisitsOk _ n xs _ h).mono ?_; rw [h1]; rintro e w1 ⟨rfl, hb1⟩; have hr1 := h.below hb1) | (go_at_call 15; refine (implDueOrder _ n xs _ hr1).mono ?_; rintro e w2 ⟨u, rfl, hown, hb2⟩; rw [HDO.out] at hown; have hr2 := hr1.below hb2; have hi2 := Ints.of_own hown (by omega); clear hown) | (go_at_call 67; refine (delay_any _ n xs u (dueP n xs) _ hr2 hi2 h1 HDI.out (by omega)).mono ?_; rintro e w3 ⟨rfl, rfl⟩))
    go_ret
    exact ⟨by rw [HX.out]; rfl, bnext hb1 hb2⟩

theorem quiet_has {P : Program} {f : FuncId} {args : Array Value} {w : World} {n : Nat} {v : Value} (h : Calls P f args (w.drewN n) fun e w' => e = .returned v ∧ w.drewN n = w') : Calls P f args (w.drewN n) fun e w'' => e = .returned v ∧ ∃ m, w'' = w.drewN m :=
  h.mono fun _ _ ⟨he, hm⟩ => ⟨he, n, hm.symm⟩
theorem quiet_has_add {P : Program} {f : FuncId} {args : Array Value} {w : World} {a n : Nat} {v : Value} (h : Calls P f args (w.drewN (a + n)) fun e w' => e = .returned v ∧ w.drewN (a + n) = w') :
    Calls P f args (w.drewN (a + n)) fun e w'' => e = .returned v ∧ ∃ m, w'' = w.drewN (a + m) :=
  h.mono fun _ _ ⟨he, hm⟩ => ⟨he, n, hm.symm⟩
theorem ints_take {w : World} {g : Nat} {cap c : Nat} {L : List Int} (h : Ints w (.slice (some ⟨g, 0, none⟩) L.length cap) L) (k : Nat) (hk : k ≤ L.length) : Ints w (.slice (some ⟨g, 0, none⟩) k c) (L.take k) := by
  obtain ⟨hl, ad, cap', hv, hc⟩ := h
  cases hv
  have e : (L.take k).length = k := by simp; omega
  refine ⟨by omega, some ⟨g, 0, none⟩, c, by rw [e], fun i hi => ?_⟩
  rw [e] at hi
  obtain ⟨b, o, h1, h2⟩ := hc i (by omega)
  cases h1
  refine ⟨g, 0, rfl, ?_⟩
  rw [h2]
  simp [nth, hi]
set_option maxRecDepth 100000 in
set_option maxHeartbeats 600000 in
theorem specGreatestDelay (v : Value) (n : Nat) (xs : List Int) (B : Nat) (u : Value) (L : List Int) (w : World) (h : Recs 2 w v n xs) (hown : w.ownsRow B 3 1 u L.length (L.map (Value.int .i64))) (hv : visitsOk n xs = true) (hR : InR n L) (hl : L.length = n) (hnd : L.Nodup) :
    Calls Try.prog 66 #[v, u] w fun e w' => e = .returned (.int .i64 (delayL xs L)) ∧ Below w.heap.size w w' := by
  obtain ⟨adv, capv, rfl⟩ : ∃ ad cap, v = .slice ad n cap := by obtain ⟨_, _, ad, cap, hh, _⟩ := h; exact ⟨ad, cap, hh⟩
  obtain ⟨adu, capu, rfl⟩ := own_form hown
  have hn12 := visitsOk_n hv
  have HB := Lib.hid (delayD_bd hv hR)
  have HV := Lib.hid (fun k hk => visitsOk_at hv (k := k) hk)
  have hL := Ints.of_own hown (by omega)
  have HN := Lib.hid (show ∀ k, k < L.length → ¬ nth L k ∈ L.take k from fun k hk hm => by
    obtain ⟨i, hi, e⟩ := List.getElem_of_mem hm
    simp at hi e
    have hq := (List.pairwise_iff_getElem.1 hnd) i k (by omega) hk (by omega)
    exact hq (by rw [e]; simp [nth, hk]))
  have hne : ((L.length : Int) != (n : Int)) = false := by rw [hl]; simp
  go_enter Try.func66, Try.ntmps66
  go_wp2_with (first | (go_at_call 61; refine (specVisitsOk _ n xs _ h).mono ?_; rw [hv]; rintro e w1 ⟨rfl, hb1⟩; have hr1 := h.below hb1; have hi1 := hL.below hb1; have ho1 := own_below hown hb1))
  go_loopw [5, 6, 7] (fun d a i wr => ∃ k : Nat, k ≤ L.length ∧ i = .int .i64 k ∧ d = .int .i64 (delayD xs L k).1 ∧ a = .int .i64 (delayD xs L k).2 ∧ Below w1.heap.size w1 wr) (fun _ _ i _ => L.length - (intOf i).toNat)
  case atStart => exact ⟨0, Nat.zero_le _, rfl, rfl, rfl, bref _⟩
  case round =>
    obtain ⟨k, hk, rfl, rfl, rfl, hbel⟩ := hrel
    by_cases hlt : k < L.length
    · obtain ⟨g, rfl, hcap⟩ : ∃ g, adu = some ⟨g, 0, none⟩ ∧ L.length ≤ capu := by
        rcases hown.2 with ⟨_, q⟩ | ⟨g, c, cur, hv, hb, _, hc1, _⟩
        · omega
        · cases hv; exact ⟨g, rfl, hc1⟩
      have hkc : k ≤ capu := by omega
      have hkc2 : (k : Int) ≤ (capu : Int) := by omega
      have hir := hi1.below hbel
      have hin := Lib.hid hir
      obtain ⟨_, ad2, cap2, hh, hc⟩ := hir
      cases hh
      obtain ⟨b, o, hb0, e0⟩ := hc k hlt
      cases hb0
      rw [Nat.zero_add] at e0
      obtain ⟨r1, r2⟩ := hR k hlt
      have r3 : (nth L k).toNat < n := by omega
      obtain ⟨lb, lo, rfl, g0, g1⟩ := due_at (hr1.below hbel) r3
      obtain ⟨d1, d2, d3, d4⟩ := HB.out k hk
      obtain ⟨p1, p2, p3, p4⟩ := HV.out _ r3
      have H1 := Lib.hid (show (delayD xs L (k + 1)).1 = (delayD xs L k).1 + dayV xs (nth L k).toNat from rfl)
      have H2 := Lib.hid (show (delayD xs L (k + 1)).2 = max (delayD xs L k).2 ((delayD xs L k).1 + dayV xs (nth L k).toNat - dueV xs (nth L k).toNat) from rfl)
      have hnm := HN.out k hlt
      have hwr : IntKind.i64.wrap ((n : Int) - 1) = (n : Int) - 1 := by rw [IntKind.wrap_i64]; omega
      have hib : inB (nth L k) 0 ((n : Int) - 1) = true := by simp [inB]; omega
      clear hc hR hi1 ho1 hL hown hr1 h
      have HHS := Lib.hid (show ∀ (m c : Nat), Calls Try.prog 73 #[.slice (some ⟨g, 0, none⟩) k c, .int .i64 (nth L k)] (wr.drewN m) fun e w' => e = .returned (.bool false) ∧ wr.drewN m = w' from fun m c => by
        have := l31Has_any _ (L.take k) (nth L k) (wr.drewN m) (ints_take (c := c) (hin.out.drewN m) k hk)
        rw [decide_eq_false hnm] at this
        exact this)
      go_wp2_with fail
      go_quiet ((first | (go_at_call 77; first | exact quiet_has (l01In_any _ _ _ _) | exact quiet_has_add (l01In_any _ _ _ _)) | (go_at_call 73; first | exact quiet_has (HHS.out _ _) | exact quiet_has_add (HHS.out _ _))))
      go_wp2
      go_roundw
      case rel => exact ⟨k + 1, by omega, by go_num, by rw [H1.out], by rw [H2.out], bdrewN hbel _⟩
      case measure => simp [intOf]; omega
    · obtain rfl : k = L.length := by omega
      have HW := Lib.hid (bnext hb1 hbel)
      clear hR
      go_wp2
      go_ret
      exact ⟨rfl, HW.out⟩

set_option maxHeartbeats 1000000 in
theorem specCanBeInTime (v : Value) (n : Nat) (xs : List Int) (w : World) (h : Recs 2 w v n xs) : Calls Try.prog 21 #[v] w fun e w' => e = .returned (.bool (canBe n xs)) ∧ Below w.heap.size w w' := by
  obtain ⟨adv, capv, rfl⟩ : ∃ ad cap, v = .slice ad n cap := by obtain ⟨_, _, ad, cap, hh, _⟩ := h; exact ⟨ad, cap, hh⟩
  cases h1 : visitsOk n xs with
  | false =>
    have HX := Lib.hid (canBe_f h1)
    go_enter Try.func21, Try.ntmps21
    go_wp2_with (first | (go_at_call 61; refine (specVisitsOk _ n xs _ h).mono ?_; rw [h1]; rintro e w1 ⟨rfl, hb1⟩))
    go_ret
    exact ⟨by rw [HX.out]; rfl, hb1⟩
  | true =>
    have HX := Lib.hid (canBe_t h1)
    have hdl := dueP_len n xs
    have HDI := Lib.hid (dueP_in n xs)
    have HDO := Lib.hid (dueOrder_t h1)
    have HND := Lib.hid (show (dueP n xs).Nodup from (dueP_perm n xs).nodup_iff.2 (rangeI_nodup n))
    go_enter Try.func21, Try.ntmps21
    go_wp2_with (first | (go_at_call 61; refine (specVisitsOk _ n xs _ h).mono ?_; rw [h1]; rintro e w1 ⟨rfl, hb1⟩; have hr1 := h.below hb1) | (go_at_call 13; refine (specDueOrder _ n xs _ hr1).mono ?_; rintro e w2 ⟨u, rfl, hown, hb2⟩; rw [HDO.out] at hown; have hr2 := hr1.below hb2) | (go_at_call 66; refine (specGreatestDelay _ n xs _ u (dueP n xs) _ hr2 hown h1 HDI.out hdl HND.out).mono ?_; rintro e w3 ⟨rfl, hb3⟩))
    go_ret
    exact ⟨by rw [HX.out]; rfl, bnext (bnext hb1 hb2) hb3⟩
end Go.Proofs.Ytdchgbhhlocmdaa
