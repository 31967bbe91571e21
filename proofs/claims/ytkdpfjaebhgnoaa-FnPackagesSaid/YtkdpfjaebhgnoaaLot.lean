/- The walks of LotOk, in the program and in the reference, and of the laws' helpers on lots. -/
import Derived.Test.YtkdpfjaebhgnoaaScalar
import Derived.Test.YtkdpfjaebhgnoaaIntS
import Derived.BigGuardPart
namespace Go.Proofs.Ytkdpfjaebhgnoaa
open Go.ChangeShapes Go.WideShapes Go.ChangeAt Go.RowKit

def lotOk (nm : Int) (xs : List Int) : Bool := inB nm 10 10000 && inB xs.length 1 30 && xs.all (fun c => inB c 0 20000)
theorem lotOk_nm {nm : Int} {xs : List Int} (h : inB nm 10 10000 = false) : lotOk nm xs = false := by simp [lotOk, h]
theorem lotOk_len {nm : Int} {xs : List Int} (h : inB xs.length 1 30 = false) : lotOk nm xs = false := by simp [lotOk, h]
theorem lotOk_at {nm : Int} {xs : List Int} {k : Nat} (hk : k < xs.length) (h : inB (nth xs k) 0 20000 = false) : lotOk nm xs = false := by
  have : xs.all (fun c => inB c 0 20000) = false := by rw [List.all_eq_false]; exact ⟨_, nth_mem xs k hk, by simp [h]⟩
  simp [lotOk, this]
theorem all_take {p : Int → Bool} {xs : List Int} {k : Nat} (hk : k < xs.length) (h : (xs.take k).all p = true) (h1 : p (nth xs k) = true) : (xs.take (k + 1)).all p = true := by
  rw [take_nth xs k hk]; simp [h, h1]

theorem implLotOk_any (nm : Int) (v : Value) (xs : List Int) (w : World) (h : Ints w v xs) : Calls Try.prog 75 #[.agg #[.int .i64 nm, v]] w fun e w' =>
    e = .returned (.bool (lotOk nm xs)) ∧ Below w.heap.size w w' := by
  obtain ⟨hl, ad, cap, rfl, hc⟩ := h
  cases h1 : inB nm 10 10000 with
  | false =>
    have H := Lib.hid (lotOk_nm (xs := xs) h1)
    clear hc
    go_enter Try.func75, Try.ntmps75
    go_wp2_with (go_at_call 64; refine (in_any _ _ _ _).mono ?_; rintro e w' ⟨rfl, rfl⟩)
    go_ret
    exact ⟨ret_bool H.out.symm, balloc (bref _) _⟩
  | true =>
    cases h2 : inB xs.length 1 30 with
    | false =>
      have H := Lib.hid (lotOk_len (nm := nm) h2)
      clear hc
      go_enter Try.func75, Try.ntmps75
      go_wp2_with (go_at_call 64; refine (in_any _ _ _ _).mono ?_; rintro e w' ⟨rfl, rfl⟩)
      go_ret
      exact ⟨ret_bool H.out.symm, balloc (bref _) _⟩
    | true =>
      have H := Lib.hid (show lotOk nm xs = xs.all (fun c => inB c 0 20000) by simp [lotOk, h1, h2])
      go_enter Try.func75, Try.ntmps75
      go_wp2_with (go_at_call 64; refine (in_any _ _ _ _).mono ?_; rintro e w' ⟨rfl, rfl⟩)
      go_loop [4, 19] (fun _ i => ∃ k : Nat, k ≤ xs.length ∧ i = .int .i64 k ∧ Hid ((xs.take k).all (fun c => inB c 0 20000) = true)) (fun _ i => xs.length - (intOf i).toNat)
      case atStart => exact ⟨0, Nat.zero_le _, rfl, rfl⟩
      case round =>
        obtain ⟨k, hk, rfl, hx⟩ := hrel
        by_cases hlt : k < xs.length
        · obtain ⟨b, o, rfl, hcell⟩ := hc k hlt
          clear hc
          have hb := World.block_lt_of_cell? w _ hcell
          cases h3 : inB (nth xs k) 0 20000 with
          | false =>
            have H2 := Lib.hid (lotOk_at (nm := nm) hlt h3)
            go_wp2_with (go_at_call 64; refine (in_any _ _ _ _).mono ?_; rintro e w' ⟨rfl, rfl⟩)
            go_ret
            exact ⟨ret_bool H2.out.symm, balloc (bref _) _⟩
          | true =>
            have H2 := Lib.hid (all_take hlt hx.out h3)
            go_wp2_with (go_at_call 64; refine (in_any _ _ _ _).mono ?_; rintro e w' ⟨rfl, rfl⟩)
            go_round
            case rel => exact ⟨k + 1, by omega, by go_num, H2.out⟩
            case measure => simp [intOf]; omega
        · have H3 := Lib.hid (show lotOk nm xs = true by rw [H.out]; have := hx.out; rwa [List.take_of_length_le (by omega)] at this)
          clear hc
          go_wp2
          go_ret
          exact ⟨ret_bool H3.out.symm, balloc (bref _) _⟩

theorem specLotOk_any (nm : Int) (v : Value) (xs : List Int) (w : World) (h : Ints w v xs) : Calls Try.prog 73 #[.agg #[.int .i64 nm, v]] w fun e w' =>
    e = .returned (.bool (lotOk nm xs)) ∧ Below w.heap.size w w' := by
  obtain ⟨hl, ad, cap, rfl, hc⟩ := h
  go_enter Try.func73, Try.ntmps73
  go_wp2_with fail
  go_loop [3] (fun i => ∃ k : Nat, k ≤ xs.length ∧ i = .int .i64 k ∧ Hid ((xs.take k).all (fun c => inB c 0 20000) = true)) (fun i => xs.length - (intOf i).toNat)
  case atStart => exact ⟨0, Nat.zero_le _, rfl, rfl⟩
  case round =>
    obtain ⟨k, hk, rfl, hx⟩ := hrel
    by_cases hlt : k < xs.length
    · obtain ⟨b, o, rfl, hcell⟩ := hc k hlt
      clear hc
      have hb := World.block_lt_of_cell? w _ hcell
      cases h3 : inB (nth xs k) 0 20000 with
      | false =>
        have H2 := Lib.hid (lotOk_at (nm := nm) hlt h3)
        go_wp2_with (go_at_call 60; refine (l01In_any _ _ _ _).mono ?_; rintro e w' ⟨rfl, rfl⟩)
        go_ret
        exact ⟨ret_bool H2.out.symm, balloc (bref _) _⟩
      | true =>
        have H2 := Lib.hid (all_take hlt hx.out h3)
        go_wp2_with (go_at_call 60; refine (l01In_any _ _ _ _).mono ?_; rintro e w' ⟨rfl, rfl⟩)
        go_round
        case rel => exact ⟨k + 1, by omega, by go_num, H2.out⟩
        case measure => simp [intOf]; omega
    · have hall := hx.out
      rw [List.take_of_length_le (by omega)] at hall
      have H := Lib.hid (show lotOk nm xs = (inB nm 10 10000 && inB xs.length 1 30) by simp [lotOk, hall])
      clear hc hall
      go_wp2_with (go_at_call 60; refine (l01In_any _ _ _ _).mono ?_; rintro e w' ⟨rfl, rfl⟩)
      all_goals
        go_ret
        exact ⟨ret_bool (by rw [H.out]; simp_all), balloc (bref _) _⟩

theorem szLot_any (nm : Int) (v : Value) (xs : List Int) (left : Int) (w : World) (h : Ints w v xs) (h0 : 0 ≤ left) (h1 : left ≤ 1048576) :
    Calls Try.prog 35 #[.agg #[.int .i64 nm, v], .int .i64 left] w fun e w' => e = .returned (.int .i64 (if left < xs.length then -1 else left - xs.length)) ∧ Below w.heap.size w w' := by
  have hI := h.alloc (.cells #[.int .i64 nm, v] 44)
  by_cases hlt : left < xs.length
  all_goals
    go_enter Try.func35, Try.ntmps35
    go_wp2_with (go_at_call 72; refine (szIntS_any _ _ _ _ hI h0 h1).mono ?_; rintro e w' ⟨rfl, rfl⟩)
    all_goals
      go_ret
      exact ⟨ret_int (by first | rfl | (split <;> omega)), balloc (bref _) _⟩

theorem toLot_any (nm : Int) (v : Value) (xs : List Int) (w : World) (h : Ints w v xs) (h20 : xs.length ≤ 17592186043904) :
    Calls Try.prog 37 #[.agg #[.int .i64 nm, v]] w fun e w' => ∃ g : Nat, e = .returned (.agg #[.int .i64 nm, .slice (some ⟨g, 0, none⟩) xs.length xs.length]) ∧ w'.ownsRow w.heap.size 3 1 (.slice (some ⟨g, 0, none⟩) xs.length xs.length) xs.length (xs.map (Value.int .i64)) ∧ Below w.heap.size w w' := by
  go_enter Try.func37, Try.ntmps37
  go_wp2_with fail
  refine (toIntS_any _ _ _ (((h.alloc _).alloc _).alloc _) h20).mono ?_
  rintro e w1 ⟨rfl, hown, hb1⟩
  have c1 := below_cell hb1
  have f1 := below_frozen hb1
  have z1 := hb1.size
  simp at z1
  have HO := Lib.hid hown
  clear hown
  have HB := Lib.hid hb1
  clear hb1
  go_wp2
  refine bodyPost_ret (v := .agg #[.int .i64 nm, .slice (some ⟨w.heap.size + 1 + 1 + 1, 0, none⟩) xs.length xs.length]) (by simp [results, Try.results37, go_sem, c1]) rfl ?_
  have hO : w1.ownsRow w.heap.size 3 1 (.slice (some ⟨w.heap.size + 1 + 1 + 1, 0, none⟩) xs.length xs.length) xs.length (xs.map (Value.int .i64)) := by
    have := own_base (B' := w.heap.size) HO.out (by simp; omega)
    simpa using this
  refine ⟨_, rfl, own_set (own_set (own_set hO (ob_ne (by omega)) _) (ob_ne (by omega)) _) (ob_ne (by omega)) _, ?_⟩
  exact bset (bset (bset (bnext (balloc (balloc (balloc (bref _) _) _) _) HB.out) (by simp; omega) _) (by simp) _) (by simp) _

theorem eqLot_any (n1 n2 : Int) (a b : Value) (xs ys : List Int) (w : World) (ha : Ints w a xs) (hb : Ints w b ys) :
    Calls Try.prog 39 #[.agg #[.int .i64 n1, a], .agg #[.int .i64 n2, b]] w fun e w' => e = .returned (.bool (decide (n1 = n2) && decide (xs = ys))) ∧ Below w.heap.size w w' := by
  have hA := (ha.alloc (.cells #[.int .i64 n1, a] 47)).alloc (.cells #[.int .i64 n2, b] 47)
  have hB := (hb.alloc (.cells #[.int .i64 n1, a] 47)).alloc (.cells #[.int .i64 n2, b] 47)
  by_cases hn : n1 = n2
  · have hq : (n1 != n2) = false := by simp [hn]
    have HN := Lib.hid hn
    clear hn
    cases hx : decide (xs = ys) with
    | false =>
      go_enter Try.func39, Try.ntmps39
      go_wp2_with (go_at_call 18; refine (eqIntS_any _ _ _ _ _ hA hB).mono ?_; rintro e w' ⟨rfl, m, rfl⟩)
      go_ret
      exact ⟨ret_bool (by simp [HN.out]), bdrewN (balloc (balloc (bref _) _) _) _⟩
    | true =>
      go_enter Try.func39, Try.ntmps39
      go_wp2_with (go_at_call 18; refine (eqIntS_any _ _ _ _ _ hA hB).mono ?_; rintro e w' ⟨rfl, m, rfl⟩)
      go_ret
      exact ⟨ret_bool (by simp [HN.out]), bdrewN (balloc (balloc (bref _) _) _) _⟩
  · have hq : (n1 != n2) = true := by simp [hn]
    go_enter Try.func39, Try.ntmps39
    go_wp2
    go_ret
    exact ⟨ret_bool (by simp [hn]), balloc (balloc (bref _) _) _⟩

end Go.Proofs.Ytkdpfjaebhgnoaa
