/- The text of an act, walked. -/
import Derived.Test.YtlipfkalehikkaaGreatDoorLetText
import Derived.Test.YtlipfkalehikkaaGreatDoorGJ
import Derived.Deep.DeepCutAuto
import Derived.Deep.RegionHeld3
namespace Go.Proofs.YtlipfkalehikkaaGreatDoor
open Go.ChangeShapes Go.WideShapes Go.ChangeAt Go.RowKit

def actWord : Nat → List UInt8
  | 1 => [99, 111, 112, 121]
  | 2 => [100, 97, 121, 115]
  | 3 => [119, 105, 116, 104, 100, 114, 97, 119]
  | 4 => [119, 101, 105, 103, 104, 116]
  | 5 => [100, 105, 102, 102, 101, 114, 101, 110, 99, 101]
  | _ => []
def actCount : Nat → Nat
  | 1 => 4
  | 2 => 1
  | 3 => 2
  | 4 => 1
  | 5 => 2
  | _ => 0
theorem actWord_len (i : Nat) : (actWord i).length ≤ 10 := by unfold actWord; split <;> simp
theorem actCount_le (i : Nat) : actCount i ≤ 4 := by unfold actCount; split <;> omega
def formatAct (k a b c d : Int) : List UInt8 × Bool := if actOk k a b c d = true then (actWord k.toNat ++ spTo (nth [a, b, c, d]) (actCount k.toNat), true) else ([], false)
theorem formatAct_f {k a b c d : Int} (h : actOk k a b c d = false) : formatAct k a b c d = ([], false) := if_neg (by simp [h])
theorem formatAct_t {k a b c d : Int} (h : actOk k a b c d = true) : formatAct k a b c d = (actWord k.toNat ++ spTo (nth [a, b, c, d]) (actCount k.toNat), true) := if_pos h
theorem actOk_bd {k a b c d : Int} (h : actOk k a b c d = true) : 1 ≤ k ∧ k ≤ 5 ∧ 0 ≤ a ∧ a ≤ 10000 ∧ 0 ≤ b ∧ b ≤ 10000 ∧ 0 ≤ c ∧ c ≤ 10000 ∧ 0 ≤ d ∧ d ≤ 10000 := by
  unfold actOk at h
  split at h
  · simp [inB] at h; omega
  · split at h
    · simp [inB] at h; omega
    · split at h
      · simp [inB] at h; omega
      · split at h
        · simp [inB] at h; omega
        · split at h
          · simp [inB] at h; omega
          · cases h
/-- the tables that the program's writing of acts reads -/
structure ActT (w : World) : Prop where
  tab : Tab w
  words : ∀ i, i < 6 → w.cell? ⟨0, i, none⟩ = some (.string (bstr (actWord i)))
  counts : ∀ i, i < 6 → w.cell? ⟨1, i, none⟩ = some (.int .i64 (actCount i))
theorem ActT.below {w w' : World} (h : ActT w) (hb : Below w.heap.size w w') : ActT w' :=
  ⟨h.tab.below hb, fun i hi => (hb.cell (World.block_lt_of_cell? w _ (h.words i hi))).trans (h.words i hi), fun i hi => (hb.cell (World.block_lt_of_cell? w _ (h.counts i hi))).trans (h.counts i hi)⟩
theorem lit_four (w : World) (B : Nat) (a b c d : Int) (hB : B = w.heap.size) : ∀ j, j < 4 → (w.alloc (.cells #[.int .i64 a, .int .i64 b, .int .i64 c, .int .i64 d] 3)).cell? ⟨B, j, none⟩ = some (.int .i64 (nth [a, b, c, d] j)) := by
  subst hB
  intro j hj
  obtain rfl | rfl | rfl | rfl : j = 0 ∨ j = 1 ∨ j = 2 ∨ j = 3 := by omega
  all_goals simp [nth]

set_option maxRecDepth 100000 in
set_option maxHeartbeats 4000000 in
theorem implFormatAct (k a b c d : Int) (w : World) (ht : ActT w) : Calls Tryz.prog 21 #[.agg #[.int .i64 k, .int .i64 a, .int .i64 b, .int .i64 c, .int .i64 d]] w fun e w' => e = .returned (.tuple #[.string (bstr (formatAct k a b c d).1), .bool (formatAct k a b c d).2]) ∧ Below w.heap.size w w' := by
  have B0 := Lib.hid (balloc (bref w) (.cells #[.int .i64 k, .int .i64 a, .int .i64 b, .int .i64 c, .int .i64 d] 49))
  cases hok : actOk k a b c d with
  | false =>
    go_enter Tryz.func21, Tryz.ntmps21
    go_wp2_with (first | (go_at_call 44; refine (implActOk_any _ _ _ _ _ _).mono ?_; rw [hok]; rintro e w1 ⟨rfl, hb1⟩; have HB1 := Lib.hid (bnext B0.out hb1)))
    refine bodyPost_ret (v := .tuple #[.string { data := #[] }, .bool false]) (by simp [results, Tryz.results21, go_sem]) rfl ?_
    exact ⟨by rw [formatAct_f hok]; rfl, HB1.out⟩
  | true =>
    have HF := Lib.hid (formatAct_t hok)
    obtain ⟨k1, k5, a0, a1, b0, b1, c0, c1, d0, d1⟩ := actOk_bd hok
    obtain ⟨κ, rfl⟩ := Int.eq_ofNat_of_zero_le (show 0 ≤ k by omega)
    rw [Int.toNat_natCast] at HF
    have hκ : κ < 6 := by omega
    have hwl := actWord_len κ
    have hml := actCount_le κ
    go_enter Tryz.func21, Tryz.ntmps21
    go_upto_region 3 with (first | (go_at_call 44; refine (implActOk_any _ _ _ _ _ _).mono ?_; rw [hok]; rintro e w1 ⟨rfl, hb1⟩; have HB1 := Lib.hid (bnext B0.out hb1); have z1 : w.heap.size < w1.heap.size := (by have q := hb1.size; simp at q; omega); have x0 : w1.cell? ⟨w.heap.size, 0, none⟩ = some (.int .i64 κ) := (hb1.cell (p := ⟨w.heap.size, 0, none⟩) (by simp)).trans (by go_simp); have x1 : w1.cell? ⟨w.heap.size, 1, none⟩ = some (.int .i64 a) := (hb1.cell (p := ⟨w.heap.size, 1, none⟩) (by simp)).trans (by go_simp); have x2 : w1.cell? ⟨w.heap.size, 2, none⟩ = some (.int .i64 b) := (hb1.cell (p := ⟨w.heap.size, 2, none⟩) (by simp)).trans (by go_simp); have x3 : w1.cell? ⟨w.heap.size, 3, none⟩ = some (.int .i64 c) := (hb1.cell (p := ⟨w.heap.size, 3, none⟩) (by simp)).trans (by go_simp); have x4 : w1.cell? ⟨w.heap.size, 4, none⟩ = some (.int .i64 d) := (hb1.cell (p := ⟨w.heap.size, 4, none⟩) (by simp)).trans (by go_simp); clear hb1))
    have ht1 := ht.below HB1.out
    have hw := ht1.words κ (by omega)
    have hn := ht1.counts κ (by omega)
    have gw := World.block_lt_of_cell? w1 _ hw
    have gn := World.block_lt_of_cell? w1 _ hn
    simp only at gw gn
    generalize hwd : actWord κ = wd at *
    generalize hcn : actCount κ = m at *
    have HT1 := Lib.hid ht1
    clear ht1 ht
    have i0 : (0 : Int) ≤ (κ : Int) := by omega
    have i1 : (κ : Int) < 6 := by omega
    have i2 : (0 : Int) ≤ (m : Int) := by omega
    have i3 : (m : Int) ≤ 4 := by omega
    have i4 : ¬ (κ : Int) < 0 := by omega
    have i5 : ¬ (6 : Int) ≤ (κ : Int) := by omega
    have i6 : ¬ (m : Int) < 0 := by omega
    have i7 : ¬ (4 : Int) < (m : Int) := by omega
    go_upto_region 4 with fail
    go_region_held3 (fun w' => w'.cell? ⟨w.heap.size, 0, none⟩ = some (.int .i64 κ) ∧ w'.cell? ⟨w.heap.size, 1, none⟩ = some (.int .i64 a) ∧ w'.cell? ⟨w.heap.size, 2, none⟩ = some (.int .i64 b) ∧ w'.cell? ⟨w.heap.size, 3, none⟩ = some (.int .i64 c) ∧ w'.cell? ⟨w.heap.size, 4, none⟩ = some (.int .i64 d) ∧ w'.cell? ⟨1, κ, none⟩ = some (.int .i64 m))
      (refine ⟨?_, ?_, ?_, ?_, ?_, ?_⟩ <;> go_simp)
      (first | fail "no call")
    have E0 := Lib.hid (lit_four w1.drew w1.heap.size a b c d (by simp))
    have B2 := Lib.hid (balloc (bdrew (bref w1)) (.cells #[.int .i64 a, .int .i64 b, .int .i64 c, .int .i64 d] 3))
    have T2 := Lib.hid (HT1.out.tab.below B2.out)
    have KB : Hid (∀ j, j < 4 → 0 ≤ nth [a, b, c, d] j ∧ nth [a, b, c, d] j ≤ 10000) := fun j hj => by
      obtain rfl | rfl | rfl | rfl : j = 0 ∨ j = 1 ∨ j = 2 ∨ j = 3 := by omega
      all_goals simp [nth]; omega
    generalize [a, b, c, d] = ks at HF E0 KB
    clear hok
    all_goals
      go_wp2_with fail
      go_loopw [4, 29] (fun s i wr => ∃ (j : Nat) (t : List UInt8), j ≤ m ∧ i = .int .i64 j ∧ s = .string (bstr t) ∧ Hid (t = wd ++ spTo (nth ks) j) ∧ t.length ≤ 10 + 21 * j ∧ Hid (Below (w1.drew.alloc (.cells #[.int .i64 a, .int .i64 b, .int .i64 c, .int .i64 d] 3)).heap.size (w1.drew.alloc (.cells #[.int .i64 a, .int .i64 b, .int .i64 c, .int .i64 d] 3)) wr)) (fun _ i _ => m - (intOf i).toNat)
      case atStart => exact ⟨0, wd, Nat.zero_le _, rfl, rfl, by simp [spTo, Hid], by omega, bref _⟩
      case round =>
        obtain ⟨j, t, hj, rfl, rfl, HT, htl, HB⟩ := hrel
        by_cases hlt : j < m
        · have e0 := (HB.out.cell (p := ⟨w1.heap.size, j, none⟩) (by first | (simp; done) | (simp; omega))).trans (E0.out j (by omega))
          obtain ⟨n0, n1⟩ := KB.out j (by omega)
          obtain ⟨c', hcd⟩ : ∃ c', c' = Lib.itoa (nth ks j) := ⟨_, rfl⟩
          have hcl : c'.length ≤ 20 := by rw [hcd]; exact itoa_len (by omega) (by omega)
          have HC := Lib.hid hcd
          clear hcd
          have hfk : ∀ W : World, Tab W → Calls Tryz.prog 11 #[.int .i64 (nth ks j)] W fun e w' => e = .returned (.string (bstr c')) ∧ Below W.heap.size W w' := fun W t_ => by rw [HC.out]; exact implFormatInt _ (by omega) (by omega) W t_
          obtain ⟨g, hg⟩ : ∃ g, g = (32 : UInt8) :: c' := ⟨_, rfl⟩
          have hgl : g.length ≤ 21 := by rw [hg]; simp; omega
          have ad3 : ∀ W : World, (Op.stringOp .add { data := #[32] } (bstr c')).run Tryz.prog W = .ok (.string (bstr g)) W := by rw [hg]; exact add_at [32] c' _ rfl (by simp; omega)
          obtain ⟨q, hq⟩ : ∃ q, q = t ++ g := ⟨_, rfl⟩
          have hql : q.length ≤ 10 + 21 * (j + 1) := by rw [hq, hg]; simp; omega
          have ad4 : ∀ W : World, (Op.stringOp .add (bstr t) (bstr g)).run Tryz.prog W = .ok (.string (bstr q)) W := by rw [hq]; exact add_at _ _ _ rfl (by omega)
          have HT' : Hid (q = wd ++ spTo (nth ks) (j + 1)) := Lib.hid (by rw [hq, hg]; simp only [spTo]; rw [← HC.out, ← List.append_assoc wd, ← HT.out]; try rfl)
          have hjl : j < 4 := by omega
          have hBt := T2.out.below HB.out
          clear hg hq
          go_wp2_with (first | (go_at_call 11; refine (hfk _ hBt).mono ?_; rintro e w2 ⟨rfl, hb2⟩; have HB2 := Lib.hid (bnext HB.out hb2); clear hb2))
          go_roundw
          case rel => exact ⟨j + 1, q, by omega, by go_num, rfl, HT', hql, HB2.out⟩
          case measure => simp [intOf]; omega
        · obtain rfl : j = m := by omega
          have HE : Hid (formatAct κ a b c d = (t, true)) := Lib.hid (by rw [HF.out, ← HT.out])
          go_wp2_with fail
          refine bodyPost_ret (v := .tuple #[.string (bstr t), .bool true]) (by simp [results, Tryz.results21, go_sem]) rfl ?_
          exact ⟨by rw [HE.out], bnext (bnext HB1.out B2.out) HB.out⟩

set_option maxRecDepth 100000 in
set_option maxHeartbeats 4000000 in
theorem specFormatAct (k a b c d : Int) (w : World) : Calls Tryz.prog 64 #[.agg #[.int .i64 k, .int .i64 a, .int .i64 b, .int .i64 c, .int .i64 d]] w fun e w' => e = .returned (.tuple #[.string (bstr (formatAct k a b c d).1), .bool (formatAct k a b c d).2]) ∧ Below w.heap.size w w' := by
  have B0 := Lib.hid (balloc (bref w) (.cells #[.int .i64 k, .int .i64 a, .int .i64 b, .int .i64 c, .int .i64 d] 49))
  cases hok : actOk k a b c d with
  | false =>
    go_enter Tryz.func64, Tryz.ntmps64
    go_wp2_with (first | (go_at_call 88; refine (specActOk_any _ _ _ _ _ _).mono ?_; rw [hok]; rintro e w1 ⟨rfl, hb1⟩; have HB1 := Lib.hid (bnext B0.out hb1)))
    refine bodyPost_ret (v := .tuple #[.string { data := #[] }, .bool false]) (by simp [results, Tryz.results64, go_sem]) rfl ?_
    exact ⟨by rw [formatAct_f hok]; rfl, HB1.out⟩
  | true =>
    have HF := Lib.hid (formatAct_t hok)
    obtain ⟨k1, k5, a0, a1, b0, b1, c0, c1, d0, d1⟩ := actOk_bd hok
    obtain ⟨κ, rfl⟩ := Int.eq_ofNat_of_zero_le (show 0 ≤ k by omega)
    rw [Int.toNat_natCast] at HF
    have hκ : κ < 6 := by omega
    have hwl := actWord_len κ
    have hml := actCount_le κ
    go_enter Tryz.func64, Tryz.ntmps64
    go_upto_region 3 with (first | (go_at_call 88; refine (specActOk_any _ _ _ _ _ _).mono ?_; rw [hok]; rintro e w1 ⟨rfl, hb1⟩; have HB1 := Lib.hid (bnext B0.out hb1); have z1 : w.heap.size < w1.heap.size := (by have q := hb1.size; simp at q; omega); have x0 : w1.cell? ⟨w.heap.size, 0, none⟩ = some (.int .i64 κ) := (hb1.cell (p := ⟨w.heap.size, 0, none⟩) (by simp)).trans (by go_simp); have x1 : w1.cell? ⟨w.heap.size, 1, none⟩ = some (.int .i64 a) := (hb1.cell (p := ⟨w.heap.size, 1, none⟩) (by simp)).trans (by go_simp); have x2 : w1.cell? ⟨w.heap.size, 2, none⟩ = some (.int .i64 b) := (hb1.cell (p := ⟨w.heap.size, 2, none⟩) (by simp)).trans (by go_simp); have x3 : w1.cell? ⟨w.heap.size, 3, none⟩ = some (.int .i64 c) := (hb1.cell (p := ⟨w.heap.size, 3, none⟩) (by simp)).trans (by go_simp); have x4 : w1.cell? ⟨w.heap.size, 4, none⟩ = some (.int .i64 d) := (hb1.cell (p := ⟨w.heap.size, 4, none⟩) (by simp)).trans (by go_simp); clear hb1))
    have hw : (w1.alloc (.cells #[.string { data := #[] }, .string { data := #[99, 111, 112, 121] }, .string { data := #[100, 97, 121, 115] }, .string { data := #[119, 105, 116, 104, 100, 114, 97, 119] }, .string { data := #[119, 101, 105, 103, 104, 116] }, .string { data := #[100, 105, 102, 102, 101, 114, 101, 110, 99, 101] }] 9)).cell? ⟨w1.heap.size, κ, none⟩ = some (.string (bstr (actWord κ))) := by
      obtain rfl | rfl | rfl | rfl | rfl : κ = 1 ∨ κ = 2 ∨ κ = 3 ∨ κ = 4 ∨ κ = 5 := by omega
      all_goals (simp [actWord, bstr])
    have hn : ((w1.alloc (.cells #[.string { data := #[] }, .string { data := #[99, 111, 112, 121] }, .string { data := #[100, 97, 121, 115] }, .string { data := #[119, 105, 116, 104, 100, 114, 97, 119] }, .string { data := #[119, 101, 105, 103, 104, 116] }, .string { data := #[100, 105, 102, 102, 101, 114, 101, 110, 99, 101] }] 9)).alloc (.cells #[.int .i64 0, .int .i64 4, .int .i64 1, .int .i64 2, .int .i64 1, .int .i64 2] 3)).cell? ⟨w1.heap.size + 1, κ, none⟩ = some (.int .i64 (actCount κ)) := by
      obtain rfl | rfl | rfl | rfl | rfl : κ = 1 ∨ κ = 2 ∨ κ = 3 ∨ κ = 4 ∨ κ = 5 := by omega
      all_goals (simp [actCount]; try (go_simp; done))
    have E0 := Lib.hid (lit_four ((w1.alloc (.cells #[.string { data := #[] }, .string { data := #[99, 111, 112, 121] }, .string { data := #[100, 97, 121, 115] }, .string { data := #[119, 105, 116, 104, 100, 114, 97, 119] }, .string { data := #[119, 101, 105, 103, 104, 116] }, .string { data := #[100, 105, 102, 102, 101, 114, 101, 110, 99, 101] }] 9)).alloc (.cells #[.int .i64 0, .int .i64 4, .int .i64 1, .int .i64 2, .int .i64 1, .int .i64 2] 3)) (w1.heap.size + 1 + 1) a b c d (by simp))
    have B2 := Lib.hid (balloc (balloc (balloc (bref w1) (.cells #[.string { data := #[] }, .string { data := #[99, 111, 112, 121] }, .string { data := #[100, 97, 121, 115] }, .string { data := #[119, 105, 116, 104, 100, 114, 97, 119] }, .string { data := #[119, 101, 105, 103, 104, 116] }, .string { data := #[100, 105, 102, 102, 101, 114, 101, 110, 99, 101] }] 9)) (.cells #[.int .i64 0, .int .i64 4, .int .i64 1, .int .i64 2, .int .i64 1, .int .i64 2] 3)) (.cells #[.int .i64 a, .int .i64 b, .int .i64 c, .int .i64 d] 3))
    generalize hwd : actWord κ = wd at *
    generalize hcn : actCount κ = m at *
    go_wp2_with fail
    have KB : Hid (∀ j, j < 4 → 0 ≤ nth [a, b, c, d] j ∧ nth [a, b, c, d] j ≤ 10000) := fun j hj => by
      obtain rfl | rfl | rfl | rfl : j = 0 ∨ j = 1 ∨ j = 2 ∨ j = 3 := by omega
      all_goals simp [nth]; omega
    generalize [a, b, c, d] = ks at HF E0 KB
    clear hok
    all_goals
      skip
      go_loopw [4, 7] (fun s i wr => ∃ (j : Nat) (t : List UInt8), j ≤ m ∧ i = .int .i64 j ∧ s = .string (bstr t) ∧ Hid (t = wd ++ spTo (nth ks) j) ∧ t.length ≤ 10 + 21 * j ∧ Hid (Below (((w1.alloc (.cells #[.string { data := #[] }, .string { data := #[99, 111, 112, 121] }, .string { data := #[100, 97, 121, 115] }, .string { data := #[119, 105, 116, 104, 100, 114, 97, 119] }, .string { data := #[119, 101, 105, 103, 104, 116] }, .string { data := #[100, 105, 102, 102, 101, 114, 101, 110, 99, 101] }] 9)).alloc (.cells #[.int .i64 0, .int .i64 4, .int .i64 1, .int .i64 2, .int .i64 1, .int .i64 2] 3)).alloc (.cells #[.int .i64 a, .int .i64 b, .int .i64 c, .int .i64 d] 3)).heap.size (((w1.alloc (.cells #[.string { data := #[] }, .string { data := #[99, 111, 112, 121] }, .string { data := #[100, 97, 121, 115] }, .string { data := #[119, 105, 116, 104, 100, 114, 97, 119] }, .string { data := #[119, 101, 105, 103, 104, 116] }, .string { data := #[100, 105, 102, 102, 101, 114, 101, 110, 99, 101] }] 9)).alloc (.cells #[.int .i64 0, .int .i64 4, .int .i64 1, .int .i64 2, .int .i64 1, .int .i64 2] 3)).alloc (.cells #[.int .i64 a, .int .i64 b, .int .i64 c, .int .i64 d] 3)) wr)) (fun _ i _ => m - (intOf i).toNat)
      case atStart => exact ⟨0, wd, Nat.zero_le _, rfl, rfl, by simp [spTo, Hid], by omega, bref _⟩
      case round =>
        obtain ⟨j, t, hj, rfl, rfl, HT, htl, HB⟩ := hrel
        by_cases hlt : j < m
        · have e0 := (HB.out.cell (p := ⟨w1.heap.size + 1 + 1, j, none⟩) (by first | (simp; done) | (simp; omega))).trans (E0.out j (by omega))
          obtain ⟨n0, n1⟩ := KB.out j (by omega)
          obtain ⟨c', hcd⟩ : ∃ c', c' = Lib.itoa (nth ks j) := ⟨_, rfl⟩
          have hcl : c'.length ≤ 20 := by rw [hcd]; exact itoa_len (by omega) (by omega)
          have HC := Lib.hid hcd
          clear hcd
          have hfk : ∀ W : World, Calls Tryz.prog 37 #[.int .i64 (nth ks j)] W fun e w' => e = .returned (.string (bstr c')) ∧ Below W.heap.size W w' := fun W => by rw [HC.out]; exact specFormatInt _ (by omega) (by omega) W
          obtain ⟨g, hg⟩ : ∃ g, g = t ++ [32] := ⟨_, rfl⟩
          have hgl : g.length ≤ 11 + 21 * j := by rw [hg]; simp; omega
          have ad3 : ∀ W : World, (Op.stringOp .add (bstr t) { data := #[32] }).run Tryz.prog W = .ok (.string (bstr g)) W := by rw [hg]; exact add_to t [32] _ rfl (by simp; omega)
          obtain ⟨q, hq⟩ : ∃ q, q = g ++ c' := ⟨_, rfl⟩
          have hql : q.length ≤ 10 + 21 * (j + 1) := by rw [hq, hg]; simp; omega
          have ad4 : ∀ W : World, (Op.stringOp .add (bstr g) (bstr c')).run Tryz.prog W = .ok (.string (bstr q)) W := by rw [hq]; exact add_at _ _ _ rfl (by omega)
          have HT' : Hid (q = wd ++ spTo (nth ks) (j + 1)) := Lib.hid (by rw [hq, hg]; simp only [spTo]; rw [← HC.out, ← List.append_assoc wd, ← HT.out]; simp)
          have hjl : j < 4 := by omega
          skip
          clear hg hq
          go_wp2_with (first | (go_at_call 37; refine (hfk _).mono ?_; rintro e w2 ⟨rfl, hb2⟩; have HB2 := Lib.hid (bnext HB.out hb2); clear hb2))
          go_roundw
          case rel => exact ⟨j + 1, q, by omega, by go_num, rfl, HT', hql, HB2.out⟩
          case measure => simp [intOf]; omega
        · obtain rfl : j = m := by omega
          have HE : Hid (formatAct κ a b c d = (t, true)) := Lib.hid (by rw [HF.out, ← HT.out])
          go_wp2_with fail
          refine bodyPost_ret (v := .tuple #[.string (bstr t), .bool true]) (by simp [results, Tryz.results64, go_sem]) rfl ?_
          exact ⟨by rw [HE.out], bnext (bnext HB1.out B2.out) HB.out⟩
end Go.Proofs.YtlipfkalehikkaaGreatDoor
