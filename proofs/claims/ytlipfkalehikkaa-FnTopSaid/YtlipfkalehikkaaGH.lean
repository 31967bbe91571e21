/- Texts laid together: Draw, Pick, Code. -/
import Derived.Deep.QuietTactic
import Derived.Test.YtlipfkalehikkaaGA
import Derived.Test.YtlipfkalehikkaaProg
import Derived.Test.YtlipfkalehikkaaGB
/- The reference's source of drawn numbers: a cursor over bytes; what it hands back lies within its bounds. -/
namespace Go.Proofs.Ytlipfkalehikkaa
open Go.ChangeShapes Go.WideShapes Go.ChangeAt Go.RowKit

/-- a slice of bytes -/
structure Bytes (w : World) (v : Value) (bs : List Int) : Prop where
  len : bs.length ≤ 9223372036854775807
  ex : ∃ ad cap, v = .slice ad bs.length cap ∧ ∀ i, i < bs.length → ∃ b o, ad = some ⟨b, o, none⟩ ∧ w.cell? ⟨b, o + i, none⟩ = some (.int .u8 (nth bs i)) ∧ 0 ≤ nth bs i ∧ nth bs i ≤ 255
theorem Bytes.below {w w' : World} {v : Value} {bs : List Int} (h : Bytes w v bs) (hb : Below w.heap.size w w') : Bytes w' v bs := by
  obtain ⟨hl, ad, cap, hv, hc⟩ := h
  refine ⟨hl, ad, cap, hv, fun i hi => ?_⟩
  obtain ⟨b, o, ha, hcell, h1⟩ := hc i hi
  exact ⟨b, o, ha, by rw [hb.cell (p := ⟨b, o + i, none⟩) (World.block_lt_of_cell? w _ hcell)]; exact hcell, h1⟩
theorem Bytes.only {lo hi : Nat} {w w' : World} {v : Value} {bs : List Int} (h : Bytes w v bs) (ho : Only lo hi w w') (hn : 0 < bs.length → ∀ ad cap, v = .slice ad bs.length cap → ∀ b o, ad = some ⟨b, o, none⟩ → b < lo) : Bytes w' v bs := by
  obtain ⟨hl, ad, cap, hv, hc⟩ := h
  refine ⟨hl, ad, cap, hv, fun i hi => ?_⟩
  obtain ⟨b, o, ha, hcell, h1⟩ := hc i hi
  have hlt := World.block_lt_of_cell? w _ hcell
  have hne := hn (by omega) ad cap hv b o ha
  exact ⟨b, o, ha, by rw [World.cell?_of_block (w := w) (ho.block b hlt (by omega))]; exact hcell, h1⟩
/-- the cursor in its box at X; L: the number of blocks there were when the source was made -/
structure CurO (L X : Nat) (v : Value) (bs : List Int) (w : World) : Prop where
  lt : L ≤ X
  xl : X < w.heap.size
  c0 : w.cell? ⟨X, 0, none⟩ = some v
  c1 : ∃ i : Nat, i ≤ bs.length ∧ w.cell? ⟨X, 1, none⟩ = some (.int .i64 i)
  c2 : ∃ h : Int, w.cell? ⟨X, 2, none⟩ = some (.int .i64 h)
  f1 : w.frozen? ⟨X, 1, none⟩ = false
  f2 : w.frozen? ⟨X, 2, none⟩ = false
  by_ : Bytes w v bs
  far : 0 < bs.length → ∀ ad cap, v = .slice ad bs.length cap → ∀ b o, ad = some ⟨b, o, none⟩ → b < L
theorem CurO.below {L X : Nat} {v : Value} {bs : List Int} {w w' : World} (h : CurO L X v bs w) (hb : Below w.heap.size w w') : CurO L X v bs w' := by
  obtain ⟨i, hi, c1⟩ := h.c1
  obtain ⟨k, c2⟩ := h.c2
  exact ⟨h.lt, Nat.lt_of_lt_of_le h.xl hb.size, (hb.cell h.xl).trans h.c0, ⟨i, hi, (hb.cell h.xl).trans c1⟩, ⟨k, (hb.cell h.xl).trans c2⟩, (hb.frozen h.xl).trans h.f1, (hb.frozen h.xl).trans h.f2, h.by_.below hb, h.far⟩
theorem CurO.only {L X lo hi : Nat} {v : Value} {bs : List Int} {w w' : World} (h : CurO L X v bs w) (ho : Only lo hi w w') (hx : X < lo) : CurO L X v bs w' := by
  obtain ⟨i, hi, c1⟩ := h.c1
  obtain ⟨k, c2⟩ := h.c2
  have hbk := ho.block X h.xl (by omega)
  have hL := h.lt
  exact ⟨h.lt, Nat.lt_of_lt_of_le h.xl ho.size, (World.cell?_of_block hbk).trans h.c0, ⟨i, hi, (World.cell?_of_block hbk).trans c1⟩, ⟨k, (World.cell?_of_block hbk).trans c2⟩, (World.frozen?_of_block hbk).trans h.f1, (World.frozen?_of_block hbk).trans h.f2,
    h.by_.only ho (fun q ad cap hv b o ha => by have := h.far q ad cap hv b o ha; omega), h.far⟩
theorem CurO.drewN {L X : Nat} {v : Value} {bs : List Int} {w : World} (h : CurO L X v bs w) (n : Nat) : CurO L X v bs (w.drewN n) := h.below (bdrewN (bref w) n)
theorem CurO.put1 {L X : Nat} {v : Value} {bs : List Int} {w : World} (h : CurO L X v bs w) (i : Nat) (hi : i ≤ bs.length) : CurO L X v bs (w.setCell ⟨X, 1, none⟩ (.int .i64 i)) := by
  obtain ⟨j, hj, c1⟩ := h.c1
  obtain ⟨k, c2⟩ := h.c2
  have c0 := h.c0
  have f1 := h.f1
  have f2 := h.f2
  have hL := h.lt
  exact ⟨h.lt, by simpa using h.xl, by go_simp, ⟨i, hi, by go_simp⟩, ⟨k, by go_simp⟩, by go_simp, by go_simp, h.by_.only ((Only.refl X (X + 1) w).set (p := ⟨X, 1, none⟩) (Nat.le_refl X) (Nat.lt_succ_self X) _) (fun q ad cap hv b o ha => by have := h.far q ad cap hv b o ha; omega), h.far⟩
theorem CurO.put2 {L X : Nat} {v : Value} {bs : List Int} {w : World} (h : CurO L X v bs w) (z : Int) : CurO L X v bs (w.setCell ⟨X, 2, none⟩ (.int .i64 z)) := by
  obtain ⟨j, hj, c1⟩ := h.c1
  obtain ⟨k, c2⟩ := h.c2
  have c0 := h.c0
  have f1 := h.f1
  have f2 := h.f2
  have hL := h.lt
  exact ⟨h.lt, by simpa using h.xl, by go_simp, ⟨j, hj, by go_simp⟩, ⟨z, by go_simp⟩, by go_simp, by go_simp, h.by_.only ((Only.refl X (X + 1) w).set (p := ⟨X, 2, none⟩) (Nat.le_refl X) (Nat.lt_succ_self X) _) (fun q ad cap hv b o ha => by have := h.far q ad cap hv b o ha; omega), h.far⟩
theorem Only.drewN {lo hi : Nat} {a w : World} (h : Only lo hi a w) (n : Nat) : Only lo hi a (w.drewN n) := h.step (bdrewN (bref w) n)
theorem and_bd (a m : Int) (h0 : 0 ≤ m) (h1 : m ≤ 4611686018427387904) : 0 ≤ bits .and .i64 a m ∧ bits .and .i64 a m ≤ m := by
  obtain ⟨k, rfl⟩ := Int.eq_ofNat_of_zero_le h0
  simp only [bits, BitVec.toNat_and]
  have h2 : (BitVec.ofInt IntKind.i64.bits (k : Int)).toNat = k := by
    rw [BitVec.ofInt_natCast, BitVec.toNat_ofNat]
    exact Nat.mod_eq_of_lt (Nat.lt_of_le_of_lt (show k ≤ 4611686018427387904 by omega) (by decide))
  rw [h2]
  have h3 := Nat.and_le_right (n := (BitVec.ofInt IntKind.i64.bits a).toNat) (m := k)
  generalize ((BitVec.ofInt IntKind.i64.bits a).toNat &&& k) = q at h3
  show 0 ≤ IntKind.i64.wrap (q : Int) ∧ IntKind.i64.wrap (q : Int) ≤ (k : Int)
  rw [IntKind.wrap_i64]
  omega
set_option maxRecDepth 100000 in
set_option maxHeartbeats 2000000 in
theorem l01Byte_any (L X : Nat) (v : Value) (bs : List Int) (w : World) (h : CurO L X v bs w) : Calls Try.prog 64 #[.pointer (some ⟨X, 0, none⟩)] w fun e w' => ∃ x : Int, e = .returned (.int .i64 x) ∧ 0 ≤ x ∧ x ≤ 255 ∧ CurO L X v bs w' ∧ Only X (X + 1) w w' := by
  obtain ⟨i, hi, c1⟩ := h.c1
  obtain ⟨k, c2⟩ := h.c2
  have c0 := h.c0
  have f1 := h.f1
  have f2 := h.f2
  obtain ⟨hl, ad, cap, rfl, hc⟩ := h.by_
  have HC := Lib.hid h
  by_cases hlt : i < bs.length
  · obtain ⟨b, o, rfl, e0, e1, e2⟩ := hc i hlt
    have hbX : b ≠ X := fun e => by have h1 := h.far (by omega) _ _ rfl b o rfl; have := h.lt; omega
    clear hc h
    go_enter Try.func64, Try.ntmps64
    go_wp2
    go_quiet (fail)
    go_wp2
    go_quiet (fail)
    go_wp2
    go_quiet (fail)
    go_wp2
    go_ret
    refine ⟨_, rfl, (and_bd _ 255 (by decide) (by decide)).1, (and_bd _ 255 (by decide) (by decide)).2, ?_, ?_⟩
    · exact ((HC.out.put2 _).drewN _).put1 (i + 1) (by omega)
    · exact (((Only.refl X (X + 1) w).set (p := ⟨X, 2, none⟩) (Nat.le_refl X) (Nat.lt_succ_self X) _).drewN _).set (p := ⟨X, 1, none⟩) (Nat.le_refl X) (Nat.lt_succ_self X) _
  · clear hc h
    go_enter Try.func64, Try.ntmps64
    go_wp2
    go_quiet (fail)
    go_wp2
    go_quiet (fail)
    go_wp2
    go_ret
    refine ⟨_, rfl, (and_bd _ 255 (by decide) (by decide)).1, (and_bd _ 255 (by decide) (by decide)).2, ?_, ?_⟩
    · exact ((HC.out.put2 _).drewN _).drewN _
    · exact (((Only.refl X (X + 1) w).set (p := ⟨X, 2, none⟩) (Nat.le_refl X) (Nat.lt_succ_self X) _).drewN _).drewN _

set_option maxRecDepth 100000 in
set_option maxHeartbeats 2000000 in
theorem l01Below_any (L X : Nat) (v : Value) (bs : List Int) (n : Int) (w : World) (h : CurO L X v bs w) : Calls Try.prog 46 #[.pointer (some ⟨X, 0, none⟩), .int .i64 n] w fun e w' => ∃ x : Int, e = .returned (.int .i64 x) ∧ 0 ≤ x ∧ (0 < n → x < n) ∧ (n ≤ 0 → x = 0) ∧ CurO L X v bs w' ∧ Only X (X + 1) w w' := by
  by_cases h0 : n ≤ 0
  · go_enter Try.func46, Try.ntmps46
    go_wp2_with fail
    go_ret
    exact ⟨0, rfl, by omega, by omega, fun _ => rfl, h, Only.refl _ _ _⟩
  · by_cases h1 : n ≤ 256
    · go_enter Try.func46, Try.ntmps46
      go_wp2_with (first | (go_at_call 64; refine (l01Byte_any L X v bs _ h).mono ?_; rintro e w1 ⟨x1, rfl, p1, r1, g1, o1⟩))
      go_ret
      exact ⟨x1 % n, rfl, Int.emod_nonneg _ (by omega), fun _ => Int.emod_lt_of_pos _ (by omega), fun q => absurd q (by omega), g1, o1⟩
    · go_enter Try.func46, Try.ntmps46
      go_wp2_with (first | (go_at_call 64; refine (l01Byte_any L X v bs _ h).mono ?_; rintro e w1 ⟨x1, rfl, p1, r1, g1, o1⟩) | (go_at_call 64; refine (l01Byte_any L X v bs _ g1).mono ?_; rintro e w2 ⟨x2, rfl, p2, r2, g2, o2⟩) | (go_at_call 64; refine (l01Byte_any L X v bs _ g2).mono ?_; rintro e w3 ⟨x3, rfl, p3, r3, g3, o3⟩) | (go_at_call 64; refine (l01Byte_any L X v bs _ g3).mono ?_; rintro e w4 ⟨x4, rfl, p4, r4, g4, o4⟩))
      go_ret
      exact ⟨_, rfl, Int.emod_nonneg _ (by omega), fun _ => Int.emod_lt_of_pos _ (by omega), fun q => absurd q (by omega), g4, o1.trans (o2.trans (o3.trans o4))⟩
theorem l01Once_any (L X : Nat) (v : Value) (bs : List Int) (n : Int) (w : World) (h : CurO L X v bs w) : Calls Try.prog 43 #[.pointer (some ⟨X, 0, none⟩), .int .i64 n] w fun e w' => ∃ b : Bool, e = .returned (.bool b) ∧ CurO L X v bs w' ∧ Only X (X + 1) w w' := by
  go_enter Try.func43, Try.ntmps43
  go_wp2_with (first | (go_at_call 46; refine (l01Below_any L X v bs n _ h).mono ?_; rintro e w1 ⟨x, rfl, p1, p2, p3, g1, o1⟩))
  go_ret
  exact ⟨_, rfl, g1, o1⟩
theorem cur_new {v : Value} {bs : List Int} {w : World} (h : Bytes w v bs) (q : Int) : CurO w.heap.size w.heap.size v bs (w.alloc (.cells #[v, .int .i64 0, .int .i64 q] 64)) :=
  ⟨Nat.le_refl _, by simp, by go_simp, ⟨0, Nat.zero_le _, by go_simp⟩, ⟨q, by go_simp⟩, by go_simp, by go_simp, h.below (balloc (bref w) _), fun hl ad cap hv b o ha => by
    obtain ⟨_, ad', cap', hv', hc⟩ := h
    rw [hv] at hv'
    cases hv'
    obtain ⟨b', o', ha', e0, _⟩ := hc 0 hl
    rw [ha] at ha'
    cases ha'
    exact World.block_lt_of_cell? w _ e0⟩
theorem l01New_any (v : Value) (bs : List Int) (w : World) (h : Bytes w v bs) : Calls Try.prog 17 #[v] w fun e w' => ∃ X, e = .returned (.pointer (some ⟨X, 0, none⟩)) ∧ CurO w.heap.size X v bs w' ∧ Below w.heap.size w w' := by
  have HB := Lib.hid h
  obtain ⟨hl, ad, cap, rfl, hc⟩ := h
  go_enter Try.func17, Try.ntmps17
  go_wp2_with fail
  go_loop [3, 4] (fun a i => ∃ (k : Nat) (q : Int), k ≤ bs.length ∧ i = .int .i64 k ∧ a = .int .i64 q) (fun _ i => bs.length - (intOf i).toNat)
  case atStart => exact ⟨0, _, Nat.zero_le _, rfl, rfl⟩
  case round =>
    obtain ⟨k, q, hk, rfl, rfl⟩ := hrel
    by_cases hlt : k < bs.length
    · by_cases h4 : k < 4000
      · obtain ⟨b, o, rfl, e0, e1, e2⟩ := hc k hlt
        have h4' : (k : Int) < 4000 := by omega
        clear hc
        go_wp2
        go_round
        case rel => exact ⟨k + 1, _, by omega, by go_num, rfl⟩
        case measure => simp [intOf]; omega
      · have h4' : ¬ (k : Int) < 4000 := by omega
        clear hc
        go_wp2
        go_ret
        exact ⟨_, rfl, cur_new HB.out q, balloc (bref _) _⟩
    · obtain rfl : k = bs.length := by omega
      clear hc
      go_wp2
      go_ret
      exact ⟨_, rfl, cur_new HB.out q, balloc (bref _) _⟩
end Go.Proofs.Ytlipfkalehikkaa

/- A drawn element of a list; what lies beside the cursor. -/
namespace Go.Proofs.Ytlipfkalehikkaa
open Go.ChangeShapes Go.WideShapes Go.ChangeAt Go.RowKit

/-- a row beside the cursor -/
theorem own_curP {w w' : World} {B X n : Nat} {e : TypeId} {s : Nat} {v : Value} {xs : List Value} (h : w.ownsRow B e s v n xs) (ho : Only X (X + 1) w w') (hX : X < B) : w'.ownsRow B e s v n xs :=
  own_only h ho fun b hb hq => by have := (h.lt b hb).1; omega
/-- the cursor behind an append -/
theorem cur_appP {L X B : Nat} {v u : Value} {bs : List Int} {w w' : World} {o : Obj} {e : TypeId} {s n : Nat} {xs : List Value} (h : CurO L X v bs w) (hown : w.ownsRow B e s u n xs) (hg : (w.alloc o).grownBy w' u.ownBlock) (hX : X < B) : CurO L X v bs w' :=
  (h.below (balloc (bref w) o)).only (lo := B) (hi := w.heap.size + 1) (Only.of_grown hg fun k hk => by have := hown.lt k hk; omega) hX
theorem below_appP {a w w' : World} {B : Nat} {u : Value} {o : Obj} {e : TypeId} {s n : Nat} {xs : List Value} (h : Below a.heap.size a w) (hown : w.ownsRow B e s u n xs) (hg : (w.alloc o).grownBy w' u.ownBlock) (hB : a.heap.size ≤ B) : Below a.heap.size a w' :=
  (balloc h o).grown hg (by have := h.size; simp; omega) fun k hk => by have := (hown.lt k hk).1; omega
/-- a literal slice -/
theorem lit_ints (w : World) (B n : Nat) (ys : List Int) (arr : Array Value) (ha : arr = (ys.map (Value.int .i64)).toArray) (hn : ys.length = n) (hl : ys.length ≤ 1000000) (hB : B = w.heap.size) : Ints (w.alloc (.cells arr 3)) (.slice (some ⟨B, 0, none⟩) n n) ys := by
  subst hB
  subst hn
  subst ha
  exact Ints.of_own (base := w.heap.size) (e := 3) (by have := World.ownsRow_lit (e := 3) (size := 1) w (ys.map (Value.int .i64)).toArray ys.length (Nat.le_refl _) (by unfold maxLen; omega) (by simp); simpa using this) (by omega)
theorem Ints.beside {w w' : World} {X : Nat} {u : Value} {xs : List Int} (h : Ints w u xs) (ho : Only X (X + 1) w w') (hX : ∀ b o l c, u = .slice (some ⟨b, o, none⟩) l c → b ≠ X) : Ints w' u xs := by
  obtain ⟨hl, ad, cap, hv, hc⟩ := h
  refine ⟨hl, ad, cap, hv, fun i hi => ?_⟩
  obtain ⟨b, o, ha, e0⟩ := hc i hi
  have hne := hX b o _ _ (by rw [hv, ha])
  exact ⟨b, o, ha, by rw [World.cell?_of_block (w := w) (ho.block b (World.block_lt_of_cell? w _ e0) (by omega))]; exact e0⟩
end Go.Proofs.Ytlipfkalehikkaa

/- The laws' readers of the drawn bytes. -/
namespace Go.Proofs.Ytlipfkalehikkaa
open Go.ChangeShapes Go.WideShapes Go.ChangeAt Go.RowKit

theorem big_any (v : Value) (bs : List Int) (w : World) (h : Bytes w v bs) : Calls Try.prog 4 #[v] w fun e w' => e = .returned (.bool (decide ((1048576 : Int) < bs.length))) ∧ w = w' := by
  obtain ⟨hl, ad, cap, rfl, hc⟩ := h
  clear hc
  go_enter Try.func4, Try.ntmps4
  go_wp2
  go_ret
  exact ⟨rfl, rfl⟩
theorem at_any (v : Value) (bs : List Int) (i : Nat) (w : World) (h : Bytes w v bs) (hi : i ≤ 100000) : Calls Try.prog 12 #[v, .int .i64 i] w fun e w' => ∃ x : Int, e = .returned (.int .i64 x) ∧ 0 ≤ x ∧ x ≤ 255 ∧ w = w' := by
  obtain ⟨hl, ad, cap, rfl, hc⟩ := h
  by_cases h0 : bs.length = 0
  · have h1 : ((bs.length : Int) == 0) = true := by rw [beq_iff_eq]; omega
    clear hc
    go_enter Try.func12, Try.ntmps12
    go_wp2
    go_ret
    exact ⟨0, rfl, by omega, by omega, rfl⟩
  · have h1 : ((bs.length : Int) == 0) = false := by rw [beq_eq_false_iff_ne]; omega
    obtain ⟨j, hj, hj2⟩ : ∃ j : Nat, ((i : Int) * 5 + 1) % (bs.length : Int) = (j : Int) ∧ j < bs.length := by
      have a := Int.emod_nonneg ((i : Int) * 5 + 1) (show (bs.length : Int) ≠ 0 by omega)
      have b := Int.emod_lt_of_pos ((i : Int) * 5 + 1) (show (0 : Int) < bs.length by omega)
      exact ⟨(((i : Int) * 5 + 1) % (bs.length : Int)).toNat, by omega, by omega⟩
    obtain ⟨b, o, rfl, e0, e1, e2⟩ := hc j hj2
    clear hc
    go_enter Try.func12, Try.ntmps12
    go_wp2
    go_ret
    exact ⟨_, rfl, e1, e2, rfl⟩
end Go.Proofs.Ytlipfkalehikkaa
