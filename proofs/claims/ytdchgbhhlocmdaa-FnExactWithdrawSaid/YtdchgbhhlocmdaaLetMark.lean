/- The laws' marks over letters that a call made. -/
import Derived.Test.YtdchgbhhlocmdaaLetO
import Derived.Test.YtdchgbhhlocmdaaCopyInts
import Derived.Test.YtdchgbhhlocmdaaLetterS
import Derived.Test.YtdchgbhhlocmdaaMarkIntS
namespace Go.Proofs.Ytdchgbhhlocmdaa
open Go.ChangeShapes Go.WideShapes Go.ChangeAt Go.RowKit

/-- how many marks the first k letters take -/
def lCount (ls : List (Int × List Int)) (k : Nat) : Int := 1 + ((lCopies ls k).length : Int)
def mB (ls : List (Int × List Int)) (k : Nat) : Int := sumTo (lCount ls) k
def mAll (ls : List (Int × List Int)) : Int := mB ls ls.length
/-- letters whose first k are marked from z on -/
def lmix (z : Int) (ls : List (Int × List Int)) : Nat → List (Int × List Int)
  | 0 => ls
  | k + 1 => (lmix z ls k).set k (z + mB ls k, seqL (z + mB ls k + 1) (lCopies ls k).length)
def lmarked (z : Int) (ls : List (Int × List Int)) : List (Int × List Int) := lmix z ls ls.length
theorem lmix_len (z : Int) (ls : List (Int × List Int)) : ∀ k, (lmix z ls k).length = ls.length
  | 0 => rfl
  | k + 1 => by simp [lmix, lmix_len z ls k]
theorem lmix_at (z : Int) (ls : List (Int × List Int)) : ∀ k, k ≤ ls.length → ∀ i, i < ls.length → lOwner (lmix z ls k) i = (if i < k then z + mB ls i else lOwner ls i) ∧ lCopies (lmix z ls k) i = (if i < k then seqL (z + mB ls i + 1) (lCopies ls i).length else lCopies ls i)
  | 0, _, i, hi => by simp [lmix]
  | k + 1, hk, i, hi => by
    have ih := lmix_at z ls k (by omega) i hi
    have h := set_owner (ls := lmix z ls k) (k := k) (i := i) (x := (z + mB ls k, seqL (z + mB ls k + 1) (lCopies ls k).length)) (by rw [lmix_len]; omega)
    simp only [lmix]
    rw [h.1, h.2, ih.1, ih.2]
    rcases Nat.lt_trichotomy i k with q | q | q
    · simp [show i ≠ k by omega, q, show i < k + 1 by omega]
    · subst q; simp
    · simp [show i ≠ k by omega, show ¬ i < k by omega, show ¬ i < k + 1 by omega]
theorem mB_bd {ls : List (Int × List Int)} (hc : ∀ i, i < ls.length → (lCopies ls i).length ≤ 2000000) : ∀ k, k ≤ ls.length → 0 ≤ mB ls k ∧ mB ls k ≤ 2000001 * k
  | 0, _ => by simp [mB, sumTo]
  | k + 1, hk => by
    have ih := mB_bd hc k (by omega)
    have := hc k (by omega)
    have e : mB ls (k + 1) = mB ls k + (1 + ((lCopies ls k).length : Int)) := rfl
    omega
structure LetB (ls : List (Int × List Int)) : Prop where
  n : ls.length ≤ 1000
  c : ∀ i, i < ls.length → (lCopies ls i).length ≤ 2000000
theorem mAll_bd {ls : List (Int × List Int)} (h : LetB ls) : 0 ≤ mAll ls ∧ mAll ls ≤ 2001000000 := by
  have := mB_bd h.c _ (Nat.le_refl _); have := h.n
  unfold mAll; omega
theorem LetV.putOwner {lo hi g n cap : Nat} {w : World} {vs : List Value} {ls : List (Int × List Int)} (h : LetV lo hi w (.slice (some ⟨g, 0, none⟩) n cap) vs ls) (hn : n = ls.length) {i : Nat} (hik : i < ls.length) (x : Int) : LetV lo hi (w.setCell ⟨g, i * 2, none⟩ (.int .i64 x)) (.slice (some ⟨g, 0, none⟩) n cap) vs (ls.set i (x, lCopies ls i)) := by
  subst hn
  have hs := (h.row.stored (i * 2) (.int .i64 x)).1
  refine ⟨by rw [List.length_set]; exact h.len, ?_, h.top, fun j hj => ?_, fun j hj => h.sepv j (by simpa using hj), fun j q hjq hq => h.seps j q hjq (by simpa using hq)⟩
  · rw [← hdr_set ls vs i x (lCopies ls i) hik]; simpa using hs
  · rw [List.length_set] at hj
    have e := (set_owner (ls := ls) (k := i) (i := j) (x := (x, lCopies ls i)) hik).2
    have e2 : lCopies (ls.set i (x, lCopies ls i)) j = lCopies ls j := by rw [e]; by_cases q : j = i <;> simp [q]
    rw [e2]
    exact ⟨own_set (h.each j hj).own (fun q => h.sepv j hj g rfl q) _, (h.each j hj).top⟩
theorem LetV.putCopies {lo hi : Nat} {w w' : World} {v : Value} {vs : List Value} {ls : List (Int × List Int)} (h : LetV lo hi w v vs ls) {i : Nat} (hik : i < ls.length) {ys : List Int} (hl : ys.length = (lCopies ls i).length) (hrow : w'.ownsRow lo 3 1 (vget vs i) ys.length (ys.map (Value.int .i64))) (hg : w.grownBy w' (vget vs i).ownBlock) : LetV lo hi w' v vs (ls.set i (lOwner ls i, ys)) := by
  refine ⟨by rw [List.length_set]; exact h.len, ?_, h.top, fun j hj => ?_, fun j hj => h.sepv j (by simpa using hj), fun j q hjq hq => h.seps j q hjq (by simpa using hq)⟩
  · rw [hdr_same ls vs i ys hik, List.length_set]
    exact own_kept h.row hg (h.sepv i hik).symm
  · rw [List.length_set] at hj
    have e := (set_owner (ls := ls) (k := i) (i := j) (x := (lOwner ls i, ys)) hik).2
    rw [e]
    split
    next q => subst q; exact ⟨hrow, (h.each j hj).top⟩
    next q =>
      refine ⟨own_kept (h.each j hj).own hg ?_, (h.each j hj).top⟩
      rcases Nat.lt_or_ge i j with z | z
      · exact h.seps i j z hj
      · exact (h.seps j i (by omega) hik).symm
set_option maxRecDepth 100000 in
set_option maxHeartbeats 1000000 in
theorem markLetterS_o (v : Value) (ls : List (Int × List Int)) (z : Int) (lo hi : Nat) (w : World) (h : LetO lo hi w v ls) (hB : LetB ls) (hz0 : 0 ≤ z) (hzb : z ≤ 100000000000) :
    Calls Try.prog 41 #[v, .int .i64 z] w fun e w' => e = .returned (.int .i64 (z + mAll ls)) ∧ LetO lo hi w' v (lmarked z ls) ∧ Only lo hi w w' := by
  obtain ⟨vs, hV⟩ := h
  have HMB := Lib.hid (mB_bd hB.c)
  have hb1 := hB.n
  rcases id hV.row.2 with ⟨rfl, h0⟩ | ⟨g, cap, cur, rfl, _⟩
  · have HV := Lib.hid hV
    have HL := Lib.hid (show mAll ls = 0 ∧ lmarked z ls = ls from by unfold mAll lmarked; rw [h0]; exact ⟨rfl, rfl⟩)
    clear hV
    go_enter Try.func41, Try.ntmps41
    go_wp2_with fail
    go_loop [1, 5] (fun a i => a = .int .i64 z ∧ i = .int .i64 0) (fun _ _ => 0)
    case atStart => exact ⟨rfl, rfl⟩
    case round =>
      obtain ⟨rfl, rfl⟩ := hrel
      go_wp2
      go_ret
      exact ⟨by rw [HL.out.1, Int.add_zero]; rfl, ⟨vs, by rw [HL.out.2]; exact HV.out⟩, Only.refl _ _ _⟩
  · have HV := Lib.hid hV
    have HCB := Lib.hid hB.c
    clear hV
    go_enter Try.func41, Try.ntmps41
    go_wp2_with fail
    go_loopw [1, 5] (fun a i wr => ∃ k : Nat, k ≤ ls.length ∧ i = .int .i64 k ∧ a = .int .i64 (z + mB ls k) ∧ LetV lo hi wr (.slice (some ⟨g, 0, none⟩) ls.length cap) vs (lmix z ls k) ∧ Hid (Only lo hi w wr)) (fun _ i _ => ls.length - (intOf i).toNat)
    case atStart => exact ⟨0, Nat.zero_le _, rfl, by simp [mB, sumTo], HV.out, Only.refl _ _ _⟩
    case round =>
      obtain ⟨k, hk, rfl, rfl, hL, HW⟩ := hrel
      by_cases hlt : k < ls.length
      · have hml := lmix_len z ls k
        have hkm : k < (lmix z ls k).length := by rw [hml]; exact hlt
        have hcp := (lmix_at z ls k hk k hlt).2
        rw [if_neg (by omega)] at hcp
        obtain ⟨m0, m1⟩ := HMB.out k hk
        have hcb := HCB.out k hlt
        have hrow := hL.row
        rw [hml] at hrow
        obtain ⟨⟨u0, q0⟩, ⟨u1, q1⟩, f0, f1⟩ := own_pair hrow k hlt
        have hg : lo ≤ g ∧ g < hi := ⟨(hrow.lt g rfl).1, hL.top g rfl⟩
        have HP := Lib.hid (hL.putOwner hml.symm hkm (z + mB ls k))
        have hpl : ((lmix z ls k).set k (z + mB ls k, lCopies (lmix z ls k) k)).length = ls.length := by rw [List.length_set, hml]
        have hp1 : (wr.setCell ⟨g, k * 2, none⟩ (.int .i64 (z + mB ls k))).cell? ⟨g, k * 2 + 1, none⟩ = some (vget vs k) := by
          have hr := HP.out.row
          rw [hpl] at hr
          rw [hr.cellAt (k * 2 + 1) (by omega)]
          exact hdr_slice _ vs k (by rw [hpl]; exact hlt)
        have hc1 : wr.cell? ⟨g, k * 2 + 1, none⟩ = some (vget vs k) := by
          rw [hrow.cellAt (k * 2 + 1) (by omega)]
          exact hdr_slice _ vs k hkm
        have hpc : lCopies ((lmix z ls k).set k (z + mB ls k, lCopies (lmix z ls k) k)) k = lCopies ls k := by
          rw [(set_owner hkm).2, if_pos rfl]; exact hcp
        have hpo : lOwner ((lmix z ls k).set k (z + mB ls k, lCopies (lmix z ls k) k)) k = z + mB ls k := by
          rw [(set_owner hkm).1, if_pos rfl]
        have hev := HP.out.each k (by rw [hpl]; exact hlt)
        rw [hpc] at hev
        have HEV := Lib.hid hev
        have HSC := Lib.hid (show mB ls (k + 1) = mB ls k + (1 + ((lCopies ls k).length : Int)) from rfl)
        have HW2 := Lib.hid (HW.out.set (p := ⟨g, k * 2, none⟩) hg.1 hg.2 (.int .i64 (z + mB ls k)))
        have HQ := Lib.hid (And.intro hpl (And.intro hpc hpo))
        clear hev hL hrow q1 hp1 hcp hml hkm u1 hpl hpc hpo
        generalize hs : vget vs k = s at *
        have HS := Lib.hid hs
        clear hs
        go_wp2_with (first | (go_at_call 19; refine (markIntS_any s (lCopies ls k).length (lCopies ls k) (z + mB ls k + 1) lo 3 _ HEV.out.own (by omega) (by omega) (by omega)).mono ?_; rintro e w5 ⟨rfl, hown5, hg5⟩))
        go_roundw
        case rel =>
          refine ⟨k + 1, by omega, by go_num, by rw [HSC.out]; exact congrArg (Value.int .i64) (by omega), ?_, HW2.out.trans (Only.of_grown hg5 HEV.out.at)⟩
          have h1 := HP.out.putCopies (i := k) (by rw [HQ.out.1]; exact hlt) (ys := seqL (z + mB ls k + 1) (lCopies ls k).length) (by rw [HQ.out.2.1, seqL_len]) (by rw [HS.out, seqL_len]; exact hown5) (by rw [HS.out]; exact hg5)
          rw [HQ.out.2.2, List.set_set] at h1
          exact h1
        case measure => simp [intOf]; omega
      · obtain rfl : k = ls.length := by omega
        have HL := Lib.hid hL
        clear hL
        go_wp2
        go_ret
        exact ⟨rfl, ⟨vs, HL.out⟩, HW.out⟩
set_option maxRecDepth 100000 in
set_option maxHeartbeats 1000000 in
theorem heldLetterS_o (v : Value) (ls : List (Int × List Int)) (z : Int) (lo hi : Nat) (w : World) (h : LetO lo hi w v (lmarked z ls)) (hB : LetB ls) (hz0 : 0 ≤ z) (hzb : z ≤ 100000000000) :
    Calls Try.prog 42 #[v, .int .i64 z] w fun e w' => e = .returned (.int .i64 (z + mAll ls)) ∧ Below w.heap.size w w' := by
  obtain ⟨vs, hV⟩ := h
  have HMB := Lib.hid (mB_bd hB.c)
  have HCB := Lib.hid hB.c
  have hb1 := hB.n
  have hml : (lmarked z ls).length = ls.length := lmix_len z ls _
  have hR := hV.reads (by omega) (fun i hi => by
    rw [hml] at hi
    have := (lmix_at z ls ls.length (Nat.le_refl _) i hi).2
    rw [if_pos hi] at this
    show (lCopies (lmix z ls ls.length) i).length ≤ _
    rw [this, seqL_len]
    have := hB.c i hi; omega)
  obtain ⟨_, ad, cap, rfl, hc⟩ := hR
  rw [hml]
  have hat : ∀ k, k < ls.length → ∃ b o u, ad = some ⟨b, o, none⟩ ∧ w.cell? ⟨b, o + k * 2, none⟩ = some (.int .i64 (z + mB ls k)) ∧ w.cell? ⟨b, o + k * 2 + 1, none⟩ = some u ∧ Ints w u (seqL (z + mB ls k + 1) (lCopies ls k).length) := fun k hk => by
    obtain ⟨b, o, u, h1, h2, h3, h4⟩ := hc k (by rw [hml]; exact hk)
    have e := lmix_at z ls ls.length (Nat.le_refl _) k hk
    rw [if_pos hk, if_pos hk] at e
    have e1 : lOwner (lmarked z ls) k = z + mB ls k := e.1
    have e2 : lCopies (lmarked z ls) k = seqL (z + mB ls k + 1) (lCopies ls k).length := e.2
    rw [e1] at h2
    rw [e2] at h4
    exact ⟨b, o, u, h1, h2, h3, h4⟩
  clear hc hV hml
  go_enter Try.func42, Try.ntmps42
  go_wp2_with fail
  go_loopw [1, 5] (fun a i wr => ∃ k : Nat, k ≤ ls.length ∧ i = .int .i64 k ∧ a = .int .i64 (z + mB ls k) ∧ Hid (Below w.heap.size w wr)) (fun _ i _ => ls.length - (intOf i).toNat)
  case atStart => exact ⟨0, Nat.zero_le _, rfl, by simp [mB, sumTo], bref _⟩
  case round =>
    obtain ⟨k, hk, rfl, rfl, HB⟩ := hrel
    by_cases hlt : k < ls.length
    · obtain ⟨b, o, s, rfl, e0, e1, e2⟩ := hat k hlt
      clear hat
      have e0 := (HB.out.cell (p := ⟨b, o + k * 2, none⟩) (World.block_lt_of_cell? w _ e0)).trans e0
      have e1 := (HB.out.cell (p := ⟨b, o + k * 2 + 1, none⟩) (World.block_lt_of_cell? w _ e1)).trans e1
      have HR := Lib.hid (e2.below HB.out)
      clear e2
      obtain ⟨m0, m1⟩ := HMB.out k hk
      have hcb := HCB.out k hlt
      have HSC := Lib.hid (show mB ls (k + 1) = mB ls k + (1 + ((lCopies ls k).length : Int)) from rfl)
      have hne : (z + mB ls k != z + mB ls k) = false := by simp
      have hrr : Recs 1 wr s (lCopies ls k).length (seqL (z + mB ls k + 1) (lCopies ls k).length) := by have := ints_recs HR.out; rwa [seqL_len] at this
      go_wp2_with (first | (go_at_call 20; refine (heldIntS_any s (lCopies ls k).length (z + mB ls k + 1) _ hrr (by omega) (by omega) (by omega)).mono ?_; rintro e w5 ⟨rfl, hb5⟩))
      go_roundw
      case rel => exact ⟨k + 1, by omega, by go_num, by rw [HSC.out]; exact congrArg (Value.int .i64) (by omega), bnext HB.out hb5⟩
      case measure => simp [intOf]; omega
    · obtain rfl : k = ls.length := by omega
      clear hat
      go_wp2
      go_ret
      exact ⟨rfl, HB.out⟩
end Go.Proofs.Ytdchgbhhlocmdaa
