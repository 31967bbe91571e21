/- The walk of the laws' marks on texts. -/
import Derived.Test.YtlipfkalehikkaaGreatDoorMarkText
import Derived.Test.YtlipfkalehikkaaGreatDoorGA
namespace Go.Proofs.YtlipfkalehikkaaGreatDoor
open Go.ChangeShapes Go.WideShapes Go.ChangeAt Go.RowKit

def sv (t : List UInt8) : Value := .string (bstr t)
def markLs (k n : Nat) : List (List UInt8) := (List.range n).map fun i => markL (k + i)
theorem markLs_succ (k n : Nat) : markLs k (n + 1) = markLs k n ++ [markL (k + n)] := by simp [markLs, List.range_succ]
theorem markLs_len (k n : Nat) : (markLs k n).length = n := by simp [markLs]
theorem mark_setT (ts : List (List UInt8)) (k0 k : Nat) (h : k < ts.length) : (((markLs k0 k).map sv ++ (ts.drop k).map sv).set k (sv (markL (k0 + k)))) = (markLs k0 (k + 1)).map sv ++ (ts.drop (k + 1)).map sv := by
  rw [List.set_append_right _ _ (by simp [markLs_len])]
  rw [List.drop_eq_getElem_cons h, markLs_succ, List.map_append]
  simp only [List.map_cons, List.map_nil, List.length_map, markLs_len, Nat.sub_self, List.set_cons_zero, List.append_assoc, List.cons_append, List.nil_append]
theorem grown_below' {a w w' : World} {g : Nat} (h : a.grownBy w (some g)) (hb : Below w.heap.size w w') : a.grownBy w' (some g) :=
  ⟨hb.os.trans h.os, hb.tape.trans h.tape, hb.output.trans h.output, Nat.le_trans h.size hb.size, fun i hi hn => (hb.block i (Nat.lt_of_lt_of_le hi h.size)).trans (h.block i hi hn)⟩
set_option maxRecDepth 100000 in
theorem markStringS_any (v : Value) (ts : List (List UInt8)) (k0 : Nat) (B : Nat) (w : World) (h : w.ownsRow B 9 1 v ts.length (ts.map sv)) (hk0 : 0 < k0) (hkb : k0 ≤ 1000000000000) (hn : ts.length ≤ 1000000000) :
    Calls Tryz.prog 16 #[v, .int .i64 (k0 : Int)] w fun e w' => e = .returned (.int .i64 ((k0 : Int) + (ts.length : Int))) ∧ w'.ownsRow B 9 1 v ts.length ((markLs k0 ts.length).map sv) ∧ w.grownBy w' v.ownBlock := by
  rcases id h.2 with ⟨rfl, h0⟩ | ⟨g, cap, cur, rfl, _⟩
  · obtain rfl : ts = [] := List.eq_nil_of_length_eq_zero h0
    have HH := Lib.hid h
    clear h h0
    go_enter Tryz.func16, Tryz.ntmps16
    go_wp2_with fail
    go_loop [1, 5] (fun a i => a = .int .i64 (k0 : Int) ∧ i = .int .i64 0) (fun _ _ => 0)
    case atStart => exact ⟨rfl, rfl⟩
    case round =>
      obtain ⟨rfl, rfl⟩ := hrel
      go_wp2
      go_ret
      exact ⟨ret_int (by simp), by simpa [markLs] using HH.out, only_refl _ _⟩
  · have HO := Lib.hid h
    clear h
    go_enter Tryz.func16, Tryz.ntmps16
    go_wp2_with fail
    go_loopw [1, 5] (fun a i wr => ∃ k : Nat, k ≤ ts.length ∧ i = .int .i64 k ∧ a = .int .i64 ((k0 : Int) + (k : Int)) ∧ Hid (wr.ownsRow B 9 1 (.slice (some ⟨g, 0, none⟩) ts.length cap) ts.length ((markLs k0 k).map sv ++ (ts.drop k).map sv)) ∧ Hid (w.grownBy wr (some g))) (fun _ i _ => ts.length - (intOf i).toNat)
    case atStart => exact ⟨0, Nat.zero_le _, rfl, by simp, by simpa [markLs, Hid] using HO.out, only_refl _ _⟩
    case round =>
      obtain ⟨k, hk, rfl, rfl, HR, HG⟩ := hrel
      by_cases hlt : k < ts.length
      · have hmk := markText_any (k0 + k) (by omega) (by omega) wr
        rw [Int.natCast_add] at hmk
        generalize hu : markL (k0 + k) = u at hmk
        have HU := Lib.hid hu
        clear hu
        go_wp2_with (first | (go_at_call 39; refine hmk.mono ?_; rintro e w1 ⟨rfl, hb1⟩; have HR1 := Lib.hid (own_below HR.out hb1); have HG1 := Lib.hid (grown_below' HG.out hb1); obtain ⟨u0, q0⟩ := own_cell HR1.out k (by omega); have f0 := HR1.out.frozenAt k; have HS := Lib.hid (HR1.out.stored k (.string (bstr u))).1; clear hb1))
        go_roundw
        case rel =>
          refine ⟨k + 1, by omega, by go_num, by go_num, ?_, only_set HG1.out k _⟩
          have h1 := HS.out
          rw [show Value.string (bstr u) = sv (markL (k0 + k)) by rw [HU.out]; rfl, mark_setT ts k0 k hlt] at h1
          rw [show Value.string (bstr u) = sv (markL (k0 + k)) by rw [HU.out]; rfl]
          exact h1
        case measure => simp [intOf]; omega
      · obtain rfl : k = ts.length := by omega
        go_wp2
        go_ret
        refine ⟨rfl, ?_, HG.out⟩
        have h1 := HR.out
        rw [List.drop_length, List.map_nil, List.append_nil] at h1
        exact h1
end Go.Proofs.YtlipfkalehikkaaGreatDoor
