/- Texts that a call made; the laws' marks over them. -/
import Derived.Test.YtlipfkalehikkaaGreatDoorHeldS
namespace Go.Proofs.YtlipfkalehikkaaGreatDoor
open Go.ChangeShapes Go.WideShapes Go.ChangeAt Go.RowKit

/-- texts in a block of [lo, hi), or nil -/
structure TextO (lo hi : Nat) (w : World) (v : Value) (ts : List (List UInt8)) : Prop where
  own : w.ownsRow lo 9 1 v ts.length (ts.map sv)
  top : ∀ b, v.ownBlock = some b → b < hi
theorem TextO.of {lo : Nat} {w : World} {v : Value} {ts : List (List UInt8)} (h : w.ownsRow lo 9 1 v ts.length (ts.map sv)) : TextO lo w.heap.size w v ts := ⟨h, fun b hb => (h.lt b hb).2⟩
theorem TextO.at {lo hi : Nat} {w : World} {v : Value} {ts : List (List UInt8)} (h : TextO lo hi w v ts) : ∀ b, v.ownBlock = some b → lo ≤ b ∧ b < hi := fun b hb => ⟨(h.own.lt b hb).1, h.top b hb⟩
theorem TextO.below {lo hi : Nat} {w w' : World} {v : Value} {ts : List (List UInt8)} (h : TextO lo hi w v ts) (hb : Below w.heap.size w w') : TextO lo hi w' v ts := ⟨own_below h.own hb, h.top⟩
theorem TextO.only {lo hi lo' hi' : Nat} {w w' : World} {v : Value} {ts : List (List UInt8)} (h : TextO lo hi w v ts) (ho : Only lo' hi' w w') (hs : Off lo hi lo' hi') : TextO lo hi w' v ts :=
  ⟨own_only h.own ho fun b hb => by have := h.at b hb; unfold Off at hs; omega, h.top⟩
theorem TextO.wide {lo hi lo' hi' : Nat} {w : World} {v : Value} {ts : List (List UInt8)} (h : TextO lo hi w v ts) (hl : lo' ≤ lo) (hh : hi ≤ hi') : TextO lo' hi' w v ts :=
  ⟨own_base h.own hl, fun b hb => Nat.lt_of_lt_of_le (h.top b hb) hh⟩
theorem TextO.read {lo hi : Nat} {w : World} {v : Value} {ts : List (List UInt8)} (h : TextO lo hi w v ts) (hl : ts.length ≤ 1000000000) : Texts w v ts := Texts.of_own h.own hl
theorem markStringS_o (v : Value) (ts : List (List UInt8)) (k : Int) (lo hi : Nat) (w : World) (h : TextO lo hi w v ts) (hn : ts.length ≤ 1000000000) (hk0 : 0 < k) (hkb : k ≤ 1000000000000) :
    Calls Tryz.prog 16 #[v, .int .i64 k] w fun en w' => en = .returned (.int .i64 (k + (ts.length : Int))) ∧ TextO lo hi w' v (markLs k.toNat ts.length) ∧ Only lo hi w w' := by
  obtain ⟨n, rfl⟩ := Int.eq_ofNat_of_zero_le (Int.le_of_lt hk0)
  refine (markStringS_any v ts n lo w h.own (by omega) (by omega) hn).mono fun _ _ ⟨he, ho, hg⟩ => ⟨he, ⟨by rw [markLs_len]; exact ho, h.top⟩, Only.of_grown hg h.at⟩
theorem heldStringS_o (v : Value) (n : Nat) (k : Int) (lo hi : Nat) (w : World) (h : TextO lo hi w v (markLs k.toNat n)) (hn : n ≤ 1000000000) (hk0 : 0 < k) (hkb : k ≤ 1000000000000) :
    Calls Tryz.prog 17 #[v, .int .i64 k] w fun en w' => en = .returned (.int .i64 (k + (n : Int))) ∧ Below w.heap.size w w' := by
  obtain ⟨m, rfl⟩ := Int.eq_ofNat_of_zero_le (Int.le_of_lt hk0)
  exact heldStringS_any v n m w (h.read (by rw [markLs_len]; exact hn)) (by omega) (by omega) hn
end Go.Proofs.YtlipfkalehikkaaGreatDoor
