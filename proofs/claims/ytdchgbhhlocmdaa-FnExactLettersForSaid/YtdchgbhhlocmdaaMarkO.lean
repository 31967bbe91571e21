/- The laws' marks, over what a call made. -/
import Derived.Test.YtdchgbhhlocmdaaOnly
import Derived.Test.YtdchgbhhlocmdaaMarkIntS
import Derived.Test.YtdchgbhhlocmdaaMarkCopyS
namespace Go.Proofs.Ytdchgbhhlocmdaa
open Go.ChangeShapes Go.WideShapes Go.ChangeAt Go.RowKit

theorem markIntS_o (v : Value) (n : Nat) (xs : List Int) (k : Int) (lo hi : Nat) (e : TypeId) (w : World) (h : RowO lo hi w e 1 v n xs) (hk0 : 0 ≤ k) (hkb : k ≤ 1000000000000) (hn : n ≤ 1000000000) :
    Calls Try.prog 19 #[v, .int .i64 k] w fun en w' => en = .returned (.int .i64 (k + (n : Int))) ∧ RowO lo hi w' e 1 v n (seqL k n) ∧ Only lo hi w w' :=
  (markIntS_any v n xs k lo e w h.own hk0 hkb hn).mono fun _ _ ⟨he, ho, hg⟩ => ⟨he, ⟨ho, h.top⟩, Only.of_grown hg h.at⟩
theorem heldIntS_o (v : Value) (n : Nat) (k : Int) (lo hi : Nat) (e : TypeId) (w : World) (h : RowO lo hi w e 1 v n (seqL k n)) (hk0 : 0 ≤ k) (hkb : k ≤ 1000000000000) (hn : n ≤ 1000000000) :
    Calls Try.prog 20 #[v, .int .i64 k] w fun en w' => en = .returned (.int .i64 (k + (n : Int))) ∧ Below w.heap.size w w' :=
  heldIntS_any v n k w (h.recs (by omega)) hk0 hkb hn

theorem markCopyS_o (v : Value) (n : Nat) (xs : List Int) (k : Int) (lo hi : Nat) (e : TypeId) (w : World) (h : RowO lo hi w e 3 v n xs) (hk0 : 0 ≤ k) (hkb : k ≤ 1000000000000) (hn : n ≤ 1000000000) :
    Calls Try.prog 40 #[v, .int .i64 k] w fun en w' => en = .returned (.int .i64 (k + (n : Int) * 3)) ∧ RowO lo hi w' e 3 v n (seqL k (n * 3)) ∧ Only lo hi w w' :=
  (markCopyS_any v n xs k lo e w h.own hk0 hkb hn).mono fun _ _ ⟨he, ho, hg⟩ => ⟨he, ⟨ho, h.top⟩, Only.of_grown hg h.at⟩
theorem heldCopyS_o (v : Value) (n : Nat) (k : Int) (lo hi : Nat) (e : TypeId) (w : World) (h : RowO lo hi w e 3 v n (seqL k (n * 3))) (hk0 : 0 ≤ k) (hkb : k ≤ 1000000000000) (hn : n ≤ 1000000000) :
    Calls Try.prog 88 #[v, .int .i64 k] w fun en w' => en = .returned (.int .i64 (k + (n : Int) * 3)) ∧ Below w.heap.size w w' :=
  heldCopyS_any v n k w (h.recs (by omega)) hk0 hkb hn
end Go.Proofs.Ytdchgbhhlocmdaa
