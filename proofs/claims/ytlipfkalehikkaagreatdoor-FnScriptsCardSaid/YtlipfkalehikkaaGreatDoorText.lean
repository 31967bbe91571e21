/- Texts as lists of bytes; decimal numerals. -/
import Derived.Test.YtlipfkalehikkaaGreatDoorGA
import Derived.Lib.ItoaNum
import Derived.Laws.Concat
import Derived.Laws.BytesArg
namespace Go.Proofs.YtlipfkalehikkaaGreatDoor
open Go.ChangeShapes Go.WideShapes Go.ChangeAt Go.RowKit

def bstr (l : List UInt8) : ByteArray := ⟨l.toArray⟩
theorem bstr_size (l : List UInt8) : (bstr l).size = l.length := by show l.toArray.size = _; simp
theorem bstr_inj {a b : List UInt8} (h : bstr a = bstr b) : a = b := by
  have : (bstr a).data.toList = (bstr b).data.toList := by rw [h]
  simpa [bstr] using this
theorem add_bstr {P : Program} (w : World) (x y : List UInt8) (h : x.length + y.length ≤ 1000000000) : (Op.stringOp .add (bstr x) (bstr y)).run P w = .ok (.string (bstr (x ++ y))) w := by
  rw [run_string_add_sum w _ _ (by rw [bstr_size, bstr_size]; omega)]
  unfold bstr
  rw [ByteArray.mk_append_mk]
theorem dec_small {u : Nat} (h : u < 10) : Lib.decDigits u = [UInt8.ofNat (48 + u)] := by rw [Lib.decDigits, dif_pos h]
theorem dec_big {u : Nat} (h : ¬ u < 10) : Lib.decDigits u = Lib.decDigits (u / 10) ++ [UInt8.ofNat (48 + u % 10)] := by
  conv => lhs; rw [Lib.decDigits, dif_neg h]
theorem dec_len : ∀ (k u : Nat), u < 10 ^ (k + 1) → (Lib.decDigits u).length ≤ k + 1
  | 0, u, h => by rw [dec_small (by simpa using h)]; simp
  | k + 1, u, h => by
    by_cases q : u < 10
    · rw [dec_small q]; simp
    · rw [dec_big q, List.length_append]
      have h2 : u < 10 ^ (k + 1) * 10 := by rw [← Nat.pow_succ]; exact h
      have := dec_len k (u / 10) (by omega)
      simp; omega
theorem dec_len20 {u : Nat} (h : u ≤ 9223372036854775808) : (Lib.decDigits u).length ≤ 19 := dec_len 18 u (by omega)
theorem itoa_pos (u : Nat) : Lib.itoa (u : Int) = Lib.decDigits u := by
  unfold Lib.itoa
  rw [if_neg (by omega)]; rfl
theorem itoa_neg {u : Nat} (h : 0 < u) : Lib.itoa (-(u : Int)) = 45 :: Lib.decDigits u := by
  unfold Lib.itoa
  rw [if_pos (by omega)]; simp
theorem itoa_len {n : Int} (h0 : -9223372036854775808 ≤ n) (h1 : n ≤ 9223372036854775807) : (Lib.itoa n).length ≤ 20 := by
  unfold Lib.itoa
  split
  · have := dec_len20 (u := n.natAbs) (by omega)
    simp; omega
  · have := dec_len20 (u := n.toNat) (by omega)
    omega
/-- the digits that are written: t, behind those of m -/
structure Digs (u m : Nat) (t : List UInt8) : Prop where
  zero : m = 0 → t = Lib.decDigits u
  more : 0 < m → Lib.decDigits u = Lib.decDigits m ++ t
  len : t.length ≤ (Lib.decDigits u).length
theorem Digs.start {u : Nat} (h : 0 < u) : Digs u u [] := ⟨fun q => by omega, fun _ => by simp, by simp⟩
theorem Digs.step {u m : Nat} {t : List UInt8} (h : Digs u m t) (hm : 0 < m) : Digs u (m / 10) (UInt8.ofNat (48 + m % 10) :: t) := by
  have e := h.more hm
  by_cases q : m < 10
  · have q0 : m / 10 = 0 := by omega
    have q1 : m % 10 = m := by omega
    rw [dec_small q] at e
    refine ⟨fun _ => by rw [e, q1]; rfl, fun z => by omega, by rw [e]; simp⟩
  · rw [dec_big q, List.append_assoc] at e
    refine ⟨fun z => by omega, fun _ => by rw [e]; rfl, by rw [e]; simp⟩
theorem conv_one {P : Program} (w : World) (src dst e : TypeId) (z : Int) (n : Nat) (hn : z.toNat = n) (hs : P.underlying src = some (.slice e)) (he : P.underlying e = some (.int .u8)) (hd : P.underlying dst = some .string) :
    (convert src dst (.slice (some ⟨w.heap.size, 0, none⟩) 1 1)).run P (w.alloc (.cells #[.int .u8 z] e)) = .ok (.string (bstr [UInt8.ofNat n])) (w.alloc (.cells #[.int .u8 z] e)) := by
  subst hn
  rw [run_convert_bytes_arg (P := P) (w := w.alloc (.cells #[.int .u8 z] e)) src e hs he w.heap.size 0 1 1 [z] rfl (fun i hi => by
    obtain rfl : i = 0 := by omega
    go_simp) dst hd]
  rfl
end Go.Proofs.YtlipfkalehikkaaGreatDoor
