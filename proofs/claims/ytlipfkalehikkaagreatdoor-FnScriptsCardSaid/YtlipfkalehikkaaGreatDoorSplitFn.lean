/- The invariants of the two ways to take a line apart. -/
import Derived.Test.YtlipfkalehikkaaGreatDoorParseFn
import Derived.Test.YtlipfkalehikkaaGreatDoorTexts
namespace Go.Proofs.YtlipfkalehikkaaGreatDoor
open Go.ChangeShapes Go.WideShapes Go.ChangeAt Go.RowKit

theorem plain_succ {l : List UInt8} {k : Nat} (h : plainTo l k = true) (hk : l.length ≤ k ∨ (32 ≤ (bt l k).toNat ∧ (bt l k).toNat ≤ 126)) : plainTo l (k + 1) = true := by
  unfold plainTo at *
  rcases Nat.lt_or_ge k l.length with q | q
  · rw [List.take_succ_eq_append_getElem q, List.all_append, h]
    have e : bt l k = l[k] := by simp [bt, q]
    rw [e] at hk
    simp; omega
  · rw [List.take_of_length_le q] at h
    rw [List.take_of_length_le (by omega)]; exact h
theorem plain_bad {l : List UInt8} {k : Nat} (hk : k < l.length) (hb : ¬ (32 ≤ (bt l k).toNat ∧ (bt l k).toNat ≤ 126)) : splitFields l = none := by
  unfold splitFields
  rw [if_neg]
  rintro ⟨-, h, -⟩
  unfold plainTo at h
  rw [List.take_length, List.all_eq_true] at h
  have e : bt l k = l[k] := by simp [bt, hk]
  have := h _ (List.getElem_mem hk)
  rw [decide_eq_true_eq, ← e] at this
  exact hb this
theorem split_long {l : List UInt8} (h : 600 < l.length) : splitFields l = none := by
  unfold splitFields
  rw [if_neg]
  rintro ⟨q, -, -⟩; omega
theorem split_done {l : List UInt8} (h : l.length ≤ 600) (hp : plainTo l (l.length + 1) = true) : splitFields l = if (fieldsOf l).length ≤ 24 then some (fieldsOf l) else none := by
  have hp' : plainTo l l.length = true := by
    unfold plainTo at *
    rw [List.take_of_length_le (by omega)] at hp
    rw [List.take_length]; exact hp
  unfold splitFields
  by_cases q : (fieldsOf l).length ≤ 24
  · rw [if_pos ⟨h, hp', q⟩, if_pos q]
  · rw [if_neg (fun z => q z.2.2), if_neg q]
theorem split_some {l : List UInt8} {A : List (List UInt8)} (h : l.length ≤ 600) (hp : plainTo l (l.length + 1) = true) (hA : A = fieldsOf l) (q : A.length ≤ 24) : splitFields l = some A := by subst hA; rw [split_done h hp, if_pos q]
theorem split_many {l : List UInt8} {A : List (List UInt8)} (h : l.length ≤ 600) (hp : plainTo l (l.length + 1) = true) (hA : A = fieldsOf l) (q : ¬ A.length ≤ 24) : splitFields l = none := by subst hA; rw [split_done h hp, if_neg q]
theorem slice_bstr {P : Program} {t : TypeId} (hs : P.underlying t = some .string) {l c : List UInt8} {b k : Nat} (hb : b ≤ k) (hk : k ≤ l.length) (hc : (l.take k).drop b = c) (W : World) :
    (Instr.slice t (.string (bstr l)) (some (.int .i64 (b : Int))) (some (.int .i64 (k : Int))) none).run P W = .ok (.string (bstr c)) W := by
  rw [run_slice_string W t (bstr l) .i64 .i64 b k hs (by omega) (by omega) (by rw [bstr_size]; omega)]
  subst hc
  unfold bstr
  rw [ByteArray.extract_mk, List.drop_take]
  simp
theorem slice_from {P : Program} {t : TypeId} (hs : P.underlying t = some .string) {l : List UInt8} {b : Nat} (hb : b ≤ l.length) (W : World) :
    (Instr.slice t (.string (bstr l)) (some (.int .i64 (b : Int))) none none).run P W = .ok (.string (bstr (l.drop b))) W := by
  rw [run_slice_string_from_if W t (bstr l) .i64 b hs, if_pos ⟨by omega, by rw [bstr_size]; omega⟩]
  unfold bstr
  rw [ByteArray.extract_mk]
  simp [ByteArray.size]
  exact List.take_of_length_le (by simp)
theorem index_bstr {P : Program} {t : TypeId} (hs : P.underlying t = some .string) {l : List UInt8} {k : Nat} (hk : k < l.length) (W : World) :
    (Instr.index t (.string (bstr l)) (.int .i64 (k : Int))).run P W = .ok (.int .u8 ((bt l k).toNat : Int)) W := by
  rw [run_index_string W t (bstr l) .i64 k hs, dif_pos ⟨by omega, by rw [bstr_size]; omega⟩]
  have e : (bstr l)[((k : Int)).toNat]'(by rw [bstr_size]; omega) = bt l k := by
    simp [bstr, bt, hk, ByteArray.getElem_eq_getElem_data]
  rw [e]
theorem bt_32 {l : List UInt8} {k : Nat} : (bt l k = 32) ↔ (bt l k).toNat = 32 := by
  constructor
  · intro h; rw [h]; rfl
  · intro h; exact UInt8.toNat.inj (by rw [h]; rfl)
/-- the program's state behind k bytes -/
structure SpI (l : List UInt8) (k : Nat) (A : List (List UInt8)) (z : Int) : Prop where
  plain : plainTo l k = true
  here : k ≤ l.length → A = (fld l k).1 ∧ z = (if (fld l k).2 = [] then -1 else (k : Int) - ((fld l k).2.length : Int))
  last : k = l.length + 1 → A = fieldsOf l
theorem SpI.start (l : List UInt8) : SpI l 0 [] (-1) := ⟨by simp [plainTo], fun _ => ⟨rfl, rfl⟩, fun h => by omega⟩
theorem SpI.blank {l : List UInt8} {k : Nat} {A : List (List UInt8)} {z : Int} (h : SpI l k A z) (hk : k ≤ l.length) (hb : k = l.length ∨ (bt l k).toNat = 32) :
    (z = -1 ∧ SpI l (k + 1) A (-1)) ∨ ∃ (b : Nat) (c : List UInt8), z = (b : Int) ∧ b ≤ k ∧ (l.take k).drop b = c ∧ SpI l (k + 1) (A ++ [c]) (-1) := by
  obtain ⟨hA, hz⟩ := h.here hk
  have hp : plainTo l (k + 1) = true := plain_succ h.plain (by rcases hb with q | q <;> omega)
  have hcur := fld_cur l hk
  by_cases q : (fld l k).2 = []
  · rw [if_pos q] at hz
    refine .inl ⟨hz, hp, fun h2 => ?_, fun h2 => ?_⟩
    · have e : bt l k = 32 := bt_32.2 (by omega)
      rw [fld_sp0 e q, if_pos q]; exact ⟨hA, rfl⟩
    · obtain rfl : k = l.length := by omega
      unfold fieldsOf; rw [if_pos q]; exact hA
  · rw [if_neg q] at hz
    refine .inr ⟨k - (fld l k).2.length, (fld l k).2, by omega, by omega, hcur.2.symm, hp, fun h2 => ?_, fun h2 => ?_⟩
    · have e : bt l k = 32 := bt_32.2 (by omega)
      rw [fld_sp1 e q, hA]; exact ⟨rfl, rfl⟩
    · obtain rfl : k = l.length := by omega
      unfold fieldsOf; rw [if_neg q, hA]
theorem SpI.char {l : List UInt8} {k : Nat} {A : List (List UInt8)} {z : Int} (h : SpI l k A z) (hk : k < l.length) (hb : ¬ (bt l k).toNat = 32) (h0 : 32 ≤ (bt l k).toNat) (h1 : (bt l k).toNat ≤ 126) :
    (z = -1 ∧ SpI l (k + 1) A (k : Int)) ∨ ∃ b : Nat, z = (b : Int) ∧ SpI l (k + 1) A (b : Int) := by
  obtain ⟨hA, hz⟩ := h.here (by omega)
  have hp : plainTo l (k + 1) = true := plain_succ h.plain (.inr ⟨h0, h1⟩)
  have hcur := fld_cur l (k := k) (by omega)
  have e := fld_ch (fun q => hb (bt_32.1 q))
  by_cases q : (fld l k).2 = []
  · rw [if_pos q] at hz
    refine .inl ⟨hz, hp, fun h2 => ?_, fun h2 => by omega⟩
    rw [e, q]
    exact ⟨hA, by simp⟩
  · rw [if_neg q] at hz
    refine .inr ⟨k - (fld l k).2.length, by omega, hp, fun h2 => ?_, fun h2 => by omega⟩
    rw [e]
    exact ⟨hA, by simp; omega⟩
/-- the reference's -/
structure SpS (l : List UInt8) (k : Nat) (A : List (List UInt8)) (z : Nat) : Prop where
  plain : plainTo l k = true
  here : k ≤ l.length → A = (fld l k).1 ∧ z = k - (fld l k).2.length
  last : k = l.length + 1 → A = fieldsOf l
theorem SpS.start (l : List UInt8) : SpS l 0 [] 0 := ⟨by simp [plainTo], fun _ => ⟨rfl, rfl⟩, fun h => by omega⟩
theorem SpS.blank {l : List UInt8} {k : Nat} {A : List (List UInt8)} {z : Nat} (h : SpS l k A z) (hk : k ≤ l.length) (hb : k = l.length ∨ (bt l k).toNat = 32) :
    (z = k ∧ SpS l (k + 1) A (k + 1)) ∨ ∃ c : List UInt8, z < k ∧ (l.take k).drop z = c ∧ SpS l (k + 1) (A ++ [c]) (k + 1) := by
  obtain ⟨hA, hz⟩ := h.here hk
  have hp : plainTo l (k + 1) = true := plain_succ h.plain (by rcases hb with q | q <;> omega)
  have hcur := fld_cur l hk
  by_cases q : (fld l k).2 = []
  · rw [q] at hz
    refine .inl ⟨by simpa using hz, hp, fun h2 => ?_, fun h2 => ?_⟩
    · have e : bt l k = 32 := bt_32.2 (by omega)
      rw [fld_sp0 e q, q]; exact ⟨hA, by simp⟩
    · obtain rfl : k = l.length := by omega
      unfold fieldsOf; rw [if_pos q]; exact hA
  · have hne : 0 < (fld l k).2.length := List.length_pos_iff.2 q
    refine .inr ⟨(fld l k).2, by omega, by rw [hz]; exact hcur.2.symm, hp, fun h2 => ?_, fun h2 => ?_⟩
    · have e : bt l k = 32 := bt_32.2 (by omega)
      rw [fld_sp1 e q, hA]; exact ⟨rfl, by simp⟩
    · obtain rfl : k = l.length := by omega
      unfold fieldsOf; rw [if_neg q, hA]
theorem SpS.char {l : List UInt8} {k : Nat} {A : List (List UInt8)} {z : Nat} (h : SpS l k A z) (hk : k < l.length) (hb : ¬ (bt l k).toNat = 32) (h0 : 32 ≤ (bt l k).toNat) (h1 : (bt l k).toNat ≤ 126) : SpS l (k + 1) A z := by
  obtain ⟨hA, hz⟩ := h.here (by omega)
  have hp : plainTo l (k + 1) = true := plain_succ h.plain (.inr ⟨h0, h1⟩)
  have hcur := fld_cur l (k := k) (by omega)
  have e := fld_ch (fun q => hb (bt_32.1 q))
  refine ⟨hp, fun h2 => ?_, fun h2 => by omega⟩
  rw [e]
  exact ⟨hA, by simp; omega⟩
theorem fields_le {l : List UInt8} {k : Nat} {A : List (List UInt8)} (h6 : l.length ≤ 600) (hk : k ≤ l.length) (h : A = (fld l k).1) : A.length ≤ 600 := by
  have := fld_count l k
  subst h
  omega
end Go.Proofs.YtlipfkalehikkaaGreatDoor
