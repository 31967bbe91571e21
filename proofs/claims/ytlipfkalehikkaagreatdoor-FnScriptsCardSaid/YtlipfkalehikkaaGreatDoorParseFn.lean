/- The reading of an act: the plain law. -/
import Derived.Test.YtlipfkalehikkaaGreatDoorActText
import Derived.Lib.Atoi
namespace Go.Proofs.YtlipfkalehikkaaGreatDoor
open Go.ChangeShapes Go.WideShapes Go.ChangeAt Go.RowKit
/-- the value of a numeral's digits, in the reference's loop -/
theorem digit_val {d : Nat} (h : d < 10) : Lib.digitVal (UInt8.ofNat (48 + d)) = some d := by
  have e : (UInt8.ofNat (48 + d)).toNat = 48 + d := by simp [UInt8.toNat_ofNat']; omega
  unfold Lib.digitVal
  rw [e, if_pos (by omega)]
  congr 1; omega
theorem decFrom_app : ∀ (l r : List UInt8) (acc : Nat), Lib.decFrom acc (l ++ r) = (Lib.decFrom acc l).bind fun m => Lib.decFrom m r
  | [], r, acc => by simp [Lib.decFrom]
  | b :: l, r, acc => by
    simp only [List.cons_append, Lib.decFrom]
    cases Lib.digitVal b with
    | none => rfl
    | some d => exact decFrom_app l r _
theorem decFrom_digits (u : Nat) : Lib.decFrom 0 (Lib.decDigits u) = some u := by
  induction u using Nat.strongRecOn with
  | _ u ih =>
    by_cases h : u < 10
    · rw [dec_small h]; simp only [Lib.decFrom, digit_val h]; simp
    · rw [dec_big h, decFrom_app, ih (u / 10) (by omega)]
      simp only [Option.bind_some, Lib.decFrom, digit_val (show u % 10 < 10 by omega), Option.some.injEq]
      omega
theorem decDigits_ne (u : Nat) : Lib.decDigits u ≠ [] := by
  by_cases h : u < 10
  · rw [dec_small h]; simp
  · rw [dec_big h]; simp
/-- every byte of a numeral is a digit -/
theorem digits_mem {u : Nat} : ∀ c ∈ Lib.decDigits u, 48 ≤ c.toNat ∧ c.toNat ≤ 57 := by
  induction u using Nat.strongRecOn with
  | _ u ih =>
    have one : ∀ d, d < 10 → 48 ≤ (UInt8.ofNat (48 + d)).toNat ∧ (UInt8.ofNat (48 + d)).toNat ≤ 57 := fun d hd => by
      have e : (UInt8.ofNat (48 + d)).toNat = 48 + d := by simp [UInt8.toNat_ofNat']; omega
      omega
    intro c hc
    by_cases h : u < 10
    · rw [dec_small h, List.mem_singleton] at hc
      subst hc; exact one u h
    · rw [dec_big h, List.mem_append, List.mem_singleton] at hc
      rcases hc with hc | rfl
      · exact ih (u / 10) (by omega) c hc
      · exact one _ (by omega)
theorem decDigits_head {u : Nat} : ∃ c r, Lib.decDigits u = c :: r ∧ 48 ≤ c.toNat ∧ c.toNat ≤ 57 := by
  cases h : Lib.decDigits u with
  | nil => exact absurd h (decDigits_ne u)
  | cons c r => exact ⟨c, r, rfl, digits_mem c (by rw [h]; simp)⟩
theorem atoi_digits (u : Nat) : Lib.atoi (Lib.decDigits u) = some (u : Int) := by
  obtain ⟨c, r, e, c0, c1⟩ := decDigits_head (u := u)
  have hd := decFrom_digits u
  rw [e] at hd ⊢
  have h1 : ¬ (c == 45) = true := fun z => by rw [beq_iff_eq] at z; subst z; simp at c0
  have h2 : ¬ (c == 43) = true := fun z => by rw [beq_iff_eq] at z; subst z; simp at c0
  simp only [Lib.atoi]
  rw [if_neg h1, if_neg h2]
  simp [Lib.decNat, hd]
/-- a number that a field denotes: the canonical numeral of at most 10^9 -/
def uintOf (l : List UInt8) : Option Nat :=
  match Lib.decFrom 0 l with
  | some n => if n ≤ 1000000000 ∧ Lib.decDigits n = l then some n else none
  | none => none
theorem uintOf_iff {l : List UInt8} {n : Nat} : uintOf l = some n ↔ n ≤ 1000000000 ∧ l = Lib.decDigits n := by
  unfold uintOf
  constructor
  · intro h
    split at h
    next m hm =>
      split at h
      next q => cases h; exact ⟨q.1, q.2.symm⟩
      · cases h
    · cases h
  · rintro ⟨h, rfl⟩
    rw [decFrom_digits]
    simp [h]
theorem uintOf_digits {n : Nat} (h : n ≤ 1000000000) : uintOf (Lib.decDigits n) = some n := uintOf_iff.2 ⟨h, rfl⟩
/-- what the reference reads -/
def numOf (l : List UInt8) : Int :=
  match l with
  | 45 :: c :: r => -(((uintOf (c :: r)).getD 0 : Nat) : Int)
  | l => (((uintOf l).getD 0 : Nat) : Int)
theorem numOf_uint {l : List UInt8} {n : Nat} (h : uintOf l = some n) : numOf l = n := by
  have hn : ∀ c r, l ≠ 45 :: c :: r := fun c r e => by
    obtain ⟨c', r', e', c0, _⟩ := decDigits_head (u := n)
    rw [(uintOf_iff.1 h).2, e'] at e
    cases e
    simp at c0
  unfold numOf
  split
  · exact absurd rfl (hn _ _)
  · rw [h]; rfl
/-- a text of a number that is not negative and at most 10^9 is read so -/
theorem uintOf_itoa {z : Int} (h0 : 0 ≤ z) (h1 : z ≤ 1000000000) : uintOf (Lib.itoa z) = some z.toNat := by
  obtain ⟨u, rfl⟩ := Int.eq_ofNat_of_zero_le h0
  rw [itoa_pos]
  exact uintOf_digits (by omega)
theorem itoa_uint {l : List UInt8} {n : Nat} (h : uintOf l = some n) : Lib.itoa (n : Int) = l := by rw [itoa_pos]; exact (uintOf_iff.1 h).2.symm
/-! texts that begin with a field -/
def spaced : List (List UInt8) → List UInt8
  | [] => []
  | w :: ws => 32 :: w ++ spaced ws
theorem spaced_app : ∀ (a b : List (List UInt8)), spaced (a ++ b) = spaced a ++ spaced b
  | [], b => rfl
  | w :: a, b => by simp [spaced, spaced_app a b]
theorem field_split : ∀ {a b : List UInt8} {A B : List UInt8}, ¬ (32 : UInt8) ∈ a → ¬ (32 : UInt8) ∈ b → (A = [] ∨ ∃ r, A = 32 :: r) → (B = [] ∨ ∃ r, B = 32 :: r) → a ++ A = b ++ B → a = b ∧ A = B
  | [], [], A, B, _, _, _, _, h => ⟨rfl, h⟩
  | [], y :: b, A, B, _, hb, hA, _, h => by
    rcases hA with rfl | ⟨r, rfl⟩
    · simp at h
    · simp at h; exact absurd (by simp [h.1]) hb
  | x :: a, [], A, B, ha, _, _, hB, h => by
    rcases hB with rfl | ⟨r, rfl⟩
    · simp at h
    · simp at h; exact absurd (by simp [h.1]) ha
  | x :: a, y :: b, A, B, ha, hb, hA, hB, h => by
    simp only [List.cons_append, List.cons.injEq] at h
    have := field_split (a := a) (b := b) (fun z => ha (by simp [z])) (fun z => hb (by simp [z])) hA hB h.2
    exact ⟨by rw [h.1, this.1], this.2⟩
theorem spaced_form : ∀ ws, spaced ws = [] ∨ ∃ r, spaced ws = 32 :: r
  | [] => .inl rfl
  | _ :: _ => .inr ⟨_, rfl⟩
theorem spaced_inj : ∀ {ws vs : List (List UInt8)}, (∀ w ∈ ws, ¬ (32 : UInt8) ∈ w) → (∀ w ∈ vs, ¬ (32 : UInt8) ∈ w) → spaced ws = spaced vs → ws = vs
  | [], [], _, _, _ => rfl
  | [], v :: vs, _, _, h => by simp [spaced] at h
  | w :: ws, [], _, _, h => by simp [spaced] at h
  | w :: ws, v :: vs, hw, hv, h => by
    simp only [spaced, List.cons_append, List.cons.injEq, true_and] at h
    have q := field_split (hw w (by simp)) (hv v (by simp)) (spaced_form ws) (spaced_form vs) h
    rw [q.1, spaced_inj (fun w hw' => hw w (by simp [hw'])) (fun w hv' => hv w (by simp [hv'])) q.2]
theorem itoa_no32 {z : Int} : ¬ (32 : UInt8) ∈ Lib.itoa z := by
  unfold Lib.itoa
  split
  · intro h
    rw [List.mem_cons] at h
    rcases h with h | h
    · simp at h
    · have := digits_mem _ h; simp at this
  · intro h
    have := digits_mem _ h; simp at this
theorem word_no32 (k : Nat) : ¬ (32 : UInt8) ∈ actWord k := by unfold actWord; split <;> simp
/-- the numbers' texts, as fields -/
def numFields (f : Nat → Int) : Nat → List (List UInt8)
  | 0 => []
  | k + 1 => numFields f k ++ [Lib.itoa (f k)]
theorem numFields_len (f : Nat → Int) : ∀ k, (numFields f k).length = k
  | 0 => rfl
  | k + 1 => by simp [numFields, numFields_len f k]
theorem numFields_get (f : Nat → Int) : ∀ {k i : Nat}, i < k → (numFields f k)[i]? = some (Lib.itoa (f i))
  | 0, i, h => absurd h (by omega)
  | k + 1, i, h => by
    rcases Nat.lt_or_ge i k with q | q
    · rw [numFields, List.getElem?_append_left (by rw [numFields_len]; exact q)]; exact numFields_get f q
    · obtain rfl : i = k := by omega
      rw [numFields, List.getElem?_append_right (by rw [numFields_len]; omega)]
      simp [numFields_len]
theorem spTo_spaced (f : Nat → Int) : ∀ k, spTo f k = spaced (numFields f k)
  | 0 => rfl
  | k + 1 => by simp [spTo, numFields, spaced_app, spaced, spTo_spaced f k]
theorem numFields_no32 (f : Nat → Int) : ∀ k, ∀ w ∈ numFields f k, ¬ (32 : UInt8) ∈ w
  | 0, w, h => by simp [numFields] at h
  | k + 1, w, h => by
    rw [numFields, List.mem_append, List.mem_singleton] at h
    rcases h with h | rfl
    · exact numFields_no32 f k w h
    · exact itoa_no32
/-! reading an act -/
/-- field i as the program reads it -/
def fieldNum (ws : List (List UInt8)) (i : Nat) : Int := numOf (ws.getD i [48])
def uintAll (ws : List (List UInt8)) : Bool := ws.all fun w => (uintOf w).isSome
structure Parsed where
  k : Int
  a : Int
  b : Int
  c : Int
  d : Int
/-- the kind whose word and count these fields have -/
def kindOf (w0 : List UInt8) (m : Nat) : Nat := if actWord 1 = w0 ∧ m = 4 then 1 else if actWord 2 = w0 ∧ m = 1 then 2 else if actWord 3 = w0 ∧ m = 2 then 3 else if actWord 4 = w0 ∧ m = 1 then 4 else if actWord 5 = w0 ∧ m = 2 then 5 else 0
def parseAct (F : Option (List (List UInt8))) : Parsed × Bool :=
  match F with
  | some (w0 :: ws) =>
    let k := kindOf w0 ws.length
    if k ≠ 0 ∧ uintAll ws = true ∧ actOk k (fieldNum ws 0) (fieldNum ws 1) (fieldNum ws 2) (fieldNum ws 3) = true then (⟨k, fieldNum ws 0, fieldNum ws 1, fieldNum ws 2, fieldNum ws 3⟩, true) else (⟨0, 0, 0, 0, 0⟩, false)
  | _ => (⟨0, 0, 0, 0, 0⟩, false)
theorem kindOf_bd (w0 : List UInt8) (m : Nat) : kindOf w0 m ≤ 5 := by
  unfold kindOf; repeat' split <;> try omega
theorem kindOf_t {w0 : List UInt8} {m k : Nat} (h1 : 1 ≤ k) (h5 : k ≤ 5) (hw : actWord k = w0) (hm : m = actCount k) : kindOf w0 m = k := by
  subst hw hm
  obtain rfl | rfl | rfl | rfl | rfl : k = 1 ∨ k = 2 ∨ k = 3 ∨ k = 4 ∨ k = 5 := by omega
  all_goals simp [kindOf, actWord, actCount]
theorem kindOf_f {w0 : List UInt8} {m : Nat} (h0 : kindOf w0 m ≠ 0) : 1 ≤ kindOf w0 m ∧ kindOf w0 m ≤ 5 ∧ actWord (kindOf w0 m) = w0 ∧ m = actCount (kindOf w0 m) := by
  have hb := kindOf_bd w0 m
  refine ⟨by omega, hb, ?_⟩
  clear hb
  revert h0
  unfold kindOf
  repeat' split
  all_goals first
    | (rename_i q; intro _; exact ⟨q.1, q.2⟩)
    | (intro z; exact absurd rfl z)
theorem kindOf_4 {w0 : List UInt8} {m : Nat} (h : 4 < m) : kindOf w0 m = 0 := by
  unfold kindOf
  rw [if_neg (by omega), if_neg (by omega), if_neg (by omega), if_neg (by omega), if_neg (by omega)]
/-- the numbers of the fields, four of them -/
def four (ws : List (List UInt8)) : List Int := [fieldNum ws 0, fieldNum ws 1, fieldNum ws 2, fieldNum ws 3]
theorem four_at {ws : List (List UInt8)} {i : Nat} (h : i < 4) : nth (four ws) i = fieldNum ws i := by
  obtain rfl | rfl | rfl | rfl : i = 0 ∨ i = 1 ∨ i = 2 ∨ i = 3 := by omega
  all_goals rfl
def formatOf (ws : List (List UInt8)) (k : Nat) : List UInt8 × Bool := formatAct k (fieldNum ws 0) (fieldNum ws 1) (fieldNum ws 2) (fieldNum ws 3)
/-- the reference's test at kind k -/
theorem hit_iff {w0 : List UInt8} {ws : List (List UInt8)} {k : Nat} (h1 : 1 ≤ k) (h5 : k ≤ 5) (n0 : ¬ (32 : UInt8) ∈ w0) (ns : ∀ w ∈ ws, ¬ (32 : UInt8) ∈ w) :
    formatOf ws k = (w0 ++ spaced ws, true) ↔ kindOf w0 ws.length = k ∧ uintAll ws = true ∧ actOk k (fieldNum ws 0) (fieldNum ws 1) (fieldNum ws 2) (fieldNum ws 3) = true := by
  have e4 : [fieldNum ws 0, fieldNum ws 1, fieldNum ws 2, fieldNum ws 3] = four ws := rfl
  have hc := actCount_le k
  constructor
  · intro h
    unfold formatOf formatAct at h
    split at h
    next q =>
      rw [Prod.mk.injEq] at h
      have h := h.1
      rw [Int.toNat_natCast, e4, spTo_spaced] at h
      obtain ⟨q1, q2⟩ := field_split (word_no32 k) n0 (spaced_form _) (spaced_form _) h
      have q3 := spaced_inj (numFields_no32 _ _) ns q2
      have bd := actOk_bd q
      refine ⟨kindOf_t h1 h5 q1 (by rw [← q3, numFields_len]), ?_, q⟩
      unfold uintAll
      rw [List.all_eq_true]
      intro w hw
      rw [← q3] at hw
      obtain ⟨i, hi, e⟩ := List.getElem_of_mem hw
      rw [numFields_len] at hi
      have e2 := numFields_get (nth (four ws)) hi
      rw [List.getElem?_eq_getElem (by rw [numFields_len]; exact hi), e, Option.some.injEq] at e2
      rw [e2, four_at (by omega)]
      have b4 : 0 ≤ fieldNum ws i ∧ fieldNum ws i ≤ 10000 := by
        obtain rfl | rfl | rfl | rfl : i = 0 ∨ i = 1 ∨ i = 2 ∨ i = 3 := by omega
        all_goals omega
      rw [uintOf_itoa b4.1 (by omega)]; rfl
    · rw [Prod.mk.injEq] at h; exact absurd h.2 (by simp)
  · rintro ⟨hk, hu, q⟩
    have hf := kindOf_f (w0 := w0) (m := ws.length) (by omega)
    rw [hk] at hf
    obtain ⟨-, -, hw, hm⟩ := hf
    unfold formatOf formatAct
    rw [if_pos q, Int.toNat_natCast, e4, spTo_spaced, hw]
    have e : numFields (nth (four ws)) (actCount k) = ws := by
      refine List.ext_getElem? fun i => ?_
      rcases Nat.lt_or_ge i (actCount k) with z | z
      · rw [numFields_get _ z, four_at (by omega)]
        have hi : i < ws.length := by omega
        rw [List.getElem?_eq_getElem hi]
        unfold uintAll at hu
        rw [List.all_eq_true] at hu
        have hs := hu _ (List.getElem_mem hi)
        obtain ⟨n, hn⟩ := Option.isSome_iff_exists.1 hs
        have e1 : fieldNum ws i = n := by
          unfold fieldNum
          rw [show ws.getD i [48] = ws[i] by simp [hi]]
          exact numOf_uint hn
        rw [e1, itoa_uint hn]
      · rw [List.getElem?_eq_none (by rw [numFields_len]; exact z), List.getElem?_eq_none (by omega)]
    rw [e]
theorem parse_no {w0 : List UInt8} {ws : List (List UInt8)} (h : kindOf w0 ws.length = 0) : parseAct (some (w0 :: ws)) = (⟨0, 0, 0, 0, 0⟩, false) := by
  simp [parseAct, h]
theorem parse_f {w0 : List UInt8} {ws : List (List UInt8)} (h : ¬ (uintAll ws = true ∧ actOk (kindOf w0 ws.length) (fieldNum ws 0) (fieldNum ws 1) (fieldNum ws 2) (fieldNum ws 3) = true)) : parseAct (some (w0 :: ws)) = (⟨0, 0, 0, 0, 0⟩, false) := if_neg fun z => h z.2
theorem parse_t {w0 : List UInt8} {ws : List (List UInt8)} {k : Nat} (hk : kindOf w0 ws.length = k) (h0 : k ≠ 0) (h : uintAll ws = true ∧ actOk k (fieldNum ws 0) (fieldNum ws 1) (fieldNum ws 2) (fieldNum ws 3) = true) : parseAct (some (w0 :: ws)) = (⟨k, fieldNum ws 0, fieldNum ws 1, fieldNum ws 2, fieldNum ws 3⟩, true) := by
  subst hk
  exact if_pos ⟨h0, h⟩
/-! the fields of a line -/
def bt (l : List UInt8) (i : Nat) : UInt8 := l.getD i 0
/-- the fields behind k bytes: those that are whole, and the one under way -/
def fld (l : List UInt8) : Nat → List (List UInt8) × List UInt8
  | 0 => ([], [])
  | k + 1 => if bt l k = 32 then (if (fld l k).2 = [] then fld l k else ((fld l k).1 ++ [(fld l k).2], [])) else ((fld l k).1, (fld l k).2 ++ [bt l k])
def fieldsOf (l : List UInt8) : List (List UInt8) := if (fld l l.length).2 = [] then (fld l l.length).1 else (fld l l.length).1 ++ [(fld l l.length).2]
def plainTo (l : List UInt8) (k : Nat) : Bool := (l.take k).all fun c => decide (32 ≤ c.toNat ∧ c.toNat ≤ 126)
def splitFields (l : List UInt8) : Option (List (List UInt8)) := if l.length ≤ 600 ∧ plainTo l l.length = true ∧ (fieldsOf l).length ≤ 24 then some (fieldsOf l) else none
theorem fld_sp0 {l : List UInt8} {k : Nat} (h : bt l k = 32) (h2 : (fld l k).2 = []) : fld l (k + 1) = fld l k := by show (if _ then _ else _) = _; rw [if_pos h, if_pos h2]
theorem fld_sp1 {l : List UInt8} {k : Nat} (h : bt l k = 32) (h2 : ¬ (fld l k).2 = []) : fld l (k + 1) = ((fld l k).1 ++ [(fld l k).2], []) := by show (if _ then _ else _) = _; rw [if_pos h, if_neg h2]
theorem fld_ch {l : List UInt8} {k : Nat} (h : ¬ bt l k = 32) : fld l (k + 1) = ((fld l k).1, (fld l k).2 ++ [bt l k]) := by show (if _ then _ else _) = _; rw [if_neg h]
/-- the field under way are the last bytes -/
theorem fld_cur (l : List UInt8) : ∀ {k : Nat}, k ≤ l.length → (fld l k).2.length ≤ k ∧ (fld l k).2 = (l.take k).drop (k - (fld l k).2.length)
  | 0, _ => by simp [fld]
  | k + 1, h => by
    have ih := fld_cur l (k := k) (by omega)
    by_cases q : bt l k = 32
    · by_cases q2 : (fld l k).2 = []
      · rw [fld_sp0 q q2, q2]
        refine ⟨by simp, ?_⟩
        rw [List.length_nil, List.drop_eq_nil_of_le (by simp; omega)]
      · rw [fld_sp1 q q2]
        refine ⟨by simp, ?_⟩
        rw [List.length_nil, List.drop_eq_nil_of_le (by simp; omega)]
    · rw [fld_ch q]
      have hk : k < l.length := by omega
      refine ⟨by simp; omega, ?_⟩
      simp only [List.length_append, List.length_cons, List.length_nil]
      rw [List.take_succ_eq_append_getElem hk, List.drop_append_of_le_length (by simp; omega)]
      rw [show k + 1 - ((fld l k).2.length + (0 + 1)) = k - (fld l k).2.length by omega, ← ih.2]
      simp [bt, hk]
theorem fld_count (l : List UInt8) : ∀ k, (fld l k).1.length + (if (fld l k).2 = [] then 0 else 1) ≤ k
  | 0 => by simp [fld]
  | k + 1 => by
    have ih := fld_count l k
    by_cases q : bt l k = 32
    · by_cases q2 : (fld l k).2 = []
      · rw [fld_sp0 q q2]; omega
      · rw [fld_sp1 q q2]; rw [if_neg q2] at ih; simp; omega
    · rw [fld_ch q]; simp
      by_cases q2 : (fld l k).2 = []
      · rw [if_pos q2] at ih; omega
      · rw [if_neg q2] at ih; omega
theorem fieldsOf_len (l : List UInt8) : (fieldsOf l).length ≤ l.length := by
  have := fld_count l l.length
  unfold fieldsOf
  by_cases q : (fld l l.length).2 = []
  · rw [if_pos q] at *; omega
  · rw [if_neg q] at *; simp; omega
theorem fld_no32 (l : List UInt8) : ∀ k, (∀ w ∈ (fld l k).1, ¬ (32 : UInt8) ∈ w) ∧ ¬ (32 : UInt8) ∈ (fld l k).2
  | 0 => by simp [fld]
  | k + 1 => by
    have ih := fld_no32 l k
    by_cases q : bt l k = 32
    · by_cases q2 : (fld l k).2 = []
      · rw [fld_sp0 q q2]; exact ih
      · rw [fld_sp1 q q2]
        refine ⟨fun w hw => ?_, by simp⟩
        rw [List.mem_append, List.mem_singleton] at hw
        rcases hw with hw | rfl
        · exact ih.1 w hw
        · exact ih.2
    · rw [fld_ch q]
      refine ⟨ih.1, fun z => ?_⟩
      rw [List.mem_append, List.mem_singleton] at z
      rcases z with z | z
      · exact ih.2 z
      · exact q z.symm
theorem fieldsOf_no32 (l : List UInt8) : ∀ w ∈ fieldsOf l, ¬ (32 : UInt8) ∈ w := by
  have h := fld_no32 l l.length
  unfold fieldsOf
  intro w hw
  split at hw
  · exact h.1 w hw
  · rw [List.mem_append, List.mem_singleton] at hw
    rcases hw with hw | rfl
    · exact h.1 w hw
    · exact h.2
theorem split_no32 {l : List UInt8} {F : List (List UInt8)} (h : splitFields l = some F) : ∀ w ∈ F, ¬ (32 : UInt8) ∈ w := by
  unfold splitFields at h
  split at h
  · cases h; exact fieldsOf_no32 l
  · cases h
theorem split_len {l : List UInt8} {F : List (List UInt8)} (h : splitFields l = some F) : F.length ≤ 24 ∧ l.length ≤ 600 := by
  unfold splitFields at h
  split at h
  next q => cases h; exact ⟨q.2.2, q.1⟩
  · cases h
theorem fld_short (l : List UInt8) : ∀ {k : Nat}, k ≤ l.length → ∀ w ∈ (fld l k).1, w.length ≤ l.length
  | 0, _, w, h => by simp [fld] at h
  | k + 1, hk, w, h => by
    by_cases q : bt l k = 32
    · by_cases q2 : (fld l k).2 = []
      · rw [fld_sp0 q q2] at h; exact fld_short l (by omega) w h
      · rw [fld_sp1 q q2, List.mem_append, List.mem_singleton] at h
        rcases h with h | rfl
        · exact fld_short l (by omega) w h
        · have := (fld_cur l (k := k) (by omega)).1; omega
    · rw [fld_ch q] at h; exact fld_short l (by omega) w h
theorem split_short {l : List UInt8} {F : List (List UInt8)} (h : splitFields l = some F) : ∀ w ∈ F, w.length ≤ 600 := by
  unfold splitFields at h
  split at h
  next q =>
    cases h
    intro w hw
    unfold fieldsOf at hw
    split at hw
    · have := fld_short l (Nat.le_refl _) w hw; omega
    · rw [List.mem_append, List.mem_singleton] at hw
      rcases hw with hw | rfl
      · have := fld_short l (Nat.le_refl _) w hw; omega
      · have := (fld_cur l (k := l.length) (Nat.le_refl _)).1; omega
  · cases h
/-! the fields of an act's own text -/
def stp (s : List (List UInt8) × List UInt8) (c : UInt8) : List (List UInt8) × List UInt8 := if c = 32 then (if s.2 = [] then s else (s.1 ++ [s.2], [])) else (s.1, s.2 ++ [c])
def flush (s : List (List UInt8) × List UInt8) : List (List UInt8) := if s.2 = [] then s.1 else s.1 ++ [s.2]
theorem fld_fold (l : List UInt8) : ∀ {k : Nat}, k ≤ l.length → fld l k = (l.take k).foldl stp ([], [])
  | 0, _ => by simp [fld]
  | k + 1, h => by
    have hk : k < l.length := by omega
    rw [List.take_succ_eq_append_getElem hk, List.foldl_append, ← fld_fold l (k := k) (by omega)]
    have e : bt l k = l[k] := by simp [bt, hk]
    show (if _ then _ else _) = stp (fld l k) l[k]
    rw [e]; rfl
theorem fieldsOf_fold (l : List UInt8) : fieldsOf l = flush (l.foldl stp ([], [])) := by
  have := fld_fold l (Nat.le_refl _)
  rw [List.take_length] at this
  unfold fieldsOf
  rw [this]; rfl
theorem fold_field : ∀ (w : List UInt8) (A : List (List UInt8)) (c : List UInt8), ¬ (32 : UInt8) ∈ w → w.foldl stp (A, c) = (A, c ++ w)
  | [], A, c, _ => by simp
  | x :: w, A, c, h => by
    have hx : ¬ x = 32 := fun e => h (by simp [e])
    rw [List.foldl_cons]
    have : stp (A, c) x = (A, c ++ [x]) := by unfold stp; rw [if_neg hx]
    rw [this, fold_field w A (c ++ [x]) (fun z => h (by simp [z]))]
    simp
theorem fold_spaced : ∀ (ws : List (List UInt8)) (A : List (List UInt8)) (c : List UInt8), c ≠ [] → (∀ w ∈ ws, w ≠ [] ∧ ¬ (32 : UInt8) ∈ w) → flush ((spaced ws).foldl stp (A, c)) = A ++ c :: ws ∧ ((spaced ws).foldl stp (A, c)).2 ≠ []
  | [], A, c, h, _ => by simp [spaced, flush, h]
  | w :: ws, A, c, h, hw => by
    have q := hw w (by simp)
    have e : (spaced (w :: ws)).foldl stp (A, c) = (spaced ws).foldl stp (A ++ [c], w) := by
      show (32 :: w ++ spaced ws).foldl stp (A, c) = _
      rw [List.cons_append, List.foldl_cons, List.foldl_append]
      have : stp (A, c) 32 = (A ++ [c], []) := by unfold stp; rw [if_pos rfl, if_neg h]
      rw [this, fold_field w _ _ q.2, List.nil_append]
    rw [e]
    have ih := fold_spaced ws (A ++ [c]) w q.1 (fun x hx => hw x (by simp [hx]))
    exact ⟨by rw [ih.1]; simp, ih.2⟩
/-- a line of fields, with two blanks ahead and one behind -/
theorem fields_line {w0 : List UInt8} {ws : List (List UInt8)} (h0 : w0 ≠ []) (n0 : ¬ (32 : UInt8) ∈ w0) (hw : ∀ w ∈ ws, w ≠ [] ∧ ¬ (32 : UInt8) ∈ w) : fieldsOf (32 :: 32 :: (w0 ++ spaced ws) ++ [32]) = w0 :: ws := by
  rw [fieldsOf_fold, List.foldl_append]
  have e : (32 :: 32 :: (w0 ++ spaced ws)).foldl stp ([], []) = (spaced ws).foldl stp ([], w0) := by
    rw [List.foldl_cons, List.foldl_cons, List.foldl_append]
    have : stp (stp ([], []) 32) 32 = ([], []) := by simp [stp]
    rw [this, fold_field w0 _ _ n0, List.nil_append]
  rw [e]
  obtain ⟨q1, q2⟩ := fold_spaced ws [] w0 h0 hw
  generalize (spaced ws).foldl stp ([], w0) = s at *
  have : stp s 32 = (s.1 ++ [s.2], []) := by unfold stp; rw [if_pos rfl, if_neg q2]
  rw [List.foldl_cons, List.foldl_nil, this]
  unfold flush at q1 ⊢
  rw [if_neg q2] at q1
  rw [if_pos rfl, q1]; rfl
/-- the line itself, no blank about it -/
theorem fields_bare {w0 : List UInt8} {ws : List (List UInt8)} (h0 : w0 ≠ []) (n0 : ¬ (32 : UInt8) ∈ w0) (hw : ∀ w ∈ ws, w ≠ [] ∧ ¬ (32 : UInt8) ∈ w) : fieldsOf (w0 ++ spaced ws) = w0 :: ws := by
  rw [fieldsOf_fold, List.foldl_append, fold_field w0 _ _ n0, List.nil_append]
  exact (fold_spaced ws [] w0 h0 hw).1
theorem itoa_ne (z : Int) : Lib.itoa z ≠ [] := by
  unfold Lib.itoa
  split
  · simp
  · exact decDigits_ne _
theorem numFields_ok (f : Nat → Int) : ∀ k, ∀ w ∈ numFields f k, w ≠ [] ∧ ¬ (32 : UInt8) ∈ w
  | 0, w, h => by simp [numFields] at h
  | k + 1, w, h => by
    rw [numFields, List.mem_append, List.mem_singleton] at h
    rcases h with h | rfl
    · exact numFields_ok f k w h
    · exact ⟨itoa_ne _, itoa_no32⟩
theorem word_ne {k : Nat} (h1 : 1 ≤ k) (h5 : k ≤ 5) : actWord k ≠ [] := by
  obtain rfl | rfl | rfl | rfl | rfl : k = 1 ∨ k = 2 ∨ k = 3 ∨ k = 4 ∨ k = 5 := by omega
  all_goals simp [actWord]
def plainB (l : List UInt8) : Bool := l.all fun c => decide (32 ≤ c.toNat ∧ c.toNat ≤ 126)
theorem plain_app (a b : List UInt8) : plainB (a ++ b) = (plainB a && plainB b) := by simp [plainB]
theorem plain_digits (u : Nat) : plainB (Lib.decDigits u) = true := by
  unfold plainB
  rw [List.all_eq_true]
  intro c hc
  have := digits_mem c hc
  rw [decide_eq_true_eq]; omega
theorem plain_itoa (z : Int) : plainB (Lib.itoa z) = true := by
  unfold Lib.itoa
  split
  · have := plain_digits z.natAbs
    unfold plainB at *
    rw [List.all_cons, this]; decide
  · exact plain_digits _
theorem plain_nums (f : Nat → Int) : ∀ k, plainB (spaced (numFields f k)) = true
  | 0 => rfl
  | k + 1 => by
    rw [numFields, spaced_app, plain_app, plain_nums f k]
    show (true && plainB (32 :: Lib.itoa (f k) ++ [])) = true
    have := plain_itoa (f k)
    unfold plainB at *
    rw [List.append_nil, List.all_cons, this]; decide
theorem plain_word (k : Nat) : plainB (actWord k) = true := by
  unfold actWord; split <;> decide
theorem numFields_size {f : Nat → Int} : ∀ k, (∀ i, i < k → 0 ≤ f i ∧ f i ≤ 10000) → (spaced (numFields f k)).length ≤ 6 * k
  | 0, _ => by simp [numFields, spaced]
  | k + 1, h => by
    have ih := numFields_size (f := f) k (fun i hi => h i (by omega))
    have b := h k (by omega)
    obtain ⟨u, hu⟩ := Int.eq_ofNat_of_zero_le b.1
    have hl : (Lib.itoa (f k)).length ≤ 5 := by
      rw [hu, itoa_pos]
      exact dec_len 4 u (by omega)
    rw [numFields, spaced_app, List.length_append]
    show _ + (32 :: Lib.itoa (f k) ++ []).length ≤ _
    simp; omega
theorem nth_four {a b c d : Int} (h : 0 ≤ a ∧ a ≤ 10000 ∧ 0 ≤ b ∧ b ≤ 10000 ∧ 0 ≤ c ∧ c ≤ 10000 ∧ 0 ≤ d ∧ d ≤ 10000) {i : Nat} (hi : i < 4) : 0 ≤ nth [a, b, c, d] i ∧ nth [a, b, c, d] i ≤ 10000 := by
  obtain rfl | rfl | rfl | rfl : i = 0 ∨ i = 1 ∨ i = 2 ∨ i = 3 := by omega
  all_goals simp [nth]; omega
/-- an act's text -/
def actLine (k : Nat) (a b c d : Int) : List UInt8 := actWord k ++ spaced (numFields (nth [a, b, c, d]) (actCount k))
theorem format_line {k : Nat} {a b c d : Int} (h : actOk k a b c d = true) : formatAct k a b c d = (actLine k a b c d, true) := by
  unfold formatAct
  rw [if_pos h, Int.toNat_natCast, spTo_spaced]; rfl
theorem actLine_size {k : Nat} {a b c d : Int} (h : actOk k a b c d = true) : (actLine k a b c d).length ≤ 34 := by
  have bd := actOk_bd h
  have hc := actCount_le k
  have hs := numFields_size (f := nth [a, b, c, d]) (actCount k) (fun i hi => nth_four bd.2.2 (by omega))
  have hw : (actWord k).length ≤ 10 := by unfold actWord; split <;> simp
  unfold actLine
  rw [List.length_append]; omega
theorem split_line {k : Nat} {a b c d : Int} (h : actOk k a b c d = true) : splitFields (32 :: 32 :: actLine k a b c d ++ [32]) = some (actWord k :: numFields (nth [a, b, c, d]) (actCount k)) := by
  have bd := actOk_bd h
  have hc := actCount_le k
  have hl := actLine_size h
  have hf : fieldsOf (32 :: 32 :: actLine k a b c d ++ [32]) = actWord k :: numFields (nth [a, b, c, d]) (actCount k) := fields_line (word_ne (by omega) (by omega)) (word_no32 k) (numFields_ok _ _)
  unfold splitFields
  rw [hf, if_pos ?_]
  refine ⟨by simp; omega, ?_, by simp [numFields_len]; omega⟩
  unfold plainTo
  rw [List.take_length]
  have p1 : plainB (actLine k a b c d) = true := by unfold actLine; rw [plain_app, plain_word, plain_nums]; rfl
  unfold plainB at p1
  rw [List.cons_append, List.cons_append, List.all_cons, List.all_cons, List.all_append, p1]
  decide
theorem split_bare {k : Nat} {a b c d : Int} (h : actOk k a b c d = true) : splitFields (actLine k a b c d) = some (actWord k :: numFields (nth [a, b, c, d]) (actCount k)) := by
  have bd := actOk_bd h
  have hc := actCount_le k
  have hl := actLine_size h
  have hf : fieldsOf (actLine k a b c d) = actWord k :: numFields (nth [a, b, c, d]) (actCount k) := fields_bare (word_ne (by omega) (by omega)) (word_no32 k) (numFields_ok _ _)
  unfold splitFields
  rw [hf, if_pos ?_]
  refine ⟨by omega, ?_, by simp [numFields_len]; omega⟩
  unfold plainTo
  rw [List.take_length]
  have p1 : plainB (actLine k a b c d) = true := by unfold actLine; rw [plain_app, plain_word, plain_nums]; rfl
  exact p1
theorem fieldNum_in {f : Nat → Int} {m i : Nat} (hi : i < m) (h0 : 0 ≤ f i) (h1 : f i ≤ 10000) : fieldNum (numFields f m) i = f i := by
  unfold fieldNum
  rw [List.getD_eq_getElem?_getD, numFields_get f hi, Option.getD_some, numOf_uint (uintOf_itoa h0 (by omega))]
  omega
theorem fieldNum_out {f : Nat → Int} {m i : Nat} (hi : m ≤ i) : fieldNum (numFields f m) i = 0 := by
  unfold fieldNum
  rw [List.getD_eq_getElem?_getD, List.getElem?_eq_none (by rw [numFields_len]; exact hi), Option.getD_none]
  have : uintOf [48] = some 0 := uintOf_iff.2 ⟨by omega, by rw [dec_small (by omega)]; rfl⟩
  exact numOf_uint this
/-- an act's text is read as the act -/
theorem parse_line {k : Nat} {a b c d : Int} (h : actOk k a b c d = true) : parseAct (some (actWord k :: numFields (nth [a, b, c, d]) (actCount k))) = (⟨k, a, b, c, d⟩, true) := by
  have bd := actOk_bd h
  have hc := actCount_le k
  have hb : ∀ i, i < 4 → 0 ≤ nth [a, b, c, d] i ∧ nth [a, b, c, d] i ≤ 10000 := fun i hi => nth_four bd.2.2 hi
  have hz : ∀ i, i < 4 → actCount k ≤ i → nth [a, b, c, d] i = 0 := by
    intro i hi hm
    obtain rfl | rfl | rfl | rfl | rfl : k = 1 ∨ k = 2 ∨ k = 3 ∨ k = 4 ∨ k = 5 := by omega
    all_goals
      simp [actCount] at hm
      simp [actOk, inB] at h
      obtain rfl | rfl | rfl | rfl : i = 0 ∨ i = 1 ∨ i = 2 ∨ i = 3 := by omega
      all_goals first | omega | (simp [nth]; omega)
  have hn : ∀ i, i < 4 → fieldNum (numFields (nth [a, b, c, d]) (actCount k)) i = nth [a, b, c, d] i := fun i hi => by
    rcases Nat.lt_or_ge i (actCount k) with q | q
    · exact fieldNum_in q (hb i hi).1 (hb i hi).2
    · rw [fieldNum_out q, hz i hi q]
  have hk : kindOf (actWord k) (numFields (nth [a, b, c, d]) (actCount k)).length = k := kindOf_t (by omega) (by omega) rfl (numFields_len _ _)
  have hu : uintAll (numFields (nth [a, b, c, d]) (actCount k)) = true := by
    unfold uintAll
    rw [List.all_eq_true]
    intro w hw
    obtain ⟨i, hi, e⟩ := List.getElem_of_mem hw
    rw [numFields_len] at hi
    have e2 := numFields_get (nth [a, b, c, d]) hi
    rw [List.getElem?_eq_getElem (by rw [numFields_len]; exact hi), e, Option.some.injEq] at e2
    have bb := hb i (by omega)
    rw [e2, uintOf_itoa bb.1 (by omega)]; rfl
  have q := parse_t hk (by omega) ⟨hu, by rw [hn 0 (by omega), hn 1 (by omega), hn 2 (by omega), hn 3 (by omega)]; exact h⟩
  rw [hn 0 (by omega), hn 1 (by omega), hn 2 (by omega), hn 3 (by omega)] at q
  exact q
end Go.Proofs.YtlipfkalehikkaaGreatDoor
