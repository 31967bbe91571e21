/- Texts laid together: ScriptI, ScriptS, FnRunScript, Wrap, ScrOf. -/
import Derived.Handed
import Derived.HandedShaped
import Derived.Stop.Joined
import Derived.Shelf.Vars
import Derived.Test.YtlipfkalehikkaaGreatDoorLinesFn
import Derived.Test.YtlipfkalehikkaaGreatDoorParseI
import Derived.Test.YtlipfkalehikkaaGreatDoorSplit
import Derived.Test.YtlipfkalehikkaaGreatDoorFormatHouse
import Derived.Test.YtlipfkalehikkaaGreatDoorGL
import Derived.Test.YtlipfkalehikkaaGreatDoorNewHouse
import Derived.Test.YtlipfkalehikkaaGreatDoorDrawActs
import Derived.Test.YtlipfkalehikkaaGreatDoorGB
import Derived.Test.YtlipfkalehikkaaGreatDoorShelfS
import Derived.Test.YtlipfkalehikkaaGreatDoorParseS
import Derived.Test.YtlipfkalehikkaaGreatDoorTextO
import Derived.Test.YtlipfkalehikkaaGreatDoorProg
import Derived.Test.YtlipfkalehikkaaGreatDoorParOf
/- The walk of RunScript, in the program. -/
namespace Go.Proofs.YtlipfkalehikkaaGreatDoor
open Go.ChangeShapes Go.WideShapes Go.ChangeAt Go.RowKit

/-- what the program's reading of scripts reads -/
structure ScrT (w : World) : Prop where
  par : ParT w
  max : ∃ m, w.cell? ⟨2, 0, none⟩ = some (.int .i64 m)
theorem ScrT.below {w w' : World} (h : ScrT w) (hb : Below w.heap.size w w') : ScrT w' :=
  ⟨h.par.below hb, by obtain ⟨m, e⟩ := h.max; exact ⟨m, (hb.cell (World.block_lt_of_cell? w _ e)).trans e⟩⟩
theorem infoStr9 : (Tryz.prog.info? 9).map (fun i => (i.zero, i.size, i.bytes)) = some (some (.string ByteArray.empty), 1, 16) := by kernel_rfl
theorem pieces_len (l : List UInt8) : Lib.countB (bstr l) ⟨#[10]⟩ + 1 = (linesOf l).length := by
  rw [← split_lines l, List.length_map, Lib.splitB_all ⟨#[10]⟩ (by decide) 0 _ (bstr l) rfl]
theorem pieces_texts (l : List UInt8) (w : World) (hl : (linesOf l).length ≤ 1000000000) : Texts (w.alloc (.cells ((Lib.splitB ⟨#[10]⟩ 0 (Lib.countB (bstr l) ⟨#[10]⟩) (bstr l)).map Value.string).toArray 9)) (.slice (some ⟨w.heap.size, 0, none⟩) (linesOf l).length (linesOf l).length) (linesOf l) := by
  refine ⟨hl, _, _, rfl, fun i hi => ⟨w.heap.size, 0, rfl, ?_⟩⟩
  have e := split_lines l
  rw [World.cell?_alloc_new, Nat.zero_add]
  have hi2 : i < (Lib.splitB ⟨#[10]⟩ 0 (Lib.countB (bstr l) ⟨#[10]⟩) (bstr l)).length := by rw [← e] at hi; simpa using hi
  have e2 : tx (linesOf l) i = ((Lib.splitB ⟨#[10]⟩ 0 (Lib.countB (bstr l) ⟨#[10]⟩) (bstr l))[i]).data.toList := by rw [← e]; simp [tx, hi2]
  rw [e2]
  simp [bstr]
  exact List.getElem?_eq_getElem hi2
theorem lines_len (l : List UInt8) : (linesOf l).length ≤ l.length + 1 := by
  have := ln_count l l.length
  unfold linesOf
  rw [List.length_append]; simp; omega
theorem take_snoc (A : List (List UInt8)) {j : Nat} (h : j < A.length) : A.take (j + 1) = A.take j ++ [tx A j] := by
  rw [List.take_succ_eq_append_getElem h]; simp [tx, h]
/-- 'append(v, x...)' of a whole row of one-cell values of the call's own -/
theorem run_append_row {P : Program} (w : World) (t ty e : TypeId) (base : Nat) (i : TypeInfo) (z : Value) (bytes : Nat) (ht : P.underlying t = some (.slice e)) (hi : P.info? e = some i) (hz : i.zero = some z)
    (hsize : i.size = 1) (hby : i.bytes = bytes) (hzs : z.cells.size = 1)
    (v : Value) (n : Nat) (xs : List Value) (hown : w.ownsRow base e 1 v n xs) (u : Value) (m : Nat) (ys : List Value) (base' : Nat) (hu : w.ownsRow base' e 1 u m ys) (hone : ∀ y ∈ ys, y.oneCell' = true)
    (hm : n + m ≤ 1000000000) (hb : bytes ≤ 1000) (hbase : base ≤ w.heap.size) :
    ∃ v' w', (Builtin.append_ #[t, t] ty #[v, u]).run P w = .ok v' w' ∧ w'.ownsRow base e 1 v' (n + m) (xs ++ ys) ∧ w.grownBy w' v.ownBlock := by
  have hyl : ys.length = m := by have := hu.1; omega
  rcases hu.2 with ⟨rfl, h0⟩ | ⟨g, cap, cur, rfl, _⟩
  · have e0 : ys = [] := List.eq_nil_of_length_eq_zero (by simp [h0] at hyl ⊢; omega)
    subst e0
    have hm0 : m = 0 := by simpa using hyl.symm
    subst hm0
    exact ⟨v, w, run_append_owned_none (P := P) (w := w) base t ty e i 1 ht hi v n xs hown, by simpa using hown, grown_refl _ _⟩
  · have hcell : ∀ j x, ys[j]? = some x → w.cell? ((⟨g, 0, none⟩ : Addr).add j) = some x := fun j x hj => by
      have hjl := (List.getElem?_eq_some_iff.1 hj).1
      rw [Addr.add_lit, Nat.zero_add, hu.cellAt j (by omega)]; exact hj
    obtain ⟨v', w', hr, h2, h3, _, _⟩ := run_append_own_at (P := P) w base t ty e i z 1 bytes ht hi hz hsize hby hzs (by decide) v n xs hown ⟨g, 0, none⟩ m cap ys (by omega) hcell hone (by unfold maxLen; omega) (by have := Nat.mul_le_mul hm hb; omega) hbase
    exact ⟨v', w', hr, h2, h3⟩
theorem wpList_append_row {P : Program} (w : World) {ops : Array Oper} {rest : List Oper} {o : Oper} {a : Act} {Q : Exit → Act → World → Prop} (hgd : o.guard = none) (s x : Operand) (t : TypeId)
    (ho : o.op = .call { callee := .builtin .append, args := #[s, x], argTypes := #[t, t] })
    (base : Nat) (e : TypeId) (i : TypeInfo) (z : Value) (bytes : Nat) (ht : P.underlying t = some (.slice e)) (hi : P.info? e = some i) (hz : i.zero = some z)
    (hsize : i.size = 1) (hby : i.bytes = bytes) (hzs : z.cells.size = 1)
    (v : Value) (n : Nat) (xs : List Value) (hs : a.eval s = v) (hown : w.ownsRow base e 1 v n xs) (u : Value) (m : Nat) (ys : List Value) (hx : a.eval x = u) (base' : Nat) (hu : w.ownsRow base' e 1 u m ys) (hone : ∀ y ∈ ys, y.oneCell' = true)
    (hm : n + m ≤ 1000000000) (hb : bytes ≤ 1000) (hbase : base ≤ w.heap.size)
    (h : ∀ v' w', w'.ownsRow base e 1 v' (n + m) (xs ++ ys) → w.grownBy w' v.ownBlock → wpList P ops Q rest (a.put o.dst v') w') :
    wpList P ops Q (o :: rest) a w := by
  refine wpList_plain hgd fun K hK => ?_
  obtain ⟨v', w', hr, h2, h3⟩ := run_append_row (P := P) w t o.type e base i z bytes ht hi hz hsize hby hzs v n xs hown u m ys base' hu hone hm hb hbase
  unfold Oper.wp execOp
  simp only [ho, resolve, invoke, builtin, Sem.run_bind, Sem.run_pure, Result.andThen_ok, List.map_toArray, List.map_cons, List.map_nil, hs, hx, hr]
  exact hK _ _ (h v' w' h2 h3)
theorem sv_one (ts : List (List UInt8)) : ∀ y ∈ ts.map sv, y.oneCell' = true := by
  intro y hy
  obtain ⟨t, _, rfl⟩ := List.mem_map.1 hy
  rfl
/-- what the script yields -/
def outL (N : List Int) (g : HD) : List (List UInt8) := N.map Lib.itoa ++ formatHouse g
def scriptT (l : List UInt8) : List (List UInt8) := match script l with
  | some xs => outL (numsTo xs (firstHouse 1000 0) (xs.length / 5)) (runTo xs (firstHouse 1000 0) (xs.length / 5))
  | none => []
theorem infoActJ : (Tryz.prog.info? 49).map (fun i => (i.zero, i.size, i.bytes)) = some (some (.agg #[.int .i64 0, .int .i64 0, .int .i64 0, .int .i64 0, .int .i64 0]), 5, 40) := by kernel_rfl
theorem app_belowA {B : Nat} {w wr w1 : World} {e : TypeId} {o : Obj} {v : Value} {n sz : Nat} {L : List Value} (hown : wr.ownsRow B e sz v n L) (hgrow : (wr.alloc o).grownBy w1 v.ownBlock) (hbel : Below w.heap.size w wr) (hB : w.heap.size ≤ B := by exact Nat.le_refl _) : Below w.heap.size w w1 :=
  (hbel.alloc hbel.size _).grown hgrow (by have := hbel.size; simp; omega) (fun k hk => Nat.le_trans hB (hown.lt k hk).1)
theorem app_below2S {B : Nat} {u wr w1 : World} {e : TypeId} {v : Value} {n : Nat} {L : List Value} (hown : wr.ownsRow B e 1 v n L) (hgrow : wr.grownBy w1 v.ownBlock) (hbel : Below u.heap.size u wr) (hB : u.heap.size ≤ B := by exact Nat.le_refl _) : Below u.heap.size u w1 :=
  hbel.grown hgrow hbel.size (fun k hk => Nat.le_trans hB (hown.lt k hk).1)
theorem line_le (l : List UInt8) (j : Nat) (hj : j < (linesOf l).length) : (tx (linesOf l) j).length ≤ l.length := by
  have h : ∀ k, k ≤ l.length → ∀ x ∈ (ln l k).1, x.length ≤ l.length := fun k => by
    induction k with
    | zero => intro _ x hx; simp [ln] at hx
    | succ k ih =>
      intro hk x hx
      by_cases q : bt l k = 10
      · rw [ln_nl q, List.mem_append, List.mem_singleton] at hx
        rcases hx with hx | rfl
        · exact ih (by omega) x hx
        · have := (ln_cur l (k := k) (by omega)).1; omega
      · rw [ln_ch q] at hx; exact ih (by omega) x hx
  have hm : tx (linesOf l) j ∈ linesOf l := by simp [tx, hj]
  unfold linesOf at hm
  rw [List.mem_append, List.mem_singleton] at hm
  rcases hm with hm | hm
  · exact h l.length (Nat.le_refl _) _ hm
  · show (tx ((ln l l.length).1 ++ [(ln l l.length).2]) j).length ≤ _
    rw [hm]; exact (ln_cur l (k := l.length) (Nat.le_refl _)).1
def SP (l : List UInt8) (w : World) (e : Ending) (w' : World) : Prop := ∃ v, e = .returned (.tuple #[v, .bool (script l).isSome]) ∧ w'.ownsRow w.heap.size 9 1 v (scriptT l).length ((scriptT l).map sv) ∧ Below w.heap.size w w'
theorem sp_none {l : List UInt8} {w w' : World} (h : script l = none) (hb : Below w.heap.size w w') : SP l w (.returned (.tuple #[.slice none 0 0, .bool false])) w' := by
  refine ⟨_, by rw [h]; rfl, ?_, hb⟩
  unfold scriptT; rw [h]; exact World.ownsRow_nil _ _ _ _

set_option maxRecDepth 100000 in
set_option maxHeartbeats 8000000 in
theorem implRunScript (l : List UInt8) (hl : l.length ≤ 1000000000) (w : World) (ht : ScrT w) : Calls Tryz.prog 8 #[.string (bstr l)] w (SP l w) := by
  obtain ⟨i0, hi, hz0, hz1, hz2⟩ := info_parts infoStrP
  have hsz := bstr_size l
  by_cases h6 : 20000 < l.length
  · have H := Lib.hid (scr_long h6)
    have i6 : (20000 : Int) < (l.length : Int) := by omega
    go_enter Tryz.func8, Tryz.ntmps8
    go_wp2
    refine bodyPost_ret (v := .tuple #[Value.slice none 0 0, .bool false]) (by simp [results, Tryz.results8, go_sem]) rfl ?_
    exact sp_none H.out (bref _)
  · have i6 : ¬ (20000 : Int) < (l.length : Int) := by omega
    have hll := lines_len l
    have hle_ := line_le l
    have HPX0 := fun hq => pieces_texts l w hq
    have hpl_ := pieces_len l
    have HSB := Lib.hid (fun (A : List (List UInt8)) (a : A <+: linesOf l) (b : scriptL A = none) => scr_bad a b)
    have HSM := Lib.hid (fun (xs : List Int) (a : scriptL (linesOf l) = some xs) (b : 200 < xs.length) => script_many a b)
    have HSO := Lib.hid (fun (xs : List Int) (a : scriptL (linesOf l) = some xs) (b : xs.length ≤ 200) => script_some (by omega) a b)
    generalize linesOf l = LS at hll hle_ HPX0 hpl_ HSB HSM HSO
    have HPL := Lib.hid hpl_
    have HLE := Lib.hid hle_
    obtain ⟨m, hm⟩ := ht.max
    have HM := Lib.hid hm
    have HT := Lib.hid ht
    have HPX := Lib.hid (HPX0 (by omega))
    have HB1 := Lib.hid (balloc (bref w) (.cells ((Lib.splitB ⟨#[10]⟩ 0 (Lib.countB (bstr l) ⟨#[10]⟩) (bstr l)).map Value.string).toArray 9))
    clear ht hm HPX0 hpl_ hle_
    go_enter Tryz.func8, Tryz.ntmps8
    go_wp2_with (first | (go_at_call 22; refine (Go.Proofs.Any.strings_Split laysSplit infoStr9 (bstr l) ⟨#[10]⟩ m _ (by rw [bstr_size]; omega) HM.out (by decide)).mono ?_; rw [HPL.out, show laysSplit_ren.t 9 = 9 from rfl]; generalize (w.alloc (.cells ((Lib.splitB ⟨#[10]⟩ 0 (Lib.countB (bstr l) ⟨#[10]⟩) (bstr l)).map Value.string).toArray 9)) = wq at *; rintro e w1 ⟨rfl, hw1⟩; subst hw1))
    obtain ⟨j0, hj0, jz0, jz1, jz2⟩ := info_parts infoActJ
    have HK := Lib.hid (And.intro HSB.out (And.intro HSM.out (And.intro HSO.out (And.intro HLE.out HPX.out))))
    clear HPL HM HSB HSM HSO HLE HPX
    go_loopw [4, 22] (fun v i wr => ∃ (j nn : Nat) (xs : List Int), j ≤ LS.length ∧ i = .int .i64 j ∧ nn ≤ j ∧ Hid (xs.length = nn * 5) ∧ Hid (scriptL (LS.take j) = some xs) ∧ Hid (wr.ownsRow w1.heap.size 49 5 v nn (xs.map (Value.int .i64))) ∧ Hid (Below w1.heap.size w1 wr)) (fun _ i _ => LS.length - (intOf i).toNat)
    case atStart => exact ⟨0, 0, [], Nat.zero_le _, rfl, Nat.le_refl _, Lib.hid rfl, Lib.hid rfl, Lib.hid (World.ownsRow_nil _ _ _ _), bref _⟩
    case round =>
      obtain ⟨j, nn, xs, hj, rfl, hnn, hxl, HS, HO, HB⟩ := hrel
      by_cases hlt : j < LS.length
      · have j1 : (j : Int) < (LS.length : Int) := by omega
        have j0_ : (0 : Int) ≤ (j : Int) := by omega
        have j3 : ¬ (j : Int) < 0 := by omega
        obtain ⟨_, _, _, hq, hc2⟩ := HK.out.2.2.2.2.below HB.out
        cases hq
        obtain ⟨b2, o2, hb2, e1⟩ := hc2 j hlt
        cases hb2
        rw [Nat.zero_add] at e1
        clear hc2
        have HSn := Lib.hid (show scriptL (LS.take (j + 1)) = actStep (some xs) (tx LS j) by rw [take_snoc _ hlt, scriptL_snoc, HS.out])
        have HPR := Lib.hid (List.take_prefix (j + 1) LS)
        have hsl : (tx LS j).length ≤ 20000 := by have := HK.out.2.2.2.1 j hlt; omega
        obtain ⟨s, hs_⟩ : ∃ s, tx LS j = s := ⟨_, rfl⟩
        rw [hs_] at e1 hsl HSn
        clear hs_
        cases hF : splitFields s with
        | none =>
          have HF := Lib.hid hF
          have HP := Lib.hid (show parseAct none = (⟨0, 0, 0, 0, 0⟩, false) from rfl)
          have H := Lib.hid (HK.out.1 _ HPR.out (by rw [HSn.out]; exact step_bad (p := ⟨0, 0, 0, 0, 0⟩) (by rw [hF]; simp) (by rw [hF]; rfl)))
          clear hF
          go_wp2_with (first | (go_at_call 23; refine (implSplitFields s (by omega) _).mono ?_; rw [HF.out]; simp only [Option.isSome_none, Option.getD_none]; rintro e w3 ⟨v3, rfl, ho3, hb3⟩; obtain ⟨ad3, cap3, rfl⟩ := own_formP ho3; have HB3 := Lib.hid (bnext HB.out hb3); have HO3 := Lib.hid (own_below HO.out hb3); have z3 := HB3.out.size; clear hb3 ho3) | (go_at_call 24; refine (implParseAct s (by omega) _ (HT.out.below (bnext HB1.out HB3.out)).par).mono ?_; rw [HF.out, HP.out]; simp only [PP, PV]; rintro e w4 ⟨rfl, hb4⟩; have HB4 := Lib.hid (balloc (bnext HB3.out hb4) (.cells #[.int .i64 0, .int .i64 0, .int .i64 0, .int .i64 0, .int .i64 0] 49)); have HO4 := Lib.hid (own_below (own_below HO3.out hb4) (balloc (bref w4) (.cells #[.int .i64 0, .int .i64 0, .int .i64 0, .int .i64 0, .int .i64 0] 49))); have z4 := HB4.out.size; clear hb4))
          refine bodyPost_ret (v := .tuple #[Value.slice none 0 0, .bool false]) (by simp [results, Tryz.results8, go_sem]) rfl ?_
          exact sp_none H.out (bnext HB1.out HB4.out)
        | some G =>
          cases G with
          | nil =>
            have HF := Lib.hid hF
            have HN := Lib.hid (show scriptL (LS.take (j + 1)) = some xs by rw [HSn.out]; exact step_blank hF)
            clear hF
            go_wp2_with (first | (go_at_call 23; refine (implSplitFields s (by omega) _).mono ?_; rw [HF.out]; simp only [Option.isSome_some, Option.getD_some]; rintro e w3 ⟨v3, rfl, ho3, hb3⟩; obtain ⟨ad3, cap3, rfl⟩ := own_formP ho3; have HB3 := Lib.hid (bnext HB.out hb3); have HO3 := Lib.hid (own_below HO.out hb3); have z3 := HB3.out.size; clear hb3 ho3))
            go_roundw
            case rel => exact ⟨j + 1, nn, xs, by omega, by go_num, by omega, hxl, HN, HO3, HB3⟩
            case measure => simp [intOf]; omega
          | cons u0 us =>
            obtain ⟨r, hr⟩ : ∃ r, parseAct (some (u0 :: us)) = r := ⟨_, rfl⟩
            obtain ⟨⟨K, A, B, C, D⟩, ok⟩ := r
            have HF := Lib.hid hF
            have HP := Lib.hid hr
            have hz_ : (((us.length : Int) + 1) == 0) = false := beq_eq_false_iff_ne.2 (by omega)
            cases ok with
            | false =>
              have H := Lib.hid (HK.out.1 _ HPR.out (by rw [HSn.out]; exact step_bad (by rw [hF]; simp) (by rw [hF]; exact hr)))
              clear hF hr
              go_wp2_with (first | (go_at_call 23; refine (implSplitFields s (by omega) _).mono ?_; rw [HF.out]; simp only [Option.isSome_some, Option.getD_some]; rintro e w3 ⟨v3, rfl, ho3, hb3⟩; obtain ⟨ad3, cap3, rfl⟩ := own_formP ho3; have HB3 := Lib.hid (bnext HB.out hb3); have HO3 := Lib.hid (own_below HO.out hb3); have z3 := HB3.out.size; clear hb3 ho3) | (go_at_call 24; refine (implParseAct s (by omega) _ (HT.out.below (bnext HB1.out HB3.out)).par).mono ?_; rw [HF.out, HP.out]; simp only [PP, PV]; rintro e w4 ⟨rfl, hb4⟩; have HB4 := Lib.hid (balloc (bnext HB3.out hb4) (.cells #[.int .i64 K, .int .i64 A, .int .i64 B, .int .i64 C, .int .i64 D] 49)); have HO4 := Lib.hid (own_below (own_below HO3.out hb4) (balloc (bref w4) (.cells #[.int .i64 K, .int .i64 A, .int .i64 B, .int .i64 C, .int .i64 D] 49))); have z4 := HB4.out.size; clear hb4))
              refine bodyPost_ret (v := .tuple #[Value.slice none 0 0, .bool false]) (by simp [results, Tryz.results8, go_sem]) rfl ?_
              exact sp_none H.out (bnext HB1.out HB4.out)
            | true =>
              have HN := Lib.hid (show scriptL (LS.take (j + 1)) = some (xs ++ [K, A, B, C, D]) by rw [HSn.out]; exact step_act (by rw [hF]; simp) (by rw [hF]; exact hr))
              clear hF hr
              go_wp2_with (first | (go_at_call 23; refine (implSplitFields s (by omega) _).mono ?_; rw [HF.out]; simp only [Option.isSome_some, Option.getD_some]; rintro e w3 ⟨v3, rfl, ho3, hb3⟩; obtain ⟨ad3, cap3, rfl⟩ := own_formP ho3; have HB3 := Lib.hid (bnext HB.out hb3); have HO3 := Lib.hid (own_below HO.out hb3); have z3 := HB3.out.size; clear hb3 ho3) | (go_at_call 24; refine (implParseAct s (by omega) _ (HT.out.below (bnext HB1.out HB3.out)).par).mono ?_; rw [HF.out, HP.out]; simp only [PP, PV]; rintro e w4 ⟨rfl, hb4⟩; have HB4 := Lib.hid (balloc (bnext HB3.out hb4) (.cells #[.int .i64 K, .int .i64 A, .int .i64 B, .int .i64 C, .int .i64 D] 49)); have HO4 := Lib.hid (own_below (own_below HO3.out hb4) (balloc (bref w4) (.cells #[.int .i64 K, .int .i64 A, .int .i64 B, .int .i64 C, .int .i64 D] 49))); have z4 := HB4.out.size; clear hb4) | (at_builtin; refine wpList_append_src _ rfl _ _ 28 rfl w1.heap.size 49 j0 (.agg #[.int .i64 0, .int .i64 0, .int .i64 0, .int .i64 0, .int .i64 0]) 5 40 Tryz.underlying28 hj0 jz0 jz1 jz2 rfl (by decide) _ _ _ rfl (HO4.out.alloc _) _ 1 [_, _, _, _, _] rfl (lit_act _ _ _ _ _ _ _ (by simp)) (nilOk_some _ _ _) (by omega) (by decide) (by simp; simp at z4; omega) ?_; intro v' w7 hown hgrow hat; have HO7 := Lib.hid (act_row hown); have HB7 := Lib.hid (app_belowA HO4.out hgrow HB4.out); clear hown hgrow hat))
              go_roundw
              case rel => exact ⟨j + 1, nn + 1, xs ++ [K, A, B, C, D], by omega, by go_num, by omega, Lib.hid (by have := hxl.out; simp; omega), HN, HO7, HB7⟩
              case measure => simp [intOf]; omega
      · obtain rfl : j = LS.length := by omega
        have HSE := Lib.hid (show scriptL LS = some xs by have q := HS.out; rw [List.take_length] at q; exact q)
        have jz : ¬ (LS.length : Int) < (LS.length : Int) := by omega
        obtain ⟨adv, capv, rfl⟩ := own_form HO.out
        by_cases h40 : 40 < nn
        · have H := Lib.hid (HK.out.2.1 xs HSE.out (by have := hxl.out; omega))
          have i40 : (40 : Int) < (nn : Int) := by omega
          go_wp2
          refine bodyPost_ret (v := .tuple #[Value.slice none 0 0, .bool false]) (by simp [results, Tryz.results8, go_sem]) rfl ?_
          exact sp_none H.out (bnext HB1.out HB.out)
        · have H := Lib.hid (HK.out.2.2.1 xs HSE.out (by have := hxl.out; omega))
          have i40 : ¬ (40 : Int) < (nn : Int) := by omega
          have hn5 : xs.length / 5 = nn := by have := hxl.out; omega
          have HSA := Lib.hid sample_ok
          have HTL := Lib.hid (show scriptT l = outL (numsTo xs (firstHouse 1000 0) nn) (runTo xs (firstHouse 1000 0) nn) by unfold scriptT; rw [H.out]; show outL _ _ = _; rw [hn5])
          have HRr := Lib.hid (runActs_t (xs := xs) HSA.out.2 (show nn ≤ 40 by omega))
          have okg := runTo_ok HSA.out.2 xs nn
          have HNL := Lib.hid (numsTo_len xs (firstHouse 1000 0) nn)
          have HNB := Lib.hid (numsTo_bd (firstHouse 1000 0) xs nn)
          have okh := HSA.out.2
          clear hn5 HK HSE HS
          generalize runTo xs (firstHouse 1000 0) nn = g at *
          generalize numsTo xs (firstHouse 1000 0) nn = N at *
          generalize firstHouse 1000 0 = h0 at *
          go_upto_region 17 with (first
            | (go_at_call 10; refine (implSampleHouse _).mono ?_; rw [HSA.out.1]; rintro e w3 ⟨ac3, cc3, am3, cm3, ao3, co3, at3, ct3, rfl, hO3, hb3⟩; dsimp only at hO3; have H3 := Lib.hid hO3; have HB3 := Lib.hid (bnext HB.out hb3); have HO3 := Lib.hid (own_below HO.out hb3); clear hO3 hb3)
            | (go_at_call 9; refine (implRunActs _ _ _ _ _ h0 nn xs _ (H3.out.read (houseOk_B okh)) (Recs.of_own HO3.out (by omega)) H3.out.nils (houseOk_B okh)).mono ?_; rw [HRr.out]; rintro e w5 ⟨ac5, cc5, am5, cm5, ao5, co5, at5, ct5, al, cl, rfl, hW⟩; dsimp only at hW; have HW := Lib.hid hW; clear hW))
          have X5 := Lib.hid (BoxH.first HW.out.house (Nat.le_refl _))
          have HB5 := Lib.hid (balloc (bnext HB3.out HW.out.below) (.cells #[.slice ac5 (g).n cc5, .slice am5 (g).ms.length cm5, .slice ao5 (g).os.length co5, .slice at5 (g).ts.length ct5, .int .i64 (g).sent, .int .i64 (g).day] 27))
          obtain ⟨p2_, q2_, pa2, qa2, hi2, -⟩ := HW.out.nums
          have HI := Lib.hid ((own_ints hi2.own (by rw [HNL.out]; omega)).below (balloc (bref w5) (.cells #[.slice ac5 (g).n cc5, .slice am5 (g).ms.length cm5, .slice ao5 (g).os.length co5, .slice at5 (g).ts.length ct5, .int .i64 (g).sent, .int .i64 (g).day] 27)))
          clear HW hi2 pa2 qa2 HO HO3 HB HB3 H3 HRr HSA
          generalize w5.alloc (.cells #[.slice ac5 (g).n cc5, .slice am5 (g).ms.length cm5, .slice ao5 (g).os.length co5, .slice at5 (g).ts.length ct5, .int .i64 (g).sent, .int .i64 (g).day] 27) = u5 at *
          go_wp2
          go_loopw [13, 60] (fun v i wx => ∃ j : Nat, j ≤ N.length ∧ i = .int .i64 j ∧ Hid (wx.ownsRow u5.heap.size 9 1 v j (((N.take j).map Lib.itoa).map sv)) ∧ Hid (Below u5.heap.size u5 wx)) (fun _ i _ => N.length - (intOf i).toNat)
          case atStart => exact ⟨0, Nat.zero_le _, rfl, Lib.hid (World.ownsRow_nil _ _ _ _), bref _⟩
          case round =>
            obtain ⟨j, hj, rfl, HO, HB⟩ := hrel
            have zr := HB.out.size
            by_cases hlt : j < N.length
            · have j0_ : (0 : Int) ≤ (j : Int) := by omega
              have j1 : (j : Int) < (N.length : Int) := by omega
              have j3 : ¬ (j : Int) < 0 := by omega
              have hjn : j ≤ 40 := by have := HNL.out; omega
              obtain ⟨_, _, _, hv, hc⟩ := HI.out.below HB.out
              cases hv
              obtain ⟨b, o, rfl, e0⟩ := hc j hlt
              clear hc
              obtain ⟨n0, n1⟩ := HNB.out _ (nth_mem N j hlt)
              obtain ⟨a, ha⟩ : ∃ a, a = Lib.itoa (nth N j) := ⟨_, rfl⟩
              have hfk : ∀ W : World, Tab W → Calls Tryz.prog 11 #[.int .i64 (nth N j)] W fun e w' => e = .returned (.string (bstr a)) ∧ Below W.heap.size W w' := fun W t => by rw [ha]; exact implFormatInt _ (by omega) (by omega) W t
              have HTN := Lib.hid (show ((N.take (j + 1)).map Lib.itoa).map sv = ((N.take j).map Lib.itoa).map sv ++ [.string (bstr a)] by rw [take_nth N j hlt, ha]; simp [sv])
              clear ha
              generalize nth N j = z at *
              go_wp2_with (first | (go_at_call 11; refine (hfk _ (HT.out.below (bnext (bnext HB1.out HB5.out) HB.out)).par.act.tab).mono ?_; rintro e w6 ⟨rfl, hb6⟩; have HB6 := Lib.hid (bnext HB.out hb6); have HO6 := Lib.hid (own_below HO.out hb6); have z6 := HB6.out.size; clear hb6) | (at_builtin; (refine wpList_append_own _ rfl _ _ 33 rfl u5.heap.size 9 i0 (.string { data := #[] }) 1 16 Tryz.underlying33 hi hz0 hz1 hz2 rfl (by decide) _ _ _ rfl (HO6.out.alloc _) ⟨w6.heap.size, 0, none⟩ 1 1 [.string (bstr a)] rfl rfl (cell_one_new _ _ _) (str_oneCellP _) (by unfold maxLen; omega) (by omega) (by simp; omega) ?_); intro v' w8 hown' hgrow hnil; have HN := Lib.hid (And.intro hown' (app_belowP HO6.out hgrow HB6.out (Nat.le_refl _))); clear hown' hgrow hnil))
              go_roundw
              case rel => exact ⟨j + 1, by omega, by go_num, Lib.hid (by rw [HTN.out]; exact HN.out.1), Lib.hid HN.out.2⟩
              case measure => simp [intOf]; omega
            · obtain rfl : j = N.length := by omega
              have jz : ¬ (N.length : Int) < (N.length : Int) := by omega
              have hfl := formatHouse_len g
              have hnl40 : N.length ≤ 40 := by have := HNL.out; omega
              have X6 := Lib.hid (X5.out.below HB.out)
              have HO' := HO.out
              rw [List.take_length] at HO'
              have HO' := Lib.hid HO'
              have g0 := X6.out.six.c0
              have g1 := X6.out.six.c1
              have g2 := X6.out.six.c2
              have g3 := X6.out.six.c3
              have g4 := X6.out.six.c4
              have g5 := X6.out.six.c5
              obtain ⟨FL, hFL⟩ : ∃ FL, formatHouse g = FL := ⟨_, rfl⟩
              rw [hFL] at hfl
              have HFL := Lib.hid hFL
              have HSV := Lib.hid (sv_one FL)
              clear hFL
              go_wp2_with (first
                | (go_at_call 12; refine (implFormatHouse _ _ _ _ g _ (X6.out.house.read (houseOk_B okg)) (HT.out.below (bnext (bnext HB1.out HB5.out) HB.out)).par.act.tab).mono ?_; rw [HFL.out]; rintro e w7 ⟨v7, rfl, ho7, hb7⟩; have HO7 := Lib.hid (own_below HO'.out hb7); have HF7 := Lib.hid ho7; have HB7 := Lib.hid (bnext HB.out hb7); have z7 := HB7.out.size; clear ho7 hb7)
                | (at_builtin; refine wpList_append_row _ rfl _ _ 33 rfl u5.heap.size 9 i0 (.string { data := #[] }) 16 Tryz.underlying33 hi hz0 hz1 hz2 rfl _ _ _ rfl HO7.out _ _ _ rfl _ HF7.out HSV.out (by omega) (by decide) (by omega) ?_; intro v8 w8 hown hgrow; have HO8 := Lib.hid hown; have HB8 := Lib.hid (app_below2S HO7.out hgrow HB7.out); clear hown hgrow))
              refine bodyPost_ret (v := .tuple #[v8, .bool true]) (by simp [results, Tryz.results8, go_sem]) rfl ?_
              have HBF := Lib.hid (bnext (bnext HB1.out HB5.out) HB8.out)
              refine ⟨v8, by rw [H.out]; rfl, ?_, HBF.out⟩
              have q := own_base (B' := w.heap.size) HO8.out (by have := (bnext HB1.out HB5.out).size; omega)
              rw [HTL.out]
              unfold outL
              rw [HFL.out, List.map_append, List.length_append, List.length_map]
              exact q
end Go.Proofs.YtlipfkalehikkaaGreatDoor

/- The walk of RunScript, in the reference. -/
namespace Go.Proofs.YtlipfkalehikkaaGreatDoor
open Go.ChangeShapes Go.WideShapes Go.ChangeAt Go.RowKit

theorem sp_noneS {l : List UInt8} {w w' : World} (h : script l = none) (hr : w'.ownsRow w.heap.size 9 1 (.slice (some ⟨w.heap.size, 0, none⟩) 0 0) 0 []) (hb : Below w.heap.size w w') : SP l w (.returned (.tuple #[.slice (some ⟨w.heap.size, 0, none⟩) 0 0, .bool false])) w' := by
  refine ⟨_, by rw [h]; rfl, ?_, hb⟩
  unfold scriptT; rw [h]; exact hr
/-- the loop's state behind k bytes -/
structure SpL (l : List UInt8) (k z : Nat) (xs : List Int) : Prop where
  here : k ≤ l.length → scriptL (ln l k).1 = some xs ∧ z = k - (ln l k).2.length
  last : k = l.length + 1 → scriptL (linesOf l) = some xs
theorem SpL.next {l : List UInt8} {k : Nat} {ys : List Int} (hk : k ≤ l.length) (hb : k = l.length ∨ bt l k = 10) (q : scriptL ((ln l k).1 ++ [(ln l k).2]) = some ys) : SpL l (k + 1) (k + 1) ys := by
  refine ⟨fun h2 => ?_, fun h2 => ?_⟩
  · have e : bt l k = 10 := by rcases hb with z | z; omega; exact z
    rw [ln_nl e]; exact ⟨q, by simp⟩
  · obtain rfl : k = l.length := by omega
    exact q
theorem SpL.char {l : List UInt8} {k z : Nat} {xs : List Int} (h : SpL l k z xs) (hk : k < l.length) (hb : ¬ bt l k = 10) : SpL l (k + 1) z xs := by
  obtain ⟨a, b⟩ := h.here (by omega)
  have c := (ln_cur l (k := k) (by omega)).1
  refine ⟨fun h2 => ?_, fun h2 => by omega⟩
  rw [ln_ch hb]; exact ⟨a, by simp; omega⟩
theorem bt_10 {l : List UInt8} {k : Nat} : (bt l k = 10) ↔ (bt l k).toNat = 10 := by
  constructor
  · intro h; rw [h]; rfl
  · intro h; exact UInt8.toNat.inj (by rw [h]; rfl)
set_option maxRecDepth 100000 in
set_option maxHeartbeats 8000000 in
theorem specRunScript (l : List UInt8) (hl : l.length ≤ 1000000000) (w : World) : Calls Tryz.prog 14 #[.string (bstr l)] w (SP l w) := by
  obtain ⟨i0, hi, hz0, hz1, hz2⟩ := info_parts infoStrP
  obtain ⟨j0, hj0, jz0, jz1, jz2⟩ := info_parts infoActJ
  have hsz := bstr_size l
  have HR1 := Lib.hid (World.ownsRow_lit (e := 9) (size := 1) w #[] 0 (Nat.le_refl _) (by decide) rfl)
  have HB1 := Lib.hid (balloc (bref w) (.cells #[] 9))
  by_cases h6 : 20000 < l.length
  · have H := Lib.hid (scr_long h6)
    have i6 : (20000 : Int) < (l.length : Int) := by omega
    go_enter Tryz.func14, Tryz.ntmps14
    go_wp2
    refine bodyPost_ret (v := .tuple #[Value.slice (some ⟨w.heap.size, 0, none⟩) 0 0, .bool false]) (by simp [results, Tryz.results14, go_sem]) rfl ?_
    exact sp_noneS H.out HR1.out HB1.out
  · have i6 : ¬ (20000 : Int) < (l.length : Int) := by omega
    go_enter Tryz.func14, Tryz.ntmps14
    go_upto_region 4 with fail
    generalize w.alloc (.cells #[] 9) = w1 at *
    have HO1 := Lib.hid (World.ownsRow_lit (e := 49) (size := 5) w1 #[] 0 (Nat.le_refl _) (by decide) rfl)
    have HBA := Lib.hid (balloc (bref w1) (.cells #[] 49))
    go_wp2
    go_loopw [5, 6, 7] (fun v b i wr => ∃ (k z nn : Nat) (xs : List Int), k ≤ l.length + 1 ∧ i = .int .i64 k ∧ b = .int .i64 z ∧ nn ≤ k ∧ Hid (xs.length = nn * 5) ∧ Hid (SpL l k z xs) ∧ Hid (wr.ownsRow w1.heap.size 49 5 v nn (xs.map (Value.int .i64))) ∧ Hid (Below w1.heap.size w1 wr)) (fun _ _ i _ => l.length + 1 - (intOf i).toNat)
    case atStart => exact ⟨0, 0, 0, [], Nat.zero_le _, rfl, rfl, Nat.le_refl _, Lib.hid rfl, Lib.hid ⟨fun _ => ⟨rfl, rfl⟩, fun h => by omega⟩, HO1, HBA.out⟩
    case round =>
      clear HO1 HBA
      obtain ⟨k, z, nn, xs, hk, rfl, rfl, hnn, hxl, HS, HO, HB⟩ := hrel
      by_cases hend : k = l.length + 1
      · have HSE := Lib.hid (HS.out.last hend)
        have hgt : ¬ (k : Int) ≤ (l.length : Int) := by omega
        obtain ⟨adv, capv, rfl⟩ := own_form HO.out
        by_cases h40 : 40 < nn
        · have H := Lib.hid (script_many HSE.out (by have := hxl.out; omega))
          have i40 : (40 : Int) < (nn : Int) := by omega
          clear hend
          go_wp2
          refine bodyPost_ret (v := .tuple #[Value.slice (some ⟨w.heap.size, 0, none⟩) 0 0, .bool false]) (by simp [results, Tryz.results14, go_sem]) rfl ?_
          exact sp_noneS H.out (own_below HR1.out HB.out) (bnext HB1.out HB.out)
        · have H := Lib.hid (script_some (by omega) HSE.out (by have := hxl.out; omega))
          have i40 : ¬ (40 : Int) < (nn : Int) := by omega
          have hn5 : xs.length / 5 = nn := by have := hxl.out; omega
          clear hend
          have HSA := Lib.hid sample_ok
          have HTL := Lib.hid (show scriptT l = outL (numsTo xs (firstHouse 1000 0) nn) (runTo xs (firstHouse 1000 0) nn) by unfold scriptT; rw [H.out]; show outL _ _ = _; rw [hn5])
          have HRr := Lib.hid (runActs_t (xs := xs) HSA.out.2 (show nn ≤ 40 by omega))
          have okg := runTo_ok HSA.out.2 xs nn
          have HNL := Lib.hid (numsTo_len xs (firstHouse 1000 0) nn)
          have HNB := Lib.hid (numsTo_bd (firstHouse 1000 0) xs nn)
          have okh := HSA.out.2
          clear hn5 HSE HS
          generalize runTo xs (firstHouse 1000 0) nn = g at *
          generalize numsTo xs (firstHouse 1000 0) nn = N at *
          generalize firstHouse 1000 0 = h0 at *
          go_upto_region 21 with (first
            | (go_at_call 36; refine (specSampleHouse _).mono ?_; rw [HSA.out.1]; rintro e w3 ⟨ac3, cc3, am3, cm3, ao3, co3, at3, ct3, rfl, hO3, hb3⟩; dsimp only at hO3; have H3 := Lib.hid hO3; have HB3 := Lib.hid (bnext HB.out hb3); have HO3 := Lib.hid (own_below HO.out hb3); clear hO3 hb3)
            | (go_at_call 35; refine (specRunActs _ _ _ _ _ h0 nn xs _ (H3.out.read (houseOk_B okh)) (Recs.of_own HO3.out (by omega)) H3.out.nils (houseOk_B okh)).mono ?_; rw [HRr.out]; rintro e w5 ⟨ac5, cc5, am5, cm5, ao5, co5, at5, ct5, al, cl, rfl, hW⟩; dsimp only at hW; have HW := Lib.hid hW; clear hW))
          have X5 := Lib.hid (BoxH.first HW.out.house (Nat.le_refl _))
          have HB5 := Lib.hid (balloc (bnext HB3.out HW.out.below) (.cells #[.slice ac5 (g).n cc5, .slice am5 (g).ms.length cm5, .slice ao5 (g).os.length co5, .slice at5 (g).ts.length ct5, .int .i64 (g).sent, .int .i64 (g).day] 27))
          obtain ⟨p2_, q2_, pa2, qa2, hi2, -⟩ := HW.out.nums
          have HI := Lib.hid ((own_ints hi2.own (by rw [HNL.out]; omega)).below (balloc (bref w5) (.cells #[.slice ac5 (g).n cc5, .slice am5 (g).ms.length cm5, .slice ao5 (g).os.length co5, .slice at5 (g).ts.length ct5, .int .i64 (g).sent, .int .i64 (g).day] 27)))
          clear HW hi2 pa2 qa2 HO HO3 HB HB3 H3 HRr HSA
          generalize w5.alloc (.cells #[.slice ac5 (g).n cc5, .slice am5 (g).ms.length cm5, .slice ao5 (g).os.length co5, .slice at5 (g).ts.length ct5, .int .i64 (g).sent, .int .i64 (g).day] 27) = u5 at *
          have HOL := Lib.hid (World.ownsRow_lit (e := 9) (size := 1) u5 #[] 0 (Nat.le_refl _) (by decide) rfl)
          have HBL := Lib.hid (balloc (bref u5) (.cells #[] 9))
          go_wp2
          go_loopw [15, 16] (fun v i wx => ∃ j : Nat, j ≤ N.length ∧ i = .int .i64 j ∧ Hid (wx.ownsRow u5.heap.size 9 1 v j (((N.take j).map Lib.itoa).map sv)) ∧ Hid (Below u5.heap.size u5 wx)) (fun _ i _ => N.length - (intOf i).toNat)
          case atStart => exact ⟨0, Nat.zero_le _, rfl, HOL.out, HBL.out⟩
          case round =>
            clear HOL HBL
            obtain ⟨j, hj, rfl, HO, HB⟩ := hrel
            have zr := HB.out.size
            by_cases hlt : j < N.length
            · have j0_ : (0 : Int) ≤ (j : Int) := by omega
              have j1 : (j : Int) < (N.length : Int) := by omega
              have j3 : ¬ (j : Int) < 0 := by omega
              have hjn : j ≤ 40 := by have := HNL.out; omega
              obtain ⟨_, _, _, hv, hc⟩ := HI.out.below HB.out
              cases hv
              obtain ⟨b, o, rfl, e0⟩ := hc j hlt
              clear hc
              obtain ⟨n0, n1⟩ := HNB.out _ (nth_mem N j hlt)
              obtain ⟨a, ha⟩ : ∃ a, a = Lib.itoa (nth N j) := ⟨_, rfl⟩
              have hfk : ∀ W : World, Calls Tryz.prog 37 #[.int .i64 (nth N j)] W fun e w' => e = .returned (.string (bstr a)) ∧ Below W.heap.size W w' := fun W => by rw [ha]; exact specFormatInt _ (by omega) (by omega) W
              have HTN := Lib.hid (show ((N.take (j + 1)).map Lib.itoa).map sv = ((N.take j).map Lib.itoa).map sv ++ [.string (bstr a)] by rw [take_nth N j hlt, ha]; simp [sv])
              clear ha
              generalize nth N j = z at *
              go_wp2_with (first | (go_at_call 37; refine (hfk _).mono ?_; rintro e w6 ⟨rfl, hb6⟩; have HB6 := Lib.hid (bnext HB.out hb6); have HO6 := Lib.hid (own_below HO.out hb6); have z6 := HB6.out.size; clear hb6) | (at_builtin; (refine wpList_append_own _ rfl _ _ 33 rfl u5.heap.size 9 i0 (.string { data := #[] }) 1 16 Tryz.underlying33 hi hz0 hz1 hz2 rfl (by decide) _ _ _ rfl (HO6.out.alloc _) ⟨w6.heap.size, 0, none⟩ 1 1 [.string (bstr a)] rfl rfl (cell_one_new _ _ _) (str_oneCellP _) (by unfold maxLen; omega) (by omega) (by simp; omega) ?_); intro v' w8 hown' hgrow hnil; have HN := Lib.hid (And.intro hown' (app_belowP HO6.out hgrow HB6.out (Nat.le_refl _))); clear hown' hgrow hnil))
              go_roundw
              case rel => exact ⟨j + 1, by omega, by go_num, Lib.hid (by rw [HTN.out]; exact HN.out.1), Lib.hid HN.out.2⟩
              case measure => simp [intOf]; omega
            · obtain rfl : j = N.length := by omega
              have jz : ¬ (N.length : Int) < (N.length : Int) := by omega
              have hfl := formatHouse_len g
              have hnl40 : N.length ≤ 40 := by have := HNL.out; omega
              have X6 := Lib.hid (X5.out.below HB.out)
              have HO' := HO.out
              rw [List.take_length] at HO'
              have HO' := Lib.hid HO'
              have g0 := X6.out.six.c0
              have g1 := X6.out.six.c1
              have g2 := X6.out.six.c2
              have g3 := X6.out.six.c3
              have g4 := X6.out.six.c4
              have g5 := X6.out.six.c5
              obtain ⟨FL, hFL⟩ : ∃ FL, formatHouse g = FL := ⟨_, rfl⟩
              rw [hFL] at hfl
              have HFL := Lib.hid hFL
              have HSV := Lib.hid (sv_one FL)
              clear hFL
              go_wp2_with (first
                | (go_at_call 38; refine (specFormatHouse _ _ _ _ g _ (X6.out.house.read (houseOk_B okg))).mono ?_; rw [HFL.out]; rintro e w7 ⟨v7, rfl, ho7, hb7⟩; have HO7 := Lib.hid (own_below HO'.out hb7); have HF7 := Lib.hid ho7; have HB7 := Lib.hid (bnext HB.out hb7); have z7 := HB7.out.size; clear ho7 hb7)
                | (at_builtin; refine wpList_append_row _ rfl _ _ 33 rfl u5.heap.size 9 i0 (.string { data := #[] }) 16 Tryz.underlying33 hi hz0 hz1 hz2 rfl _ _ _ rfl HO7.out _ _ _ rfl _ HF7.out HSV.out (by omega) (by decide) (by omega) ?_; intro v8 w8 hown hgrow; have HO8 := Lib.hid hown; have HB8 := Lib.hid (app_below2S HO7.out hgrow HB7.out); clear hown hgrow))
              refine bodyPost_ret (v := .tuple #[v8, .bool true]) (by simp [results, Tryz.results14, go_sem]) rfl ?_
              have HBF := Lib.hid (bnext (bnext HB1.out HB5.out) HB8.out)
              refine ⟨v8, by rw [H.out]; rfl, ?_, HBF.out⟩
              have q := own_base (B' := w.heap.size) HO8.out (by have := (bnext HB1.out HB5.out).size; omega)
              rw [HTL.out]
              unfold outL
              rw [HFL.out, List.map_append, List.length_append, List.length_map]
              exact q
      · have hle : (k : Int) ≤ (l.length : Int) := by omega
        obtain ⟨hS, hz⟩ := HS.out.here (by omega)
        by_cases hkl : k = l.length
        · have hbl : k = l.length ∨ bt l k = 10 := .inl hkl
          have hlt : ¬ (k : Int) < (l.length : Int) := by omega
          obtain ⟨s, hs_⟩ : ∃ s, (ln l k).2 = s := ⟨_, rfl⟩
          have hcur : (l.take k).drop z = s := by rw [hz, ← hs_]; exact (ln_cur l (by omega)).2.symm
          have hzk : z ≤ k := by omega
          have hsl : s.length ≤ 20000 := by rw [← hs_]; have := (ln_cur l (k := k) (by omega)).1; omega
          have HPR := Lib.hid (ln_line (l := l) (k := k) (by omega) hbl)
          have HSn := Lib.hid (show scriptL ((ln l k).1 ++ [(ln l k).2]) = actStep (some xs) s by rw [scriptL_snoc, hS, hs_])
          have HST := Lib.hid (fun (ys : List Int) (q : scriptL ((ln l k).1 ++ [(ln l k).2]) = some ys) => SpL.next (by omega) hbl q)
          clear hs_ hz hS hbl
          clear hkl
          have hsl_ := fun W => slice_bstr (P := Tryz.prog) Tryz.underlying9 (show z ≤ k by omega) (show k ≤ l.length by omega) hcur W
          cases hF : splitFields s with
          | none =>
            have HF := Lib.hid hF
            have HP := Lib.hid (show parseAct none = (⟨0, 0, 0, 0, 0⟩, false) from rfl)
            have H := Lib.hid (scr_bad HPR.out (by rw [HSn.out]; exact step_bad (p := ⟨0, 0, 0, 0, 0⟩) (by rw [hF]; simp) (by rw [hF]; rfl)))
            clear hF
            go_wp2_with (first | (go_at_call 33; refine (specSplitFields s (by omega) _).mono ?_; rw [HF.out]; simp only [Option.isSome_none, Option.getD_none]; rintro e w3 ⟨v3, rfl, ho3, hb3⟩; obtain ⟨ad3, cap3, rfl⟩ := own_formP ho3; have HB3 := Lib.hid (bnext HB.out hb3); have HO3 := Lib.hid (own_below HO.out hb3); have z3 := HB3.out.size; clear hb3 ho3) | (go_at_call 34; refine (specParseAct s (by omega) _).mono ?_; rw [HF.out, HP.out]; simp only [PP, PV]; rintro e w4 ⟨rfl, hb4⟩; have HB4 := Lib.hid (balloc (bnext HB3.out hb4) (.cells #[.int .i64 0, .int .i64 0, .int .i64 0, .int .i64 0, .int .i64 0] 49)); have HO4 := Lib.hid (own_below (own_below HO3.out hb4) (balloc (bref w4) (.cells #[.int .i64 0, .int .i64 0, .int .i64 0, .int .i64 0, .int .i64 0] 49))); have z4 := HB4.out.size; clear hb4))
            refine bodyPost_ret (v := .tuple #[Value.slice (some ⟨w.heap.size, 0, none⟩) 0 0, .bool false]) (by simp [results, Tryz.results14, go_sem]) rfl ?_
            exact sp_noneS H.out (own_below HR1.out HB4.out) (bnext HB1.out HB4.out)
          | some G =>
            cases G with
            | nil =>
              have HF := Lib.hid hF
              have HN := Lib.hid (HST.out xs (by rw [HSn.out]; exact step_blank hF))
              clear hF
              go_wp2_with (first | (go_at_call 33; refine (specSplitFields s (by omega) _).mono ?_; rw [HF.out]; simp only [Option.isSome_some, Option.getD_some]; rintro e w3 ⟨v3, rfl, ho3, hb3⟩; obtain ⟨ad3, cap3, rfl⟩ := own_formP ho3; have HB3 := Lib.hid (bnext HB.out hb3); have HO3 := Lib.hid (own_below HO.out hb3); have z3 := HB3.out.size; clear hb3 ho3))
              go_roundw
              case rel => exact ⟨k + 1, k + 1, nn, xs, by omega, by go_num, by go_num, by omega, hxl, HN, HO3, HB3⟩
              case measure => simp [intOf]; omega
            | cons u0 us =>
              obtain ⟨r, hr⟩ : ∃ r, parseAct (some (u0 :: us)) = r := ⟨_, rfl⟩
              obtain ⟨⟨K, A, B, C, D⟩, ok⟩ := r
              have HF := Lib.hid hF
              have HP := Lib.hid hr
              have hz_ : (((us.length : Int) + 1) == 0) = false := beq_eq_false_iff_ne.2 (by omega)
              cases ok with
              | false =>
                have H := Lib.hid (scr_bad HPR.out (by rw [HSn.out]; exact step_bad (by rw [hF]; simp) (by rw [hF]; exact hr)))
                clear hF hr
                go_wp2_with (first | (go_at_call 33; refine (specSplitFields s (by omega) _).mono ?_; rw [HF.out]; simp only [Option.isSome_some, Option.getD_some]; rintro e w3 ⟨v3, rfl, ho3, hb3⟩; obtain ⟨ad3, cap3, rfl⟩ := own_formP ho3; have HB3 := Lib.hid (bnext HB.out hb3); have HO3 := Lib.hid (own_below HO.out hb3); have z3 := HB3.out.size; clear hb3 ho3) | (go_at_call 34; refine (specParseAct s (by omega) _).mono ?_; rw [HF.out, HP.out]; simp only [PP, PV]; rintro e w4 ⟨rfl, hb4⟩; have HB4 := Lib.hid (balloc (bnext HB3.out hb4) (.cells #[.int .i64 K, .int .i64 A, .int .i64 B, .int .i64 C, .int .i64 D] 49)); have HO4 := Lib.hid (own_below (own_below HO3.out hb4) (balloc (bref w4) (.cells #[.int .i64 K, .int .i64 A, .int .i64 B, .int .i64 C, .int .i64 D] 49))); have z4 := HB4.out.size; clear hb4))
                refine bodyPost_ret (v := .tuple #[Value.slice (some ⟨w.heap.size, 0, none⟩) 0 0, .bool false]) (by simp [results, Tryz.results14, go_sem]) rfl ?_
                exact sp_noneS H.out (own_below HR1.out HB4.out) (bnext HB1.out HB4.out)
              | true =>
                have HN := Lib.hid (HST.out (xs ++ [K, A, B, C, D]) (by rw [HSn.out]; exact step_act (by rw [hF]; simp) (by rw [hF]; exact hr)))
                clear hF hr
                go_wp2_with (first | (go_at_call 33; refine (specSplitFields s (by omega) _).mono ?_; rw [HF.out]; simp only [Option.isSome_some, Option.getD_some]; rintro e w3 ⟨v3, rfl, ho3, hb3⟩; obtain ⟨ad3, cap3, rfl⟩ := own_formP ho3; have HB3 := Lib.hid (bnext HB.out hb3); have HO3 := Lib.hid (own_below HO.out hb3); have z3 := HB3.out.size; clear hb3 ho3) | (go_at_call 34; refine (specParseAct s (by omega) _).mono ?_; rw [HF.out, HP.out]; simp only [PP, PV]; rintro e w4 ⟨rfl, hb4⟩; have HB4 := Lib.hid (balloc (bnext HB3.out hb4) (.cells #[.int .i64 K, .int .i64 A, .int .i64 B, .int .i64 C, .int .i64 D] 49)); have HO4 := Lib.hid (own_below (own_below HO3.out hb4) (balloc (bref w4) (.cells #[.int .i64 K, .int .i64 A, .int .i64 B, .int .i64 C, .int .i64 D] 49))); have z4 := HB4.out.size; clear hb4) | (at_builtin; refine wpList_append_src _ rfl _ _ 28 rfl w1.heap.size 49 j0 (.agg #[.int .i64 0, .int .i64 0, .int .i64 0, .int .i64 0, .int .i64 0]) 5 40 Tryz.underlying28 hj0 jz0 jz1 jz2 rfl (by decide) _ _ _ rfl (HO4.out.alloc _) _ 1 [_, _, _, _, _] rfl (lit_act _ _ _ _ _ _ _ (by simp)) (nilOk_some _ _ _) (by omega) (by decide) (by simp; simp at z4; omega) ?_; intro v' w7 hown hgrow hat; have HO7 := Lib.hid (act_row hown); have HB7 := Lib.hid (app_belowA HO4.out hgrow HB4.out); clear hown hgrow hat))
                go_roundw
                case rel => exact ⟨k + 1, k + 1, nn + 1, xs ++ [K, A, B, C, D], by omega, by go_num, by go_num, by omega, Lib.hid (by have := hxl.out; simp; omega), HN, HO7, HB7⟩
                case measure => simp [intOf]; omega
        · have hlt : (k : Int) < (l.length : Int) := by omega
          have hix := fun W => index_bstr (P := Tryz.prog) Tryz.underlying9 (show k < l.length by omega) W
          by_cases h10 : (bt l k).toNat = 10
          · have hbl : k = l.length ∨ bt l k = 10 := .inr (bt_10.2 h10)
            have heq2 : (((bt l k).toNat : Int) == 10) = true := by rw [beq_iff_eq]; omega
            obtain ⟨s, hs_⟩ : ∃ s, (ln l k).2 = s := ⟨_, rfl⟩
            have hcur : (l.take k).drop z = s := by rw [hz, ← hs_]; exact (ln_cur l (by omega)).2.symm
            have hzk : z ≤ k := by omega
            have hsl : s.length ≤ 20000 := by rw [← hs_]; have := (ln_cur l (k := k) (by omega)).1; omega
            have HPR := Lib.hid (ln_line (l := l) (k := k) (by omega) hbl)
            have HSn := Lib.hid (show scriptL ((ln l k).1 ++ [(ln l k).2]) = actStep (some xs) s by rw [scriptL_snoc, hS, hs_])
            have HST := Lib.hid (fun (ys : List Int) (q : scriptL ((ln l k).1 ++ [(ln l k).2]) = some ys) => SpL.next (by omega) hbl q)
            clear hs_ hz hS hbl
            clear h10
            have hsl_ := fun W => slice_bstr (P := Tryz.prog) Tryz.underlying9 (show z ≤ k by omega) (show k ≤ l.length by omega) hcur W
            cases hF : splitFields s with
            | none =>
              have HF := Lib.hid hF
              have HP := Lib.hid (show parseAct none = (⟨0, 0, 0, 0, 0⟩, false) from rfl)
              have H := Lib.hid (scr_bad HPR.out (by rw [HSn.out]; exact step_bad (p := ⟨0, 0, 0, 0, 0⟩) (by rw [hF]; simp) (by rw [hF]; rfl)))
              clear hF
              go_wp2_with (first | (go_at_call 33; refine (specSplitFields s (by omega) _).mono ?_; rw [HF.out]; simp only [Option.isSome_none, Option.getD_none]; rintro e w3 ⟨v3, rfl, ho3, hb3⟩; obtain ⟨ad3, cap3, rfl⟩ := own_formP ho3; have HB3 := Lib.hid (bnext HB.out hb3); have HO3 := Lib.hid (own_below HO.out hb3); have z3 := HB3.out.size; clear hb3 ho3) | (go_at_call 34; refine (specParseAct s (by omega) _).mono ?_; rw [HF.out, HP.out]; simp only [PP, PV]; rintro e w4 ⟨rfl, hb4⟩; have HB4 := Lib.hid (balloc (bnext HB3.out hb4) (.cells #[.int .i64 0, .int .i64 0, .int .i64 0, .int .i64 0, .int .i64 0] 49)); have HO4 := Lib.hid (own_below (own_below HO3.out hb4) (balloc (bref w4) (.cells #[.int .i64 0, .int .i64 0, .int .i64 0, .int .i64 0, .int .i64 0] 49))); have z4 := HB4.out.size; clear hb4))
              refine bodyPost_ret (v := .tuple #[Value.slice (some ⟨w.heap.size, 0, none⟩) 0 0, .bool false]) (by simp [results, Tryz.results14, go_sem]) rfl ?_
              exact sp_noneS H.out (own_below HR1.out HB4.out) (bnext HB1.out HB4.out)
            | some G =>
              cases G with
              | nil =>
                have HF := Lib.hid hF
                have HN := Lib.hid (HST.out xs (by rw [HSn.out]; exact step_blank hF))
                clear hF
                go_wp2_with (first | (go_at_call 33; refine (specSplitFields s (by omega) _).mono ?_; rw [HF.out]; simp only [Option.isSome_some, Option.getD_some]; rintro e w3 ⟨v3, rfl, ho3, hb3⟩; obtain ⟨ad3, cap3, rfl⟩ := own_formP ho3; have HB3 := Lib.hid (bnext HB.out hb3); have HO3 := Lib.hid (own_below HO.out hb3); have z3 := HB3.out.size; clear hb3 ho3))
                go_roundw
                case rel => exact ⟨k + 1, k + 1, nn, xs, by omega, by go_num, by go_num, by omega, hxl, HN, HO3, HB3⟩
                case measure => simp [intOf]; omega
              | cons u0 us =>
                obtain ⟨r, hr⟩ : ∃ r, parseAct (some (u0 :: us)) = r := ⟨_, rfl⟩
                obtain ⟨⟨K, A, B, C, D⟩, ok⟩ := r
                have HF := Lib.hid hF
                have HP := Lib.hid hr
                have hz_ : (((us.length : Int) + 1) == 0) = false := beq_eq_false_iff_ne.2 (by omega)
                cases ok with
                | false =>
                  have H := Lib.hid (scr_bad HPR.out (by rw [HSn.out]; exact step_bad (by rw [hF]; simp) (by rw [hF]; exact hr)))
                  clear hF hr
                  go_wp2_with (first | (go_at_call 33; refine (specSplitFields s (by omega) _).mono ?_; rw [HF.out]; simp only [Option.isSome_some, Option.getD_some]; rintro e w3 ⟨v3, rfl, ho3, hb3⟩; obtain ⟨ad3, cap3, rfl⟩ := own_formP ho3; have HB3 := Lib.hid (bnext HB.out hb3); have HO3 := Lib.hid (own_below HO.out hb3); have z3 := HB3.out.size; clear hb3 ho3) | (go_at_call 34; refine (specParseAct s (by omega) _).mono ?_; rw [HF.out, HP.out]; simp only [PP, PV]; rintro e w4 ⟨rfl, hb4⟩; have HB4 := Lib.hid (balloc (bnext HB3.out hb4) (.cells #[.int .i64 K, .int .i64 A, .int .i64 B, .int .i64 C, .int .i64 D] 49)); have HO4 := Lib.hid (own_below (own_below HO3.out hb4) (balloc (bref w4) (.cells #[.int .i64 K, .int .i64 A, .int .i64 B, .int .i64 C, .int .i64 D] 49))); have z4 := HB4.out.size; clear hb4))
                  refine bodyPost_ret (v := .tuple #[Value.slice (some ⟨w.heap.size, 0, none⟩) 0 0, .bool false]) (by simp [results, Tryz.results14, go_sem]) rfl ?_
                  exact sp_noneS H.out (own_below HR1.out HB4.out) (bnext HB1.out HB4.out)
                | true =>
                  have HN := Lib.hid (HST.out (xs ++ [K, A, B, C, D]) (by rw [HSn.out]; exact step_act (by rw [hF]; simp) (by rw [hF]; exact hr)))
                  clear hF hr
                  go_wp2_with (first | (go_at_call 33; refine (specSplitFields s (by omega) _).mono ?_; rw [HF.out]; simp only [Option.isSome_some, Option.getD_some]; rintro e w3 ⟨v3, rfl, ho3, hb3⟩; obtain ⟨ad3, cap3, rfl⟩ := own_formP ho3; have HB3 := Lib.hid (bnext HB.out hb3); have HO3 := Lib.hid (own_below HO.out hb3); have z3 := HB3.out.size; clear hb3 ho3) | (go_at_call 34; refine (specParseAct s (by omega) _).mono ?_; rw [HF.out, HP.out]; simp only [PP, PV]; rintro e w4 ⟨rfl, hb4⟩; have HB4 := Lib.hid (balloc (bnext HB3.out hb4) (.cells #[.int .i64 K, .int .i64 A, .int .i64 B, .int .i64 C, .int .i64 D] 49)); have HO4 := Lib.hid (own_below (own_below HO3.out hb4) (balloc (bref w4) (.cells #[.int .i64 K, .int .i64 A, .int .i64 B, .int .i64 C, .int .i64 D] 49))); have z4 := HB4.out.size; clear hb4) | (at_builtin; refine wpList_append_src _ rfl _ _ 28 rfl w1.heap.size 49 j0 (.agg #[.int .i64 0, .int .i64 0, .int .i64 0, .int .i64 0, .int .i64 0]) 5 40 Tryz.underlying28 hj0 jz0 jz1 jz2 rfl (by decide) _ _ _ rfl (HO4.out.alloc _) _ 1 [_, _, _, _, _] rfl (lit_act _ _ _ _ _ _ _ (by simp)) (nilOk_some _ _ _) (by omega) (by decide) (by simp; simp at z4; omega) ?_; intro v' w7 hown hgrow hat; have HO7 := Lib.hid (act_row hown); have HB7 := Lib.hid (app_belowA HO4.out hgrow HB4.out); clear hown hgrow hat))
                  go_roundw
                  case rel => exact ⟨k + 1, k + 1, nn + 1, xs ++ [K, A, B, C, D], by omega, by go_num, by go_num, by omega, Lib.hid (by have := hxl.out; simp; omega), HN, HO7, HB7⟩
                  case measure => simp [intOf]; omega
          · have heq2 : (((bt l k).toNat : Int) == 10) = false := by rw [beq_eq_false_iff_ne]; omega
            have HN := Lib.hid (HS.out.char (by omega) (fun q => h10 (bt_10.1 q)))
            clear hS hz
            go_wp2
            go_roundw
            case rel => exact ⟨k + 1, z, nn, xs, by omega, by go_num, rfl, by omega, hxl, HN, HO, HB⟩
            case measure => simp [intOf]; omega
end Go.Proofs.YtlipfkalehikkaaGreatDoor

/- The law that compares RunScript with the reference, walked. -/
namespace Go.Proofs.YtlipfkalehikkaaGreatDoor
open Go.ChangeShapes Go.WideShapes Go.ChangeAt Go.RowKit

theorem scriptT_len (l : List UInt8) : (scriptT l).length ≤ 60 := by
  unfold scriptT
  cases h : script l with
  | none => simp
  | some xs =>
    have hx : xs.length ≤ 200 := by
      unfold script at h
      split at h
      · split at h
        next ys hy => split at h
                      next q => cases h; exact q
                      · cases h
        · cases h
      · cases h
    show (outL _ _).length ≤ 60
    unfold outL
    have a := numsTo_len xs (firstHouse 1000 0) (xs.length / 5)
    have b := formatHouse_len (runTo xs (firstHouse 1000 0) (xs.length / 5))
    rw [List.length_append, List.length_map, a]; omega
set_option maxRecDepth 100000 in
set_option maxHeartbeats 4000000 in
theorem fnExactRunScript_any (l : List UInt8) (w : World) (ht : ScrT w) : Calls Tryz.prog 4 #[.string (bstr l)] w fun e w' => e = .returned (.bool true) ∧ Below w.heap.size w w' := by
  have hsz := bstr_size l
  by_cases hb : 1048576 < l.length
  · have i1 : (1048576 : Int) < (l.length : Int) := by omega
    go_enter Tryz.func4, Tryz.ntmps4
    go_wp2
    go_ret
    exact ⟨rfl, bref _⟩
  have i1 : ¬ (1048576 : Int) < (l.length : Int) := by omega
  have hl : l.length ≤ 1000000000 := by omega
  have hN := scriptT_len l
  go_enter Tryz.func4, Tryz.ntmps4
  go_wp2_with fail
  refine (specRunScript l hl _).mono ?_
  rintro e w1 ⟨v0, rfl, ho1, hb1⟩
  have O_w := TextO.of ho1
  have D1 := hb1
  have z1 := hb1.size
  clear ho1 hb1
  go_wp2_with fail
  refine (implRunScript l hl _ (ht.below D1)).mono ?_
  rintro e w2 ⟨v1, rfl, ho2, hb2⟩
  have O_g := TextO.of ho2
  replace O_w := O_w.below hb2
  have D2 := bnext D1 hb2
  have z2 := hb2.size
  clear ho2 hb2
  go_wp2_with fail
  refine (eqStringS_same _ _ (scriptT l) _ (O_g.read (by omega)) (O_w.read (by omega))).mono ?_
  rintro e w3 ⟨rfl, hb3⟩
  replace O_w := O_w.below hb3
  replace O_g := O_g.below hb3
  have D3 := bnext D2 hb3
  have z3 := hb3.size
  clear hb3
  go_wp2_with fail
  refine (markStringS_o _ (scriptT l) 1 _ _ _ O_g (by omega) (by omega) (by omega)).mono ?_
  rintro e w4 ⟨rfl, O_m, o4⟩
  replace O_w := O_w.only o4 (by unfold Off; omega)
  have D4 := Only.below D3 o4 (by omega)
  have z4 := o4.size
  clear o4 O_g
  go_wp2_with fail
  refine (heldStringS_o _ (scriptT l).length 1 _ _ _ O_m (by omega) (by omega) (by omega)).mono ?_
  rintro e w5 ⟨rfl, hb5⟩
  replace O_w := O_w.below hb5
  replace O_m := O_m.below hb5
  have D5 := bnext D4 hb5
  have z5 := hb5.size
  clear hb5
  go_wp2_with fail
  refine (implRunScript l hl _ (ht.below D5)).mono ?_
  rintro e w6 ⟨v6, rfl, ho6, hb6⟩
  have O_h := TextO.of ho6
  replace O_w := O_w.below hb6
  replace O_m := O_m.below hb6
  have D6 := bnext D5 hb6
  clear ho6 hb6
  go_wp2_with fail
  refine (eqStringS_same _ _ (scriptT l) _ (O_h.read (by omega)) (O_w.read (by omega))).mono ?_
  rintro e w7 ⟨rfl, hb7⟩
  replace O_m := O_m.below hb7
  have D7 := bnext D6 hb7
  clear hb7
  go_wp2_with fail
  refine (heldStringS_o _ (scriptT l).length 1 _ _ _ O_m (by omega) (by omega) (by omega)).mono ?_
  rintro e w8 ⟨rfl, hb8⟩
  have D8 := bnext D7 hb8
  clear hb8
  go_wp2
  go_ret
  exact ⟨rfl, D8⟩
end Go.Proofs.YtlipfkalehikkaaGreatDoor

/- For a law whose row lists variables and whose callees also read one of the library's own: what the row lays and the world's shape, handed over together. -/
namespace Go.Proofs.YtlipfkalehikkaaGreatDoor
open Go
variable {H : Type} {enc : TypeId × Value → H}
theorem handed_tied {C : Checked} {os : Os} {f : FuncId} {fn : Func} {s : ChangeSpec} {L : List (String × DataW Unit)}
    (own : ownKnob C.prog.godebug = none) (started : os.Started) (noInit : C.prog.inits.idxOf? f = none) (hfn : C.prog.funcs[f]? = some fn)
    (start : ∃ (w : World) (tape : Tape) (i : Input), w.os = os ∧ (w.forCall tape i).Shaped C.prog ∧ i.vars = [] ∧ Input.okWide C.prog (w.forCall tape i) .any w.heap.size f i ∧
      ((s.pre enc C.prog fn [] false (w.forCall tape i).memory i.args ∧ laidMetH C.prog L (w.forCall tape i).memory) ∧ sizedMet enc C.prog fn (OpenSpec.ofChange s) false (w.forCall tape i).memory i.args) ∧ Assume.holds {} C.prog (lone (Frame.enter C.prog f i.args .normal) [] (w.forCall tape i)))
    (walk : ∀ (W : World) (base : Nat) (args : Array Value) (ds gs : List (DataW H)) (before : List MemPlace), (∀ (j : Nat) t v, fn.params[j]? = some t → args[j]? = some v → Value.okWide C.prog W .any base t v) →
      DataW.Whole enc C.prog fn.params.toList s.vars false W args.toList ds gs before → W.ShapedOpen C.prog → laidMetH C.prog L W →
      Calls C.prog f args W fun e W' => ∃ v, e = .returned v ∧ s.post enc C.prog fn false true false false W args v W') :
    ReturnsInHanded {} C os f .any (fun w args => (s.pre enc C.prog fn [] false w args ∧ laidMetH C.prog L w) ∧ sizedMet enc C.prog fn (OpenSpec.ofChange s) false w args) (s.post enc C.prog fn false true false false) :=
  returnsInHanded_of_calls own started noInit start (by
    rintro w tape i - shape - ⟨-, -, -, fn2, hf2, -, -, -, -, typed⟩ ⟨⟨⟨ds, gs, bef, whole, -⟩, laid⟩, -⟩ -
    cases hf2.symm.trans hfn
    exact (walk (w.forCall tape i) w.heap.size i.args ds gs bef typed (DataW.Whole.of_heap (by rfl) whole) shape (laidMetH.of_heap (by rfl) laid)).mono (by
      rintro e W' ⟨v, rfl, after⟩
      exact ChangeSpec.post_blind after))
end Go.Proofs.YtlipfkalehikkaaGreatDoor

/- What the rows' condition and the world's shape give the walks of scripts. -/
namespace Go.Proofs.YtlipfkalehikkaaGreatDoor
open Go.ChangeShapes Go.WideShapes Go.ChangeAt Go.RowKit

theorem parT_nine {W : World} {a b c d : String × DataW Unit} {rest : List (String × DataW Unit)} (h : laidMet Tryz.prog (a :: b :: ("internal/strconv.uint64pow10", Rows.laid_internal_strconv_uint64pow10) :: c :: d :: ("strconv.ErrSyntax", Rows.laid_strconv_ErrSyntax) :: ("loop.example/g00992/impl.actWords", Rows.laid_loop_example_g00992_impl_actWords) :: ("loop.example/g00992/impl.actFields", Rows.laid_loop_example_g00992_impl_actFields) :: rest) W) : ParT W :=
  ⟨⟨tab_third h, words_of (lv_of h).tail.tail.tail.tail.tail.tail, counts_of (lv_of h).tail.tail.tail.tail.tail.tail.tail⟩, err_of h.tail.tail.tail.tail.tail⟩
theorem max_name : Tryz.prog.globalNamed "internal/bytealg.MaxLen" = some 2 := by kernel_rfl
theorem max_of {W : World} (h : W.ShapedOpen Tryz.prog) : ∃ m, W.cell? ⟨2, 0, none⟩ = some (.int .i64 m) :=
  cell_of_shapedOpen_int (zero := #[.int .i64 0]) (t := 3) h (of_decide_eq_true (by kernel_rfl)) (by kernel_rfl) (by kernel_rfl) (by kernel_rfl) (by kernel_rfl) Tryz.underlying3
end Go.Proofs.YtlipfkalehikkaaGreatDoor
