/- Texts laid together: Script, ScriptsFn, SameTexts, Scripts. -/
import Derived.Lib.AppendStr
import Derived.BigQuiet
import Derived.Test.YtlipfkalehikkaaGreatDoorActText
import Derived.Test.YtlipfkalehikkaaGreatDoorGI
import Derived.Test.YtlipfkalehikkaaGreatDoorGP
import Derived.Test.YtlipfkalehikkaaGreatDoorActsFn
import Derived.Test.YtlipfkalehikkaaGreatDoorTexts
import Derived.Test.YtlipfkalehikkaaGreatDoorGH
/- The text of a script, walked. -/
namespace Go.Proofs.YtlipfkalehikkaaGreatDoor
open Go.ChangeShapes Go.WideShapes Go.ChangeAt Go.RowKit

def actIn (xs : List Int) (k : Nat) : List UInt8 × Bool := formatAct (nth xs (k * 5)) (nth xs (k * 5 + 1)) (nth xs (k * 5 + 2)) (nth xs (k * 5 + 3)) (nth xs (k * 5 + 4))
def scriptTo (xs : List Int) : Nat → List UInt8
  | 0 => []
  | k + 1 => scriptTo xs k ++ ((actIn xs k).1 ++ [10])
def scriptText (n : Nat) (xs : List Int) : List UInt8 × Bool := if n ≤ 40 ∧ allTo (fun k => (actIn xs k).2) n = true then (scriptTo xs n, true) else ([], false)
theorem script_long {n : Nat} {xs : List Int} (h : ¬ n ≤ 40) : scriptText n xs = ([], false) := if_neg (by simp [h])
theorem script_bad {n : Nat} {xs : List Int} {k : Nat} (hk : k < n) (h : (actIn xs k).2 = false) : scriptText n xs = ([], false) := if_neg (by rw [allTo_no (p := fun k => (actIn xs k).2) hk h]; simp)
theorem script_t {n : Nat} {xs : List Int} (h : n ≤ 40) (h1 : allTo (fun k => (actIn xs k).2) n = true) : scriptText n xs = (scriptTo xs n, true) := if_pos ⟨h, h1⟩
theorem spTo_len (f : Nat → Int) : ∀ n : Nat, (∀ k, k < n → -9223372036854775808 ≤ f k ∧ f k ≤ 9223372036854775807) → (spTo f n).length ≤ 21 * n
  | 0, _ => by simp [spTo]
  | n + 1, h => by
    have a := spTo_len f n (fun k hk => h k (by omega))
    have b := itoa_len (h n (by omega)).1 (h n (by omega)).2
    simp only [spTo, List.length_append, List.length_cons]
    omega
theorem formatAct_len (k a b c d : Int) : (formatAct k a b c d).1.length ≤ 94 := by
  cases h : actOk k a b c d with
  | false => rw [formatAct_f h]; simp
  | true =>
    rw [formatAct_t h]
    obtain ⟨_, _, a0, a1, b0, b1, c0, c1, d0, d1⟩ := actOk_bd h
    have h1 := actWord_len k.toNat
    have h2 := actCount_le k.toNat
    have h3 := spTo_len (nth [a, b, c, d]) (actCount k.toNat) (fun j hj => by
      obtain rfl | rfl | rfl | rfl : j = 0 ∨ j = 1 ∨ j = 2 ∨ j = 3 := by omega
      all_goals simp [nth]; omega)
    simp only [List.length_append]
    omega
theorem strCells_b (t : List UInt8) : Lib.strCells (bstr t) = t.map fun b => Value.int .u8 b.toNat := by simp [Lib.strCells, bstr]
theorem strCells_app (t g : List UInt8) : Lib.strCells (bstr t) ++ Lib.strCells (bstr g) = Lib.strCells (bstr (t ++ g)) := by rw [strCells_b, strCells_b, strCells_b, List.map_append]
theorem own_conv {w : World} {B : Nat} {u : Value} {t : List UInt8} (h : w.ownsRow B 5 1 u t.length (Lib.strCells (bstr t))) (hne : u ≠ .slice none 0 0) : ∃ g cap, u = .slice (some ⟨g, 0, none⟩) t.length cap ∧ (convert 22 9 (.slice (some ⟨g, 0, none⟩) t.length cap)).run Tryz.prog w = .ok (.string (bstr t)) w := by
  rcases h.2 with ⟨rfl, h0⟩ | ⟨g, cap, cur, rfl, hbg, hg, hnc, hcm, hcs, htake⟩
  · exact absurd rfl hne
  · refine ⟨g, cap, rfl, ?_⟩
    rw [run_convert_bytes_arg (P := Tryz.prog) (w := w) 22 5 Tryz.underlying22 Tryz.underlying5 g 0 t.length cap (t.map fun b => (b.toNat : Int)) (by simp) (fun i hi => by
      rw [Nat.zero_add, h.cellAt i (by simpa using hi), strCells_b]
      simp [hi]) 9 Tryz.underlying9]
    congr 2
    unfold strOfNums bstr
    congr 1
    have e : ((fun n : Int => UInt8.ofNat n.toNat) ∘ fun b : UInt8 => (b.toNat : Int)) = id := by funext b; simp
    rw [List.map_map, e, List.map_id]
theorem infoByte : (Tryz.prog.info? 5).map (fun i => (i.zero, i.size, i.bytes)) = some (some (.int .u8 0), 1, 1) := by kernel_rfl

set_option maxRecDepth 100000 in
set_option maxHeartbeats 4000000 in
theorem implScriptText (v : Value) (n : Nat) (xs : List Int) (w : World) (h : Recs 5 w v n xs) (ht : ActT w) (h20 : n ≤ 1048576) : Calls Tryz.prog 7 #[v] w fun e w' => e = .returned (.tuple #[.string (bstr (scriptText n xs).1), .bool (scriptText n xs).2]) ∧ Below w.heap.size w w' := by
  obtain ⟨hl, he, adv, capv, rfl, hc⟩ := h
  have hI : Recs 5 w (.slice adv n capv) n xs := ⟨hl, he, adv, capv, rfl, hc⟩
  have HI := Lib.hid hI
  have HLX := Lib.hid he
  clear hc hI he
  by_cases h40 : n ≤ 40
  · have h40' : ¬ (40 : Int) < n := by omega
    go_enter Tryz.func7, Tryz.ntmps7
    go_wp2_with fail
    go_loopw [4, 14] (fun s i wr => ∃ (k : Nat) (t : List UInt8), k ≤ n ∧ i = .int .i64 k ∧ s = .string (bstr t) ∧ Hid (t = scriptTo xs k) ∧ Hid (allTo (fun k => (actIn xs k).2) k = true) ∧ t.length ≤ 95 * k ∧ Hid (Below w.heap.size w wr)) (fun _ i _ => n - (intOf i).toNat)
    case atStart => exact ⟨0, [], Nat.zero_le _, rfl, rfl, rfl, rfl, by simp, bref _⟩
    case round =>
      obtain ⟨k, t, hk, rfl, rfl, HT, HK, htl, HB⟩ := hrel
      by_cases hlt : k < n
      · have HIr := Lib.hid (HI.out.below HB.out)
        obtain ⟨_, _, _, _, hv, hc⟩ := HIr.out
        cases hv
        obtain ⟨b1, o1, rfl, e0, e1, e2, e3, e4, hbl⟩ := atAct HLX.out hc k hlt
        clear hc
        have hrl : (actIn xs k).1.length ≤ 94 := formatAct_len _ _ _ _ _
        have hTb := (ht.below HB.out).below (balloc (bref wr) (.cells #[.int .i64 (nth xs (k * 5)), .int .i64 (nth xs (k * 5 + 1)), .int .i64 (nth xs (k * 5 + 2)), .int .i64 (nth xs (k * 5 + 3)), .int .i64 (nth xs (k * 5 + 4))] 49))
        obtain ⟨r1, hr1⟩ : ∃ r, r = (actIn xs k).1 := ⟨_, rfl⟩
        rw [← hr1] at hrl
        have HR1 := Lib.hid hr1
        clear hr1
        cases hr2 : (actIn xs k).2 with
        | false =>
          have hfk : ∀ W : World, ActT W → Calls Tryz.prog 21 #[.agg #[.int .i64 (nth xs (k * 5)), .int .i64 (nth xs (k * 5 + 1)), .int .i64 (nth xs (k * 5 + 2)), .int .i64 (nth xs (k * 5 + 3)), .int .i64 (nth xs (k * 5 + 4))]] W fun e w' => e = .returned (.tuple #[.string (bstr r1), .bool false]) ∧ Below W.heap.size W w' := fun W t_ => by have := implFormatAct (nth xs (k * 5)) (nth xs (k * 5 + 1)) (nth xs (k * 5 + 2)) (nth xs (k * 5 + 3)) (nth xs (k * 5 + 4)) W t_; rw [HR1.out]; rw [show formatAct (nth xs (k * 5)) (nth xs (k * 5 + 1)) (nth xs (k * 5 + 2)) (nth xs (k * 5 + 3)) (nth xs (k * 5 + 4)) = actIn xs k from rfl, hr2] at this; exact this
          go_wp2_with (first | (go_at_call 21; refine (hfk _ hTb).mono ?_; rintro e w2 ⟨rfl, hb2⟩; have HB2 := Lib.hid (bnext (balloc HB.out (.cells #[.int .i64 (nth xs (k * 5)), .int .i64 (nth xs (k * 5 + 1)), .int .i64 (nth xs (k * 5 + 2)), .int .i64 (nth xs (k * 5 + 3)), .int .i64 (nth xs (k * 5 + 4))] 49)) hb2);  clear hb2))
          refine bodyPost_ret (v := .tuple #[.string { data := #[] }, .bool false]) (by simp [results, Tryz.results7, go_sem]) rfl ?_
          exact ⟨by rw [script_bad hlt hr2]; rfl, HB2.out⟩
        | true =>
          have hfk : ∀ W : World, ActT W → Calls Tryz.prog 21 #[.agg #[.int .i64 (nth xs (k * 5)), .int .i64 (nth xs (k * 5 + 1)), .int .i64 (nth xs (k * 5 + 2)), .int .i64 (nth xs (k * 5 + 3)), .int .i64 (nth xs (k * 5 + 4))]] W fun e w' => e = .returned (.tuple #[.string (bstr r1), .bool true]) ∧ Below W.heap.size W w' := fun W t_ => by have := implFormatAct (nth xs (k * 5)) (nth xs (k * 5 + 1)) (nth xs (k * 5 + 2)) (nth xs (k * 5 + 3)) (nth xs (k * 5 + 4)) W t_; rw [HR1.out]; rw [show formatAct (nth xs (k * 5)) (nth xs (k * 5 + 1)) (nth xs (k * 5 + 2)) (nth xs (k * 5 + 3)) (nth xs (k * 5 + 4)) = actIn xs k from rfl, hr2] at this; exact this
          obtain ⟨g, hg⟩ : ∃ g, g = r1 ++ [10] := ⟨_, rfl⟩
          have hgl : g.length ≤ 95 := by rw [hg]; simp; omega
          have ad1 : ∀ W : World, (Op.stringOp .add (bstr r1) { data := #[10] }).run Tryz.prog W = .ok (.string (bstr g)) W := by rw [hg]; exact add_to r1 [10] _ rfl (by simp; omega)
          obtain ⟨q, hq⟩ : ∃ q, q = t ++ g := ⟨_, rfl⟩
          have hql : q.length ≤ 95 * (k + 1) := by rw [hq]; simp; omega
          have ad2 : ∀ W : World, (Op.stringOp .add (bstr t) (bstr g)).run Tryz.prog W = .ok (.string (bstr q)) W := by rw [hq]; exact add_at _ _ _ rfl (by omega)
          have HT' : Hid (q = scriptTo xs (k + 1)) := Lib.hid (by rw [hq, hg]; simp only [scriptTo]; rw [← HT.out, ← HR1.out])
          have HK' : Hid (allTo (fun k => (actIn xs k).2) (k + 1) = true) := allTo_of fun j hj => by
            rcases Nat.lt_or_ge j k with z | z
            · exact allTo_at HK.out z
            · obtain rfl : j = k := by omega
              exact hr2
          have HQ := Lib.hid hq
          clear hg hq hr2
          go_wp2_with (first | (go_at_call 21; refine (hfk _ hTb).mono ?_; rintro e w2 ⟨rfl, hb2⟩; have HB2 := Lib.hid (bnext (balloc HB.out (.cells #[.int .i64 (nth xs (k * 5)), .int .i64 (nth xs (k * 5 + 1)), .int .i64 (nth xs (k * 5 + 2)), .int .i64 (nth xs (k * 5 + 3)), .int .i64 (nth xs (k * 5 + 4))] 49)) hb2);  clear hb2))
          go_roundw
          case rel => exact ⟨k + 1, q, by omega, by go_num, rfl, HT', HK', hql, HB2.out⟩
          case measure => simp [intOf]; omega
      · obtain rfl : k = n := by omega
        have HE := Lib.hid (script_t h40 HK.out)
        go_wp2_with fail
        refine bodyPost_ret (v := .tuple #[.string (bstr t), .bool true]) (by simp [results, Tryz.results7, go_sem]) rfl ?_
        exact ⟨by rw [HE.out, HT.out], HB.out⟩

  · have h40' : (40 : Int) < n := by omega
    go_enter Tryz.func7, Tryz.ntmps7
    go_wp2_with fail
    refine bodyPost_ret (v := .tuple #[.string { data := #[] }, .bool false]) (by simp [results, Tryz.results7, go_sem]) rfl ?_
    exact ⟨by rw [script_long h40]; rfl, bref _⟩

end Go.Proofs.YtlipfkalehikkaaGreatDoor

/- A script of valid acts: its lines are the acts' own texts, and it has their result. -/
namespace Go.Proofs.YtlipfkalehikkaaGreatDoor
open Go.ChangeShapes Go.WideShapes Go.ChangeAt Go.RowKit

theorem line_no10 {k : Nat} {a b c d : Int} : ¬ (10 : UInt8) ∈ actLine k a b c d := fun q => by
  have p1 : plainB (actLine k a b c d) = true := by unfold actLine; rw [plain_app, plain_word, plain_nums]; rfl
  unfold plainB at p1
  have := List.all_eq_true.1 p1 _ q
  simp at this
/-- the first k acts' lines -/
def lns (xs : List Int) : Nat → List (List UInt8)
  | 0 => []
  | k + 1 => lns xs k ++ [(actIn xs k).1]
theorem lns_len (xs : List Int) : ∀ k, (lns xs k).length = k
  | 0 => rfl
  | k + 1 => by simp [lns, lns_len xs k]
theorem lines_script {xs : List Int} : ∀ (k : Nat) (r : List UInt8), (∀ i, i < k → ¬ (10 : UInt8) ∈ (actIn xs i).1) → linesOf (scriptTo xs k ++ r) = lns xs k ++ linesOf r
  | 0, r, _ => rfl
  | k + 1, r, h => by
    have e : scriptTo xs (k + 1) ++ r = scriptTo xs k ++ ((actIn xs k).1 ++ 10 :: r) := by
      show (scriptTo xs k ++ ((actIn xs k).1 ++ [10])) ++ r = _
      simp
    rw [e, lines_script k _ (fun i hi => h i (by omega)), lines_cons (h k (by omega))]
    show _ = (lns xs k ++ [(actIn xs k).1]) ++ linesOf r
    simp
/-- the line of a valid act -/
theorem actIn_line {n : Nat} {xs : List Int} (h : ActsD n xs) {i : Nat} (hi : i < n) : ∃ (κ : Nat) (a b c d : Int), actOk κ a b c d = true ∧ actIn xs i = (actLine κ a b c d, true) ∧ nth xs (i * 5) = κ ∧ nth xs (i * 5 + 1) = a ∧ nth xs (i * 5 + 2) = b ∧ nth xs (i * 5 + 3) = c ∧ nth xs (i * 5 + 4) = d := by
  have ok : actOk (nth xs (i * 5)) (nth xs (i * 5 + 1)) (nth xs (i * 5 + 2)) (nth xs (i * 5 + 3)) (nth xs (i * 5 + 4)) = true := h.ok i hi
  have bd := actOk_bd ok
  obtain ⟨κ, hκ⟩ : ∃ κ : Nat, nth xs (i * 5) = (κ : Int) := ⟨(nth xs (i * 5)).toNat, by omega⟩
  rw [hκ] at ok
  refine ⟨κ, _, _, _, _, ok, ?_, hκ, rfl, rfl, rfl, rfl⟩
  unfold actIn
  rw [hκ, format_line ok]
theorem scriptL_acts {n : Nat} {xs : List Int} (h : ActsD n xs) : ∀ k, k ≤ n → scriptL (lns xs k) = some (xs.take (k * 5))
  | 0, _ => by simp [lns, scriptL]
  | k + 1, hk => by
    have hl := h.len
    obtain ⟨κ, a, b, c, d, ok, e, e0, e1, e2, e3, e4⟩ := actIn_line h (i := k) (by omega)
    show scriptL (lns xs k ++ [(actIn xs k).1]) = _
    rw [scriptL_snoc, scriptL_acts h k (by omega), e]
    have hs := split_bare ok
    rw [step_act (p := ⟨κ, a, b, c, d⟩) (by rw [hs]; simp) (by rw [hs]; exact parse_line ok)]
    rw [show (k + 1) * 5 = k * 5 + 1 + 1 + 1 + 1 + 1 by omega, take_nth _ _ (by omega), take_nth _ _ (by omega), take_nth _ _ (by omega), take_nth _ _ (by omega), take_nth _ _ (by omega)]
    rw [show k * 5 + 1 + 1 = k * 5 + 2 by omega, show k * 5 + 2 + 1 = k * 5 + 3 by omega, show k * 5 + 3 + 1 = k * 5 + 4 by omega, e0, e1, e2, e3, e4]
    simp [pl]
theorem scriptTo_len {n : Nat} {xs : List Int} (h : ActsD n xs) : ∀ k, k ≤ n → (scriptTo xs k).length ≤ 35 * k
  | 0, _ => by simp [scriptTo]
  | k + 1, hk => by
    have ih := scriptTo_len h k (by omega)
    obtain ⟨κ, a, b, c, d, ok, e, -⟩ := actIn_line h (i := k) (by omega)
    have hz := actLine_size ok
    show (scriptTo xs k ++ ((actIn xs k).1 ++ [10])).length ≤ _
    rw [e]
    simp only [List.length_append, List.length_cons, List.length_nil]
    omega
/-- a script of drawn acts reads as the acts -/
theorem script_acts {n : Nat} {xs : List Int} (h : ActsD n xs) (hn : n ≤ 40) : script (scriptTo xs n) = some xs := by
  have hl := h.len
  have hz := scriptTo_len h n (Nat.le_refl _)
  have e1 := lines_script (xs := xs) n [] fun i hi => by
    obtain ⟨κ, a, b, c, d, ok, e, -⟩ := actIn_line h hi
    rw [e]; exact line_no10
  rw [List.append_nil] at e1
  refine script_some (by omega) ?_ (by omega)
  rw [e1, lines_one (a := []) (by simp), scriptL_snoc, scriptL_acts h n (Nat.le_refl _), ← hl, List.take_length]
  exact step_blank (by decide +kernel)
theorem scriptT_acts {n : Nat} {xs : List Int} (h : ActsD n xs) (hn : n ≤ 40) : scriptT (scriptTo xs n) = outL (numsTo xs (firstHouse 1000 0) n) (runTo xs (firstHouse 1000 0) n) := by
  have hl := h.len
  unfold scriptT
  rw [script_acts h hn]
  show outL _ _ = _
  rw [show xs.length / 5 = n by omega]
/-- the text of valid acts -/
theorem text_acts {n : Nat} {xs : List Int} (h : ActsD n xs) (hn : n ≤ 40) : scriptText n xs = (scriptTo xs n, true) :=
  script_t hn (allTo_of fun k hk => by
    obtain ⟨κ, a, b, c, d, ok, e, -⟩ := actIn_line h hk
    rw [e])
end Go.Proofs.YtlipfkalehikkaaGreatDoor

/- The laws' comparison of two slices of texts, walked. -/
namespace Go.Proofs.YtlipfkalehikkaaGreatDoor
open Go.ChangeShapes Go.WideShapes Go.ChangeAt Go.RowKit

theorem sameTexts_any (a b : Value) (ts : List (List UInt8)) (w : World) (ha : Texts w a ts) (hb : Texts w b ts) : Calls Tryz.prog 13 #[a, b] w fun e w' => e = .returned (.bool true) ∧ Below w.heap.size w w' := by
  obtain ⟨hl, ada, capa, rfl, hc⟩ := ha
  obtain ⟨_, adb, capb, rfl, hd⟩ := hb
  have HC := Lib.hid hc
  have HD := Lib.hid hd
  clear hc hd
  go_enter Tryz.func13, Tryz.ntmps13
  go_wp2_with fail
  go_loopw [5] (fun i wr => ∃ k : Nat, k ≤ ts.length ∧ i = .int .i64 k ∧ Hid (Below w.heap.size w wr)) (fun i _ => ts.length - (intOf i).toNat)
  case atStart => exact ⟨0, Nat.zero_le _, rfl, bref _⟩
  case round =>
    obtain ⟨k, hk, rfl, HB⟩ := hrel
    by_cases hlt : k < ts.length
    · obtain ⟨b, o, rfl, e0⟩ := HC.out k hlt
      obtain ⟨b', o', rfl, e1⟩ := HD.out k hlt
      have e0 := (HB.out.cell (World.block_lt_of_cell? w _ e0)).trans e0
      have e1 := (HB.out.cell (World.block_lt_of_cell? w _ e1)).trans e1
      have i1 : (0 : Int) ≤ (k : Int) := by omega
      have i2 : (k : Int) < (ts.length : Int) := by omega
      have i3 : ¬ (k : Int) < 0 := by omega
      have i4 : ¬ (ts.length : Int) ≤ (k : Int) := by omega
      generalize bstr (tx ts k) = s at *
      go_wp2_with fail
      go_quiet (fail)
      go_wp2
      go_roundw
      case rel => exact ⟨k + 1, by omega, by go_num, bdrewN HB.out _⟩
      case measure => simp [intOf]; omega
    · obtain rfl : k = ts.length := by omega
      go_wp2
      go_ret
      exact ⟨rfl, HB.out⟩
end Go.Proofs.YtlipfkalehikkaaGreatDoor

/- The law of scripts, walked. -/
namespace Go.Proofs.YtlipfkalehikkaaGreatDoor
open Go.ChangeShapes Go.WideShapes Go.ChangeAt Go.RowKit

theorem out_row {w : World} {B : Nat} {v : Value} {N : List Int} {g : HD} {FL OL : List (List UInt8)} (hF : formatHouse g = FL) (hO : outL N g = OL) (h : w.ownsRow B 9 1 v (N.length + FL.length) ((N.map Lib.itoa).map sv ++ FL.map sv)) : w.ownsRow B 9 1 v OL.length (OL.map sv) := by
  subst hF
  subst hO
  unfold outL
  rw [List.map_append, List.length_append, List.length_map]
  exact h
set_option maxRecDepth 100000 in
set_option maxHeartbeats 8000000 in
theorem fnScripts_any (v : Value) (bs : List Int) (w : World) (h : Bytes w v bs) (ht : ScrT w) : Calls Tryz.prog 3 #[v] w fun e w' => e = .returned (.bool true) ∧ Below w.heap.size w w' := by
  obtain ⟨i0, hi, hz0, hz1, hz2⟩ := info_parts infoStr9
  by_cases hbig : (1048576 : Int) < bs.length
  · have hd : decide ((1048576 : Int) < bs.length) = true := by simp; omega
    go_enter Tryz.func3, Tryz.ntmps3
    go_wp2_with (first | (go_at_call 5; refine (big_any v bs w h).mono ?_; rw [hd]; rintro e w' ⟨rfl, rfl⟩))
    go_ret
    exact ⟨rfl, bref _⟩
  · have hd : decide ((1048576 : Int) < bs.length) = false := by simp; omega
    go_enter Tryz.func3, Tryz.ntmps3
    go_upto_region 4 with (first | (go_at_call 5; refine (big_any v bs w h).mono ?_; rw [hd]; rintro e w' ⟨rfl, rfl⟩) | (go_at_call 6; refine (drawActs_any v bs w h).mono ?_; rintro e w1 ⟨hx, ac0, am0, ao0, at0, cc0, cm0, co0, ct0, ada, n, capa, xs, rfl, ok, hO, hda, hn21, hra, hb1⟩; have D := Lib.hid hb1; have HA := Lib.hid hra; have HAD := Lib.hid hda; clear hO hb1 hra hda ok))
    have HA1 := Lib.hid (Recs.of_own (own_below HA.out (balloc (bref w1) (.cells #[.slice ac0 (hx).n cc0, .slice am0 (hx).ms.length cm0, .slice ao0 (hx).os.length co0, .slice at0 (hx).ts.length ct0, .int .i64 (hx).sent, .int .i64 (hx).day] 27))) (show n ≤ 9223372036854775807 by omega))
    have DX := Lib.hid (balloc D.out (.cells #[.slice ac0 (hx).n cc0, .slice am0 (hx).ms.length cm0, .slice ao0 (hx).os.length co0, .slice at0 (hx).ts.length ct0, .int .i64 (hx).sent, .int .i64 (hx).day] 27))
    have TB := Lib.hid (ht.below DX.out)
    clear hbig hd h D HA ht
    generalize w1.alloc (.cells #[.slice ac0 (hx).n cc0, .slice am0 (hx).ms.length cm0, .slice ao0 (hx).os.length co0, .slice at0 (hx).ts.length ct0, .int .i64 (hx).sent, .int .i64 (hx).day] 27) = u1 at *
    have HTX := Lib.hid (text_acts HAD.out (show n ≤ 40 by omega))
    have HSC := Lib.hid (script_acts HAD.out (show n ≤ 40 by omega))
    have HST := Lib.hid (scriptT_acts HAD.out (show n ≤ 40 by omega))
    have htl : (scriptTo xs n).length ≤ 1000000000 := by have := scriptTo_len HAD.out n (Nat.le_refl _); omega
    have HSA := Lib.hid sample_ok
    have HRr := Lib.hid (runActs_t (xs := xs) HSA.out.2 (show n ≤ 40 by omega))
    have okg := runTo_ok HSA.out.2 xs n
    have HNL := Lib.hid (numsTo_len xs (firstHouse 1000 0) n)
    have HNB := Lib.hid (numsTo_bd (firstHouse 1000 0) xs n)
    have okh := HSA.out.2
    clear HAD
    generalize scriptTo xs n = tt at *
    generalize runTo xs (firstHouse 1000 0) n = g at *
    generalize numsTo xs (firstHouse 1000 0) n = N at *
    generalize firstHouse 1000 0 = h0 at *
    obtain ⟨OL, hOL⟩ : ∃ OL, outL N g = OL := ⟨_, rfl⟩
    have hol : OL.length ≤ 100 := by
      rw [← hOL]; unfold outL
      have a := formatHouse_len g
      have b := HNL.out
      rw [List.length_append, List.length_map]; omega
    rw [hOL] at HST
    have HOL := Lib.hid hOL
    clear hOL
    go_upto_region 6 with (first
      | (go_at_call 7; refine (implScriptText _ n xs _ HA1.out TB.out.par.act (by omega)).mono ?_; rw [HTX.out]; rintro e w2 ⟨rfl, hb2⟩; have HA1 := Lib.hid (HA1.out.below hb2); have DX := Lib.hid (bnext DX.out hb2); have TB := Lib.hid (TB.out.below hb2); clear hb2)
      | (go_at_call 8; refine (implRunScript tt htl _ TB.out).mono ?_; unfold SP; rw [HSC.out, HST.out]; simp only [Option.isSome_some]; rintro e w3 ⟨v3, rfl, ho3, hb3⟩; have HOU := Lib.hid (Texts.of_own ho3 (by omega)); obtain ⟨ad3, cap3, rfl⟩ := own_form ho3; have HA1 := Lib.hid (HA1.out.below hb3); have DX := Lib.hid (bnext DX.out hb3); have TB := Lib.hid (TB.out.below hb3); clear ho3 hb3))
    clear HTX HSC HST htl
    go_upto_region 7 with (first
      | (go_at_call 10; refine (implSampleHouse _).mono ?_; rw [HSA.out.1]; rintro e w4 ⟨ac3, cc3, am3, cm3, ao3, co3, at3, ct3, rfl, hO3, hb4⟩; dsimp only at hO3; have H3 := Lib.hid hO3; have HA1 := Lib.hid (HA1.out.below hb4); have DX := Lib.hid (bnext DX.out hb4); have TB := Lib.hid (TB.out.below hb4); have HOU := Lib.hid (HOU.out.below hb4); clear hO3 hb4)
      | (go_at_call 9; refine (implRunActs _ _ _ _ _ h0 n xs _ (H3.out.read (houseOk_B okh)) HA1.out H3.out.nils (houseOk_B okh)).mono ?_; rw [HRr.out]; rintro e w5 ⟨ac5, cc5, am5, cm5, ao5, co5, at5, ct5, al, cl, rfl, hW⟩; dsimp only at hW; have HW := Lib.hid hW; clear hW))
    have X5 := Lib.hid (BoxH.first HW.out.house (Nat.le_refl _))
    have hb5 := balloc HW.out.below (.cells #[.slice ac5 (g).n cc5, .slice am5 (g).ms.length cm5, .slice ao5 (g).os.length co5, .slice at5 (g).ts.length ct5, .int .i64 (g).sent, .int .i64 (g).day] 27)
    have DX := Lib.hid (bnext DX.out hb5)
    have TB := Lib.hid (TB.out.below hb5)
    have HOU := Lib.hid (HOU.out.below hb5)
    obtain ⟨p2_, q2_, pa2, qa2, hi2, -⟩ := HW.out.nums
    have HI := Lib.hid ((own_ints hi2.own (by rw [HNL.out]; omega)).below (balloc (bref w5) (.cells #[.slice ac5 (g).n cc5, .slice am5 (g).ms.length cm5, .slice ao5 (g).os.length co5, .slice at5 (g).ts.length ct5, .int .i64 (g).sent, .int .i64 (g).day] 27)))
    clear HW hi2 pa2 qa2 hb5 H3 HRr HSA HA1
    generalize w5.alloc (.cells #[.slice ac5 (g).n cc5, .slice am5 (g).ms.length cm5, .slice ao5 (g).os.length co5, .slice at5 (g).ts.length ct5, .int .i64 (g).sent, .int .i64 (g).day] 27) = u5 at *
    go_wp2
    go_loopw [11, 12] (fun v i wx => ∃ j : Nat, j ≤ N.length ∧ i = .int .i64 j ∧ Hid (wx.ownsRow u5.heap.size 9 1 v j (((N.take j).map Lib.itoa).map sv)) ∧ Hid (Below u5.heap.size u5 wx)) (fun _ i _ => N.length - (intOf i).toNat)
    case atStart => exact ⟨0, Nat.zero_le _, rfl, Lib.hid (World.ownsRow_lit (e := 9) (size := 1) u5 #[] 0 (Nat.le_refl _) (by decide) rfl), Lib.hid (balloc (bref _) _)⟩
    case round =>
      obtain ⟨j, hj, rfl, HO, HB⟩ := hrel
      have zr := HB.out.size
      by_cases hlt : j < N.length
      · have j0_ : (0 : Int) ≤ (j : Int) := by omega
        have j1 : (j : Int) < (N.length : Int) := by omega
        have j3 : ¬ (j : Int) < 0 := by omega
        have hjn : j ≤ 40 := by have := HNL.out; omega
        obtain ⟨_, _, _, hv, hc⟩ := HI.out.below HB.out
        cases hv
        obtain ⟨b, o, rfl, e0⟩ := hc j hlt
        clear hc
        obtain ⟨n0, n1⟩ := HNB.out _ (nth_mem N j hlt)
        obtain ⟨a, ha⟩ : ∃ a, a = Lib.itoa (nth N j) := ⟨_, rfl⟩
        have hfk : ∀ W : World, Tab W → Calls Tryz.prog 11 #[.int .i64 (nth N j)] W fun e w' => e = .returned (.string (bstr a)) ∧ Below W.heap.size W w' := fun W t => by rw [ha]; exact implFormatInt _ (by omega) (by omega) W t
        have HTN := Lib.hid (show ((N.take (j + 1)).map Lib.itoa).map sv = ((N.take j).map Lib.itoa).map sv ++ [.string (bstr a)] by rw [take_nth N j hlt, ha]; simp [sv])
        clear ha
        generalize nth N j = z at *
        go_wp2_with (first | (go_at_call 11; refine (hfk _ (TB.out.below HB.out).par.act.tab).mono ?_; rintro e w6 ⟨rfl, hb6⟩; have HB6 := Lib.hid (bnext HB.out hb6); have HO6 := Lib.hid (own_below HO.out hb6); have z6 := HB6.out.size; clear hb6) | (at_builtin; (refine wpList_append_own _ rfl _ _ 33 rfl u5.heap.size 9 i0 (.string { data := #[] }) 1 16 Tryz.underlying33 hi hz0 hz1 hz2 rfl (by decide) _ _ _ rfl (HO6.out.alloc _) ⟨w6.heap.size, 0, none⟩ 1 1 [.string (bstr a)] rfl rfl (cell_one_new _ _ _) (str_oneCellP _) (by unfold maxLen; omega) (by omega) (by simp; omega) ?_); intro v' w8 hown' hgrow hnil; have HN := Lib.hid (And.intro hown' (app_belowP HO6.out hgrow HB6.out (Nat.le_refl _))); clear hown' hgrow hnil))
        go_roundw
        case rel => exact ⟨j + 1, by omega, by go_num, Lib.hid (by rw [HTN.out]; exact HN.out.1), Lib.hid HN.out.2⟩
        case measure => simp [intOf]; omega
      · obtain rfl : j = N.length := by omega
        have jz : ¬ (N.length : Int) < (N.length : Int) := by omega
        have hfl := formatHouse_len g
        have hnl40 : N.length ≤ 40 := by have := HNL.out; omega
        have X6 := Lib.hid (X5.out.below HB.out)
        have HO' := HO.out
        rw [List.take_length] at HO'
        have HO' := Lib.hid HO'
        have g0 := X6.out.six.c0
        have g1 := X6.out.six.c1
        have g2 := X6.out.six.c2
        have g3 := X6.out.six.c3
        have g4 := X6.out.six.c4
        have g5 := X6.out.six.c5
        obtain ⟨FL, hFL⟩ : ∃ FL, formatHouse g = FL := ⟨_, rfl⟩
        rw [hFL] at hfl
        have HFL := Lib.hid hFL
        have HSV := Lib.hid (sv_one FL)
        clear hFL
        go_wp2_with (first
          | (go_at_call 12; refine (implFormatHouse _ _ _ _ g _ (X6.out.house.read (houseOk_B okg)) (TB.out.below HB.out).par.act.tab).mono ?_; rw [HFL.out]; rintro e w7 ⟨v7, rfl, ho7, hb7⟩; have HO7 := Lib.hid (own_below HO'.out hb7); have HF7 := Lib.hid ho7; have HB7 := Lib.hid (bnext HB.out hb7); have z7 := HB7.out.size; clear ho7 hb7)
          | (at_builtin; refine wpList_append_row _ rfl _ _ 33 rfl u5.heap.size 9 i0 (.string { data := #[] }) 16 Tryz.underlying33 hi hz0 hz1 hz2 rfl _ _ _ rfl HO7.out _ _ _ rfl _ HF7.out HSV.out (by omega) (by decide) (by omega) ?_; intro v8 w8 hown hgrow; have HO8 := Lib.hid (Texts.of_own (out_row HFL.out HOL.out hown) (by omega)); have HB8 := Lib.hid (app_below2S HO7.out hgrow HB7.out); have HOU8 := Lib.hid (HOU.out.below HB8.out); clear hown hgrow)
          | (go_at_call 13; refine (sameTexts_any _ _ OL _ HOU8.out HO8.out).mono ?_; rintro e w9 ⟨rfl, hb9⟩; have HB9 := Lib.hid (bnext HB8.out hb9); clear hb9))
        go_ret
        exact ⟨rfl, bnext DX.out HB9.out⟩
end Go.Proofs.YtlipfkalehikkaaGreatDoor
