/- The text of a script, walked. -/
import Derived.Test.YtdeongecbmjkjaaDoorActText
import Derived.Test.YtdeongecbmjkjaaDoorActS
import Derived.Lib.AppendStr
namespace Go.Proofs.YtdeongecbmjkjaaDoor
open Go.ChangeShapes Go.WideShapes Go.ChangeAt Go.RowKit

def actAt (xs : List Int) (k : Nat) : List UInt8 × Bool := formatAct (nth xs (k * 5)) (nth xs (k * 5 + 1)) (nth xs (k * 5 + 2)) (nth xs (k * 5 + 3)) (nth xs (k * 5 + 4))
def scriptTo (xs : List Int) : Nat → List UInt8
  | 0 => []
  | k + 1 => scriptTo xs k ++ ((actAt xs k).1 ++ [10])
def scriptText (n : Nat) (xs : List Int) : List UInt8 × Bool := if n ≤ 40 ∧ allTo (fun k => (actAt xs k).2) n = true then (scriptTo xs n, true) else ([], false)
theorem script_long {n : Nat} {xs : List Int} (h : ¬ n ≤ 40) : scriptText n xs = ([], false) := if_neg (by simp [h])
theorem script_bad {n : Nat} {xs : List Int} {k : Nat} (hk : k < n) (h : (actAt xs k).2 = false) : scriptText n xs = ([], false) := if_neg (by rw [allTo_no (p := fun k => (actAt xs k).2) hk h]; simp)
theorem script_t {n : Nat} {xs : List Int} (h : n ≤ 40) (h1 : allTo (fun k => (actAt xs k).2) n = true) : scriptText n xs = (scriptTo xs n, true) := if_pos ⟨h, h1⟩
theorem numsTo_len (f : Nat → Int) : ∀ n : Nat, (∀ k, k < n → -9223372036854775808 ≤ f k ∧ f k ≤ 9223372036854775807) → (numsTo f n).length ≤ 21 * n
  | 0, _ => by simp [numsTo]
  | n + 1, h => by
    have a := numsTo_len f n (fun k hk => h k (by omega))
    have b := itoa_len (h n (by omega)).1 (h n (by omega)).2
    simp only [numsTo, List.length_append, List.length_cons]
    omega
theorem formatAct_len (k a b c d : Int) : (formatAct k a b c d).1.length ≤ 94 := by
  cases h : actOk k a b c d with
  | false => rw [formatAct_f h]; simp
  | true =>
    rw [formatAct_t h]
    obtain ⟨_, _, a0, a1, b0, b1, c0, c1, d0, d1⟩ := actOk_bd h
    have h1 := actWord_len k.toNat
    have h2 := actCount_le k.toNat
    have h3 := numsTo_len (nth [a, b, c, d]) (actCount k.toNat) (fun j hj => by
      obtain rfl | rfl | rfl | rfl : j = 0 ∨ j = 1 ∨ j = 2 ∨ j = 3 := by omega
      all_goals simp [nth]; omega)
    simp only [List.length_append]
    omega
theorem strCells_b (t : List UInt8) : Lib.strCells (bstr t) = t.map fun b => Value.int .u8 b.toNat := by simp [Lib.strCells, bstr]
theorem strCells_app (t g : List UInt8) : Lib.strCells (bstr t) ++ Lib.strCells (bstr g) = Lib.strCells (bstr (t ++ g)) := by rw [strCells_b, strCells_b, strCells_b, List.map_append]
theorem own_conv {w : World} {B : Nat} {u : Value} {t : List UInt8} (h : w.ownsRow B 5 1 u t.length (Lib.strCells (bstr t))) (hne : u ≠ .slice none 0 0) : ∃ g cap, u = .slice (some ⟨g, 0, none⟩) t.length cap ∧ (convert 60 9 (.slice (some ⟨g, 0, none⟩) t.length cap)).run Tryd.prog w = .ok (.string (bstr t)) w := by
  rcases h.2 with ⟨rfl, h0⟩ | ⟨g, cap, cur, rfl, hbg, hg, hnc, hcm, hcs, htake⟩
  · exact absurd rfl hne
  · refine ⟨g, cap, rfl, ?_⟩
    rw [run_convert_bytes_arg (P := Tryd.prog) (w := w) 60 5 Tryd.underlying60 Tryd.underlying5 g 0 t.length cap (t.map fun b => (b.toNat : Int)) (by simp) (fun i hi => by
      rw [Nat.zero_add, h.cellAt i (by simpa using hi), strCells_b]
      simp [hi]) 9 Tryd.underlying9]
    congr 2
    unfold strOfNums bstr
    congr 1
    have e : ((fun n : Int => UInt8.ofNat n.toNat) ∘ fun b : UInt8 => (b.toNat : Int)) = id := by funext b; simp
    rw [List.map_map, e, List.map_id]
theorem infoByte : (Tryd.prog.info? 5).map (fun i => (i.zero, i.size, i.bytes)) = some (some (.int .u8 0), 1, 1) := by kernel_rfl

set_option maxRecDepth 100000 in
set_option maxHeartbeats 4000000 in
theorem implScriptText (v : Value) (n : Nat) (xs : List Int) (w : World) (h : Recs 5 w v n xs) (ht : ActT w) (h20 : n ≤ 1048576) : Calls Tryd.prog 22 #[v] w fun e w' => e = .returned (.tuple #[.string (bstr (scriptText n xs).1), .bool (scriptText n xs).2]) ∧ Below w.heap.size w w' := by
  obtain ⟨hl, he, adv, capv, rfl, hc⟩ := h
  have hI : Recs 5 w (.slice adv n capv) n xs := ⟨hl, he, adv, capv, rfl, hc⟩
  have HI := Lib.hid hI
  have HLX := Lib.hid he
  clear hc hI he
  by_cases h40 : n ≤ 40
  · have h40' : ¬ (40 : Int) < n := by omega
    go_enter Tryd.func22, Tryd.ntmps22
    go_wp2_with fail
    go_loopw [4, 14] (fun s i wr => ∃ (k : Nat) (t : List UInt8), k ≤ n ∧ i = .int .i64 k ∧ s = .string (bstr t) ∧ Hid (t = scriptTo xs k) ∧ Hid (allTo (fun k => (actAt xs k).2) k = true) ∧ t.length ≤ 95 * k ∧ Hid (Below w.heap.size w wr)) (fun _ i _ => n - (intOf i).toNat)
    case atStart => exact ⟨0, [], Nat.zero_le _, rfl, rfl, rfl, rfl, by simp, bref _⟩
    case round =>
      obtain ⟨k, t, hk, rfl, rfl, HT, HK, htl, HB⟩ := hrel
      by_cases hlt : k < n
      · have HIr := Lib.hid (HI.out.below HB.out)
        obtain ⟨_, _, _, _, hv, hc⟩ := HIr.out
        cases hv
        obtain ⟨b1, o1, rfl, e0, e1, e2, e3, e4, hbl⟩ := atAct HLX.out hc k hlt
        clear hc
        have hrl : (actAt xs k).1.length ≤ 94 := formatAct_len _ _ _ _ _
        have hTb := (ht.below HB.out).below (balloc (bref wr) (.cells #[.int .i64 (nth xs (k * 5)), .int .i64 (nth xs (k * 5 + 1)), .int .i64 (nth xs (k * 5 + 2)), .int .i64 (nth xs (k * 5 + 3)), .int .i64 (nth xs (k * 5 + 4))] 26))
        obtain ⟨r1, hr1⟩ : ∃ r, r = (actAt xs k).1 := ⟨_, rfl⟩
        rw [← hr1] at hrl
        have HR1 := Lib.hid hr1
        clear hr1
        cases hr2 : (actAt xs k).2 with
        | false =>
          have hfk : ∀ W : World, ActT W → Calls Tryd.prog 13 #[.agg #[.int .i64 (nth xs (k * 5)), .int .i64 (nth xs (k * 5 + 1)), .int .i64 (nth xs (k * 5 + 2)), .int .i64 (nth xs (k * 5 + 3)), .int .i64 (nth xs (k * 5 + 4))]] W fun e w' => e = .returned (.tuple #[.string (bstr r1), .bool false]) ∧ Below W.heap.size W w' := fun W t_ => by have := implFormatAct (nth xs (k * 5)) (nth xs (k * 5 + 1)) (nth xs (k * 5 + 2)) (nth xs (k * 5 + 3)) (nth xs (k * 5 + 4)) W t_; rw [HR1.out]; rw [show formatAct (nth xs (k * 5)) (nth xs (k * 5 + 1)) (nth xs (k * 5 + 2)) (nth xs (k * 5 + 3)) (nth xs (k * 5 + 4)) = actAt xs k from rfl, hr2] at this; exact this
          go_wp2_with (first | (go_at_call 13; refine (hfk _ hTb).mono ?_; rintro e w2 ⟨rfl, hb2⟩; have HB2 := Lib.hid (bnext (balloc HB.out (.cells #[.int .i64 (nth xs (k * 5)), .int .i64 (nth xs (k * 5 + 1)), .int .i64 (nth xs (k * 5 + 2)), .int .i64 (nth xs (k * 5 + 3)), .int .i64 (nth xs (k * 5 + 4))] 26)) hb2);  clear hb2))
          refine bodyPost_ret (v := .tuple #[.string { data := #[] }, .bool false]) (by simp [results, Tryd.results22, go_sem]) rfl ?_
          exact ⟨by rw [script_bad hlt hr2]; rfl, HB2.out⟩
        | true =>
          have hfk : ∀ W : World, ActT W → Calls Tryd.prog 13 #[.agg #[.int .i64 (nth xs (k * 5)), .int .i64 (nth xs (k * 5 + 1)), .int .i64 (nth xs (k * 5 + 2)), .int .i64 (nth xs (k * 5 + 3)), .int .i64 (nth xs (k * 5 + 4))]] W fun e w' => e = .returned (.tuple #[.string (bstr r1), .bool true]) ∧ Below W.heap.size W w' := fun W t_ => by have := implFormatAct (nth xs (k * 5)) (nth xs (k * 5 + 1)) (nth xs (k * 5 + 2)) (nth xs (k * 5 + 3)) (nth xs (k * 5 + 4)) W t_; rw [HR1.out]; rw [show formatAct (nth xs (k * 5)) (nth xs (k * 5 + 1)) (nth xs (k * 5 + 2)) (nth xs (k * 5 + 3)) (nth xs (k * 5 + 4)) = actAt xs k from rfl, hr2] at this; exact this
          obtain ⟨g, hg⟩ : ∃ g, g = r1 ++ [10] := ⟨_, rfl⟩
          have hgl : g.length ≤ 95 := by rw [hg]; simp; omega
          have ad1 : ∀ W : World, (Op.stringOp .add (bstr r1) { data := #[10] }).run Tryd.prog W = .ok (.string (bstr g)) W := by rw [hg]; exact add_to r1 [10] _ rfl (by simp; omega)
          obtain ⟨q, hq⟩ : ∃ q, q = t ++ g := ⟨_, rfl⟩
          have hql : q.length ≤ 95 * (k + 1) := by rw [hq]; simp; omega
          have ad2 : ∀ W : World, (Op.stringOp .add (bstr t) (bstr g)).run Tryd.prog W = .ok (.string (bstr q)) W := by rw [hq]; exact add_at _ _ _ rfl (by omega)
          have HT' : Hid (q = scriptTo xs (k + 1)) := Lib.hid (by rw [hq, hg]; simp only [scriptTo]; rw [← HT.out, ← HR1.out])
          have HK' : Hid (allTo (fun k => (actAt xs k).2) (k + 1) = true) := allTo_of fun j hj => by
            rcases Nat.lt_or_ge j k with z | z
            · exact allTo_at HK.out z
            · obtain rfl : j = k := by omega
              exact hr2
          have HQ := Lib.hid hq
          clear hg hq hr2
          go_wp2_with (first | (go_at_call 13; refine (hfk _ hTb).mono ?_; rintro e w2 ⟨rfl, hb2⟩; have HB2 := Lib.hid (bnext (balloc HB.out (.cells #[.int .i64 (nth xs (k * 5)), .int .i64 (nth xs (k * 5 + 1)), .int .i64 (nth xs (k * 5 + 2)), .int .i64 (nth xs (k * 5 + 3)), .int .i64 (nth xs (k * 5 + 4))] 26)) hb2);  clear hb2))
          go_roundw
          case rel => exact ⟨k + 1, q, by omega, by go_num, rfl, HT', HK', hql, HB2.out⟩
          case measure => simp [intOf]; omega
      · obtain rfl : k = n := by omega
        have HE := Lib.hid (script_t h40 HK.out)
        go_wp2_with fail
        refine bodyPost_ret (v := .tuple #[.string (bstr t), .bool true]) (by simp [results, Tryd.results22, go_sem]) rfl ?_
        exact ⟨by rw [HE.out, HT.out], HB.out⟩

  · have h40' : (40 : Int) < n := by omega
    go_enter Tryd.func22, Tryd.ntmps22
    go_wp2_with fail
    refine bodyPost_ret (v := .tuple #[.string { data := #[] }, .bool false]) (by simp [results, Tryd.results22, go_sem]) rfl ?_
    exact ⟨by rw [script_long h40]; rfl, bref _⟩

set_option maxRecDepth 100000 in
set_option maxHeartbeats 4000000 in
theorem specScriptText (v : Value) (n : Nat) (xs : List Int) (w : World) (h : Recs 5 w v n xs) (h20 : n ≤ 1048576) : Calls Tryd.prog 20 #[v] w fun e w' => e = .returned (.tuple #[.string (bstr (scriptText n xs).1), .bool (scriptText n xs).2]) ∧ Below w.heap.size w w' := by
  obtain ⟨hl, he, adv, capv, rfl, hc⟩ := h
  have hI : Recs 5 w (.slice adv n capv) n xs := ⟨hl, he, adv, capv, rfl, hc⟩
  have HI := Lib.hid hI
  have HLX := Lib.hid he
  clear hc hI he
  obtain ⟨i0, hi0, hz0, hz1, hz2⟩ := info_parts infoByte
  have R0 := Lib.hid (show (w.alloc (.cells #[] 5)).ownsRow w.heap.size 5 1 (.slice (some ⟨w.heap.size, 0, none⟩) 0 0) ([] : List UInt8).length (Lib.strCells (bstr [])) from World.ownsRow_lit (e := 5) (size := 1) w #[] 0 (Nat.le_refl _) (by decide) rfl)
  have hne0 : Hid (Value.slice (some ⟨w.heap.size, 0, none⟩) 0 0 ≠ Value.slice none 0 0) := Lib.hid (fun z => by cases z)
  go_enter Tryd.func20, Tryd.ntmps20
  go_wp2_with fail
  go_loopw [4, 5] (fun s i wr => ∃ (k : Nat) (t : List UInt8), k ≤ n ∧ i = .int .i64 k ∧ Hid (wr.ownsRow w.heap.size 5 1 s t.length (Lib.strCells (bstr t))) ∧ Hid (s ≠ .slice none 0 0) ∧ Hid (t = scriptTo xs k) ∧ Hid (allTo (fun k => (actAt xs k).2) k = true) ∧ t.length ≤ 95 * k ∧ Hid (Below w.heap.size w wr) ∧ Hid (0 < k → n ≤ 40)) (fun _ i _ => n - (intOf i).toNat)
  case atStart => exact ⟨0, [], Nat.zero_le _, rfl, R0.out, hne0, rfl, rfl, by simp, balloc (bref _) _, fun z => absurd z (by omega)⟩
  case round =>
    obtain ⟨k, t, hk, rfl, HR, HN, HT, HK, htl, HB, H40⟩ := hrel
    by_cases hlt : k < n
    · have HIr := Lib.hid (HI.out.below HB.out)
      obtain ⟨_, _, _, _, hv, hc⟩ := HIr.out
      cases hv
      obtain ⟨b1, o1, rfl, e0, e1, e2, e3, e4, hbl⟩ := atAct HLX.out hc k hlt
      clear hc
      have hrl : (actAt xs k).1.length ≤ 94 := formatAct_len _ _ _ _ _
      skip
      obtain ⟨r1, hr1⟩ : ∃ r, r = (actAt xs k).1 := ⟨_, rfl⟩
      rw [← hr1] at hrl
      have HR1 := Lib.hid hr1
      clear hr1
      cases hr2 : (actAt xs k).2 with
      | false =>
        have hfk : ∀ W : World, Calls Tryd.prog 11 #[.agg #[.int .i64 (nth xs (k * 5)), .int .i64 (nth xs (k * 5 + 1)), .int .i64 (nth xs (k * 5 + 2)), .int .i64 (nth xs (k * 5 + 3)), .int .i64 (nth xs (k * 5 + 4))]] W fun e w' => e = .returned (.tuple #[.string (bstr r1), .bool false]) ∧ Below W.heap.size W w' := fun W => by have := specFormatAct (nth xs (k * 5)) (nth xs (k * 5 + 1)) (nth xs (k * 5 + 2)) (nth xs (k * 5 + 3)) (nth xs (k * 5 + 4)) W; rw [HR1.out]; rw [show formatAct (nth xs (k * 5)) (nth xs (k * 5 + 1)) (nth xs (k * 5 + 2)) (nth xs (k * 5 + 3)) (nth xs (k * 5 + 4)) = actAt xs k from rfl, hr2] at this; exact this
        go_wp2_with (first | (go_at_call 11; refine (hfk _).mono ?_; rintro e w2 ⟨rfl, hb2⟩; have HB2 := Lib.hid (bnext HB.out hb2); have HR2 := Lib.hid (own_below HR.out hb2); have z2 := HB2.out.size; clear hb2))
        refine bodyPost_ret (v := .tuple #[.string { data := #[] }, .bool false]) (by simp [results, Tryd.results20, go_sem]) rfl ?_
        exact ⟨by rw [script_bad hlt hr2]; rfl, HB2.out⟩
      | true =>
        have hfk : ∀ W : World, Calls Tryd.prog 11 #[.agg #[.int .i64 (nth xs (k * 5)), .int .i64 (nth xs (k * 5 + 1)), .int .i64 (nth xs (k * 5 + 2)), .int .i64 (nth xs (k * 5 + 3)), .int .i64 (nth xs (k * 5 + 4))]] W fun e w' => e = .returned (.tuple #[.string (bstr r1), .bool true]) ∧ Below W.heap.size W w' := fun W => by have := specFormatAct (nth xs (k * 5)) (nth xs (k * 5 + 1)) (nth xs (k * 5 + 2)) (nth xs (k * 5 + 3)) (nth xs (k * 5 + 4)) W; rw [HR1.out]; rw [show formatAct (nth xs (k * 5)) (nth xs (k * 5 + 1)) (nth xs (k * 5 + 2)) (nth xs (k * 5 + 3)) (nth xs (k * 5 + 4)) = actAt xs k from rfl, hr2] at this; exact this
        by_cases h40 : n ≤ 40
        · have h40' : ¬ (40 : Int) < n := by omega
          obtain ⟨g, hg⟩ : ∃ g, g = r1 ++ [10] := ⟨_, rfl⟩
          have hgl : g.length ≤ 95 := by rw [hg]; simp; omega
          have ad1 : ∀ W : World, (Op.stringOp .add (bstr r1) { data := #[10] }).run Tryd.prog W = .ok (.string (bstr g)) W := by rw [hg]; exact add_to r1 [10] _ rfl (by simp; omega)
          obtain ⟨q, hq⟩ : ∃ q, q = t ++ g := ⟨_, rfl⟩
          have hql : q.length ≤ 95 * (k + 1) := by rw [hq]; simp; omega
          skip
          have HT' : Hid (q = scriptTo xs (k + 1)) := Lib.hid (by rw [hq, hg]; simp only [scriptTo]; rw [← HT.out, ← HR1.out])
          have HK' : Hid (allTo (fun k => (actAt xs k).2) (k + 1) = true) := allTo_of fun j hj => by
            rcases Nat.lt_or_ge j k with z | z
            · exact allTo_at HK.out z
            · obtain rfl : j = k := by omega
              exact hr2
          have HQ := Lib.hid hq
          clear hg hq hr2
          go_wp2_with (first | (go_at_call 11; refine (hfk _).mono ?_; rintro e w2 ⟨rfl, hb2⟩; have HB2 := Lib.hid (bnext HB.out hb2); have HR2 := Lib.hid (own_below HR.out hb2); have z2 := HB2.out.size; clear hb2) | (at_builtin; refine Lib.wpList_append_own_string w2 rfl _ _ 60 9 rfl w.heap.size 5 i0 Tryd.underlying60 Tryd.underlying9 hi0 hz0 hz1 hz2 _ _ _ rfl HR2.out (bstr g) rfl (by rw [bstr_size]; unfold maxLen; omega) (by rw [bstr_size]; omega) (by omega) ?_; intro v' w7 hown hgrow hnil; have HR7 : Hid (w7.ownsRow w.heap.size 5 1 v' q.length (Lib.strCells (bstr q))) := Lib.hid (by rw [strCells_app, ← HQ.out, bstr_size] at hown; rw [HQ.out, List.length_append, ← HQ.out]; exact hown); have HN7 : Hid (v' ≠ .slice none 0 0) := Lib.hid (fun z => HN.out (hnil.1 z).1); have HB7 := Lib.hid ((HB2.out).grown hgrow HB2.out.size (fun b hb => (HR2.out.lt b hb).1)); clear hown hgrow hnil))
          go_roundw
          case rel => exact ⟨k + 1, q, by omega, by go_num, HR7, HN7, HT', HK', hql, HB7.out, fun _ => h40⟩
          case measure => simp [intOf]; omega
        · have h40' : (40 : Int) < n := by omega
          go_wp2_with (first | (go_at_call 11; refine (hfk _).mono ?_; rintro e w2 ⟨rfl, hb2⟩; have HB2 := Lib.hid (bnext HB.out hb2); have HR2 := Lib.hid (own_below HR.out hb2); have z2 := HB2.out.size; clear hb2))
          refine bodyPost_ret (v := .tuple #[.string { data := #[] }, .bool false]) (by simp [results, Tryd.results20, go_sem]) rfl ?_
          exact ⟨by rw [script_long h40]; rfl, HB2.out⟩
    · obtain rfl : k = n := by omega
      by_cases h40 : k ≤ 40
      · have HE := Lib.hid (script_t h40 HK.out)
        obtain ⟨g, cap, rfl, hcv⟩ := own_conv HR.out HN.out
        go_wp2_with fail
        refine bodyPost_ret (v := .tuple #[.string (bstr t), .bool true]) (by simp [results, Tryd.results20, go_sem]) rfl ?_
        exact ⟨by rw [HE.out, HT.out], HB.out⟩
      · exact absurd (H40.out (by omega)) h40
end Go.Proofs.YtdeongecbmjkjaaDoor
