/- The walks of VisitsOk; the library's stable sort of visits by due days. -/
import Derived.Test.YtdchgbhhlocmdaaShelf
import Derived.Test.YtdchgbhhlocmdaaDueFn
import Derived.Test.YtdchgbhhlocmdaaVisitS
import Derived.Test.YtdchgbhhlocmdaaOwnL
import Derived.Test.YtdchgbhhlocmdaaScalar
import Derived.Sort.OwnSortedInts
import Derived.Deep.QuietTactic
namespace Go.Proofs.Ytdchgbhhlocmdaa
open Go.ChangeShapes Go.WideShapes Go.ChangeAt Go.RowKit

theorem vis_no {n k : Nat} {xs : List Int} (hk : k < n) (h : visitOk xs k = false) : visitsOk n xs = false := by simp [visitsOk, allTo_no hk h]
theorem vis_len {n : Nat} {xs : List Int} (h : ¬ n ≤ 12) : visitsOk n xs = false := by simp [visitsOk, h]
theorem allTo_step {p : Nat → Bool} {k : Nat} (h : allTo p k = true) (h1 : p k = true) : allTo p (k + 1) = true := by simp [allTo, h, h1]
theorem implVisitsOk (v : Value) (n : Nat) (xs : List Int) (w : World) (h : Recs 2 w v n xs) : Calls Try.prog 30 #[v] w fun e w' => e = .returned (.bool (visitsOk n xs)) ∧ Below w.heap.size w w' := by
  obtain ⟨hl, he, ad, cap, rfl, hc⟩ := h
  have hat := fun k hk => atVisit (w := w) he hc k hk
  clear hc he
  by_cases h12 : n ≤ 12
  · go_enter Try.func30, Try.ntmps30
    go_wp2_with fail
    go_loopw [10] (fun i wr => ∃ k : Nat, k ≤ n ∧ i = .int .i64 k ∧ Hid (allTo (visitOk xs) k = true) ∧ Below w.heap.size w wr) (fun i _ => n - (intOf i).toNat)
    case atStart => exact ⟨0, Nat.zero_le _, rfl, rfl, bref _⟩
    case round =>
      obtain ⟨k, hk, rfl, HA, hbel⟩ := hrel
      by_cases hlt : k < n
      · obtain ⟨b, o, rfl, e0, e1, hb⟩ := hat k hlt
        clear hat
        rw [← hbel.cell (p := ⟨b, o + k * 2, none⟩) hb] at e0
        rw [← hbel.cell (p := ⟨b, o + k * 2 + 1, none⟩) hb] at e1
        cases h1 : inB (nth xs (k * 2)) 1 1000 with
        | false =>
          have HX := Lib.hid (vis_no (xs := xs) hlt (by simp only [visitOk, dueV, dayV, h1]; rfl))
          go_wp2_with (first | (go_at_call 72; refine (in_any _ _ _ _).mono ?_; rintro e w' ⟨rfl, rfl⟩))
          go_ret
          exact ⟨by rw [HX.out]; rfl, balloc hbel _⟩
        | true =>
          cases h2 : inB (nth xs (k * 2 + 1)) 1 100 with
          | false =>
            have HX := Lib.hid (vis_no (xs := xs) hlt (by simp only [visitOk, dueV, dayV, h1, h2]; rfl))
            go_wp2_with (first | (go_at_call 72; refine (in_any _ _ _ _).mono ?_; rintro e w' ⟨rfl, rfl⟩))
            go_ret
            exact ⟨by rw [HX.out]; rfl, balloc hbel _⟩
          | true =>
            have HX := Lib.hid (allTo_step HA.out (show visitOk xs k = true by simp only [visitOk, dueV, dayV, h1, h2]; rfl))
            go_wp2_with (first | (go_at_call 72; refine (in_any _ _ _ _).mono ?_; rintro e w' ⟨rfl, rfl⟩))
            go_roundw
            case rel => exact ⟨k + 1, by omega, by go_num, HX.out, balloc hbel _⟩
            case measure => simp [intOf]; omega
      · obtain rfl : k = n := by omega
        have HX := Lib.hid (show visitsOk k xs = true by simp [visitsOk, h12, HA.out])
        clear hat
        go_wp2
        go_ret
        exact ⟨by rw [HX.out]; rfl, hbel⟩
  · have HX := Lib.hid (vis_len (xs := xs) h12)
    clear hat
    go_enter Try.func30, Try.ntmps30
    go_wp2_with fail
    go_ret
    exact ⟨by rw [HX.out]; rfl, bref _⟩

theorem specVisitsOk (v : Value) (n : Nat) (xs : List Int) (w : World) (h : Recs 2 w v n xs) : Calls Try.prog 61 #[v] w fun e w' => e = .returned (.bool (visitsOk n xs)) ∧ Below w.heap.size w w' := by
  obtain ⟨hl, he, ad, cap, rfl, hc⟩ := h
  have hat := fun k hk => atVisit (w := w) he hc k hk
  clear hc he
  go_enter Try.func61, Try.ntmps61
  go_wp2_with fail
  go_loop [3] (fun i => ∃ k : Nat, k ≤ n ∧ i = .int .i64 k ∧ Hid (allTo (visitOk xs) k = true)) (fun i => n - (intOf i).toNat)
  case atStart => exact ⟨0, Nat.zero_le _, rfl, rfl⟩
  case round =>
    obtain ⟨k, hk, rfl, HA⟩ := hrel
    by_cases hlt : k < n
    · obtain ⟨b, o, rfl, e0, e1, hb⟩ := hat k hlt
      clear hat
      cases h1 : inB (nth xs (k * 2)) 1 1000 with
      | false =>
        have HX := Lib.hid (vis_no (xs := xs) hlt (by simp only [visitOk, dueV, dayV, h1]; rfl))
        go_wp2_with (first | (go_at_call 77; refine (l01In_any _ _ _ _).mono ?_; rintro e w' ⟨rfl, rfl⟩))
        go_ret
        exact ⟨by rw [HX.out]; rfl, bref _⟩
      | true =>
        cases h2 : inB (nth xs (k * 2 + 1)) 1 100 with
        | false =>
          have HX := Lib.hid (vis_no (xs := xs) hlt (by simp only [visitOk, dueV, dayV, h1, h2]; rfl))
          go_wp2_with (first | (go_at_call 77; refine (l01In_any _ _ _ _).mono ?_; rintro e w' ⟨rfl, rfl⟩))
          go_ret
          exact ⟨by rw [HX.out]; rfl, bref _⟩
        | true =>
          have HX := Lib.hid (allTo_step HA.out (show visitOk xs k = true by simp only [visitOk, dueV, dayV, h1, h2]; rfl))
          go_wp2_with (first | (go_at_call 77; refine (l01In_any _ _ _ _).mono ?_; rintro e w' ⟨rfl, rfl⟩))
          go_round
          case rel => exact ⟨k + 1, by omega, by go_num, HX.out⟩
          case measure => simp [intOf]; omega
    · obtain rfl : k = n := by omega
      have HX := Lib.hid (show visitsOk k xs = decide ((k : Int) ≤ 12) by simp [visitsOk, HA.out]; omega)
      clear hat
      go_wp2
      go_ret
      exact ⟨by rw [HX.out]; rfl, bref _⟩

/-- the closure: it reads the two captured variables, the row and the list -/
theorem lessDue (Bl Bo lb lo g n lc c : Nat) (xs : List Int) (W : World) (G : Nat → Nat) (hl : W.cell? ⟨Bl, 0, none⟩ = some (.slice (some ⟨lb, lo, none⟩) n lc)) (ho : W.cell? ⟨Bo, 0, none⟩ = some (.slice (some ⟨g, 0, none⟩) n c))
    (hx : ∀ k, k < n → W.cell? ⟨lb, lo + k * 2, none⟩ = some (.int .i64 (dueV xs k))) (hc : ∀ t, t < n → W.cell? ⟨g, t, none⟩ = some (.int .i64 (G t : Nat)) ∧ G t < n) (i j : Nat) (hi : i < n) (hj : j < n) :
    Calls Try.prog 64 #[.int .i64 i, .int .i64 j, .pointer (some ⟨Bl, 0, none⟩), .pointer (some ⟨Bo, 0, none⟩)] W fun e w' => e = .returned (.bool (decide (dueV xs (G i) < dueV xs (G j)))) ∧ ∃ q, w' = W.drewN q := by
  obtain ⟨ci, gi⟩ := hc i hi
  obtain ⟨cj, gj⟩ := hc j hj
  have xi := hx _ gi
  have xj := hx _ gj
  clear hc hx
  generalize G i = a at *
  generalize G j = b at *
  go_enter Try.func64, Try.ntmps64
  go_wp2
  go_quiet (fail)
  go_wp2
  go_ret
  exact ⟨rfl, nq, rfl⟩

noncomputable def siT : TypeInfo := (Try.prog.info? 24).get (by kernel_rfl)
noncomputable def siE : TypeInfo := (Try.prog.info? 3).get (by kernel_rfl)
theorem siK (n : Nat) (h2 : 2 ≤ n) : Lib.swapperK n siE 2 = 5 := by
  have a : siE.hasPointers = false := by kernel_rfl
  have b : siE.bytes = 8 := by kernel_rfl
  have c : (n == 0) = false := by simp; omega
  have d : (n == 1) = false := by simp; omega
  simp [Lib.swapperK, a, b, c, d]
def encF {m : Nat} (x : Fin (m + 1)) : Value := .int .i64 (valI x)
open Go.Sort in
theorem putRow_valI {m : Nat} (W : World) (g : Nat) (A : Array (Fin (m + 1))) : putRow encF W g 0 A = putRow (Value.int .i64) W g 0 (A.toList.map valI).toArray := by
  unfold putRow
  congr 1
  funext c
  unfold putCells
  congr 1
  funext k x
  have hs : (A.toList.map valI).toArray.size = A.size := by simp
  rw [hs]
  split
  · rename_i h
    rw [getElem!_pos A _ (by omega), getElem!_pos _ _ (by rw [hs]; omega)]
    simp [encF]
  · rfl
open Go.Sort in
theorem sortDue (Bl Bo lb lo g lc c B m : Nat) (xs : List Int) (w : World) (hl : w.cell? ⟨Bl, 0, none⟩ = some (.slice (some ⟨lb, lo, none⟩) (m + 1) lc)) (ho : w.cell? ⟨Bo, 0, none⟩ = some (.slice (some ⟨g, 0, none⟩) (m + 1) c))
    (hx : ∀ k, k < m + 1 → w.cell? ⟨lb, lo + k * 2, none⟩ = some (.int .i64 (dueV xs k))) (hown : w.ownsRow B 3 1 (.slice (some ⟨g, 0, none⟩) (m + 1) c) (m + 1) ((rangeI (m + 1)).map (Value.int .i64))) (n1 : g ≠ Bl) (n2 : g ≠ Bo) (n3 : g ≠ lb) (hm : 1 ≤ m) (h12 : m ≤ 11) :
    Calls Try.prog 63 #[.iface 24 (.slice (some ⟨g, 0, none⟩) (m + 1) c), .func (.func 64) #[] #[.pointer (some ⟨Bl, 0, none⟩), .pointer (some ⟨Bo, 0, none⟩)]] w fun e w' =>
      e = .returned (.tuple #[]) ∧ w'.ownsRow B 3 1 (.slice (some ⟨g, 0, none⟩) (m + 1) c) (m + 1) ((dueP (m + 1) xs).map (Value.int .i64)) ∧ w.grownBy w' (some g) := by
  obtain ⟨g', c', cur, hv, hbase, hb, h1, h2, h3, h4⟩ := hown.2.resolve_left (by rintro ⟨q, _⟩; cases q)
  cases hv
  have hgl : g < w.heap.size := (Array.getElem?_eq_some_iff.1 hb).1
  have hcell : ∀ t, t < m + 1 → w.cell? ⟨g, t, none⟩ = some (.int .i64 (t : Nat)) := fun t ht => by
    rw [hown.cellAt t (by omega)]
    simp [rangeI, ht]
  have hH : Holds encF w g 0 (finA m) := fun t ht => by
    rw [finA_size] at ht
    rw [Nat.zero_add]
    refine ⟨?_, hown.frozenAt t⟩
    rw [hcell t ht]
    simp [encF, valI, finA_get ht]
  have hless : LessReads Try.prog 64 #[.pointer (some ⟨Bl, 0, none⟩), .pointer (some ⟨Bo, 0, none⟩)] encF (ltD (m := m) xs) g 0 (finA m).size w := by
    intro q os dk hs i j hi hj
    rw [finA_size] at hs hi hj
    have e : sortWorld encF w g 0 q dk os = putRow encF (grow (Sort.ahead w q) os) g 0 dk := by
      unfold sortWorld; rw [putRow_grow _ (Sort.ahead w q) _ g _ _ hgl]
    have hHg : Holds encF (grow (Sort.ahead w q) os) g 0 (finA m) := holds_grow _ _ _ g 0 (finA m) hgl (holds_ahead _ _ _ _ _ _ hH)
    have oth : ∀ (p : Addr) (x : Value), p.block ≠ g → w.cell? p = some x → (putRow encF (grow (Sort.ahead w q) os) g 0 dk).cell? p = some x := fun p x hne hp => by
      have hlt := World.block_lt_of_cell? w p hp
      rw [cell?_putRow_other _ _ g 0 dk _ (Or.inl hne), cell?_grow _ _ _ (show p.block < (Sort.ahead w q).heap.size from hlt)]
      exact hp
    rw [e]
    have hle := lessDue Bl Bo lb lo g (m + 1) lc c xs (putRow encF (grow (Sort.ahead w q) os) g 0 dk) (fun t => (dk[t]!).val) (oth _ _ (fun q => n1 q.symm) hl) (oth _ _ (fun q => n2 q.symm) ho)
      (fun k hk => oth ⟨lb, lo + k * 2, none⟩ _ (fun q => n3 q.symm) (hx k hk)) (fun t ht => ⟨by
        have := cell?_putRow encF _ g 0 (finA m) dk hHg (by rw [finA_size]; exact hs) t (by omega)
        rw [Nat.zero_add] at this
        exact this, (dk[t]!).isLt⟩) i j hi hj
    exact hle
  have hS := Any.sort_SliceStable_small laysStable 24 3 siT siE (by kernel_rfl) (by kernel_rfl) (by kernel_rfl) (by kernel_rfl) 2 (fun _ => by kernel_rfl) (by kernel_rfl) (fun _ => by kernel_rfl) encF (fun _ => rfl) (ltD xs) 64 _
    (enters_of Try.func64 (by kernel_rfl) rfl) g 0 c (finA m) (by rw [finA_size]; omega) (by rw [finA_size]; omega) 111 (by rw [finA_size, siK _ (by omega)]; kernel_rfl) true
    (fun args W => run_callFunc_extern Try.func111 (by kernel_rfl) (by kernel_rfl) (by kernel_rfl) (e := Extern.ReflectliteSwapper.swap true) (by kernel_rfl) args W) w hless hH hgl
  obtain ⟨s1, s2⟩ := sorted_finA xs m
  have hS2 : Calls Try.prog 63 #[.iface 24 (.slice (some ⟨g, 0, none⟩) (finA m).size c), .func (.func 64) #[] #[.pointer (some ⟨Bl, 0, none⟩), .pointer (some ⟨Bo, 0, none⟩)]] w _ := hS
  rw [finA_size] at hS2
  refine hS2.mono ?_
  rintro e w' ⟨rfl, nn, os, rfl⟩
  rw [finA_size] at s1
  rw [putRow_valI, s1]
  have hro := ownsRow_sortedI (w := w) (n := nn) (os := os) (ts := dueP (m + 1) xs) (ss := rangeI (m + 1)) (by rw [dueP_len, rangeI_len]) hbase hb (by rw [rangeI_len]; exact h1) h2 h3
  rw [rangeI_len] at hro
  exact ⟨rfl, hro, grownBy_sortedI (w := w) (g := g) (n := nn) (os := os) (dueP (m + 1) xs).toArray⟩
open Go.Sort in
theorem sortTiny (p : Option Addr) (n c : Nat) (hn : n ≤ 1) (lb : Array Value) (w : World) :
    Calls Try.prog 63 #[.iface 24 (.slice p n c), .func (.func 64) #[] lb] w fun e w' => e = .returned (.tuple #[]) ∧ Below w.heap.size w w' := by
  have key : ∀ (k : Nat) (f : Nat) (hk : Lib.swapperK n siE 2 = k) (hf : Try.prog.funcs.findIdx? (·.name == "internal/reflectlite" ++ ".Swapper$" ++ toString k) = some f), Calls Try.prog 63 #[.iface 24 (.slice p n c), .func (.func 64) #[] lb] w fun e w' => e = .returned (.tuple #[]) ∧ Below w.heap.size w w' := fun k f hk hf => by
    have hS : Calls Try.prog 63 #[.iface 24 (.slice p n c), .func (.func 64) #[] lb] w _ := Any.sort_SliceStable_tiny laysStable 24 3 siT siE (by kernel_rfl) (by kernel_rfl) (by kernel_rfl) (by kernel_rfl) 2 (fun _ => by kernel_rfl) p n c hn f (by rw [hk]; exact hf) _ #[] lb w
    refine hS.mono ?_
    rintro e w' ⟨rfl, os, rfl⟩
    exact ⟨rfl, ⟨rfl, rfl, rfl, by simp, fun k hk => by rw [heap_grow_old _ _ hk]⟩⟩
  rcases Nat.eq_zero_or_pos n with q | q
  · exact key 1 107 (by simp [Lib.swapperK, q]) (by kernel_rfl)
  · obtain rfl : n = 1 := by omega
    exact key 2 108 (by simp [Lib.swapperK]) (by kernel_rfl)
end Go.Proofs.Ytdchgbhhlocmdaa
