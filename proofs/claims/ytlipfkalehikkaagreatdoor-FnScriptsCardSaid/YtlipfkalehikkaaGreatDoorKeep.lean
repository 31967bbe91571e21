/- The walks of ParseAct, in the program and in the reference. -/
import Derived.Test.YtlipfkalehikkaaGreatDoorSplit
import Derived.Test.YtlipfkalehikkaaGreatDoorUint
import Derived.BigQuiet
import Derived.IntWalk
import Derived.Deep.RegionHeld3
import Derived.Deep.RegionWith
namespace Go.Proofs.YtlipfkalehikkaaGreatDoor
open Go.ChangeShapes Go.WideShapes Go.ChangeAt Go.RowKit

structure Five (B : Nat) (w : World) (a b c d e : Value) : Prop where
  c0 : w.cell? ⟨B, 0, none⟩ = some a
  c1 : w.cell? ⟨B, 1, none⟩ = some b
  c2 : w.cell? ⟨B, 2, none⟩ = some c
  c3 : w.cell? ⟨B, 3, none⟩ = some d
  c4 : w.cell? ⟨B, 4, none⟩ = some e
  f0 : w.frozen? ⟨B, 0, none⟩ = false
  f1 : w.frozen? ⟨B, 1, none⟩ = false
  f2 : w.frozen? ⟨B, 2, none⟩ = false
  f3 : w.frozen? ⟨B, 3, none⟩ = false
  f4 : w.frozen? ⟨B, 4, none⟩ = false
theorem Five.lt {B : Nat} {w : World} {a b c d e : Value} (h : Five B w a b c d e) : B < w.heap.size := World.block_lt_of_cell? w _ h.c0
theorem Five.same {B : Nat} {w w' : World} {a b c d e : Value} (h : Five B w a b c d e) (hk : w'.heap[B]? = w.heap[B]?) : Five B w' a b c d e :=
  ⟨(World.cell?_of_block hk).trans h.c0, (World.cell?_of_block hk).trans h.c1, (World.cell?_of_block hk).trans h.c2, (World.cell?_of_block hk).trans h.c3, (World.cell?_of_block hk).trans h.c4,
   (World.frozen?_of_block hk).trans h.f0, (World.frozen?_of_block hk).trans h.f1, (World.frozen?_of_block hk).trans h.f2, (World.frozen?_of_block hk).trans h.f3, (World.frozen?_of_block hk).trans h.f4⟩
theorem Five.below {B : Nat} {w w' : World} {a b c d e : Value} (h : Five B w a b c d e) (hb : Below w.heap.size w w') : Five B w' a b c d e := h.same (hb.block B h.lt)
/-- in a world that grew over an earlier one -/
theorem Five.since {B : Nat} {u w w' : World} {a b c d e : Value} (h : Five B w a b c d e) (hb : Below u.heap.size u w') (hu : Below u.heap.size u w) (hB : B < u.heap.size) : Five B w' a b c d e :=
  h.same ((hb.block B hB).trans (hu.block B hB).symm)
theorem five_new (w : World) (a b c d e : Value) : Five w.heap.size (w.alloc (.cells #[a, b, c, d, e] 49)) a b c d e :=
  ⟨by go_simp, by go_simp, by go_simp, by go_simp, by go_simp, by go_simp, by go_simp, by go_simp, by go_simp, by go_simp⟩
/-- an array of four integers of the call's own -/
structure Arr (B : Nat) (w : World) (g : Nat → Int) : Prop where
  cell : ∀ t, t < 4 → w.cell? ⟨B, t, none⟩ = some (.int .i64 (g t))
  free : ∀ t, t < 4 → w.frozen? ⟨B, t, none⟩ = false
theorem Arr.lt {B : Nat} {w : World} {g : Nat → Int} (h : Arr B w g) : B < w.heap.size := World.block_lt_of_cell? w _ (h.cell 0 (by omega))
theorem Arr.below {B : Nat} {w w' : World} {g : Nat → Int} (h : Arr B w g) (hb : Below w.heap.size w w') : Arr B w' g :=
  ⟨fun t ht => (World.cell?_of_block (hb.block B h.lt)).trans (h.cell t ht), fun t ht => (World.frozen?_of_block (hb.block B h.lt)).trans (h.free t ht)⟩
theorem arr_new (w : World) : Arr w.heap.size (w.alloc (.cells #[.int .i64 0, .int .i64 0, .int .i64 0, .int .i64 0] 71)) (fun _ => 0) :=
  ⟨fun t ht => by obtain rfl | rfl | rfl | rfl : t = 0 ∨ t = 1 ∨ t = 2 ∨ t = 3 := by omega
                  all_goals go_simp,
   fun t ht => by obtain rfl | rfl | rfl | rfl : t = 0 ∨ t = 1 ∨ t = 2 ∨ t = 3 := by omega
                  all_goals go_simp⟩
theorem Arr.put {B : Nat} {w : World} {g g' : Nat → Int} {j : Nat} {x : Int} (h : Arr B w g) (hj : j < 4) (e : ∀ t, t < 4 → g' t = if t = j then x else g t) : Arr B (w.setCell ⟨B, j, none⟩ (.int .i64 x)) g' :=
  ⟨fun t ht => by
    rw [e t ht]
    by_cases q : t = j
    · subst q; rw [if_pos rfl]; exact World.cell?_setCell_same _ _ _ (h.cell t ht)
    · rw [if_neg q]; refine (World.cell?_setCell_other _ _ _ _ ?_).trans (h.cell t ht); intro z; apply q; simpa using z.symm,
   fun t ht => by rw [World.frozen?_setCell]; exact h.free t ht⟩
theorem own_formC {w : World} {B : Nat} {e : TypeId} {v : Value} {n : Nat} {L : List Value} (h : w.ownsRow B e 1 v n L) : ∃ ad cap, v = .slice ad n cap ∧ n ≤ cap := by
  rcases h.2 with ⟨rfl, h0⟩ | ⟨g, cap, cur, rfl, hbg, hg, hnc, _⟩
  · exact ⟨none, 0, by rw [h0], by omega⟩
  · exact ⟨_, _, rfl, hnc⟩
theorem actCount_pos {k : Nat} (h1 : 1 ≤ k) (h5 : k ≤ 5) : 1 ≤ actCount k := by
  obtain rfl | rfl | rfl | rfl | rfl : k = 1 ∨ k = 2 ∨ k = 3 ∨ k = 4 ∨ k = 5 := by omega
  all_goals simp [actCount]
def keep (k a b c d : Int) : Parsed × Bool := if actOk k a b c d = true then (⟨k, a, b, c, d⟩, true) else (⟨0, 0, 0, 0, 0⟩, false)
theorem keep_t {k a b c d : Int} (h : actOk k a b c d = true) : keep k a b c d = (⟨k, a, b, c, d⟩, true) := if_pos h
theorem keep_f {k a b c d : Int} (h : actOk k a b c d = false) : keep k a b c d = (⟨0, 0, 0, 0, 0⟩, false) := if_neg (by simp [h])
theorem parse_keep {w0 : List UInt8} {ws : List (List UInt8)} {k : Nat} (hk : kindOf w0 ws.length = k) (h0 : k ≠ 0) (hu : uintAll ws = true) : parseAct (some (w0 :: ws)) = keep k (fieldNum ws 0) (fieldNum ws 1) (fieldNum ws 2) (fieldNum ws 3) := by
  cases q : actOk k (fieldNum ws 0) (fieldNum ws 1) (fieldNum ws 2) (fieldNum ws 3) with
  | true => rw [keep_t q]; exact parse_t hk h0 ⟨hu, q⟩
  | false => rw [keep_f q]; exact parse_f (by rw [hk, q]; simp)
def PV (r : Parsed × Bool) : Value := .tuple #[.agg #[.int .i64 r.1.k, .int .i64 r.1.a, .int .i64 r.1.b, .int .i64 r.1.c, .int .i64 r.1.d], .bool r.2]
def PP (r : Parsed × Bool) (w : World) (e : Ending) (w' : World) : Prop := e = .returned (PV r) ∧ Below w.heap.size w w'
theorem pp_no {r : Parsed × Bool} {w w' : World} (h : r = (⟨0, 0, 0, 0, 0⟩, false)) (hb : Below w.heap.size w w') : PP r w (.returned (.tuple #[.agg #[.int .i64 0, .int .i64 0, .int .i64 0, .int .i64 0, .int .i64 0], .bool false])) w' := ⟨by rw [h]; rfl, hb⟩
theorem pp_yes {r : Parsed × Bool} {w w' : World} {k a b c d : Int} (h : r = (⟨k, a, b, c, d⟩, true)) (hb : Below w.heap.size w w') : PP r w (.returned (.tuple #[.agg #[.int .i64 k, .int .i64 a, .int .i64 b, .int .i64 c, .int .i64 d], .bool true])) w' := ⟨by rw [h]; rfl, hb⟩

set_option maxRecDepth 100000 in
theorem implKeepAct (k a b c d : Int) (w : World) : Calls Tryz.prog 47 #[.agg #[.int .i64 k, .int .i64 a, .int .i64 b, .int .i64 c, .int .i64 d]] w (PP (keep k a b c d) w) := by
  have B0 := Lib.hid (balloc (balloc (bref w) (.cells #[.int .i64 k, .int .i64 a, .int .i64 b, .int .i64 c, .int .i64 d] 49)) (.cells #[.int .i64 0, .int .i64 0, .int .i64 0, .int .i64 0, .int .i64 0] 49))
  have X1 := Lib.hid ((five_new w (.int .i64 k) (.int .i64 a) (.int .i64 b) (.int .i64 c) (.int .i64 d)).below (balloc (bref _) (.cells #[.int .i64 0, .int .i64 0, .int .i64 0, .int .i64 0, .int .i64 0] 49)))
  have X2 := Lib.hid (five_new (w.alloc (.cells #[.int .i64 k, .int .i64 a, .int .i64 b, .int .i64 c, .int .i64 d] 49)) (.int .i64 0) (.int .i64 0) (.int .i64 0) (.int .i64 0) (.int .i64 0))
  rw [World.size_alloc] at X2
  cases hok : actOk k a b c d with
  | false =>
    have H := Lib.hid (keep_f hok)
    go_enter Tryz.func47, Tryz.ntmps47
    go_wp2_with (first | (go_at_call 44; refine (implActOk_any _ _ _ _ _ _).mono ?_; rw [hok]; rintro e w1 ⟨rfl, hb1⟩; have HB1 := Lib.hid (bnext B0.out hb1); have Y2 := X2.out.below hb1; have zz := HB1.out.size; have zy := Y2.lt; obtain ⟨r0, r1, r2, r3, r4, q0, q1, q2, q3, q4⟩ := Y2))
    refine bodyPost_ret (v := .tuple #[.agg #[.int .i64 0, .int .i64 0, .int .i64 0, .int .i64 0, .int .i64 0], .bool false]) (by simp [results, Tryz.results47, go_sem, r0, r1, r2, r3, r4]) rfl ?_
    refine pp_no H.out ?_
    repeat (first | with_reducible exact HB1.out | with_reducible refine bset ?_ (by simp only []; omega) _)
  | true =>
    have H := Lib.hid (keep_t hok)
    go_enter Tryz.func47, Tryz.ntmps47
    go_wp2_with (first | (go_at_call 44; refine (implActOk_any _ _ _ _ _ _).mono ?_; rw [hok]; rintro e w1 ⟨rfl, hb1⟩; have HB1 := Lib.hid (bnext B0.out hb1); have Y1 := X1.out.below hb1; have Y2 := X2.out.below hb1; have zz := HB1.out.size; have zy := Y2.lt; obtain ⟨r0, r1, r2, r3, r4, q0, q1, q2, q3, q4⟩ := Y2; obtain ⟨s0, s1, s2, s3, s4, -, -, -, -, -⟩ := Y1))
    refine bodyPost_ret (v := .tuple #[.agg #[.int .i64 k, .int .i64 a, .int .i64 b, .int .i64 c, .int .i64 d], .bool true]) (by simp [results, Tryz.results47, go_sem, r0, r1, r2, r3, r4]) rfl ?_
    refine pp_yes H.out ?_
    repeat (first | with_reducible exact HB1.out | with_reducible refine bset ?_ (by simp only []; omega) _)
end Go.Proofs.YtlipfkalehikkaaGreatDoor
