/- The walks of NewHouse and SampleHouse, in the program and in the reference. -/
import Derived.Test.YtlipfkalehikkaaGA
import Derived.Test.YtlipfkalehikkaaGF
namespace Go.Proofs.Ytlipfkalehikkaa
open Go.ChangeShapes Go.WideShapes Go.ChangeAt Go.RowKit

def noHouse : HD := ⟨0, [], [], [], [], 0, 0⟩
def firstHouse (weight owner : Int) : HD := ⟨1, [-1, weight, 0], [0], [owner], [], 0, 0⟩
def newHouse (weight owner : Int) : HD × Bool := if houseOk (firstHouse weight owner) = true then (firstHouse weight owner, true) else (noHouse, false)
theorem newHouse_t {weight owner : Int} (h : houseOk (firstHouse weight owner) = true) : newHouse weight owner = (firstHouse weight owner, true) := if_pos h
theorem newHouse_f {weight owner : Int} (h : houseOk (firstHouse weight owner) = false) : newHouse weight owner = (noHouse, false) := if_neg (by simp [h])
theorem newHouse_b (weight owner : Int) : HouseB (newHouse weight owner).1 1048576 := by
  unfold newHouse
  split
  · exact ⟨by show (1 : Nat) ≤ 1048576; omega, by simp [firstHouse], by simp [firstHouse], by simp [firstHouse]⟩
  · exact ⟨by show (0 : Nat) ≤ 1048576; omega, by simp [noHouse], by simp [noHouse], by simp [noHouse]⟩
theorem rowO_nil (lo hi : Nat) (w : World) (e : TypeId) (m : Nat) : RowO lo hi w e m (.slice none 0 0) 0 [] := ⟨World.ownsRow_nil _ _ _ _, fun b hb => by cases hb⟩
theorem sep_nil (v : Value) : Sep (.slice none 0 0) v := fun b hb => by cases hb
theorem noHouseO (lo hi : Nat) (w : World) : HouseO lo hi w (.slice none 0 0) (.slice none 0 0) (.slice none 0 0) (.slice none 0 0) noHouse :=
  ⟨rowO_nil _ _ _ _ _, rowO_nil _ _ _ _ _, rowO_nil _ _ _ _ _, rowO_nil _ _ _ _ _, sep_nil _, sep_nil _, sep_nil _, sep_nil _, sep_nil _, sep_nil _⟩

set_option maxRecDepth 100000 in
theorem specNewHouse (weight owner : Int) (w : World) : Calls Try.prog 63 #[.int .i64 weight, .int .i64 owner] w (fun e w' => ∃ ac cc am cm ao co at_ ct, e = .returned (.tuple #[.agg #[.slice ac ((newHouse weight owner).1).n cc, .slice am ((newHouse weight owner).1).ms.length cm, .slice ao ((newHouse weight owner).1).os.length co, .slice at_ ((newHouse weight owner).1).ts.length ct, .int .i64 ((newHouse weight owner).1).sent, .int .i64 ((newHouse weight owner).1).day], .bool (newHouse weight owner).2]) ∧ HouseO w.heap.size w'.heap.size w' (.slice ac ((newHouse weight owner).1).n cc) (.slice am ((newHouse weight owner).1).ms.length cm) (.slice ao ((newHouse weight owner).1).os.length co) (.slice at_ ((newHouse weight owner).1).ts.length ct) ((newHouse weight owner).1) ∧ Below w.heap.size w w') := by
  have R0' : HouseO (w.heap.size + 1) (w.heap.size + 4) (((((w.alloc (.cells #[.slice none 0 0, .slice none 0 0, .slice none 0 0, .slice none 0 0, .int .i64 0, .int .i64 0] 27)).alloc (.cells #[.int .i64 (-1), .int .i64 weight, .int .i64 0] 40)).alloc (.cells #[.int .i64 0] 3)).alloc (.cells #[.int .i64 owner] 3)).alloc (.cells #[.slice (some ⟨w.heap.size + 1, 0, none⟩) 1 1, .slice (some ⟨w.heap.size + 2, 0, none⟩) 1 1, .slice (some ⟨w.heap.size + 3, 0, none⟩) 1 1, .slice none 0 0, .int .i64 0, .int .i64 0] 27)) (.slice (some ⟨w.heap.size + 1, 0, none⟩) 1 1) (.slice (some ⟨w.heap.size + 2, 0, none⟩) 1 1) (.slice (some ⟨w.heap.size + 3, 0, none⟩) 1 1) (.slice none 0 0) (firstHouse weight owner) := by
    have s1 : (w.alloc (.cells #[.slice none 0 0, .slice none 0 0, .slice none 0 0, .slice none 0 0, .int .i64 0, .int .i64 0] 27)).heap.size = w.heap.size + 1 := by simp
    have s2 : ((w.alloc (.cells #[.slice none 0 0, .slice none 0 0, .slice none 0 0, .slice none 0 0, .int .i64 0, .int .i64 0] 27)).alloc (.cells #[.int .i64 (-1), .int .i64 weight, .int .i64 0] 40)).heap.size = w.heap.size + 2 := by simp
    have s3 : (((w.alloc (.cells #[.slice none 0 0, .slice none 0 0, .slice none 0 0, .slice none 0 0, .int .i64 0, .int .i64 0] 27)).alloc (.cells #[.int .i64 (-1), .int .i64 weight, .int .i64 0] 40)).alloc (.cells #[.int .i64 0] 3)).heap.size = w.heap.size + 3 := by simp
    have s4 : ((((w.alloc (.cells #[.slice none 0 0, .slice none 0 0, .slice none 0 0, .slice none 0 0, .int .i64 0, .int .i64 0] 27)).alloc (.cells #[.int .i64 (-1), .int .i64 weight, .int .i64 0] 40)).alloc (.cells #[.int .i64 0] 3)).alloc (.cells #[.int .i64 owner] 3)).heap.size = w.heap.size + 4 := by simp
    have rc := World.ownsRow_lit (e := 40) (size := 3) (w.alloc (.cells #[.slice none 0 0, .slice none 0 0, .slice none 0 0, .slice none 0 0, .int .i64 0, .int .i64 0] 27)) #[.int .i64 (-1), .int .i64 weight, .int .i64 0] 1 (Nat.le_refl _) (by decide) rfl
    have rm := World.ownsRow_lit (e := 3) (size := 1) ((w.alloc (.cells #[.slice none 0 0, .slice none 0 0, .slice none 0 0, .slice none 0 0, .int .i64 0, .int .i64 0] 27)).alloc (.cells #[.int .i64 (-1), .int .i64 weight, .int .i64 0] 40)) #[.int .i64 0] 1 (Nat.le_refl _) (by decide) rfl
    have ro := World.ownsRow_lit (e := 3) (size := 1) (((w.alloc (.cells #[.slice none 0 0, .slice none 0 0, .slice none 0 0, .slice none 0 0, .int .i64 0, .int .i64 0] 27)).alloc (.cells #[.int .i64 (-1), .int .i64 weight, .int .i64 0] 40)).alloc (.cells #[.int .i64 0] 3)) #[.int .i64 owner] 1 (Nat.le_refl _) (by decide) rfl
    rw [s1] at rc
    rw [s2] at rm
    rw [s3] at ro
    have rc' : RowO (w.heap.size + 1) (w.heap.size + 2) (((((w.alloc (.cells #[.slice none 0 0, .slice none 0 0, .slice none 0 0, .slice none 0 0, .int .i64 0, .int .i64 0] 27)).alloc (.cells #[.int .i64 (-1), .int .i64 weight, .int .i64 0] 40)).alloc (.cells #[.int .i64 0] 3)).alloc (.cells #[.int .i64 owner] 3)).alloc (.cells #[.slice (some ⟨w.heap.size + 1, 0, none⟩) 1 1, .slice (some ⟨w.heap.size + 2, 0, none⟩) 1 1, .slice (some ⟨w.heap.size + 3, 0, none⟩) 1 1, .slice none 0 0, .int .i64 0, .int .i64 0] 27)) 40 3 (.slice (some ⟨w.heap.size + 1, 0, none⟩) 1 1) 1 [-1, weight, 0] := ⟨((rc.alloc _).alloc _).alloc _, fun b hb => by cases hb; exact Nat.lt_succ_self _⟩
    have rm' : RowO (w.heap.size + 2) (w.heap.size + 3) (((((w.alloc (.cells #[.slice none 0 0, .slice none 0 0, .slice none 0 0, .slice none 0 0, .int .i64 0, .int .i64 0] 27)).alloc (.cells #[.int .i64 (-1), .int .i64 weight, .int .i64 0] 40)).alloc (.cells #[.int .i64 0] 3)).alloc (.cells #[.int .i64 owner] 3)).alloc (.cells #[.slice (some ⟨w.heap.size + 1, 0, none⟩) 1 1, .slice (some ⟨w.heap.size + 2, 0, none⟩) 1 1, .slice (some ⟨w.heap.size + 3, 0, none⟩) 1 1, .slice none 0 0, .int .i64 0, .int .i64 0] 27)) 3 1 (.slice (some ⟨w.heap.size + 2, 0, none⟩) 1 1) 1 [0] := ⟨(rm.alloc _).alloc _, fun b hb => by cases hb; exact Nat.lt_succ_self _⟩
    have ro' : RowO (w.heap.size + 3) (w.heap.size + 4) (((((w.alloc (.cells #[.slice none 0 0, .slice none 0 0, .slice none 0 0, .slice none 0 0, .int .i64 0, .int .i64 0] 27)).alloc (.cells #[.int .i64 (-1), .int .i64 weight, .int .i64 0] 40)).alloc (.cells #[.int .i64 0] 3)).alloc (.cells #[.int .i64 owner] 3)).alloc (.cells #[.slice (some ⟨w.heap.size + 1, 0, none⟩) 1 1, .slice (some ⟨w.heap.size + 2, 0, none⟩) 1 1, .slice (some ⟨w.heap.size + 3, 0, none⟩) 1 1, .slice none 0 0, .int .i64 0, .int .i64 0] 27)) 3 1 (.slice (some ⟨w.heap.size + 3, 0, none⟩) 1 1) 1 [owner] := ⟨ro.alloc _, fun b hb => by cases hb; exact Nat.lt_succ_self _⟩
    exact ⟨rc'.wide (by omega) (by omega), rm'.wide (by omega) (by omega), ro'.wide (by omega) (by omega), rowO_nil _ _ _ _ _,
      rc'.sep rm' (off_l (Nat.le_refl _)), rc'.sep ro' (off_l (by omega)), (sep_nil _).symm, rm'.sep ro' (off_l (Nat.le_refl _)), (sep_nil _).symm, (sep_nil _).symm⟩
  have R0 := Lib.hid R0'
  clear R0'
  cases h1 : houseOk (firstHouse weight owner) with
  | false =>
    have H := Lib.hid (newHouse_f h1)
    go_enter Try.func63, Try.ntmps63
    go_wp2_with fail
    refine (specHouseOk _ _ _ _ (firstHouse weight owner) _ (R0.out.read ⟨by show (1 : Nat) ≤ 1048576; omega, by simp [firstHouse], by simp [firstHouse], by simp [firstHouse]⟩)).mono ?_
    rintro e w1 ⟨rfl, hb1⟩
    rw [h1]
    have e0 : w1.cell? ⟨w.heap.size, 0, none⟩ = some (Value.slice none 0 0) := (hb1.cell (p := ⟨w.heap.size, 0, none⟩) (by simp; omega)).trans (by go_simp)
    have f0 : w1.frozen? ⟨w.heap.size, 0, none⟩ = false := (hb1.frozen (p := ⟨w.heap.size, 0, none⟩) (by simp; omega)).trans (by go_simp)
    have e1 : w1.cell? ⟨w.heap.size, 1, none⟩ = some (Value.slice none 0 0) := (hb1.cell (p := ⟨w.heap.size, 1, none⟩) (by simp; omega)).trans (by go_simp)
    have f1 : w1.frozen? ⟨w.heap.size, 1, none⟩ = false := (hb1.frozen (p := ⟨w.heap.size, 1, none⟩) (by simp; omega)).trans (by go_simp)
    have e2 : w1.cell? ⟨w.heap.size, 2, none⟩ = some (Value.slice none 0 0) := (hb1.cell (p := ⟨w.heap.size, 2, none⟩) (by simp; omega)).trans (by go_simp)
    have f2 : w1.frozen? ⟨w.heap.size, 2, none⟩ = false := (hb1.frozen (p := ⟨w.heap.size, 2, none⟩) (by simp; omega)).trans (by go_simp)
    have e3 : w1.cell? ⟨w.heap.size, 3, none⟩ = some (Value.slice none 0 0) := (hb1.cell (p := ⟨w.heap.size, 3, none⟩) (by simp; omega)).trans (by go_simp)
    have f3 : w1.frozen? ⟨w.heap.size, 3, none⟩ = false := (hb1.frozen (p := ⟨w.heap.size, 3, none⟩) (by simp; omega)).trans (by go_simp)
    have e4 : w1.cell? ⟨w.heap.size, 4, none⟩ = some (Value.int .i64 0) := (hb1.cell (p := ⟨w.heap.size, 4, none⟩) (by simp; omega)).trans (by go_simp)
    have f4 : w1.frozen? ⟨w.heap.size, 4, none⟩ = false := (hb1.frozen (p := ⟨w.heap.size, 4, none⟩) (by simp; omega)).trans (by go_simp)
    have e5 : w1.cell? ⟨w.heap.size, 5, none⟩ = some (Value.int .i64 0) := (hb1.cell (p := ⟨w.heap.size, 5, none⟩) (by simp; omega)).trans (by go_simp)
    have f5 : w1.frozen? ⟨w.heap.size, 5, none⟩ = false := (hb1.frozen (p := ⟨w.heap.size, 5, none⟩) (by simp; omega)).trans (by go_simp)
    have z1 : w.heap.size + 5 ≤ w1.heap.size := by have h := hb1.size; simp at h; omega
    have R1 := Lib.hid (R0.out.below hb1)
    have D1 := Lib.hid (bnext (balloc (balloc (balloc (balloc (balloc (bref w) _) _) _) _) _) hb1)
    clear hb1
    go_wp2
    refine bodyPost_ret (v := .tuple #[.agg #[.slice none 0 0, .slice none 0 0, .slice none 0 0, .slice none 0 0, .int .i64 0, .int .i64 0], .bool false]) (by simp [results, Try.results63, go_sem, e0, e1, e2, e3, e4, e5]) rfl ?_
    have fin : ∀ WF : World, Only w.heap.size (w.heap.size + 1) w1 WF → HouseO w.heap.size WF.heap.size WF (.slice none 0 0) (.slice none 0 0) (.slice none 0 0) (.slice none 0 0) noHouse ∧ Below w.heap.size w WF := fun WF oF =>
      ⟨noHouseO _ _ _, Only.below D1.out oF (Nat.le_refl _)⟩
    rw [H.out]
    refine ⟨none, 0, none, 0, none, 0, none, 0, rfl, fin _ ?_⟩
    repeat (first | with_reducible exact Only.refl _ _ _ | refine Only.set ?_ (by simp only []; omega) (by simp only []; omega) _)
  | true =>
    have H := Lib.hid (newHouse_t h1)
    go_enter Try.func63, Try.ntmps63
    go_wp2_with fail
    refine (specHouseOk _ _ _ _ (firstHouse weight owner) _ (R0.out.read ⟨by show (1 : Nat) ≤ 1048576; omega, by simp [firstHouse], by simp [firstHouse], by simp [firstHouse]⟩)).mono ?_
    rintro e w1 ⟨rfl, hb1⟩
    rw [h1]
    have e0 : w1.cell? ⟨w.heap.size, 0, none⟩ = some (Value.slice none 0 0) := (hb1.cell (p := ⟨w.heap.size, 0, none⟩) (by simp; omega)).trans (by go_simp)
    have f0 : w1.frozen? ⟨w.heap.size, 0, none⟩ = false := (hb1.frozen (p := ⟨w.heap.size, 0, none⟩) (by simp; omega)).trans (by go_simp)
    have g0 : w1.cell? ⟨w.heap.size + 1 + 1 + 1 + 1, 0, none⟩ = some (Value.slice (some ⟨w.heap.size + 1, 0, none⟩) 1 1) := (hb1.cell (p := ⟨w.heap.size + 1 + 1 + 1 + 1, 0, none⟩) (by simp)).trans (by go_simp)
    have e1 : w1.cell? ⟨w.heap.size, 1, none⟩ = some (Value.slice none 0 0) := (hb1.cell (p := ⟨w.heap.size, 1, none⟩) (by simp; omega)).trans (by go_simp)
    have f1 : w1.frozen? ⟨w.heap.size, 1, none⟩ = false := (hb1.frozen (p := ⟨w.heap.size, 1, none⟩) (by simp; omega)).trans (by go_simp)
    have g1 : w1.cell? ⟨w.heap.size + 1 + 1 + 1 + 1, 1, none⟩ = some (Value.slice (some ⟨w.heap.size + 2, 0, none⟩) 1 1) := (hb1.cell (p := ⟨w.heap.size + 1 + 1 + 1 + 1, 1, none⟩) (by simp)).trans (by go_simp)
    have e2 : w1.cell? ⟨w.heap.size, 2, none⟩ = some (Value.slice none 0 0) := (hb1.cell (p := ⟨w.heap.size, 2, none⟩) (by simp; omega)).trans (by go_simp)
    have f2 : w1.frozen? ⟨w.heap.size, 2, none⟩ = false := (hb1.frozen (p := ⟨w.heap.size, 2, none⟩) (by simp; omega)).trans (by go_simp)
    have g2 : w1.cell? ⟨w.heap.size + 1 + 1 + 1 + 1, 2, none⟩ = some (Value.slice (some ⟨w.heap.size + 3, 0, none⟩) 1 1) := (hb1.cell (p := ⟨w.heap.size + 1 + 1 + 1 + 1, 2, none⟩) (by simp)).trans (by go_simp)
    have e3 : w1.cell? ⟨w.heap.size, 3, none⟩ = some (Value.slice none 0 0) := (hb1.cell (p := ⟨w.heap.size, 3, none⟩) (by simp; omega)).trans (by go_simp)
    have f3 : w1.frozen? ⟨w.heap.size, 3, none⟩ = false := (hb1.frozen (p := ⟨w.heap.size, 3, none⟩) (by simp; omega)).trans (by go_simp)
    have g3 : w1.cell? ⟨w.heap.size + 1 + 1 + 1 + 1, 3, none⟩ = some (Value.slice none 0 0) := (hb1.cell (p := ⟨w.heap.size + 1 + 1 + 1 + 1, 3, none⟩) (by simp)).trans (by go_simp)
    have e4 : w1.cell? ⟨w.heap.size, 4, none⟩ = some (Value.int .i64 0) := (hb1.cell (p := ⟨w.heap.size, 4, none⟩) (by simp; omega)).trans (by go_simp)
    have f4 : w1.frozen? ⟨w.heap.size, 4, none⟩ = false := (hb1.frozen (p := ⟨w.heap.size, 4, none⟩) (by simp; omega)).trans (by go_simp)
    have g4 : w1.cell? ⟨w.heap.size + 1 + 1 + 1 + 1, 4, none⟩ = some (Value.int .i64 0) := (hb1.cell (p := ⟨w.heap.size + 1 + 1 + 1 + 1, 4, none⟩) (by simp)).trans (by go_simp)
    have e5 : w1.cell? ⟨w.heap.size, 5, none⟩ = some (Value.int .i64 0) := (hb1.cell (p := ⟨w.heap.size, 5, none⟩) (by simp; omega)).trans (by go_simp)
    have f5 : w1.frozen? ⟨w.heap.size, 5, none⟩ = false := (hb1.frozen (p := ⟨w.heap.size, 5, none⟩) (by simp; omega)).trans (by go_simp)
    have g5 : w1.cell? ⟨w.heap.size + 1 + 1 + 1 + 1, 5, none⟩ = some (Value.int .i64 0) := (hb1.cell (p := ⟨w.heap.size + 1 + 1 + 1 + 1, 5, none⟩) (by simp)).trans (by go_simp)
    have z1 : w.heap.size + 5 ≤ w1.heap.size := by have h := hb1.size; simp at h; omega
    have R1 := Lib.hid (R0.out.below hb1)
    have D1 := Lib.hid (bnext (balloc (balloc (balloc (balloc (balloc (bref w) _) _) _) _) _) hb1)
    clear hb1
    go_wp2
    refine bodyPost_ret (v := .tuple #[.agg #[(.slice (some ⟨w.heap.size + 1, 0, none⟩) 1 1), (.slice (some ⟨w.heap.size + 2, 0, none⟩) 1 1), (.slice (some ⟨w.heap.size + 3, 0, none⟩) 1 1), .slice none 0 0, .int .i64 0, .int .i64 0], .bool true]) (by simp [results, Try.results63, go_sem, e0, e1, e2, e3, e4, e5]) rfl ?_
    have fin : ∀ WF : World, Only w.heap.size (w.heap.size + 1) w1 WF → HouseO w.heap.size WF.heap.size WF (.slice (some ⟨w.heap.size + 1, 0, none⟩) 1 1) (.slice (some ⟨w.heap.size + 2, 0, none⟩) 1 1) (.slice (some ⟨w.heap.size + 3, 0, none⟩) 1 1) (.slice none 0 0) (firstHouse weight owner) ∧ Below w.heap.size w WF := fun WF oF =>
      ⟨(R1.out.only oF (off_r (Nat.le_refl _))).wide (by omega) (by have := oF.size; omega), Only.below D1.out oF (Nat.le_refl _)⟩
    rw [H.out]
    refine ⟨some ⟨w.heap.size + 1, 0, none⟩, 1, some ⟨w.heap.size + 2, 0, none⟩, 1, some ⟨w.heap.size + 3, 0, none⟩, 1, none, 0, rfl, fin _ ?_⟩
    repeat (first | with_reducible exact Only.refl _ _ _ | refine Only.set ?_ (by simp only []; omega) (by simp only []; omega) _)

set_option maxRecDepth 100000 in
theorem specSampleHouse (w : World) : Calls Try.prog 44 #[] w (fun e w' => ∃ ac cc am cm ao co at_ ct, e = .returned (.agg #[.slice ac ((newHouse 1000 0).1).n cc, .slice am ((newHouse 1000 0).1).ms.length cm, .slice ao ((newHouse 1000 0).1).os.length co, .slice at_ ((newHouse 1000 0).1).ts.length ct, .int .i64 ((newHouse 1000 0).1).sent, .int .i64 ((newHouse 1000 0).1).day]) ∧ HouseO w.heap.size w'.heap.size w' (.slice ac ((newHouse 1000 0).1).n cc) (.slice am ((newHouse 1000 0).1).ms.length cm) (.slice ao ((newHouse 1000 0).1).os.length co) (.slice at_ ((newHouse 1000 0).1).ts.length ct) ((newHouse 1000 0).1) ∧ Below w.heap.size w w') := by
  have key := fun w0 => specNewHouse 1000 0 w0
  generalize (newHouse 1000 0).1 = hd at key ⊢
  generalize (newHouse 1000 0).2 = bb at key
  go_enter Try.func44, Try.ntmps44
  go_wp2_with fail
  refine (key _).mono ?_
  rintro e w1 ⟨ac, cc, am, cm, ao, co, at_, ct, rfl, hO, hb1⟩
  have e0 : w1.cell? ⟨w.heap.size, 0, none⟩ = some (Value.slice none 0 0) := (hb1.cell (p := ⟨w.heap.size, 0, none⟩) (by simp)).trans (by go_simp)
  have f0 : w1.frozen? ⟨w.heap.size, 0, none⟩ = false := (hb1.frozen (p := ⟨w.heap.size, 0, none⟩) (by simp)).trans (by go_simp)
  have e1 : w1.cell? ⟨w.heap.size, 1, none⟩ = some (Value.slice none 0 0) := (hb1.cell (p := ⟨w.heap.size, 1, none⟩) (by simp)).trans (by go_simp)
  have f1 : w1.frozen? ⟨w.heap.size, 1, none⟩ = false := (hb1.frozen (p := ⟨w.heap.size, 1, none⟩) (by simp)).trans (by go_simp)
  have e2 : w1.cell? ⟨w.heap.size, 2, none⟩ = some (Value.slice none 0 0) := (hb1.cell (p := ⟨w.heap.size, 2, none⟩) (by simp)).trans (by go_simp)
  have f2 : w1.frozen? ⟨w.heap.size, 2, none⟩ = false := (hb1.frozen (p := ⟨w.heap.size, 2, none⟩) (by simp)).trans (by go_simp)
  have e3 : w1.cell? ⟨w.heap.size, 3, none⟩ = some (Value.slice none 0 0) := (hb1.cell (p := ⟨w.heap.size, 3, none⟩) (by simp)).trans (by go_simp)
  have f3 : w1.frozen? ⟨w.heap.size, 3, none⟩ = false := (hb1.frozen (p := ⟨w.heap.size, 3, none⟩) (by simp)).trans (by go_simp)
  have e4 : w1.cell? ⟨w.heap.size, 4, none⟩ = some (Value.int .i64 0) := (hb1.cell (p := ⟨w.heap.size, 4, none⟩) (by simp)).trans (by go_simp)
  have f4 : w1.frozen? ⟨w.heap.size, 4, none⟩ = false := (hb1.frozen (p := ⟨w.heap.size, 4, none⟩) (by simp)).trans (by go_simp)
  have e5 : w1.cell? ⟨w.heap.size, 5, none⟩ = some (Value.int .i64 0) := (hb1.cell (p := ⟨w.heap.size, 5, none⟩) (by simp)).trans (by go_simp)
  have f5 : w1.frozen? ⟨w.heap.size, 5, none⟩ = false := (hb1.frozen (p := ⟨w.heap.size, 5, none⟩) (by simp)).trans (by go_simp)
  have z1 : w.heap.size + 1 ≤ w1.heap.size := by have h := hb1.size; simp at h; omega
  have R1 := Lib.hid hO
  have D1 := Lib.hid (bnext (balloc (bref w) _) hb1)
  have y1 : w.heap.size < w1.heap.size := by omega
  clear hb1 hO
  go_wp2
  refine bodyPost_ret (v := .agg #[.slice ac hd.n cc, .slice am hd.ms.length cm, .slice ao hd.os.length co, .slice at_ hd.ts.length ct, .int .i64 hd.sent, .int .i64 hd.day]) (by simp [results, Try.results44, go_sem, e0, e1, e2, e3, e4, e5, y1]) rfl ?_
  have fin : ∀ WF : World, Only w.heap.size (w.heap.size + 1) w1 WF → HouseO w.heap.size WF.heap.size WF (.slice ac hd.n cc) (.slice am hd.ms.length cm) (.slice ao hd.os.length co) (.slice at_ hd.ts.length ct) hd ∧ Below w.heap.size w WF := fun WF oF =>
    ⟨(R1.out.only oF (off_r (by simp))).wide (by simp) oF.size, Only.below D1.out oF (Nat.le_refl _)⟩
  refine ⟨_, _, _, _, _, _, _, _, rfl, fin _ ?_⟩
  repeat (first | with_reducible exact Only.refl _ _ _ | with_reducible refine Only.alloc ?_ _ | with_reducible refine Only.set ?_ (by simp only []; omega) (by simp only []; omega) _)
end Go.Proofs.Ytlipfkalehikkaa
