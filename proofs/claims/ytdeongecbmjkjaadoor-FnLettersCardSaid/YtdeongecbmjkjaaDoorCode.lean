/- The laws' readers of the drawn bytes. -/
import Derived.Test.YtdeongecbmjkjaaDoorDraw
namespace Go.Proofs.YtdeongecbmjkjaaDoor
open Go.ChangeShapes Go.WideShapes Go.ChangeAt Go.RowKit

theorem big_any (v : Value) (bs : List Int) (w : World) (h : Bytes w v bs) : Calls Tryd.prog 33 #[v] w fun e w' => e = .returned (.bool (decide ((1048576 : Int) < bs.length))) ∧ w = w' := by
  obtain ⟨hl, ad, cap, rfl, hc⟩ := h
  clear hc
  go_enter Tryd.func33, Tryd.ntmps33
  go_wp2
  go_ret
  exact ⟨rfl, rfl⟩
end Go.Proofs.YtdeongecbmjkjaaDoor
