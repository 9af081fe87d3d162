/- Walks: the laws' own helpers: the payments of the chapter's examples. -/
import Derived.Test.YtcphclpekllcoaaGreatDoorLd
namespace Go.Proofs.YtcphclpekllcoaaGreatDoor
open Go.RowKit

/-- The payments of the chapter's examples. -/
def exPays : List Nt.Pay := [⟨1, 1, -1, 196⟩, ⟨2, 1, 3, 388⟩, ⟨3, 1, 3, 100⟩, ⟨1, 1, -1, 4⟩, ⟨3, 1, 3, 149⟩]

set_option maxRecDepth 100000 in
theorem payments_any (w : World) :
    Calls Tryz.prog 26 #[] w fun e w' => (∃ v, e = .returned v ∧ PL w' v exPays) ∧ Below w.heap.size w w' := by
  have hrow := SC.row (k := 4) (t := 49) (W := w.alloc (.cells (exPays.map pcells).flatten.toArray 49)) (g := w.heap.size) (xs := exPays.map pcells)
    (by intro x hx; simp [exPays] at hx; rcases hx with rfl | rfl | rfl | rfl | rfl <;> rfl) (kept_new (Below.refl _ _)) (by simp [exPays, maxLen])
  have HROW := Lib.hid hrow
  clear hrow
  go_enter Tryz.func26, Tryz.ntmps26
  go_wp2
  go_ret
  exact ⟨⟨_, rfl, HROW.out⟩, below_alloc _ _⟩
end Go.Proofs.YtcphclpekllcoaaGreatDoor
