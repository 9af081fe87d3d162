/- Walks: debt.Split's closure. -/
import Derived.Test.YtcphclpekllcoaaGreatDoorLe
import Derived.Test.YtcphclpekllcoaaGreatDoorMA
namespace Go.Proofs.YtcphclpekllcoaaGreatDoor
open Go.RowKit

/-- The sums lie in row g, of n numbers; the variable that holds the slice is block v. -/
def Sums (W : World) (v g : Nat) (qs : List Nt.RS) : Prop :=
  W.heap[v]? = some (.cells #[.slice (some ⟨g, 0, none⟩) qs.length qs.length] 38) ∧ W.heap[g]? = some (.cells (qs.map rcells).flatten.toArray 57) ∧ v ≠ g

theorem Sums.below {W W' : World} {v g : Nat} {qs : List Nt.RS} (h : Sums W v g qs) (hb : Below W.heap.size W W') : Sums W' v g qs :=
  ⟨(hb.block v (lt_of_block h.1)).trans h.1, (hb.block g (lt_of_block h.2.1)).trans h.2.1, h.2.2⟩
theorem Sums.at {W : World} {v g : Nat} {qs : List Nt.RS} (h : Sums W v g qs) {i : Nat} {x : Nt.RS} (hx : qs[i]? = some x) :
    W.cell? ⟨g, i * 3, none⟩ = some (.bool x.1) ∧ W.cell? ⟨g, i * 3 + 1, none⟩ = some (.string x.2.1) ∧ W.cell? ⟨g, i * 3 + 2, none⟩ = some (.string x.2.2) := by
  have hl : ∀ y ∈ qs.map rcells, y.length = 3 := by intro y hy; obtain ⟨z, _, rfl⟩ := List.mem_map.1 hy; rfl
  have hr : (qs.map rcells)[i]? = some (rcells x) := by rw [List.getElem?_map, hx]; rfl
  refine ⟨?_, ?_, ?_⟩
  · rw [cell_of_row W g _ _ _ (0, 0) h.2.1, List.getElem?_toArray]; exact flat_at _ hl i 0 _ _ hr rfl
  · rw [cell_of_row W g _ _ _ (0, 0) h.2.1, List.getElem?_toArray]; exact flat_at _ hl i 1 _ _ hr rfl
  · rw [cell_of_row W g _ _ _ (0, 0) h.2.1, List.getElem?_toArray]; exact flat_at _ hl i 2 _ _ hr rfl

theorem flat_set (qs : List Nt.RS) : ∀ (i : Nat) (x y : Nt.RS), qs[i]? = some x →
    ((((qs.map rcells).flatten.toArray.setIfInBounds (i * 3) (.bool y.1)).setIfInBounds (i * 3 + 1) (.string y.2.1)).setIfInBounds (i * 3 + 2) (.string y.2.2)) = ((qs.set i y).map rcells).flatten.toArray := by
  induction qs with
  | nil => intro i x y h; simp at h
  | cons a t ih =>
    intro i x y h
    obtain ⟨a1, a2, a3⟩ := a
    cases i with
    | zero => simp [rcells]
    | succ i =>
      have := ih i x y (by simpa using h)
      simp only [List.setIfInBounds_toArray, Array.mk.injEq] at this ⊢
      simp only [List.set_cons_succ, List.map_cons, List.flatten_cons, ← this, rcells]
      simp only [show (i + 1) * 3 = i * 3 + 1 + 1 + 1 by omega, show i * 3 + 1 + 1 + 1 + 1 = (i * 3 + 1) + 1 + 1 + 1 by omega, show i * 3 + 1 + 1 + 1 + 2 = (i * 3 + 2) + 1 + 1 + 1 by omega, List.cons_append, List.nil_append, List.set_cons_succ]

/-- The sums with one more share. -/
theorem Sums.set {W : World} {v g : Nat} {qs : List Nt.RS} (h : Sums W v g qs) {i : Nat} {x : Nt.RS} (hx : qs[i]? = some x) (y : Nt.RS) :
    Sums (((W.setCell ⟨g, i * 3, none⟩ (.bool y.1)).setCell ⟨g, i * 3 + 1, none⟩ (.string y.2.1)).setCell ⟨g, i * 3 + 2, none⟩ (.string y.2.2)) v g (qs.set i y) := by
  have hv : v ≠ g := h.2.2
  refine ⟨?_, ?_, hv⟩
  · rw [List.length_set]
    exact (Below.heap_setCell _ _ _ _ hv).trans ((Below.heap_setCell _ _ _ _ hv).trans ((Below.heap_setCell _ _ _ _ hv).trans h.1))
  · have := row_setCell (i := i * 3 + 2) (u := .string y.2.2) (row_setCell (i := i * 3 + 1) (u := .string y.2.1) (row_setCell (i := i * 3) (u := .bool y.1) h.2.1))
    rwa [flat_set qs i x y hx] at this
end Go.Proofs.YtcphclpekllcoaaGreatDoor
