/- Walks: debt.Split's closure: a share is added. -/
import Derived.Test.YtcphclpekllcoaaGreatDoorSp
import Derived.Deep.RegionHeld3
import Derived.Deep.RegionLaw
namespace Go.Proofs.YtcphclpekllcoaaGreatDoor
open Go.RowKit

theorem Kp.set3 {w W : World} {g i : Nat} (h : Below w.heap.size w W) (a b c : Value) : Kp (· = g) w (((W.setCell ⟨g, i, none⟩ a).setCell ⟨g, i + 1, none⟩ b).setCell ⟨g, i + 2, none⟩ c) := by
  have h0 : Kp (· = g) w W := Kp.of_below h
  have h1 : Kp (· = g) w (W.setCell ⟨g, i, none⟩ a) := h0.setCell rfl _
  have h2 : Kp (· = g) w ((W.setCell ⟨g, i, none⟩ a).setCell ⟨g, i + 1, none⟩ b) := h1.setCell rfl _
  exact h2.setCell rfl _

set_option maxHeartbeats 3200000 in
set_option maxRecDepth 100000 in
theorem charge_any (v g i : Nat) (qs : List Nt.RS) (x c : Nt.RS) (w : World) (hT : Tab w) (h : Sums w v g qs) (hx : qs[i]? = some x) (s1 : x.2.1.size ≤ 9223372036854775807) (s2 : x.2.2.size ≤ 9223372036854775807)
    (s3 : c.2.1.size ≤ 9223372036854775807) (s4 : c.2.2.size ≤ 9223372036854775807) :
    Calls Tryz.prog 36 #[.int .i64 i, rv c, .pointer (some ⟨v, 0, none⟩)] w fun e w' => e = .returned (.tuple #[]) ∧ Sums w' v g (qs.set i (Nt.rAdd x c).1) ∧ Kp (· = g) w w' := by
  obtain ⟨x1, x2, x3⟩ := x
  obtain ⟨c1, c2, c3⟩ := c
  have HA := Lib.hid fun W hTW => ratAdd_any x1 c1 x2 x3 c2 c3 W hTW s1 s2 s3 s4
  obtain ⟨c0, c4, c5⟩ := h.at hx
  have hi : i < qs.length := (List.getElem?_eq_some_iff.1 hx).1
  have k0 := cell_of_one h.1
  have hvlt := lt_of_block h.1
  have hglt := lt_of_block h.2.1
  have H := Lib.hid h
  have HX := Lib.hid hx
  obtain ⟨⟨⟨y1, y2, y3⟩, ye⟩, hy⟩ : ∃ y, Nt.rAdd (x1, x2, x3) (c1, c2, c3) = y := ⟨_, rfl⟩
  rw [hy] at HA ⊢
  unfold rout at HA
  unfold rv at HA ⊢
  dsimp only at *
  have h0 : (0 : Int) ≤ (i : Int) := Int.natCast_nonneg _
  have h1 : (i : Int) < (qs.length : Int) := by omega
  clear hy h hx
  go_enter Tryz.func36, Tryz.ntmps36
  go_upto_region 1 with (fail)
  have HS : Hid (∀ {W}, Below (w.alloc (.cells #[.bool c1, .string c2, .string c3] 57)).heap.size (w.alloc (.cells #[.bool c1, .string c2, .string c3] 57)) W →
      W.cell? ⟨v, 0, none⟩ = some (.slice (some ⟨g, 0, none⟩) qs.length qs.length) ∧ W.cell? ⟨g, i * 3, none⟩ = some (.bool x1) ∧ W.cell? ⟨g, i * 3 + 1, none⟩ = some (.string x2) ∧ W.cell? ⟨g, i * 3 + 2, none⟩ = some (.string x3) ∧
      W.cell? ⟨w.heap.size, 0, none⟩ = some (.bool c1) ∧ W.cell? ⟨w.heap.size, 1, none⟩ = some (.string c2) ∧ W.cell? ⟨w.heap.size, 2, none⟩ = some (.string c3)) := fun h => by
    have hb := below_trans (below_alloc w _) h
    obtain ⟨⟨p0, p1, p2⟩, -⟩ := cells3 (kept_new h)
    exact ⟨below_cell hb k0, below_cell hb c0, below_cell hb c4, below_cell hb c5, p0, p1, p2⟩
  have hg := Below.refl (w.alloc (.cells #[.bool c1, .string c2, .string c3] 57)).heap.size (w.alloc (.cells #[.bool c1, .string c2, .string c3] 57))
  have HTT : Hid (∀ {W}, Below (w.alloc (.cells #[.bool c1, .string c2, .string c3] 57)).heap.size (w.alloc (.cells #[.bool c1, .string c2, .string c3] 57)) W → Tab W) := fun h => hT.below (below_trans (below_alloc w _) h)
  obtain ⟨t0, t1, t2, t3, t4, t5, t6⟩ := HS.out hg
  have HF : Hid (∀ {W}, Below (w.alloc (.cells #[.bool c1, .string c2, .string c3] 57)).heap.size (w.alloc (.cells #[.bool c1, .string c2, .string c3] 57)) W → ∀ j, W.frozen? ⟨g, j, none⟩ = false) := fun h j => by
    have := (H.out.below (below_trans (below_alloc w _) h)).2.1
    simp [World.frozen?, this]
  have hng : ¬ g = v := fun e => H.out.2.2 e.symm
  go_region_law (first
    | (go_simp
       go_at_call 24
       refine (HA.out _ (HTT.out ((by first | with_reducible exact hg | with_reducible exact hg.drew : Below _ _ _)))).mono ?_
       rintro e W' ⟨rfl, hb⟩
       first
         | have hg := below_trans hg hb
         | have hg := below_trans hg.drew hb
       obtain ⟨u0, u1, u2, u3, u4, u5, u6⟩ := HS.out hg
       have z0 := HF.out hg (i * 3)
       have z1 := HF.out hg (i * 3 + 1)
       have z2 := HF.out hg (i * 3 + 2)))
  all_goals
    go_wp2
    go_end0
    exact ⟨rfl, (H.out.below (below_trans (below_alloc w _) hg)).set HX.out (y1, y2, y3), Kp.set3 (below_trans (below_alloc w _) hg) _ _ _⟩
end Go.Proofs.YtcphclpekllcoaaGreatDoor
