/- Walks: debt.Owe. -/
import Derived.Test.YtcphclpekllcoaaGreatDoorDd
import Derived.Deep.RegionHeld3
namespace Go.Proofs.YtcphclpekllcoaaGreatDoor
open Go.RowKit

def fv (f : Frm) : Value := .agg (fcells f)

theorem flat_at {k : Nat} : ∀ (xs : List (List Value)), (∀ x ∈ xs, x.length = k) → ∀ (i j : Nat) (x : List Value) (y : Value), xs[i]? = some x → x[j]? = some y → xs.flatten[i * k + j]? = some y := by
  intro xs
  induction xs with
  | nil => intro _ i j x y h; simp at h
  | cons a t ih =>
    intro hl i j x y hx hy
    have ha : a.length = k := hl a (by simp)
    cases i with
    | zero =>
      simp at hx
      subst hx
      rw [List.flatten_cons, Nat.zero_mul, Nat.zero_add, List.getElem?_append_left (List.getElem?_eq_some_iff.1 hy).1]
      exact hy
    | succ i =>
      rw [List.getElem?_cons_succ] at hx
      have e : (i + 1) * k + j = a.length + (i * k + j) := by rw [Nat.succ_mul, ha]; omega
      rw [List.flatten_cons, e, List.getElem?_append_right (by omega), Nat.add_sub_cancel_left]
      exact ih (fun x hx => hl x (List.mem_cons_of_mem _ hx)) i j x y hx hy

/-- A new row of structs. -/
theorem SC.row {k : Nat} {W : World} {g : Nat} {t : TypeId} {xs : List (List Value)} (hk : ∀ x ∈ xs, x.length = k) (h : W.heap[g]? = some (.cells xs.flatten.toArray t)) (hm : xs.length ≤ maxLen) : SC k W (.slice (some ⟨g, 0, none⟩) xs.length xs.length) xs := by
  refine ⟨_, _, rfl, Nat.le_refl _, hm, .inr ⟨_, rfl, fun i j x y hx hy => ?_⟩⟩
  rw [Lib.add_plain, Nat.zero_add, cell_of_row W g (i * k + j) _ t (0, 0) h, List.getElem?_toArray]
  exact flat_at xs hk i j x y hx hy

set_option maxHeartbeats 3200000 in
set_option maxRecDepth 100000 in
theorem owe_any (fr : Frm) (w : World) (hok : frmOk fr = true) :
    Calls Tryz.prog 11 #[fv fr] w fun e w' => (∃ v, e = .returned (.tuple #[v, .int .i64 0]) ∧ DL w' v (owe fr)) ∧ Below w.heap.size w w' := by
  unfold frmOk at hok
  simp only [Bool.and_eq_true] at hok
  obtain ⟨⟨k1, k2⟩, k3⟩ := hok
  have HW1 := Lib.hid fun W => within_any fr.at_ 0 38399 W
  have HW2 := Lib.hid fun W => within_any fr.pr 0 63 W
  have HCL := Lib.hid fun W => class_any 2 fr.t fr.f W
  have hat := k1
  unfold Nt.win at hat
  simp only [Bool.and_eq_true, decide_eq_true_eq] at hat
  obtain ⟨ha0, ha1⟩ := hat
  rw [k1] at HW1
  rw [k2] at HW2
  rw [k3] at HCL
  have HO1 := Lib.hid fun W h => owe1_any w.heap.size fr 1 (-1) 96 96 W h ha0 ha1 (by decide) (by decide) (by decide) (by decide)
  have HO2 := Lib.hid fun W h => owe1_any w.heap.size fr 2 fr.f 288 288 W h ha0 ha1 (by decide) (by decide) (by decide) (by decide)
  have HO3 := Lib.hid fun W h => owe1_any w.heap.size fr 3 fr.f 0 48 W h ha0 ha1 (by decide) (by decide) (by decide) (by decide)
  have hb0 := kept_new (Below.refl _ (w.alloc (.cells (fcells fr) 25)))
  have HB := Lib.hid (below_alloc w (.cells (fcells fr) 25))
  obtain ⟨fat, ft, fpr, fti, ff, q0, q1, q2, q3⟩ := fr
  unfold fv
  have hcf : ∀ a W, (callFunc 29 a).run Tryz.prog W = .ok (.enter 29 a) W := fun _ _ => by kernel_rfl
  unfold fcells at hb0 HB ⊢
  dsimp only at *
  clear k1 k2 k3
  go_enter Tryz.func11, Tryz.ntmps11
  go_wp2_with fail
  refine (HW1.out _).mono ?_
  rintro e W1 ⟨rfl, rfl⟩
  go_wp2_with fail
  refine (HW2.out _).mono ?_
  rintro e W1 ⟨rfl, rfl⟩
  go_wp2_with fail
  refine (HCL.out _).mono ?_
  rintro e W1 ⟨rfl, hb1⟩
  have R0 := (hb1.block _ (lt_of_block hb0)).trans hb0
  have HB1 := Lib.hid (below_trans HB.out hb1)
  clear hb0 hb1 HB
  have HS : Hid (∀ {W}, Below W1.heap.size W1 W → W.cell? ⟨w.heap.size, 4, none⟩ = some (.int .i64 ff)) := fun h => below_cell h (cells9 R0).2.2.2
  have HR : Hid (∀ {W}, Below W1.heap.size W1 W → W.heap[w.heap.size]? = some (.cells (fcells ⟨fat, ft, fpr, fti, ff, q0, q1, q2, q3⟩) 25)) := fun h => (h.block _ (lt_of_block R0)).trans R0
  have hg := Below.refl W1.heap.size W1
  have hs0 := HS.out hg
  clear R0
  go_upto_region 4 with (fail)
  go_region_held3 (fun w' => w'.cell? ⟨w.heap.size, 4, none⟩ = some (.int .i64 ff))
    (first | with_reducible exact HS.out hg | with_reducible exact HS.out hg.drew | exact HS.out (hg.alloc hg.size _) | exact HS.out (hg.drew.alloc hg.size _))
    (first
      | (go_at_call 29
         first
           | with_reducible refine (HO1.out _ ?_).mono ?_
           | with_reducible refine (HO2.out _ ?_).mono ?_
           | with_reducible refine (HO3.out _ ?_).mono ?_
         (first | with_reducible exact HR.out hg | with_reducible exact HR.out hg.drew)
         rintro e W' ⟨rfl, hb⟩
         first
           | have hg := below_trans hg hb
           | have hg := below_trans hg.drew hb))
  go_wp2
  go_ret2
  have hrow := SC.row (k := 6) (t := 47) (W := W'.alloc (.cells ((owe ⟨fat, ft, fpr, fti, ff, q0, q1, q2, q3⟩).map dcells).flatten.toArray 47)) (g := W'.heap.size) (xs := (owe ⟨fat, ft, fpr, fti, ff, q0, q1, q2, q3⟩).map dcells)
    (by intro x hx; simp [owe] at hx; rcases hx with rfl | rfl | rfl <;> rfl) (kept_new (Below.refl _ _)) (by simp [owe, maxLen])
  refine ⟨⟨_, rfl, ?_⟩, ?_⟩
  · exact hrow
  · exact (below_trans HB1.out hg).alloc (Nat.le_trans HB1.out.size hg.size) _
end Go.Proofs.YtcphclpekllcoaaGreatDoor
