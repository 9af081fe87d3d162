/- Walks: debt.Owe at a frame that is not valid; debt.Paid. -/
import Derived.Test.YtcphclpekllcoaaGreatDoorDe
namespace Go.Proofs.YtcphclpekllcoaaGreatDoor
open Go.RowKit

set_option maxRecDepth 100000 in
theorem owe_bad (fr : Frm) (w : World) (hok : frmOk fr = false) :
    Calls Tryz.prog 11 #[fv fr] w fun e w' => e = .returned (.tuple #[.slice none 0 0, .int .i64 1]) ∧ Below w.heap.size w w' := by
  have HW1 := Lib.hid fun W => within_any fr.at_ 0 38399 W
  have HW2 := Lib.hid fun W => within_any fr.pr 0 63 W
  have HCL := Lib.hid fun W => class_any 2 fr.t fr.f W
  have HB := Lib.hid (below_alloc w (.cells (fcells fr) 25))
  unfold frmOk at hok
  obtain ⟨fat, ft, fpr, fti, ff, q0, q1, q2, q3⟩ := fr
  unfold fv
  unfold fcells at HB ⊢
  dsimp only at *
  cases k1 : Nt.win fat 0 38399 with
  | false =>
    rw [k1] at HW1
    clear hok k1
    go_enter Tryz.func11, Tryz.ntmps11
    go_wp2_with fail
    refine (HW1.out _).mono ?_
    rintro e W1 ⟨rfl, rfl⟩
    go_wp2
    go_ret2
    exact ⟨rfl, HB.out⟩
  | true =>
    rw [k1] at HW1 hok
    cases k2 : Nt.win fpr 0 63 with
    | false =>
      rw [k2] at HW2
      clear hok k1 k2
      go_enter Tryz.func11, Tryz.ntmps11
      go_wp2_with fail
      refine (HW1.out _).mono ?_
      rintro e W1 ⟨rfl, rfl⟩
      go_wp2_with fail
      refine (HW2.out _).mono ?_
      rintro e W1 ⟨rfl, rfl⟩
      go_wp2
      go_ret2
      exact ⟨rfl, HB.out⟩
    | true =>
      rw [k2] at HW2 hok
      have k3 : Nt.clsOk 2 ft ff = false := by simpa using hok
      rw [k3] at HCL
      clear hok k1 k2 k3
      go_enter Tryz.func11, Tryz.ntmps11
      go_wp2_with fail
      refine (HW1.out _).mono ?_
      rintro e W1 ⟨rfl, rfl⟩
      go_wp2_with fail
      refine (HW2.out _).mono ?_
      rintro e W1 ⟨rfl, rfl⟩
      go_wp2_with fail
      refine (HCL.out _).mono ?_
      rintro e W1 ⟨rfl, hb1⟩
      have hb1 := below_trans HB.out hb1
      go_wp2
      go_ret2
      exact ⟨rfl, hb1⟩

/-! ### Paid -/
theorem load_frm (fr : Frm) (W : World) (N : Nat) (h : W.heap[N]? = some (.cells (fcells fr) 25)) : ∀ j, j < 9 → W.cell? ⟨N, j, none⟩ = (fcells fr)[j]? := fun j _ => cell_of_row W N j _ _ (0, 0) h

theorem IL.at {w : World} {a : Option Addr} {n c : Nat} {xs : List Int} (h : IL w (.slice a n c) xs) {i : Nat} {x : Int} (hi : xs[i]? = some x) :
    ∃ g, a = some ⟨g, 0, none⟩ ∧ n = xs.length ∧ w.cell? ⟨g, i, none⟩ = some (.int .i64 x) := by
  obtain ⟨a', c', e, h2, h3, h4⟩ := h
  simp only [Value.slice.injEq] at e
  obtain ⟨rfl, rfl, rfl⟩ := e
  rcases h4 with ⟨_, h4, _⟩ | ⟨g, hg, h4⟩
  · subst h4; simp at hi
  · exact ⟨g, hg, rfl, h4 i x hi⟩
theorem IL.below {w w' : World} {v : Value} {xs : List Int} (h : IL w v xs) (hb : Below w.heap.size w w') : IL w' v xs := by
  obtain ⟨a, c, h1, h2, h3, h4⟩ := h
  refine ⟨a, c, h1, h2, h3, ?_⟩
  rcases h4 with h4 | ⟨g, hg, h4⟩
  · exact .inl h4
  · exact .inr ⟨g, hg, fun i x hx => below_cell hb (h4 i x hx)⟩

/-- What Paid answers. -/
def paid (fr : Frm) (ps : List Nt.Pay) (t : Int) : Bool × Int :=
  if frmOk fr && Nt.allOk (owe fr) ps t then ((Nt.settle (owe fr) ps t).all (fun k => decide (0 ≤ k)), 0) else (false, 1)

set_option maxHeartbeats 3200000 in
set_option maxRecDepth 100000 in
theorem paid_any (fr : Frm) (pv : Value) (ps : List Nt.Pay) (t : Int) (w : World) (hp : PL w pv ps) :
    Calls Tryz.prog 15 #[fv fr, pv, .int .i64 t] w fun e w' => e = .returned (.tuple #[.bool (paid fr ps t).1, .int .i64 (paid fr ps t).2]) ∧ Below w.heap.size w w' := by
  have HB := Lib.hid (below_alloc w (.cells (fcells fr) 25))
  have HP := Lib.hid hp
  clear hp
  cases hok : frmOk fr with
  | false =>
    have HO := Lib.hid fun W => owe_bad fr W hok
    have e : paid fr ps t = (false, 1) := by unfold paid; rw [hok]; rfl
    rw [e]
    clear hok e
    unfold fv at *
    unfold fcells at *
    go_enter Tryz.func15, Tryz.ntmps15
    go_wp2_with fail
    refine (HO.out _).mono ?_
    rintro e W1 ⟨rfl, hb1⟩
    have hb1 := below_trans HB.out hb1
    go_wp2
    go_ret2
    exact ⟨rfl, hb1⟩
  | true =>
    have HO := Lib.hid fun W => owe_any fr W hok
    cases hall : Nt.allOk (owe fr) ps t with
    | false =>
      have HS := Lib.hid fun W dv hd hp => settle_bad dv pv (owe fr) ps t W hd hp hall
      have e : paid fr ps t = (false, 1) := by unfold paid; rw [hok, hall]; rfl
      rw [e]
      clear hok hall e
      unfold fv at *
      unfold fcells at *
      go_enter Tryz.func15, Tryz.ntmps15
      go_wp2_with fail
      refine (HO.out _).mono ?_
      rintro e W1 ⟨⟨v1, rfl, hd1⟩, hb1⟩
      have hb1 := below_trans HB.out hb1
      have HDV := Lib.hid (HS.out _ v1 hd1 (HP.out.below hb1))
      clear hd1
      go_wp2_with fail
      refine HDV.out.mono ?_
      rintro e W2 ⟨rfl, hb2⟩
      have hb2 := below_trans hb1 hb2
      go_wp2
      go_ret2
      exact ⟨rfl, hb2⟩
    | true =>
      have HS := Lib.hid fun W dv hd hp => settle_any dv pv (owe fr) ps t W hd hp hall
      have e : paid fr ps t = ((Nt.settle (owe fr) ps t).all (fun k => decide (0 ≤ k)), 0) := by unfold paid; rw [hok, hall]; rfl
      rw [e]
      have hl3 : (Nt.settle (owe fr) ps t).length = 3 := rfl
      clear hok hall e
      generalize Nt.settle (owe fr) ps t = xs at *
      obtain ⟨R, hR⟩ : ∃ R, R = xs.all (fun k => decide (0 ≤ k)) := ⟨_, rfl⟩
      rw [← hR]
      have HR := Lib.hid hR
      clear hR
      unfold fv at *
      unfold fcells at *
      go_enter Tryz.func15, Tryz.ntmps15
      go_wp2_with fail
      refine (HO.out _).mono ?_
      rintro e W1 ⟨⟨v1, rfl, hd1⟩, hb1⟩
      have hb1 := below_trans HB.out hb1
      have HDV := Lib.hid (HS.out _ v1 hd1 (HP.out.below hb1))
      clear hd1
      go_wp2_with fail
      refine HDV.out.mono ?_
      rintro e W2 ⟨⟨v2, rfl, hil⟩, hb2⟩
      have HB2 := Lib.hid (below_trans hb1 hb2)
      clear hb1 hb2
      obtain ⟨va, vc, rfl, g1, g2, g3⟩ := hil
      have HIL : Hid (IL W2 (.slice va xs.length vc) xs) := ⟨va, vc, rfl, g1, g2, g3⟩
      clear g1 g2 g3
      go_wp2
      go_loopw [33] (fun i wr => ∃ k : Nat, i = .int .i64 k ∧ k ≤ xs.length ∧ W2 = wr ∧ ∀ j (x : Int), j < k → xs[j]? = some x → decide (0 ≤ x) = true) (fun i _ => xs.length - (intOf i).toNat)
      case atStart => exact ⟨0, rfl, Nat.zero_le _, rfl, fun j x h => absurd h (Nat.not_lt_zero j)⟩
      case round =>
        obtain ⟨k, rfl, hk, rfl, hall⟩ := hrel
        by_cases hlt : k < xs.length
        · obtain ⟨x, hx⟩ : ∃ x, xs[k]? = some x := ⟨_, List.getElem?_eq_getElem hlt⟩
          obtain ⟨g, rfl, _, c0⟩ := IL.at HIL.out hx
          have HX := Lib.hid hx
          have HALL := Lib.hid hall
          clear hx hall
          by_cases hneg : x < 0
          · have HF : Hid (R = false) := HR.out.trans (not_all_of HX.out (decide_eq_false (by omega)))
            go_wp2
            go_ret2
            have hF : _ = _ := HF
            exact ⟨by rw [hF]; rfl, HB2.out⟩
          · have HG : Hid ((0 : Int) ≤ x) := by show (0 : Int) ≤ x; omega
            go_wp2
            go_roundw
            case rel => exact ⟨k + 1, rfl, hlt, trivial, fun j y hj hy => by
              by_cases e : j = k
              · subst e
                rw [HX.out] at hy
                obtain rfl := Option.some.inj hy
                exact decide_eq_true HG.out
              · exact HALL.out j y (by omega) hy⟩
            case measure => simp [intOf]; omega
        · obtain rfl : k = xs.length := by omega
          have HF : Hid (R = true) := HR.out.trans (all_of hall)
          clear hall
          go_wp2
          go_ret2
          have hF : _ = _ := HF
          exact ⟨by rw [hF]; rfl, HB2.out⟩
end Go.Proofs.YtcphclpekllcoaaGreatDoor
