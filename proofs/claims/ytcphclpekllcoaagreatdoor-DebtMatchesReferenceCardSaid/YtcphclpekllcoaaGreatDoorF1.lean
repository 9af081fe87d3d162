/- Walks: the law DebtFrames. -/
import Derived.Test.YtcphclpekllcoaaGreatDoorHd
namespace Go.Proofs.YtcphclpekllcoaaGreatDoor
open Go.RowKit

theorem owe_facts (fr : Frm) {i : Nat} {d : Nt.Deb} (h : (owe fr)[i]? = some d) : d.fr ≤ fr.at_ ∧ fr.at_ ≤ d.un ∧ d.t = fr.t ∧ d.pr = fr.pr := by
  unfold owe at h
  have hi : i < 3 := (List.getElem?_eq_some_iff.1 h).1
  have : i = 0 ∨ i = 1 ∨ i = 2 := by omega
  rcases this with rfl | rfl | rfl
  all_goals
    obtain rfl := Option.some.inj h
    refine ⟨?_, ?_, rfl, rfl⟩ <;> dsimp only <;> omega

/-- The nine cells of a frame. -/
theorem frm_cells {W : World} {N : Nat} {fr : Frm} (h : W.heap[N]? = some (.cells (fcells fr) 25)) : W.cell? ⟨N, 0, none⟩ = some (.int .i64 fr.at_) ∧ W.cell? ⟨N, 1, none⟩ = some (.int .i64 fr.t) ∧ W.cell? ⟨N, 2, none⟩ = some (.int .i64 fr.pr) ∧ W.cell? ⟨N, 3, none⟩ = some (.int .i64 fr.ti) ∧
    W.cell? ⟨N, 4, none⟩ = some (.int .i64 fr.f) ∧ W.cell? ⟨N, 5, none⟩ = some (.int .i64 fr.r0) ∧ W.cell? ⟨N, 6, none⟩ = some (.int .i64 fr.r1) ∧ W.cell? ⟨N, 7, none⟩ = some (.int .i64 fr.r2) ∧ W.cell? ⟨N, 8, none⟩ = some (.int .i64 fr.r3) := by
  have hl := fun j => cell_of_row W N j _ _ (0, 0) h
  exact ⟨hl 0, hl 1, hl 2, hl 3, hl 4, hl 5, hl 6, hl 7, hl 8⟩
theorem DL.len {W : World} {v : Value} {ds : List Nt.Deb} (h : DL W v ds) : ∃ a c, v = .slice a ds.length c := by
  obtain ⟨a, c, h1, _⟩ := h
  rw [List.length_map] at h1
  exact ⟨a, c, h1⟩
theorem PL.len {W : World} {v : Value} {ds : List Nt.Pay} (h : PL W v ds) : ∃ a c, v = .slice a ds.length c := by
  obtain ⟨a, c, h1, _⟩ := h
  rw [List.length_map] at h1
  exact ⟨a, c, h1⟩
theorem RL.len {W : World} {v : Value} {ds : List Nt.RS} (h : RL W v ds) : ∃ a c, v = .slice a ds.length c := by
  obtain ⟨a, c, h1, _⟩ := h
  rw [List.length_map] at h1
  exact ⟨a, c, h1⟩
theorem IL.len {W : World} {v : Value} {xs : List Int} (h : IL W v xs) : ∃ a c, v = .slice a xs.length c := by
  obtain ⟨a, c, h1, _⟩ := h
  exact ⟨a, c, h1⟩

set_option maxHeartbeats 6400000 in
set_option maxRecDepth 100000 in
theorem frames_law (fr : Frm) (pv : Value) (ps : List Nt.Pay) (t : Int) (w : World) (hT : Tab w) (hp : PL w pv ps) :
    Calls Tryz.prog 7 #[fv fr, pv, .int .i64 t] w fun e w' => e = .returned (.bool true) ∧ Below w.heap.size w w' := by
  obtain ⟨pa, pc, rfl, p1, p2, p3⟩ := hp
  have HP : Hid (PL w (.slice pa (ps.map pcells).length pc) ps) := ⟨pa, pc, rfl, p1, p2, p3⟩
  clear p1 p2 p3
  rw [List.length_map] at HP ⊢
  have HB0 := Lib.hid (below_alloc w (.cells (fcells fr) 25))
  have HH := Lib.hid fun W hTW => head_any W hTW
  have HO := Lib.hid fun W => owe_all fr W
  have HPD := Lib.hid fun W hp => paid_any fr (.slice pa ps.length pc) ps t W hp
  have HS := Lib.hid fun dv W hd hp => settle_all dv (.slice pa ps.length pc) (owe fr) ps t W hd hp
  by_cases hl : 12 < ps.length
  · unfold fv fcells at *
    go_enter Tryz.func7, Tryz.ntmps7
    go_wp2_with fail
    refine (HH.out _ (hT.below HB0.out)).mono ?_
    rintro e W1 ⟨rfl, hb1⟩
    have HB1 := Lib.hid (below_trans HB0.out hb1)
    clear hb1
    go_wp2
    go_ret
    exact ⟨rfl, HB1.out⟩
  · cases hok : frmOk fr with
    | false =>
      rw [show oweR fr = ([], 1) by unfold oweR; rw [hok]; rfl] at HO
      rw [show paid fr ps t = (false, 1) by unfold paid; rw [hok]; rfl] at HPD
      clear hok
      have HK := Lib.hid fun W (h : Below (w.alloc (.cells (fcells fr) 25)).heap.size (w.alloc (.cells (fcells fr) 25)) W) => frm_cells (kept_new h)
      unfold fv fcells at *
      go_enter Tryz.func7, Tryz.ntmps7
      go_wp2_with fail
      refine (HH.out _ (hT.below HB0.out)).mono ?_
      rintro e W1 ⟨rfl, hb1⟩
      obtain ⟨q0, q1, q2, q3, q4, q5, q6, q7, q8⟩ := HK.out _ hb1
      have HX1 := Lib.hid hb1
      clear hb1
      go_wp2_with fail
      refine (HO.out _).mono ?_
      rintro e W2 ⟨⟨v2, rfl, hd2⟩, hb2⟩
      obtain ⟨da, dc, rfl⟩ := hd2.len
      have hX2 := below_trans HX1.out hb2
      obtain ⟨r0, r1, r2, r3, r4, r5, r6, r7, r8⟩ := HK.out _ hX2
      have HX2 := Lib.hid hX2
      clear hb2 hX2 hd2 q0 q1 q2 q3 q4 q5 q6 q7 q8
      go_wp2_with fail
      refine (HPD.out _ (HP.out.below (below_trans HB0.out HX2.out))).mono ?_
      rintro e W3 ⟨rfl, hb3⟩
      have HX3 := Lib.hid (below_trans HB0.out (below_trans HX2.out hb3))
      clear hb3
      go_wp2
      go_ret
      exact ⟨rfl, HX3.out⟩
    | true =>
      rw [show oweR fr = (owe fr, 0) by unfold oweR; rw [hok]; rfl] at HO
      have HOK := Lib.hid hok
      have HPF : Hid (paid fr ps t = if Nt.allOk (owe fr) ps t then ((Nt.settle (owe fr) ps t).all (fun k => decide (0 ≤ k)), 0) else (false, 1)) := by show _ = _; unfold paid; rw [hok, Bool.true_and]
      clear hok
      obtain ⟨pd, hpd⟩ : ∃ pd, paid fr ps t = pd := ⟨_, rfl⟩
      rw [hpd] at HPD HPF
      clear hpd
      obtain ⟨pb, pe⟩ := pd
      dsimp only at HPD
      have HK := Lib.hid fun W (h : Below (w.alloc (.cells (fcells fr) 25)).heap.size (w.alloc (.cells (fcells fr) 25)) W) => frm_cells (kept_new h)
      have HF := Lib.hid fun i d h => owe_facts fr (i := i) (d := d) h
      have HOL : Hid ((owe fr).length = 3) := rfl
      obtain ⟨os, hos⟩ : ∃ os, owe fr = os := ⟨_, rfl⟩
      rw [hos] at HO HS HPF HF HOL
      clear hos
      unfold fv fcells at *
      go_enter Tryz.func7, Tryz.ntmps7
      go_wp2_with fail
      refine (HH.out _ (hT.below HB0.out)).mono ?_
      rintro e W1 ⟨rfl, hb1⟩
      obtain ⟨q0, q1, q2, q3, q4, q5, q6, q7, q8⟩ := HK.out _ hb1
      have HX1 := Lib.hid hb1
      clear hb1
      go_wp2_with fail
      refine (HO.out _).mono ?_
      rintro e W2 ⟨⟨v2, rfl, hd2⟩, hb2⟩
      have hX2 := below_trans HX1.out hb2
      obtain ⟨r0, r1, r2, r3, r4, r5, r6, r7, r8⟩ := HK.out _ hX2
      have HX2 := Lib.hid hX2
      have HD2 := Lib.hid hd2
      clear hb2 hX2 hd2 q0 q1 q2 q3 q4 q5 q6 q7 q8
      go_wp2_with fail
      refine (HPD.out _ (HP.out.below (below_trans HB0.out HX2.out))).mono ?_
      rintro e W3 ⟨rfl, hb3⟩
      have hX3 := below_trans HX2.out hb3
      obtain ⟨da, dc, rfl⟩ := HD2.out.len
      have HX3 := Lib.hid hX3
      have HD3 := Lib.hid (HD2.out.below hb3)
      rw [HOL.out] at HD3 ⊢
      clear hb3 hX3 r0 r1 r2 r3 r4 r5 r6 r7 r8
      go_wp2_with fail
      go_loopw [12] (fun i wr => ∃ k : Nat, i = .int .i64 k ∧ k ≤ 3 ∧ Below W3.heap.size W3 wr) (fun i _ => 3 - (intOf i).toNat)
      case atStart => exact ⟨0, rfl, Nat.zero_le _, Below.refl _ _⟩
      case round =>
        obtain ⟨k, rfl, hk, hB⟩ := hrel
        by_cases hlt : k < 3
        · obtain ⟨d, hd⟩ : ∃ d, os[k]? = some d := ⟨_, List.getElem?_eq_getElem (by rw [HOL.out]; exact hlt)⟩
          obtain ⟨f1, f2, f3, f4⟩ := HF.out _ _ hd
          obtain ⟨p, rfl, -, e0, e1, e2, e3, e4, e5⟩ := DL.at (ds := os) (n := 3) HD3.out hd
          have g1 := below_cell hB e1
          have g3 := below_cell hB e3
          have g4 := below_cell hB e4
          have g5 := below_cell hB e5
          obtain ⟨q0, q1, q2, -⟩ := HK.out _ (below_trans HX3.out hB)
          obtain ⟨dk, dt, df, dfr, dun, dpr⟩ := d
          dsimp only at f1 f2 f3 f4 g1 g3 g4 g5
          subst f3 f4
          have HB := Lib.hid hB
          have b1 : decide (dfr > fr.at_) = false := decide_eq_false (by omega)
          have b2 : decide (dun < fr.at_) = false := decide_eq_false (by omega)
          have h0 : (0 : Int) ≤ (k : Int) := Int.natCast_nonneg _
          have h1 : (k : Int) < 3 := by omega
          clear e0 e1 e2 e3 e4 e5 hB hd
          go_wp2_with fail
          go_quiet (fail)
          go_wp2
          go_roundw
          case rel => exact ⟨k + 1, rfl, hlt, below_drewN HB.out _⟩
          case measure => simp [intOf]; omega
        · obtain rfl : k = 3 := by omega
          have HB := Lib.hid hB
          have HDr := Lib.hid (HD3.out.below hB)
          have HPr := Lib.hid (HP.out.below (below_trans HB0.out (below_trans HX3.out hB)))
          clear hB hk hlt
          cases hall : Nt.allOk os ps t with
          | false =>
            rw [show settleR os ps t = ([], 1) by unfold settleR; rw [hall]; rfl] at HS
            have h1 : (pb, pe) = (false, (1 : Int)) := by rw [HPF.out, hall]; rfl
            obtain ⟨rfl, rfl⟩ := Prod.mk.inj h1
            clear hall h1
            go_wp2_with fail
            refine (HS.out _ _ HDr.out HPr.out).mono ?_
            rintro e W4 ⟨⟨v4, rfl, hi4⟩, hb4⟩
            have HX4 := Lib.hid (below_trans HB0.out (below_trans HX3.out (below_trans HB.out hb4)))
            clear hi4 hb4
            go_wp2
            go_ret
            exact ⟨rfl, HX4.out⟩
          | true =>
            rw [show settleR os ps t = (Nt.settle os ps t, 0) by unfold settleR; rw [hall]; rfl] at HS
            have h1 := HPF.out
            rw [hall] at h1
            have hsl : (Nt.settle os ps t).length = 3 := by unfold Nt.settle; rw [List.length_map]; exact HOL.out
            generalize Nt.settle os ps t = xs at *
            obtain ⟨x0, x1, x2, rfl⟩ : ∃ x0 x1 x2, xs = [x0, x1, x2] := by
              match xs, hsl with
              | [a, b, c], _ => exact ⟨a, b, c, rfl⟩
            simp only [if_true, Prod.mk.injEq, List.all_cons, List.all_nil, Bool.and_true] at h1
            obtain ⟨hpb, rfl⟩ := h1
            have HPB := Lib.hid hpb
            clear hpb hall hsl
            go_wp2_with fail
            refine (HS.out _ _ HDr.out HPr.out).mono ?_
            rintro e W4 ⟨⟨v4, rfl, hi4⟩, hb4⟩
            have HX4 := Lib.hid (below_trans HB0.out (below_trans HX3.out (below_trans HB.out hb4)))
            obtain ⟨va, vc, rfl⟩ := hi4.len
            obtain ⟨g, rfl, -, c0⟩ := hi4.at (i := 0) (x := x0) rfl
            obtain ⟨g', hg', -, c1⟩ := hi4.at (i := 1) (x := x1) rfl
            obtain ⟨g'', hg'', -, c2⟩ := hi4.at (i := 2) (x := x2) rfl
            cases hg'
            cases hg''
            have hl3 : ([x0, x1, x2] : List Int).length = 3 := rfl
            rw [hl3]
            clear hi4 hb4 hl3
            by_cases a0 : 0 ≤ x0
            · by_cases a1 : 0 ≤ x1
              · by_cases a2 : 0 ≤ x2
                · obtain rfl : pb = true := HPB.out.trans (by simp [a0, a1, a2])
                  go_wp2
                  go_ret
                  exact ⟨rfl, HX4.out⟩
                · obtain rfl : pb = false := HPB.out.trans (by simp [a2])
                  have b2 : decide (0 ≤ x2) = false := decide_eq_false a2
                  go_wp2
                  go_ret
                  exact ⟨rfl, HX4.out⟩
              · obtain rfl : pb = false := HPB.out.trans (by simp [a1])
                go_wp2
                go_ret
                exact ⟨rfl, HX4.out⟩
            · obtain rfl : pb = false := HPB.out.trans (by simp [a0])
              go_wp2
              go_ret
              exact ⟨rfl, HX4.out⟩
end Go.Proofs.YtcphclpekllcoaaGreatDoor
