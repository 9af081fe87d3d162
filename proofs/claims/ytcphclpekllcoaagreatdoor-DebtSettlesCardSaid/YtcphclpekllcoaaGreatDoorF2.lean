/- Walks: the law DebtSettles. -/
import Derived.Test.YtcphclpekllcoaaGreatDoorF1
import Derived.Lib.QuietBelow
namespace Go.Proofs.YtcphclpekllcoaaGreatDoor
open Go.RowKit

theorem fits_at (d : Nt.Deb) (p : Nt.Pay) (t : Int) (W : World) : Calls Tryz.prog 22 #[.agg #[.int .i64 d.k, .int .i64 d.t, .int .i64 d.f, .int .i64 d.fr, .int .i64 d.un, .int .i64 d.pr], .agg #[.int .i64 p.k, .int .i64 p.t, .int .i64 p.f, .int .i64 p.at_], .int .i64 t] W
    fun e w' => e = .returned (.bool (Nt.fit d p t)) ∧ Below W.heap.size W w' := fits_any d p t W

set_option maxHeartbeats 12800000 in
set_option maxRecDepth 100000 in
theorem settles_law (dv : Value) (ds : List Nt.Deb) (pv : Value) (ps : List Nt.Pay) (t : Int) (w : World) (hT : Tab w) (hd : DL w dv ds) (hp : PL w pv ps) :
    Calls Tryz.prog 4 #[dv, pv, .int .i64 t] w fun e w' => e = .returned (.bool true) ∧ Below w.heap.size w w' := by
  obtain ⟨pa, pc, rfl⟩ := hp.len
  obtain ⟨da, dc, rfl⟩ := hd.len
  have HH := Lib.hid fun W hTW => head_any W hTW
  have HS := Lib.hid fun W hd hp => settle_all (.slice da ds.length dc) (.slice pa ps.length pc) ds ps t W hd hp
  have HP := Lib.hid hp
  have HD := Lib.hid hd
  clear hp hd
  by_cases hl : 12 < ds.length
  · go_enter Tryz.func4, Tryz.ntmps4
    go_wp2_with fail
    refine (HH.out _ hT).mono ?_
    rintro e W1 ⟨rfl, hb1⟩
    have HB1 := Lib.hid hb1
    clear hb1
    go_wp2
    go_ret
    exact ⟨rfl, HB1.out⟩
  have b0 : decide (12 < ds.length) = false := decide_eq_false hl
  by_cases hl2 : 12 < ps.length
  · go_enter Tryz.func4, Tryz.ntmps4
    go_wp2_with fail
    refine (HH.out _ hT).mono ?_
    rintro e W1 ⟨rfl, hb1⟩
    have HB1 := Lib.hid hb1
    clear hb1
    go_wp2
    go_ret
    exact ⟨rfl, HB1.out⟩
  have b1 : decide (12 < ps.length) = false := decide_eq_false hl2
  cases hall : Nt.allOk ds ps t with
  | false =>
    rw [show settleR ds ps t = ([], 1) by unfold settleR; rw [hall]; rfl] at HS
    clear hall
    go_enter Tryz.func4, Tryz.ntmps4
    go_wp2_with fail
    refine (HH.out _ hT).mono ?_
    rintro e W1 ⟨rfl, hb1⟩
    have HB1 := Lib.hid hb1
    clear hb1
    go_wp2_with fail
    refine (HS.out _ (HD.out.below HB1.out) (HP.out.below HB1.out)).mono ?_
    rintro e W2 ⟨⟨v2, rfl, hi2⟩, hb2⟩
    obtain ⟨va, vc, rfl⟩ := hi2.len
    have HB2 := Lib.hid (below_trans HB1.out hb2)
    clear hi2 hb2
    go_wp2
    go_ret
    exact ⟨rfl, HB2.out⟩
  | true =>
    rw [show settleR ds ps t = (Nt.settle ds ps t, 0) by unfold settleR; rw [hall]; rfl] at HS
    clear hall
    have HXL : Hid ((Nt.settle ds ps t).length = ds.length) := by show _ = _; unfold Nt.settle; rw [List.length_map]
    have HXA : Hid (∀ i d, ds[i]? = some d → (Nt.settle ds ps t)[i]? = some (Nt.settle1 ps t d)) := fun i d h => by unfold Nt.settle; rw [List.getElem?_map, h]; rfl
    generalize Nt.settle ds ps t = xs at *
    obtain ⟨n, hn⟩ : ∃ n, ds.length = n := ⟨_, rfl⟩
    obtain ⟨m, hm⟩ : ∃ m, ps.length = m := ⟨_, rfl⟩
    rw [hn] at HXL HS HD b0 hl ⊢
    rw [hm] at HS HP b1 hl2 ⊢
    have HN := Lib.hid hn
    have HM := Lib.hid hm
    clear hn hm
    go_enter Tryz.func4, Tryz.ntmps4
    go_wp2_with fail
    refine (HH.out _ hT).mono ?_
    rintro e W1 ⟨rfl, hb1⟩
    have HB1 := Lib.hid hb1
    clear hb1
    go_wp2_with fail
    refine (HS.out _ (HD.out.below HB1.out) (HP.out.below HB1.out)).mono ?_
    rintro e W2 ⟨⟨v2, rfl, hi2⟩, hb2⟩
    obtain ⟨va, vc, rfl⟩ := hi2.len
    have HB2 := Lib.hid (below_trans HB1.out hb2)
    have HI2 := Lib.hid hi2
    rw [HXL.out] at HI2 ⊢
    clear hi2 hb2
    go_wp2_with fail
    go_loopw [10, 11] (fun i _ wr => ∃ k : Nat, i = .int .i64 k ∧ k ≤ n ∧ Below W2.heap.size W2 wr) (fun i _ _ => n - (intOf i).toNat)
    case atStart => exact ⟨0, rfl, Nat.zero_le _, Below.refl _ _⟩
    case round =>
      obtain ⟨k, rfl, hk, hB⟩ := hrel
      obtain ⟨wq, rfl⟩ : ∃ wq : World, wq = wr := ⟨wr, rfl⟩
      by_cases hlt : k < n
      · obtain ⟨d, hd⟩ : ∃ d, ds[k]? = some d := ⟨_, List.getElem?_eq_getElem (by rw [HN.out]; exact hlt)⟩
        have hbest := Nt.settle1_best ps t d
        have hx := HXA.out k d hd
        obtain ⟨g, rfl, -, c0⟩ := IL.at HI2.out hx
        obtain ⟨p, rfl, -, e0, e1, e2, e3, e4, e5⟩ := DL.at HD.out hd
        have HC : Hid (∀ {W}, Below wq.heap.size wq W → W.cell? ⟨g, k, none⟩ = some (.int .i64 (Nt.settle1 ps t d)) ∧ W.cell? (p.add (k * 6)) = some (.int .i64 d.k) ∧ W.cell? ⟨(p.add (k * 6)).block, (p.add (k * 6)).off + 1, none⟩ = some (.int .i64 d.t) ∧ W.cell? ⟨(p.add (k * 6)).block, (p.add (k * 6)).off + 2, none⟩ = some (.int .i64 d.f) ∧
            W.cell? ⟨(p.add (k * 6)).block, (p.add (k * 6)).off + 3, none⟩ = some (.int .i64 d.fr) ∧ W.cell? ⟨(p.add (k * 6)).block, (p.add (k * 6)).off + 4, none⟩ = some (.int .i64 d.un) ∧ W.cell? ⟨(p.add (k * 6)).block, (p.add (k * 6)).off + 5, none⟩ = some (.int .i64 d.pr)) := fun h => by
          have h2 := below_trans hB h
          have h3 := below_trans HB2.out h2
          exact ⟨below_cell h2 c0, below_cell h3 e0, below_cell h3 e1, below_cell h3 e2, below_cell h3 e3, below_cell h3 e4, below_cell h3 e5⟩
        have HB := Lib.hid hB
        have HDI := Lib.hid hd
        have HF := Lib.hid fun q W => fits_at d q t W
        have h0 : (0 : Int) ≤ (k : Int) := Int.natCast_nonneg _
        have h1 : (k : Int) < (n : Int) := by omega
        clear c0 e0 e1 e2 e3 e4 e5 hB hd hx
        generalize Nt.settle1 ps t d = x at hbest HC
        obtain ⟨dk, dt, df, dfr, dun, dpr⟩ := d
        dsimp only at HC HF
        rcases hbest with ⟨rfl, hno⟩ | ⟨j, pj, rfl, hj, hpj, hfj, hmin⟩
        · have HNO := Lib.hid hno
          clear hno
          obtain ⟨q0, q1, q2, q3, q4, q5, q6⟩ := HC.out (Below.refl _ _)
          have b2 : decide ((-1 : Int) ≥ (m : Int)) = false := decide_eq_false (by omega)
          go_wp2_with fail
          go_quiet (fail)
          clear q0 q1 q2 q3 q4 q5 q6
          go_wp2_with fail
          go_loopw [11] (fun i wr => ∃ k2 : Nat, i = .int .i64 k2 ∧ k2 ≤ m ∧ Below wq.heap.size wq wr) (fun i _ => m - (intOf i).toNat)
          case atStart => exact ⟨0, rfl, Nat.zero_le _, below_drewN (Below.refl _ _) _⟩
          case round =>
            obtain ⟨k2, rfl, hk2, hB2⟩ := hrel
            by_cases hlt2 : k2 < m
            · obtain ⟨q, hq⟩ : ∃ q, ps[k2]? = some q := ⟨_, List.getElem?_eq_getElem (by rw [HM.out]; exact hlt2)⟩
              have hfit := HNO.out k2 q (by rw [HM.out]; exact hlt2) hq
              have HF2 := Lib.hid fun W => HF.out q W
              rw [hfit] at HF2
              obtain ⟨pp, rfl, -, a0, a1, a2, a3⟩ := PL.at HP.out hq
              have hbw := below_trans HB2.out (below_trans HB.out hB2)
              have z0 := below_cell hbw a0
              have z1 := below_cell hbw a1
              have z2 := below_cell hbw a2
              have z3 := below_cell hbw a3
              obtain ⟨q0, q1, q2, q3, q4, q5, q6⟩ := HC.out hB2
              obtain ⟨qk, qt, qf, qat⟩ := q
              dsimp only at z0 z1 z2 z3 HF2
              have HBW := Lib.hid hB2
              have g0 : (0 : Int) ≤ (k2 : Int) := Int.natCast_nonneg _
              have g1 : (k2 : Int) < (m : Int) := by omega
              clear a0 a1 a2 a3 hbw hB2 hfit hq
              go_upto_region 17 with (fail)
              have k_z0 := fun d os => Go.cell_regrown (w := wr) z0 d os
              have k_z1 := fun d os => Go.cell_regrown (w := wr) z1 d os
              have k_z2 := fun d os => Go.cell_regrown (w := wr) z2 d os
              have k_z3 := fun d os => Go.cell_regrown (w := wr) z3 d os
              have k_q0 := fun d os => Go.cell_regrown (w := wr) q0 d os
              have k_q1 := fun d os => Go.cell_regrown (w := wr) q1 d os
              have k_q2 := fun d os => Go.cell_regrown (w := wr) q2 d os
              have k_q3 := fun d os => Go.cell_regrown (w := wr) q3 d os
              have k_q4 := fun d os => Go.cell_regrown (w := wr) q4 d os
              have k_q5 := fun d os => Go.cell_regrown (w := wr) q5 d os
              have k_q6 := fun d os => Go.cell_regrown (w := wr) q6 d os
              refine wp_region_quiet_below (by kernel_rfl) (by kernel_rfl) ?_
              repeat (first | go_big_quiet_step ((go_at_call 22; exact Calls.regrown_of (HF2.out _))) | quiet_step ((go_at_call 22; exact Calls.regrown_of (HF2.out _))))
              refine wpQuiet_nil ?_
              intro _ hw'
              obtain ⟨⟨dq, osq⟩, hw''⟩ := hw'
              subst hw''
              have hg := Go.below_regrown wr dq osq
              generalize Go.Sort.grow (Go.redrawn wr dq) osq = W' at hg ⊢
              clear k_z0 k_z1 k_z2 k_z3 k_q0 k_q1 k_q2 k_q3 k_q4 k_q5 k_q6
              clear z0 z1 z2 z3 q0 q1 q2 q3 q4 q5 q6
              have HGG := Lib.hid hg
              clear hg
              go_wp2
              go_roundw
              case rel => exact ⟨k2 + 1, rfl, hlt2, below_trans HBW.out HGG.out⟩
              case measure => simp [intOf]; omega
            · obtain rfl : k2 = m := by omega
              have HBW := Lib.hid (below_trans HB.out hB2)
              clear hB2 hlt2 hk2
              go_wp2
              go_roundw
              case rel => exact ⟨k + 1, rfl, hlt, HBW.out⟩
              case measure => simp [intOf]; omega
        · have HMIN := Lib.hid hmin
          obtain ⟨pp, rfl, -, a0, a1, a2, a3⟩ := PL.at HP.out hpj
          have HJ : Hid (∀ {W}, Below wq.heap.size wq W → W.cell? (pp.add (j * 4)) = some (.int .i64 pj.k) ∧ W.cell? ⟨(pp.add (j * 4)).block, (pp.add (j * 4)).off + 1, none⟩ = some (.int .i64 pj.t) ∧ W.cell? ⟨(pp.add (j * 4)).block, (pp.add (j * 4)).off + 2, none⟩ = some (.int .i64 pj.f) ∧ W.cell? ⟨(pp.add (j * 4)).block, (pp.add (j * 4)).off + 3, none⟩ = some (.int .i64 pj.at_)) := fun h => by
            have h3 := below_trans HB2.out (below_trans HB.out h)
            exact ⟨below_cell h3 a0, below_cell h3 a1, below_cell h3 a2, below_cell h3 a3⟩
          have HFJ := Lib.hid fun W => HF.out pj W
          rw [hfj] at HFJ
          rw [HM.out] at hj
          have j0 : (0 : Int) ≤ (j : Int) := Int.natCast_nonneg _
          have j1 : (j : Int) < (m : Int) := by omega
          have b2 : decide ((j : Int) < -1) = false := decide_eq_false (by omega)
          have b3 : decide (m ≤ j) = false := decide_eq_false (by omega)
          have b4 : decide ((j : Int) < 0) = false := decide_eq_false (by omega)
          obtain ⟨q0, q1, q2, q3, q4, q5, q6⟩ := HC.out (Below.refl _ _)
          obtain ⟨z0, z1, z2, z3⟩ := HJ.out (Below.refl _ _)
          obtain ⟨jk, jt, jf, jat⟩ := pj
          have HPJ := Lib.hid hpj
          dsimp only at z0 z1 z2 z3 HFJ HJ HMIN
          clear a0 a1 a2 a3 hmin hpj hfj
          go_upto_region 12 with (fail)
          have k_z0 := fun d os => Go.cell_regrown (w := wq) z0 d os
          have k_z1 := fun d os => Go.cell_regrown (w := wq) z1 d os
          have k_z2 := fun d os => Go.cell_regrown (w := wq) z2 d os
          have k_z3 := fun d os => Go.cell_regrown (w := wq) z3 d os
          have k_q0 := fun d os => Go.cell_regrown (w := wq) q0 d os
          have k_q1 := fun d os => Go.cell_regrown (w := wq) q1 d os
          have k_q2 := fun d os => Go.cell_regrown (w := wq) q2 d os
          have k_q3 := fun d os => Go.cell_regrown (w := wq) q3 d os
          have k_q4 := fun d os => Go.cell_regrown (w := wq) q4 d os
          have k_q5 := fun d os => Go.cell_regrown (w := wq) q5 d os
          have k_q6 := fun d os => Go.cell_regrown (w := wq) q6 d os
          refine wp_region_quiet_below (by kernel_rfl) (by kernel_rfl) ?_
          repeat (first | go_big_quiet_step ((go_at_call 22; exact Calls.regrown_of (HFJ.out _))) | quiet_step ((go_at_call 22; exact Calls.regrown_of (HFJ.out _))))
          refine wpQuiet_nil ?_
          intro _ hw'
          obtain ⟨⟨dq, osq⟩, hw''⟩ := hw'
          subst hw''
          have hg := Go.below_regrown wq dq osq
          generalize Go.Sort.grow (Go.redrawn wq dq) osq = W' at hg ⊢
          clear k_z0 k_z1 k_z2 k_z3 k_q0 k_q1 k_q2 k_q3 k_q4 k_q5 k_q6
          clear z0 z1 z2 z3 q0 q1 q2 q3 q4 q5 q6
          have HGG := Lib.hid hg
          clear hg
          go_wp2_with fail
          go_loopw [11] (fun i wr => ∃ k2 : Nat, i = .int .i64 k2 ∧ k2 ≤ m ∧ Below wq.heap.size wq wr) (fun i _ => m - (intOf i).toNat)
          case atStart => exact ⟨0, rfl, Nat.zero_le _, HGG.out⟩
          case round =>
            obtain ⟨k2, rfl, hk2, hB2⟩ := hrel
            by_cases hlt2 : k2 < m
            · obtain ⟨q, hq⟩ : ∃ q, ps[k2]? = some q := ⟨_, List.getElem?_eq_getElem (by rw [HM.out]; exact hlt2)⟩
              have HF2 := Lib.hid fun W => HF.out q W
              obtain ⟨pp', hpp, -, a0, a1, a2, a3⟩ := PL.at HP.out hq
              obtain rfl := Option.some.inj hpp
              have hbw := below_trans HB2.out (below_trans HB.out hB2)
              have y0 := below_cell hbw a0
              have y1 := below_cell hbw a1
              have y2 := below_cell hbw a2
              have y3 := below_cell hbw a3
              obtain ⟨q0, q1, q2, q3, q4, q5, q6⟩ := HC.out hB2
              obtain ⟨z0, z1, z2, z3⟩ := HJ.out hB2
              have HBW := Lib.hid hB2
              have g0 : (0 : Int) ≤ (k2 : Int) := Int.natCast_nonneg _
              have g1 : (k2 : Int) < (m : Int) := by omega
              cases hfit : Nt.fit ⟨dk, dt, df, dfr, dun, dpr⟩ q t with
              | false =>
                rw [hfit] at HF2
                obtain ⟨qk, qt, qf, qat⟩ := q
                dsimp only at y0 y1 y2 y3 HF2
                clear a0 a1 a2 a3 hbw hB2 hfit hq
                go_upto_region 17 with (fail)
                have k_z0 := fun d os => Go.cell_regrown (w := wr) z0 d os
                have k_z1 := fun d os => Go.cell_regrown (w := wr) z1 d os
                have k_z2 := fun d os => Go.cell_regrown (w := wr) z2 d os
                have k_z3 := fun d os => Go.cell_regrown (w := wr) z3 d os
                have k_q0 := fun d os => Go.cell_regrown (w := wr) q0 d os
                have k_q1 := fun d os => Go.cell_regrown (w := wr) q1 d os
                have k_q2 := fun d os => Go.cell_regrown (w := wr) q2 d os
                have k_q3 := fun d os => Go.cell_regrown (w := wr) q3 d os
                have k_q4 := fun d os => Go.cell_regrown (w := wr) q4 d os
                have k_q5 := fun d os => Go.cell_regrown (w := wr) q5 d os
                have k_q6 := fun d os => Go.cell_regrown (w := wr) q6 d os
                have k_y0 := fun d os => Go.cell_regrown (w := wr) y0 d os
                have k_y1 := fun d os => Go.cell_regrown (w := wr) y1 d os
                have k_y2 := fun d os => Go.cell_regrown (w := wr) y2 d os
                have k_y3 := fun d os => Go.cell_regrown (w := wr) y3 d os
                refine wp_region_quiet_below (by kernel_rfl) (by kernel_rfl) ?_
                repeat (first | go_big_quiet_step ((go_at_call 22; exact Calls.regrown_of (HF2.out _))) | quiet_step ((go_at_call 22; exact Calls.regrown_of (HF2.out _))))
                refine wpQuiet_nil ?_
                intro _ hw'
                obtain ⟨⟨dq, osq⟩, hw''⟩ := hw'
                subst hw''
                have hg := Go.below_regrown wr dq osq
                generalize Go.Sort.grow (Go.redrawn wr dq) osq = W' at hg ⊢
                clear k_z0 k_z1 k_z2 k_z3 k_q0 k_q1 k_q2 k_q3 k_q4 k_q5 k_q6 k_y0 k_y1 k_y2 k_y3
                clear z0 z1 z2 z3 q0 q1 q2 q3 q4 q5 q6 y0 y1 y2 y3
                have HGG := Lib.hid hg
                clear hg
                go_wp2
                go_roundw
                case rel => exact ⟨k2 + 1, rfl, hlt2, below_trans HBW.out HGG.out⟩
                case measure => simp [intOf]; omega
              | true =>
                rw [hfit] at HF2
                obtain ⟨m1, m2⟩ := HMIN.out k2 q (by rw [HM.out]; exact hlt2) hq hfit
                obtain ⟨qk, qt, qf, qat⟩ := q
                dsimp only at y0 y1 y2 y3 HF2 m1 m2
                have b5 : decide (qat < jat) = false := decide_eq_false (by omega)
                clear a0 a1 a2 a3 hbw hB2 hfit hq
                by_cases he : qat = jat
                · have m3 := m2 he.symm
                  have b6 : decide (k2 < j) = false := decide_eq_false (by omega)
                  have b7 : decide ((k2 : Int) < (j : Int)) = false := decide_eq_false (by omega)
                  subst he
                  clear m1 m2
                  go_upto_region 17 with (fail)
                  have k_z0 := fun d os => Go.cell_regrown (w := wr) z0 d os
                  have k_z1 := fun d os => Go.cell_regrown (w := wr) z1 d os
                  have k_z2 := fun d os => Go.cell_regrown (w := wr) z2 d os
                  have k_z3 := fun d os => Go.cell_regrown (w := wr) z3 d os
                  have k_q0 := fun d os => Go.cell_regrown (w := wr) q0 d os
                  have k_q1 := fun d os => Go.cell_regrown (w := wr) q1 d os
                  have k_q2 := fun d os => Go.cell_regrown (w := wr) q2 d os
                  have k_q3 := fun d os => Go.cell_regrown (w := wr) q3 d os
                  have k_q4 := fun d os => Go.cell_regrown (w := wr) q4 d os
                  have k_q5 := fun d os => Go.cell_regrown (w := wr) q5 d os
                  have k_q6 := fun d os => Go.cell_regrown (w := wr) q6 d os
                  have k_y0 := fun d os => Go.cell_regrown (w := wr) y0 d os
                  have k_y1 := fun d os => Go.cell_regrown (w := wr) y1 d os
                  have k_y2 := fun d os => Go.cell_regrown (w := wr) y2 d os
                  have k_y3 := fun d os => Go.cell_regrown (w := wr) y3 d os
                  refine wp_region_quiet_below (by kernel_rfl) (by kernel_rfl) ?_
                  repeat (first | go_big_quiet_step ((go_at_call 22; exact Calls.regrown_of (HF2.out _))) | quiet_step ((go_at_call 22; exact Calls.regrown_of (HF2.out _))))
                  refine wpQuiet_nil ?_
                  intro _ hw'
                  obtain ⟨⟨dq, osq⟩, hw''⟩ := hw'
                  subst hw''
                  have hg := Go.below_regrown wr dq osq
                  generalize Go.Sort.grow (Go.redrawn wr dq) osq = W' at hg ⊢
                  clear k_z0 k_z1 k_z2 k_z3 k_q0 k_q1 k_q2 k_q3 k_q4 k_q5 k_q6 k_y0 k_y1 k_y2 k_y3
                  clear z0 z1 z2 z3 q0 q1 q2 q3 q4 q5 q6 y0 y1 y2 y3
                  have HGG := Lib.hid hg
                  clear hg
                  go_wp2
                  go_roundw
                  case rel => exact ⟨k2 + 1, rfl, hlt2, below_trans HBW.out HGG.out⟩
                  case measure => simp [intOf]; omega
                · have b6 : (qat == jat) = false := by simpa using he
                  clear m1 m2
                  go_upto_region 17 with (fail)
                  have k_z0 := fun d os => Go.cell_regrown (w := wr) z0 d os
                  have k_z1 := fun d os => Go.cell_regrown (w := wr) z1 d os
                  have k_z2 := fun d os => Go.cell_regrown (w := wr) z2 d os
                  have k_z3 := fun d os => Go.cell_regrown (w := wr) z3 d os
                  have k_q0 := fun d os => Go.cell_regrown (w := wr) q0 d os
                  have k_q1 := fun d os => Go.cell_regrown (w := wr) q1 d os
                  have k_q2 := fun d os => Go.cell_regrown (w := wr) q2 d os
                  have k_q3 := fun d os => Go.cell_regrown (w := wr) q3 d os
                  have k_q4 := fun d os => Go.cell_regrown (w := wr) q4 d os
                  have k_q5 := fun d os => Go.cell_regrown (w := wr) q5 d os
                  have k_q6 := fun d os => Go.cell_regrown (w := wr) q6 d os
                  have k_y0 := fun d os => Go.cell_regrown (w := wr) y0 d os
                  have k_y1 := fun d os => Go.cell_regrown (w := wr) y1 d os
                  have k_y2 := fun d os => Go.cell_regrown (w := wr) y2 d os
                  have k_y3 := fun d os => Go.cell_regrown (w := wr) y3 d os
                  refine wp_region_quiet_below (by kernel_rfl) (by kernel_rfl) ?_
                  repeat (first | go_big_quiet_step ((go_at_call 22; exact Calls.regrown_of (HF2.out _))) | quiet_step ((go_at_call 22; exact Calls.regrown_of (HF2.out _))))
                  refine wpQuiet_nil ?_
                  intro _ hw'
                  obtain ⟨⟨dq, osq⟩, hw''⟩ := hw'
                  subst hw''
                  have hg := Go.below_regrown wr dq osq
                  generalize Go.Sort.grow (Go.redrawn wr dq) osq = W' at hg ⊢
                  clear k_z0 k_z1 k_z2 k_z3 k_q0 k_q1 k_q2 k_q3 k_q4 k_q5 k_q6 k_y0 k_y1 k_y2 k_y3
                  clear z0 z1 z2 z3 q0 q1 q2 q3 q4 q5 q6 y0 y1 y2 y3
                  have HGG := Lib.hid hg
                  clear hg
                  go_wp2
                  go_roundw
                  case rel => exact ⟨k2 + 1, rfl, hlt2, below_trans HBW.out HGG.out⟩
                  case measure => simp [intOf]; omega
            · obtain rfl : k2 = m := by omega
              have HBW := Lib.hid (below_trans HB.out hB2)
              clear hB2 hlt2 hk2
              go_wp2
              go_roundw
              case rel => exact ⟨k + 1, rfl, hlt, HBW.out⟩
              case measure => simp [intOf]; omega
      · obtain rfl : k = n := by omega
        have HBW := Lib.hid (below_trans HB2.out hB)
        clear hB hlt hk
        go_wp2
        go_ret
        exact ⟨rfl, HBW.out⟩
end Go.Proofs.YtcphclpekllcoaaGreatDoor
