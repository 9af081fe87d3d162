/- Walks: the law DebtSplits. -/
import Derived.Test.YtcphclpekllcoaaGreatDoorF1
import Derived.Test.YtcphclpekllcoaaGreatDoorWs
import Derived.Test.YtcphclpekllcoaaGreatDoorSum
import Derived.Lib.QuietBelow
namespace Go.Proofs.YtcphclpekllcoaaGreatDoor
open Go.RowKit

/-- Which payments were met: a row of bools. -/
def UB (W : World) (g m : Nat) (P : Nat → Bool) : Prop := ∃ cur : Array Value, W.heap[g]? = some (.cells cur 4) ∧ cur.size = m ∧ ∀ j, j < m → cur[j]? = some (.bool (P j))
theorem UB.below {W W' : World} {g m : Nat} {P : Nat → Bool} (h : UB W g m P) (hb : Below W.heap.size W W') : UB W' g m P := by
  obtain ⟨cur, h1, h2, h3⟩ := h
  exact ⟨cur, (hb.block g (lt_of_block h1)).trans h1, h2, h3⟩
theorem UB.at {W : World} {g m : Nat} {P : Nat → Bool} (h : UB W g m P) {j : Nat} (hj : j < m) : W.cell? ⟨g, j, none⟩ = some (.bool (P j)) ∧ W.frozen? ⟨g, j, none⟩ = false := by
  obtain ⟨cur, h1, h2, h3⟩ := h
  exact ⟨by rw [cell_of_row W g j cur _ (0, 0) h1]; exact h3 j hj, by simp [World.frozen?, h1]⟩
theorem UB.set {W : World} {g m : Nat} {P Q : Nat → Bool} (h : UB W g m P) {j : Nat} (hj : j < m) (hQ : ∀ k, Q k = (P k || decide (j = k))) : UB (W.setCell ⟨g, j, none⟩ (.bool true)) g m Q := by
  obtain ⟨cur, h1, h2, h3⟩ := h
  refine ⟨_, row_setCell h1, by simp [h2], fun k hk => ?_⟩
  rw [hQ k]
  by_cases e : j = k
  · subst e
    rw [Array.getElem?_setIfInBounds_self, if_pos (by omega), decide_eq_true rfl, Bool.or_true]
  · rw [Array.getElem?_setIfInBounds_ne e, h3 k hk, decide_eq_false e, Bool.or_false]
theorem info_bool : (Tryz.prog.info? 4).map (fun i => (i.zero, i.size, i.bytes)) = some (some (.bool false), 1, 1) := by kernel_rfl
theorem ub_new (W : World) (m : Nat) : UB (W.alloc (.cells (madeCells #[.bool false] m) 4)) W.heap.size m fun _ => false :=
  ⟨_, kept_new (Below.refl _ _), by simp [madeCells], fun j hj => by simp [madeCells, hj, Nat.mod_one]⟩

/-- Has one of the first i debts of a programme been settled? -/
def bears (ds : List Nt.Deb) (ps : List Nt.Pay) (t k : Int) (i : Nat) : Bool := (ds.take i).any fun d => decide (d.pr = k) && decide (0 ≤ Nt.settle1 ps t d)
theorem bears_step {ds : List Nt.Deb} {ps : List Nt.Pay} {t k : Int} {i : Nat} {d : Nt.Deb} (hd : ds[i]? = some d) : bears ds ps t k (i + 1) = (bears ds ps t k i || (decide (d.pr = k) && decide (0 ≤ Nt.settle1 ps t d))) := by
  unfold bears
  rw [take_at hd, List.any_append]; simp
theorem bears_end (ds : List Nt.Deb) (ps : List Nt.Pay) (t k : Int) : bears ds ps t k ds.length = decide (Nt.splitR ds ps t k ≠ 0) := by
  unfold bears
  rw [List.take_length]
  by_cases h : Nt.splitR ds ps t k = 0
  · rw [decide_eq_false (by simpa using h), List.any_eq_false]
    intro d hd
    have := (Nt.splitR_zero ds ps t k).1 h d hd
    by_cases hp : d.pr = k
    · have := this hp
      simp; omega
    · simp [hp]
  · rw [decide_eq_true h]
    refine Classical.byContradiction fun hn => h ((Nt.splitR_zero ds ps t k).2 fun d hd hp => ?_)
    rw [Bool.not_eq_true, List.any_eq_false] at hn
    have := hn d hd
    simp [hp] at this
    omega
theorem tab_regrown {w : World} (h : Tab w) (d : Nat) (os : Array Obj) : Tab (Go.Sort.grow (Go.redrawn w d) os) := h.below (Go.below_regrown w d os)
theorem rs_false {q : Rat} (h : 0 ≤ q) : (Nt.rs q).1 = false := Nt.ng_nonneg h
theorem countI_zero (ds : List Nt.Deb) (ps : List Nt.Pay) (t : Int) : Nt.countI ds ps t 0 = 0 := by
  unfold Nt.countI Nt.usedI Nt.usedK
  rw [List.take_zero, List.length_eq_zero_iff, List.filter_eq_nil_iff]
  intro k _
  simp
theorem usedI_zero (ds : List Nt.Deb) (ps : List Nt.Pay) (t : Int) : Nt.usedI ds ps t 0 = fun _ => false := by
  funext k
  unfold Nt.usedI Nt.usedK
  rw [List.take_zero]; rfl
theorem over_nat {n b : Nat} (h : n ≤ b) : Nt.Over (mkRat (n : Nat) 1) b := by
  refine ⟨n * Nt.lam, ?_, Nat.mul_le_mul_right _ h⟩
  have := Rat.mkRat_mul_right (n := (n : Int)) (d := 1) (a := Nt.lam) Nt.lam_pos
  rw [Nat.one_mul] at this
  rw [Int.natCast_mul]
  exact this.symm
theorem split_facts {ds : List Nt.Deb} {ps : List Nt.Pay} {t n : Int} (h : Nt.splitOk ds ps t n = true) : 1 ≤ n ∧ n ≤ 64 ∧ Nt.allOk ds ps t = true ∧ ∀ d ∈ ds, 0 ≤ d.pr ∧ d.pr < n := by
  unfold Nt.splitOk Nt.win at h
  simp only [Bool.and_eq_true, decide_eq_true_eq, List.all_eq_true] at h
  obtain ⟨⟨h1, h2, h3⟩, h4⟩ := h
  refine ⟨h2, h3, h1, fun d hd => ⟨?_, h4 d hd⟩⟩
  unfold Nt.allOk at h1
  simp only [Bool.and_eq_true, List.all_eq_true] at h1
  have h := h1.1.2 d hd
  unfold Nt.debOk Nt.win at h
  simp only [Bool.and_eq_true, decide_eq_true_eq] at h
  exact h.1.1.1.2.1

/-- The relation of the outer loop behind a round. -/
theorem splits_rel {W3 Wz : World} {N4 N5 N6 : Nat} {t4 : TypeId} {s1 : Bool} {s2 s3 : ByteArray} {o5 o6 : Obj} (m1 : Bool) (m2 m3 : ByteArray) (hb : Below W3.heap.size W3 Wz) (h34 : W3.heap.size ≤ N4)
    (h4 : Wz.heap[N4]? = some (.cells #[.bool s1, .string s2, .string s3] t4)) (h5 : Wz.heap[N5]? = some o5) (h6 : Wz.heap[N6]? = some o6) (n5 : N5 ≠ N4) (n6 : N6 ≠ N4) :
    Below W3.heap.size W3 (((Wz.setCell ⟨N4, 0, none⟩ (.bool m1)).setCell ⟨N4, 1, none⟩ (.string m2)).setCell ⟨N4, 2, none⟩ (.string m3)) ∧
    (((Wz.setCell ⟨N4, 0, none⟩ (.bool m1)).setCell ⟨N4, 1, none⟩ (.string m2)).setCell ⟨N4, 2, none⟩ (.string m3)).heap[N4]? = some (.cells #[.bool m1, .string m2, .string m3] t4) ∧
    (((Wz.setCell ⟨N4, 0, none⟩ (.bool m1)).setCell ⟨N4, 1, none⟩ (.string m2)).setCell ⟨N4, 2, none⟩ (.string m3)).heap[N5]? = some o5 ∧
    (((Wz.setCell ⟨N4, 0, none⟩ (.bool m1)).setCell ⟨N4, 1, none⟩ (.string m2)).setCell ⟨N4, 2, none⟩ (.string m3)).heap[N6]? = some o6 :=
  ⟨((hb.setCell h34 _).setCell h34 _).setCell h34 _, row_setCell (row_setCell (row_setCell h4)),
    (Below.heap_setCell _ _ _ _ n5).trans ((Below.heap_setCell _ _ _ _ n5).trans ((Below.heap_setCell _ _ _ _ n5).trans h5)),
    (Below.heap_setCell _ _ _ _ n6).trans ((Below.heap_setCell _ _ _ _ n6).trans ((Below.heap_setCell _ _ _ _ n6).trans h6))⟩

set_option maxHeartbeats 25600000 in
set_option maxRecDepth 100000 in
theorem splits_law (dv : Value) (ds : List Nt.Deb) (pv : Value) (ps : List Nt.Pay) (t np : Int) (w : World) (hT : Tab w) (hd : DL w dv ds) (hp : PL w pv ps) :
    Calls Tryz.prog 8 #[dv, pv, .int .i64 t, .int .i64 np] w fun e w' => e = .returned (.bool true) ∧ Below w.heap.size w w' := by
  obtain ⟨pa, pc, rfl⟩ := hp.len
  obtain ⟨da, dc, rfl⟩ := hd.len
  have HH := Lib.hid fun W hTW => head_any W hTW
  have HP := Lib.hid hp
  have HD := Lib.hid hd
  clear hp hd
  by_cases hl : 12 < ds.length
  · go_enter Tryz.func8, Tryz.ntmps8
    go_wp2_with fail
    refine (HH.out _ hT).mono ?_
    rintro e W1 ⟨rfl, hb1⟩
    have HB1 := Lib.hid hb1
    clear hb1
    go_wp2
    go_ret
    exact ⟨rfl, HB1.out⟩
  have b0 : decide (12 < ds.length) = false := decide_eq_false hl
  by_cases hl2 : 12 < ps.length
  · go_enter Tryz.func8, Tryz.ntmps8
    go_wp2_with fail
    refine (HH.out _ hT).mono ?_
    rintro e W1 ⟨rfl, hb1⟩
    have HB1 := Lib.hid hb1
    clear hb1
    go_wp2
    go_ret
    exact ⟨rfl, HB1.out⟩
  have b1 : decide (12 < ps.length) = false := decide_eq_false hl2
  have HX := Lib.hid fun W hT hd hp => split_all (.slice da ds.length dc) (.slice pa ps.length pc) ds ps t np W hT hd hp
  cases hok : Nt.splitOk ds ps t np with
  | false =>
    rw [show Nt.split ds ps t np = ([], 1) by unfold Nt.split; rw [hok]; rfl] at HX
    clear hok
    go_enter Tryz.func8, Tryz.ntmps8
    go_wp2_with fail
    refine (HH.out _ hT).mono ?_
    rintro e W1 ⟨rfl, hb1⟩
    have HB1 := Lib.hid hb1
    clear hb1
    go_wp2_with fail
    refine (HX.out _ (hT.below HB1.out) (HD.out.below HB1.out) (HP.out.below HB1.out)).mono ?_
    rintro e W2 ⟨⟨v2, rfl, hr2⟩, hb2⟩
    obtain ⟨ra, rc, rfl⟩ := hr2.len
    have HB2 := Lib.hid (below_trans HB1.out hb2)
    clear hr2 hb2
    go_wp2
    go_ret
    exact ⟨rfl, HB2.out⟩
  | true =>
    obtain ⟨n1, n2, hall, hdp⟩ := split_facts hok
    obtain ⟨q, rfl⟩ := Int.eq_ofNat_of_zero_le (show 0 ≤ np by omega)
    rw [show Nt.split ds ps t (q : Int) = (Nt.stt q (Nt.splitR ds ps t), 0) by unfold Nt.split; rw [hok]; rfl] at HX
    have HS := Lib.hid fun W hd hp => settle_all (.slice da ds.length dc) (.slice pa ps.length pc) ds ps t W hd hp
    rw [show settleR ds ps t = (Nt.settle ds ps t, 0) by unfold settleR; rw [hall]; rfl] at HS
    have HDP := Lib.hid hdp
    have HXL : Hid ((Nt.settle ds ps t).length = ds.length) := by show _ = _; unfold Nt.settle; rw [List.length_map]
    have HXA : Hid (∀ i d, ds[i]? = some d → (Nt.settle ds ps t)[i]? = some (Nt.settle1 ps t d)) := fun i d h => by unfold Nt.settle; rw [List.getElem?_map, h]; rfl
    generalize Nt.settle ds ps t = xs at *
    obtain ⟨n, hn⟩ : ∃ n, ds.length = n := ⟨_, rfl⟩
    obtain ⟨m, hm⟩ : ∃ m, ps.length = m := ⟨_, rfl⟩
    rw [hn] at HXL HS HD b0 hl HX ⊢
    rw [hm] at HS HP b1 hl2 HX ⊢
    have HN := Lib.hid hn
    have HM := Lib.hid hm
    have hmk := fun W => run_make_row' (P := Tryz.prog) 54 4 (.bool false) 1 Tryz.underlying54 info_bool rfl .i64 .i64 m (by omega) (by omega) W
    clear hn hm hok hall hdp
    go_enter Tryz.func8, Tryz.ntmps8
    go_wp2_with fail
    refine (HH.out _ hT).mono ?_
    rintro e W1 ⟨rfl, hb1⟩
    have HB1 := Lib.hid hb1
    clear hb1
    go_wp2_with fail
    refine (HX.out _ (hT.below HB1.out) (HD.out.below HB1.out) (HP.out.below HB1.out)).mono ?_
    rintro e W2 ⟨⟨v2, rfl, hr2⟩, hb2⟩
    obtain ⟨ra, rc, rfl⟩ := hr2.len
    have HR2 := Lib.hid hr2
    have HB2 := Lib.hid (below_trans HB1.out hb2)
    rw [Nt.stt_length] at HR2 ⊢
    clear hr2 hb2
    go_wp2_with fail
    refine (HS.out _ (HD.out.below HB2.out) (HP.out.below HB2.out)).mono ?_
    rintro e W3 ⟨⟨v3, rfl, hi3⟩, hb3⟩
    obtain ⟨aa, ac, rfl⟩ := hi3.len
    have HI3 := Lib.hid hi3
    have HR3 := Lib.hid (RL.below HR2.out hb3)
    have HB3 := Lib.hid (below_trans HB2.out hb3)
    rw [HXL.out] at HI3 ⊢
    clear hi3 hb3
    go_wp2_with fail
    go_loopw [15, 16] (fun c i wr => ∃ k : Nat, i = .int .i64 k ∧ k ≤ n ∧ c = .int .i64 (Nt.countI ds ps t k : Nat) ∧ Below W3.heap.size W3 wr ∧ UB wr W3.heap.size m (Nt.usedI ds ps t k)) (fun _ i _ => n - (intOf i).toNat)
    case atStart => exact ⟨0, rfl, Nat.zero_le _, by rw [countI_zero]; rfl, below_alloc _ _, by rw [usedI_zero]; exact ub_new W3 m⟩
    case round =>
      obtain ⟨k, rfl, hk, rfl, hB, hU⟩ := hrel
      by_cases hlt : k < n
      · obtain ⟨d, hd⟩ : ∃ d, ds[k]? = some d := ⟨_, List.getElem?_eq_getElem (by rw [HN.out]; exact hlt)⟩
        have hx := HXA.out k d hd
        obtain ⟨g, rfl, -, c0⟩ := IL.at HI3.out hx
        have d0 := below_cell hB c0
        have hform := Nt.settle1_form ps t d
        have hcl := Nt.countI_le ds ps t k
        have HUO := Lib.hid hU
        have HDI := Lib.hid hd
        have HBk := Lib.hid hB
        have h0 : (0 : Int) ≤ (k : Int) := Int.natCast_nonneg _
        have h1 : (k : Int) < (n : Int) := by omega
        rcases hform with hs | ⟨j, hj, hs⟩
        · have HSM := Lib.hid (Nt.countI_same hd (fun k' e => absurd (hs.symm.trans e) (by omega)))
          have HUS : Hid (∀ k', Nt.usedI ds ps t (k + 1) k' = Nt.usedI ds ps t k k') := fun k' => by rw [Nt.usedI_step hd k', hs, decide_eq_false (by omega), Bool.or_false]
          rw [hs] at d0
          clear c0 hx hd hB hU hs hcl
          go_wp2
          go_roundw
          case rel => exact ⟨k + 1, rfl, hlt, by rw [HSM.out], HBk.out, by rw [show Nt.usedI ds ps t (k + 1) = Nt.usedI ds ps t k from funext HUS.out]; exact HUO.out⟩
          case measure => (simp [intOf] <;> omega)
        · rw [hs] at d0
          have hjm : j < m := by have := HM.out; omega
          obtain ⟨u0, u1⟩ := hU.at hjm
          have j0 : (0 : Int) ≤ (j : Int) := Int.natCast_nonneg _
          have j1 : (j : Int) < (m : Int) := by omega
          cases hu : Nt.usedI ds ps t k j with
          | true =>
            have HSM := Lib.hid (Nt.countI_same hd (fun k' e => by
              have : k' = j := by have := hs.symm.trans e; omega
              rw [this]; exact hu))
            have HUS : Hid (∀ k', Nt.usedI ds ps t (k + 1) k' = Nt.usedI ds ps t k k') := fun k' => by
              rw [Nt.usedI_step hd k', hs]
              by_cases e : (j : Int) = (k' : Int)
              · have : k' = j := by omega
                rw [this, hu]; rfl
              · rw [decide_eq_false e, Bool.or_false]
            rw [hu] at u0
            clear c0 hx hd hB hU hs hcl hu
            go_wp2
            go_roundw
            case rel => exact ⟨k + 1, rfl, hlt, by rw [HSM.out], HBk.out, by rw [show Nt.usedI ds ps t (k + 1) = Nt.usedI ds ps t k from funext HUS.out]; exact HUO.out⟩
            case measure => (simp [intOf] <;> omega)
          | false =>
            have hcn := Nt.countI_new hd hj hs hu
            have HSM := Lib.hid hcn
            have HUS : Hid (∀ k', Nt.usedI ds ps t (k + 1) k' = (Nt.usedI ds ps t k k' || decide (j = k'))) := fun k' => by
              rw [Nt.usedI_step hd k', hs]
              congr 1
              exact decide_eq_decide.2 (by omega)
            rw [hu] at u0
            have hc12 : Nt.countI ds ps t k ≤ 12 := by have := HM.out; omega
            clear c0 hx hd hB hU hs hcl hu hcn
            generalize Nt.countI ds ps t k = c at *
            go_wp2
            go_roundw
            case rel => exact ⟨k + 1, rfl, hlt, by rw [HSM.out]; rfl, HBk.out.setCell (p := ⟨W3.heap.size, j, none⟩) (Nat.le_refl _) _, HUO.out.set hjm HUS.out⟩
            case measure => (simp [intOf] <;> omega)
      · obtain rfl : n = k := by omega
        rw [show Nt.countI ds ps t n = Nt.whole ds ps t by rw [← HN.out]; exact Nt.countI_end ds ps t]
        have hwl : Nt.whole ds ps t ≤ 12 := by
          rw [← Nt.countI_end]
          have := Nt.countI_le ds ps t ds.length
          have := HM.out
          omega
        obtain ⟨wo, rfl⟩ : ∃ wo : World, wo = wr := ⟨wr, rfl⟩
        have HBo := Lib.hid hB
        clear hU hB
        have HOF1 := Lib.hid fun W hTW => of_any 0 1 W hTW (by decide) (by decide) (by decide) (by decide) (by decide)
        rw [show Nt.rs (Nt.low (decide ((0 : Int) < 0) != decide ((1 : Int) < 0)) (0 : Int).natAbs (1 : Int).natAbs) = Nt.rs 0 by rw [show (0 : Int).natAbs = 0 from rfl, Nt.low_zero]] at HOF1
        have HOF2 := Lib.hid fun W hTW => of_any ((Nt.whole ds ps t : Nat) : Int) 1 W hTW (by omega) (by omega) (by decide) (by decide) (by decide)
        rw [show Nt.rs (Nt.low (decide (((Nt.whole ds ps t : Nat) : Int) < 0) != decide ((1 : Int) < 0)) ((Nt.whole ds ps t : Nat) : Int).natAbs (1 : Int).natAbs) = Nt.rs (mkRat (Nt.whole ds ps t : Nat) 1) by rw [show decide (((Nt.whole ds ps t : Nat) : Int) < 0) = false by simp]; rfl] at HOF2
        obtain ⟨zz, hzz⟩ : ∃ zz, Nt.rs 0 = zz := ⟨_, rfl⟩
        obtain ⟨hh, hhh⟩ : ∃ hh, Nt.rs (mkRat (Nt.whole ds ps t : Nat) 1) = hh := ⟨_, rfl⟩
        rw [hzz] at HOF1
        rw [hhh] at HOF2
        have HZZ := Lib.hid hzz
        have HHH := Lib.hid hhh
        clear hzz hhh
        obtain ⟨z1, z2, z3⟩ := zz
        obtain ⟨h1, h2, h3⟩ := hh
        obtain rfl : z1 = false := by have := HZZ.out; rw [Nt.rs_zero] at this; exact (congrArg (fun x : Nt.RS => x.1) this).symm
        unfold rout rv at HOF1 HOF2
        dsimp only at HOF1 HOF2
        go_wp2_with fail
        refine (HOF1.out _ (hT.below (below_trans HB3.out HBo.out))).mono ?_
        rintro e W4 ⟨rfl, hb4⟩
        have hb4' := below_trans hb4 (below_alloc W4 (.cells #[.bool false, .string z2, .string z3] 57))
        have HBo4 := Lib.hid (below_trans HBo.out hb4')
        have hsz4 : wo.heap.size ≤ W4.heap.size := hb4.size
        clear hb4 hb4'
        go_wp2_with fail
        refine (HOF1.out _ (hT.below (below_trans HB3.out HBo4.out))).mono ?_
        rintro e W5 ⟨rfl, hb5⟩
        have hx4 := kept_new hb5
        have hsz5 := hb5.size
        have hb5' := below_trans hb5 (below_alloc W5 (.cells #[.bool false, .string z2, .string z3] 57))
        have HX4 := Lib.hid (((below_alloc W5 (.cells #[.bool false, .string z2, .string z3] 57)).block _ (lt_of_block hx4)).trans hx4)
        have HBo5 := Lib.hid (below_trans HBo4.out hb5')
        clear hb5 hb5' hx4
        go_wp2_with fail
        refine (HOF2.out _ (hT.below (below_trans HB3.out HBo5.out))).mono ?_
        rintro e W6 ⟨rfl, hb6⟩
        have hx5 := kept_new hb6
        have hsz6 := hb6.size
        have hb6' := below_trans hb6 (below_alloc W6 (.cells #[.bool h1, .string h2, .string h3] 57))
        have HX5 := Lib.hid (((below_alloc W6 (.cells #[.bool h1, .string h2, .string h3] 57)).block _ (lt_of_block hx5)).trans hx5)
        have HX46 := Lib.hid ((hb6'.block _ (lt_of_block HX4.out)).trans HX4.out)
        have HBo6 := Lib.hid (below_trans HBo5.out hb6')
        clear hb6 hb6' hx5
        have hsz4' : W4.heap.size + 1 ≤ W5.heap.size := by simpa using hsz5
        have hsz5' : W5.heap.size + 1 ≤ W6.heap.size := by simpa using hsz6
        clear hsz5 hsz6
        go_wp2_with fail
        go_loopw [23] (fun i wr => ∃ k : Nat, i = .int .i64 k ∧ k ≤ q ∧ Below W3.heap.size W3 wr ∧ (∃ a b c, Nt.rs (Nt.partial_ ds ps t k) = (a, b, c) ∧ wr.heap[W4.heap.size]? = some (.cells #[.bool a, .string b, .string c] 57)) ∧
          wr.heap[W5.heap.size]? = some (.cells #[.bool false, .string z2, .string z3] 57) ∧ wr.heap[W6.heap.size]? = some (.cells #[.bool h1, .string h2, .string h3] 57)) (fun i _ => q - (intOf i).toNat)
        case atStart => exact ⟨0, rfl, Nat.zero_le _, HBo6.out, ⟨false, z2, z3, HZZ.out, HX46.out⟩, HX5.out, kept_new (Below.refl _ _)⟩
        case round =>
          obtain ⟨k, rfl, hk, hB, ⟨s1, s2, s3, hsum, hS⟩, hZ, hH⟩ := hrel
          by_cases hlt : k < q
          · obtain ⟨wq, rfl⟩ : ∃ wq : World, wq = wr := ⟨wr, rfl⟩
            have HBq := Lib.hid hB
            have HSQ := Lib.hid hS
            have HSUM := Lib.hid hsum
            have HZQ := Lib.hid hZ
            have HHQ := Lib.hid hH
            clear hB hS hsum hZ hH
            go_wp2_with fail
            go_loopw [24, 25] (fun bv i wr => ∃ j : Nat, i = .int .i64 j ∧ j ≤ n ∧ bv = .bool (bears ds ps t (k : Int) j) ∧ wq = wr) (fun _ i _ => n - (intOf i).toNat)
            case atStart => exact ⟨0, rfl, Nat.zero_le _, by unfold bears; simp, rfl⟩
            case round =>
              obtain ⟨j, rfl, hj, rfl, rfl⟩ := hrel
              by_cases hltj : j < n
              · obtain ⟨d, hd⟩ : ∃ d, ds[j]? = some d := ⟨_, List.getElem?_eq_getElem (by rw [HN.out]; exact hltj)⟩
                have hx := HXA.out j d hd
                obtain ⟨g, rfl, -, c0⟩ := IL.at HI3.out hx
                obtain ⟨p, rfl, -, e0, e1, e2, e3, e4, e5⟩ := DL.at HD.out hd
                have d0 := below_cell HBq.out c0
                have d5 := below_cell (below_trans HB3.out HBq.out) e5
                have HST := Lib.hid (bears_step (k := (k : Int)) (ps := ps) (t := t) hd)
                have j0 : (0 : Int) ≤ (j : Int) := Int.natCast_nonneg _
                have j1 : (j : Int) < (n : Int) := by omega
                generalize Nt.settle1 ps t d = s at *
                obtain ⟨dk, dt, df, dfr, dun, dpr⟩ := d
                dsimp only at d5 HST
                clear c0 e0 e1 e2 e3 e4 e5 hd hx
                cases hb : bears ds ps t (k : Int) j with
                | true =>
                  rw [hb] at HST
                  clear hb
                  go_wp2
                  go_roundw
                  case rel => exact ⟨j + 1, rfl, hltj, by rw [HST.out]; rfl, trivial⟩
                  case measure => (simp [intOf] <;> omega)
                | false =>
                  rw [hb, Bool.false_or] at HST
                  clear hb
                  by_cases hp : dpr = (k : Int)
                  · by_cases hs : 0 ≤ s
                    · have b2 : decide (s ≥ 0) = true := decide_eq_true hs
                      have HT : Hid (bears ds ps t (k : Int) (j + 1) = true) := by show _ = _; rw [HST.out, decide_eq_true hp, decide_eq_true hs]; rfl
                      subst hp
                      clear HST
                      go_wp2
                      go_roundw
                      case rel => exact ⟨j + 1, rfl, hltj, by rw [HT.out], trivial⟩
                      case measure => (simp [intOf] <;> omega)
                    · have b2 : decide (s ≥ 0) = false := decide_eq_false hs
                      have b3 : decide (0 ≤ s) = false := decide_eq_false hs
                      have HT : Hid (bears ds ps t (k : Int) (j + 1) = false) := by show _ = _; rw [HST.out, decide_eq_true hp, b3]; rfl
                      subst hp
                      clear HST hs
                      go_wp2
                      go_roundw
                      case rel => exact ⟨j + 1, rfl, hltj, by rw [HT.out], trivial⟩
                      case measure => (simp [intOf] <;> omega)
                  · have b2 : (dpr == (k : Int)) = false := by simpa using hp
                    have HT : Hid (bears ds ps t (k : Int) (j + 1) = false) := by show _ = _; rw [HST.out, decide_eq_false hp]; rfl
                    clear HST hp
                    go_wp2
                    go_roundw
                    case rel => exact ⟨j + 1, rfl, hltj, by rw [HT.out], trivial⟩
                    case measure => (simp [intOf] <;> omega)
              · obtain rfl : n = j := by omega
                obtain ⟨bb, hbb⟩ : ∃ bb, bears ds ps t (k : Int) n = bb := ⟨_, rfl⟩
                rw [hbb]
                have HBB := Lib.hid (hbb.symm.trans (show bears ds ps t (k : Int) n = decide (Nt.splitR ds ps t (k : Int) ≠ 0) by rw [← HN.out]; exact bears_end ds ps t k))
                clear hbb
                have hm12 : ps.length ≤ 12 := by have := HM.out; omega
                have hov1 := Nt.partial_over (ps := ps) (t := t) (n := q) (by omega) HDP.out k
                have hov2 := Nt.splitR_over (ps := ps) (t := t) (n := q) (by omega) HDP.out (k : Int)
                have hk12 : k * ps.length ≤ 1000 := Nat.le_trans (Nat.mul_le_mul (show k ≤ 64 by omega) hm12) (by decide)
                have hadd := Nt.rAdd_over hov1 hov2 hk12 (by omega)
                rw [← Nt.partial_succ] at hadd
                have hsz1 := over_sizes hov1 hk12
                have hsz2 := over_sizes hov2 (by omega)
                have hf2 := hov2.fit (by omega)
                have hcx : (Nt.stt q (Nt.splitR ds ps t))[k]? = some (Nt.rs (Nt.splitR ds ps t (k : Int))) := Nt.stt_at _ hlt
                have hng := rs_false (Nt.splitR_nonneg ds ps t (k : Int))
                have hle := Nt.rcmp_le (Nt.splitR_le (ps := ps) (t := t) (n := q) HDP.out hlt)
                have hwo : Nt.Over (mkRat (Nt.whole ds ps t : Nat) 1) 12 := over_nat hwl
                have hcm := Nt.rCmp_rs _ _ hf2 (hwo.fit (by decide))
                rw [← hcm] at hle
                have hsz3 := over_sizes hwo (by decide)
                obtain ⟨cx, hcxe⟩ : ∃ cx, Nt.rs (Nt.splitR ds ps t (k : Int)) = cx := ⟨_, rfl⟩
                obtain ⟨mx, hmxe⟩ : ∃ mx, Nt.rs (Nt.partial_ ds ps t (k + 1)) = mx := ⟨_, rfl⟩
                rw [HSUM.out, hcxe, hmxe] at hadd
                rw [HSUM.out] at hsz1
                rw [hcxe] at hsz2 hcx hng hle
                rw [HHH.out] at hle hsz3
                have HCXE := Lib.hid hcxe
                have HMXE := Lib.hid hmxe
                obtain ⟨c1, c2, c3⟩ := cx
                obtain ⟨m1, m2, m3⟩ := mx
                dsimp only at hsz1 hsz2 hsz3 hng
                subst hng
                have HA := Lib.hid fun W hTW => ratAdd_any s1 false s2 s3 c2 c3 W hTW hsz1.1 hsz1.2 hsz2.1 hsz2.2
                rw [hadd] at HA
                have HC := Lib.hid fun W hTW => rcompare_any (false, c2, c3) (h1, h2, h3) W hTW hsz2.1 hsz2.2 hsz3.1 hsz3.2
                generalize Nt.rCmp (false, c2, c3) (h1, h2, h3) = v at HC hle
                unfold rout rv at HA
                unfold rv at HC
                dsimp only at HA HC
                obtain ⟨p, rfl, -, e0, e1, e2⟩ := RL.at (n := q) (ds := Nt.stt q (Nt.splitR ds ps t)) HR3.out hcx
                have y0 := below_cell HBq.out e0
                have y1 := below_cell HBq.out e1
                have y2 := below_cell HBq.out e2
                dsimp only at y0 y1 y2
                obtain ⟨⟨x0, x1, x2⟩, -⟩ := cells3 HSQ.out
                have hTq := hT.below (below_trans HB3.out HBq.out)
                have HTQ := Lib.hid hTq
                have k0 : (0 : Int) ≤ (k : Int) := Int.natCast_nonneg _
                have k1 : (k : Int) < (q : Int) := by omega
                clear hov1 hov2 hk12 hadd hsz1 hsz2 hsz3 hf2 hcx hwo hcm hcxe hmxe e0 e1 e2 hTq
                go_upto_region 29 with (fail)
                have HS7 : Hid (∀ {W}, Below wq.heap.size wq W → W.cell? ⟨W4.heap.size, 0, none⟩ = some (.bool s1) ∧ W.cell? ⟨W4.heap.size, 1, none⟩ = some (.string s2) ∧ W.cell? ⟨W4.heap.size, 2, none⟩ = some (.string s3) ∧ W.cell? (p.add (k * 3)) = some (.bool false) ∧ W.cell? ⟨(p.add (k * 3)).block, (p.add (k * 3)).off + 1, none⟩ = some (.string c2) ∧ W.cell? ⟨(p.add (k * 3)).block, (p.add (k * 3)).off + 2, none⟩ = some (.string c3)) := fun h => ⟨below_cell h x0, below_cell h x1, below_cell h x2, below_cell h y0, below_cell h y1, below_cell h y2⟩
                have HTW : Hid (∀ {W}, Below wq.heap.size wq W → Tab W) := fun h => HTQ.out.below h
                have hg := Below.refl wq.heap.size wq
                go_region_held3 (fun W => W.cell? ⟨W4.heap.size, 0, none⟩ = some (.bool s1) ∧ W.cell? ⟨W4.heap.size, 1, none⟩ = some (.string s2) ∧ W.cell? ⟨W4.heap.size, 2, none⟩ = some (.string s3) ∧ W.cell? (p.add (k * 3)) = some (.bool false) ∧ W.cell? ⟨(p.add (k * 3)).block, (p.add (k * 3)).off + 1, none⟩ = some (.string c2) ∧ W.cell? ⟨(p.add (k * 3)).block, (p.add (k * 3)).off + 2, none⟩ = some (.string c3))
                  (first | with_reducible exact HS7.out hg | with_reducible exact HS7.out hg.drew | exact HS7.out (hg.alloc hg.size _) | exact HS7.out (hg.drew.alloc hg.size _) | exact HS7.out (hg.alloc hg.size _).drew | exact HS7.out (((hg.setCell (Nat.le_refl _) _).setCell (Nat.le_refl _) _).setCell (Nat.le_refl _) _))
                  (first
                    | (go_at_call 24
                       refine (HA.out _ (HTW.out ((by first | with_reducible exact hg | with_reducible exact hg.drew | exact hg.alloc hg.size _ | exact (hg.alloc hg.size _).drew : Below wq.heap.size wq _)))).mono ?_
                       rintro e W' ⟨rfl, hb⟩
                       first
                         | (have hx := kept_new (below_trans (Below.refl _ _).drew hb); obtain ⟨⟨hx0, hx1, hx2⟩, hy0, hy1, hy2⟩ := cells3 hx; have hg := below_trans (hg.alloc hg.size _).drew hb)
                         | have hg := below_trans hg.drew hb))
                all_goals
                  clear x0 x1 x2 y0 y1 y2
                  have HN30 : Hid (∀ {W}, Below wq.heap.size wq W → W.cell? (p.add (k * 3)) = some (.bool false) ∧ W.cell? ⟨(p.add (k * 3)).block, (p.add (k * 3)).off + 1, none⟩ = some (.string c2) ∧ W.cell? ⟨(p.add (k * 3)).block, (p.add (k * 3)).off + 2, none⟩ = some (.string c3) ∧ (W.cell? ⟨W5.heap.size, 0, none⟩ = some (.bool false) ∧ W.cell? ⟨W5.heap.size, 1, none⟩ = some (.string z2) ∧ W.cell? ⟨W5.heap.size, 2, none⟩ = some (.string z3)) ∧ (W.cell? ⟨W6.heap.size, 0, none⟩ = some (.bool h1) ∧ W.cell? ⟨W6.heap.size, 1, none⟩ = some (.string h2) ∧ W.cell? ⟨W6.heap.size, 2, none⟩ = some (.string h3))) := fun {W} h => by
                    obtain ⟨-, -, -, e0, e1, e2⟩ := HS7.out h
                    exact ⟨e0, e1, e2, (cells3 ((h.block _ (lt_of_block HZQ.out)).trans HZQ.out)).1, (cells3 ((h.block _ (lt_of_block HHQ.out)).trans HHQ.out)).1⟩
                  have hb9 : decide (0 < v) = false := decide_eq_false (by omega)
                  have hb8 : decide (v > 0) = false := decide_eq_false (by omega)
                  clear hle
                  first
                    | (obtain ⟨hx', hg'⟩ := set3 (x := .bool m1) (y := .string m2) (z := .string m3) hx hg (Nat.le_refl _)
                       have HX := Lib.hid hx'
                       have HG := Lib.hid hg'
                       clear hx hx0 hx1 hx2 hy0 hy1 hy2 hb hg hx' hg'
                       generalize ((W'.setCell ⟨wq.heap.size, 0, none⟩ (.bool m1)).setCell ⟨wq.heap.size, 1, none⟩ (.string m2)).setCell ⟨wq.heap.size, 2, none⟩ (.string m3) = Wn at *)
                    | (have hx' := kept_new (Below.refl _ (W'.alloc (.cells #[.bool m1, .string m2, .string m3] 57)))
                       have hg' := hg.alloc hg.size (.cells #[.bool m1, .string m2, .string m3] 57)
                       have HX := Lib.hid hx'
                       have HG := Lib.hid hg'
                       clear hb hg hx' hg'
                       generalize W'.alloc (.cells #[.bool m1, .string m2, .string m3] 57) = Wn at *)
                  by_cases hs0 : Nt.splitR ds ps t (k : Int) = 0
                  · obtain rfl : bb = false := by rw [HBB.out, decide_eq_false (fun h => h hs0)]
                    obtain ⟨rfl, rfl⟩ : c2 = z2 ∧ c3 = z3 := by
                      have := HCXE.out
                      rw [hs0] at this
                      have := this.symm.trans HZZ.out
                      simpa using this
                    clear hs0
                    go_upto_region 30 with (fail)
                    obtain ⟨y0, y1, y2, ⟨w0, w1, w2⟩, v0, v1, v2⟩ := HN30.out HG.out
                    have k_y0 := fun d os => Go.cell_regrown (w := Wn) y0 d os
                    have k_y1 := fun d os => Go.cell_regrown (w := Wn) y1 d os
                    have k_y2 := fun d os => Go.cell_regrown (w := Wn) y2 d os
                    have k_w0 := fun d os => Go.cell_regrown (w := Wn) w0 d os
                    have k_w1 := fun d os => Go.cell_regrown (w := Wn) w1 d os
                    have k_w2 := fun d os => Go.cell_regrown (w := Wn) w2 d os
                    have k_v0 := fun d os => Go.cell_regrown (w := Wn) v0 d os
                    have k_v1 := fun d os => Go.cell_regrown (w := Wn) v1 d os
                    have k_v2 := fun d os => Go.cell_regrown (w := Wn) v2 d os
                    have HTN := Lib.hid fun d os => tab_regrown (HTW.out HG.out) d os
                    refine wp_region_quiet_below (by kernel_rfl) (by kernel_rfl) ?_
                    repeat (first | go_big_quiet_step ((go_at_call 25; exact Calls.regrown_of (HC.out _ (HTN.out _ _)))) | quiet_step ((go_at_call 25; exact Calls.regrown_of (HC.out _ (HTN.out _ _)))))
                    refine wpQuiet_nil ?_
                    intro _ hw'
                    obtain ⟨⟨dq, osq⟩, hw''⟩ := hw'
                    subst hw''
                    have hg3 := Go.below_regrown Wn dq osq
                    generalize Go.Sort.grow (Go.redrawn Wn dq) osq = Wz at hg3 ⊢
                    clear k_y0 k_y1 k_y2 k_w0 k_w1 k_w2 k_v0 k_v1 k_v2 y0 y1 y2 w0 w1 w2 v0 v1 v2
                    have hxz := (hg3.block _ (lt_of_block HX.out)).trans HX.out
                    obtain ⟨⟨xa0, xa1, xa2⟩, -⟩ := cells3 hxz
                    have hgz := below_trans HG.out hg3
                    have hs4 := (hgz.block _ (lt_of_block HSQ.out)).trans HSQ.out
                    obtain ⟨⟨xs0, xs1, xs2⟩, xf0, xf1, xf2⟩ := cells3 hs4
                    have HREL := Lib.hid (splits_rel m1 m2 m3 (below_trans HBq.out hgz) (Nat.le_trans HBo.out.size hsz4) hs4 ((hgz.block _ (lt_of_block HZQ.out)).trans HZQ.out) ((hgz.block _ (lt_of_block HHQ.out)).trans HHQ.out) (by omega) (by omega))
                    clear hxz hgz hs4 hg3
                    go_wp2
                    go_roundw
                    case rel => exact ⟨k + 1, rfl, hlt, HREL.out.1, ⟨m1, m2, m3, HMXE.out, HREL.out.2.1⟩, HREL.out.2.2.1, HREL.out.2.2.2⟩
                    case measure => (simp [intOf] <;> omega)
                  · obtain rfl : bb = true := by rw [HBB.out, decide_eq_true hs0]
                    have hne : c2 = z2 → ¬ c3 = z3 := fun e1 e2 => hs0 (Nt.rs_inj (by rw [HCXE.out, HZZ.out, e1, e2]))
                    clear hs0
                    by_cases h2 : c2 = z2
                    · have hb7 : (c3.toList == z3.toList) = false := str_ne (hne h2)
                      clear hne
                      subst h2
                      go_upto_region 30 with (fail)
                      obtain ⟨y0, y1, y2, ⟨w0, w1, w2⟩, v0, v1, v2⟩ := HN30.out HG.out
                      have k_y0 := fun d os => Go.cell_regrown (w := Wn) y0 d os
                      have k_y1 := fun d os => Go.cell_regrown (w := Wn) y1 d os
                      have k_y2 := fun d os => Go.cell_regrown (w := Wn) y2 d os
                      have k_w0 := fun d os => Go.cell_regrown (w := Wn) w0 d os
                      have k_w1 := fun d os => Go.cell_regrown (w := Wn) w1 d os
                      have k_w2 := fun d os => Go.cell_regrown (w := Wn) w2 d os
                      have k_v0 := fun d os => Go.cell_regrown (w := Wn) v0 d os
                      have k_v1 := fun d os => Go.cell_regrown (w := Wn) v1 d os
                      have k_v2 := fun d os => Go.cell_regrown (w := Wn) v2 d os
                      have HTN := Lib.hid fun d os => tab_regrown (HTW.out HG.out) d os
                      refine wp_region_quiet_below (by kernel_rfl) (by kernel_rfl) ?_
                      repeat (first | go_big_quiet_step ((go_at_call 25; exact Calls.regrown_of (HC.out _ (HTN.out _ _)))) | quiet_step ((go_at_call 25; exact Calls.regrown_of (HC.out _ (HTN.out _ _)))))
                      refine wpQuiet_nil ?_
                      intro _ hw'
                      obtain ⟨⟨dq, osq⟩, hw''⟩ := hw'
                      subst hw''
                      have hg3 := Go.below_regrown Wn dq osq
                      generalize Go.Sort.grow (Go.redrawn Wn dq) osq = Wz at hg3 ⊢
                      clear k_y0 k_y1 k_y2 k_w0 k_w1 k_w2 k_v0 k_v1 k_v2 y0 y1 y2 w0 w1 w2 v0 v1 v2
                      have hxz := (hg3.block _ (lt_of_block HX.out)).trans HX.out
                      obtain ⟨⟨xa0, xa1, xa2⟩, -⟩ := cells3 hxz
                      have hgz := below_trans HG.out hg3
                      have hs4 := (hgz.block _ (lt_of_block HSQ.out)).trans HSQ.out
                      obtain ⟨⟨xs0, xs1, xs2⟩, xf0, xf1, xf2⟩ := cells3 hs4
                      have HREL := Lib.hid (splits_rel m1 m2 m3 (below_trans HBq.out hgz) (Nat.le_trans HBo.out.size hsz4) hs4 ((hgz.block _ (lt_of_block HZQ.out)).trans HZQ.out) ((hgz.block _ (lt_of_block HHQ.out)).trans HHQ.out) (by omega) (by omega))
                      clear hxz hgz hs4 hg3
                      go_wp2
                      go_roundw
                      case rel => exact ⟨k + 1, rfl, hlt, HREL.out.1, ⟨m1, m2, m3, HMXE.out, HREL.out.2.1⟩, HREL.out.2.2.1, HREL.out.2.2.2⟩
                      case measure => (simp [intOf] <;> omega)
                    · have hb7 : (c2.toList == z2.toList) = false := str_ne h2
                      clear hne h2
                      go_upto_region 30 with (fail)
                      obtain ⟨y0, y1, y2, ⟨w0, w1, w2⟩, v0, v1, v2⟩ := HN30.out HG.out
                      have k_y0 := fun d os => Go.cell_regrown (w := Wn) y0 d os
                      have k_y1 := fun d os => Go.cell_regrown (w := Wn) y1 d os
                      have k_y2 := fun d os => Go.cell_regrown (w := Wn) y2 d os
                      have k_w0 := fun d os => Go.cell_regrown (w := Wn) w0 d os
                      have k_w1 := fun d os => Go.cell_regrown (w := Wn) w1 d os
                      have k_w2 := fun d os => Go.cell_regrown (w := Wn) w2 d os
                      have k_v0 := fun d os => Go.cell_regrown (w := Wn) v0 d os
                      have k_v1 := fun d os => Go.cell_regrown (w := Wn) v1 d os
                      have k_v2 := fun d os => Go.cell_regrown (w := Wn) v2 d os
                      have HTN := Lib.hid fun d os => tab_regrown (HTW.out HG.out) d os
                      refine wp_region_quiet_below (by kernel_rfl) (by kernel_rfl) ?_
                      repeat (first | go_big_quiet_step ((go_at_call 25; exact Calls.regrown_of (HC.out _ (HTN.out _ _)))) | quiet_step ((go_at_call 25; exact Calls.regrown_of (HC.out _ (HTN.out _ _)))))
                      refine wpQuiet_nil ?_
                      intro _ hw'
                      obtain ⟨⟨dq, osq⟩, hw''⟩ := hw'
                      subst hw''
                      have hg3 := Go.below_regrown Wn dq osq
                      generalize Go.Sort.grow (Go.redrawn Wn dq) osq = Wz at hg3 ⊢
                      clear k_y0 k_y1 k_y2 k_w0 k_w1 k_w2 k_v0 k_v1 k_v2 y0 y1 y2 w0 w1 w2 v0 v1 v2
                      have hxz := (hg3.block _ (lt_of_block HX.out)).trans HX.out
                      obtain ⟨⟨xa0, xa1, xa2⟩, -⟩ := cells3 hxz
                      have hgz := below_trans HG.out hg3
                      have hs4 := (hgz.block _ (lt_of_block HSQ.out)).trans HSQ.out
                      obtain ⟨⟨xs0, xs1, xs2⟩, xf0, xf1, xf2⟩ := cells3 hs4
                      have HREL := Lib.hid (splits_rel m1 m2 m3 (below_trans HBq.out hgz) (Nat.le_trans HBo.out.size hsz4) hs4 ((hgz.block _ (lt_of_block HZQ.out)).trans HZQ.out) ((hgz.block _ (lt_of_block HHQ.out)).trans HHQ.out) (by omega) (by omega))
                      clear hxz hgz hs4 hg3
                      go_wp2
                      go_roundw
                      case rel => exact ⟨k + 1, rfl, hlt, HREL.out.1, ⟨m1, m2, m3, HMXE.out, HREL.out.2.1⟩, HREL.out.2.2.1, HREL.out.2.2.2⟩
                      case measure => (simp [intOf] <;> omega)
          · obtain rfl : k = q := by omega
            have he : Nt.rs (Nt.partial_ ds ps t k) = (h1, h2, h3) := by
              rw [← HHH.out]
              congr 1
              exact Nt.split_total HDP.out
            obtain ⟨rfl, rfl, rfl⟩ : s1 = h1 ∧ s2 = h2 ∧ s3 = h3 := by
              have := hsum.symm.trans he
              simpa using this
            obtain ⟨⟨x0, x1, x2⟩, -⟩ := cells3 hS
            obtain ⟨⟨y0, y1, y2⟩, -⟩ := cells3 hH
            have HBf := Lib.hid (below_trans HB3.out hB)
            clear hsum hS hZ hH hB he hlt hk
            go_wp2
            go_ret
            exact ⟨rfl, HBf.out⟩
end Go.Proofs.YtcphclpekllcoaaGreatDoor
