/- Walks: the law DebtOrder. -/
import Derived.Test.YtcphclpekllcoaaGreatDoorF1
import Derived.Test.YtcphclpekllcoaaGreatDoorAp
import Derived.Test.YtcphclpekllcoaaGreatDoorOrd
namespace Go.Proofs.YtcphclpekllcoaaGreatDoor
open Go.RowKit

theorem settleR_rev (ds : List Nt.Deb) (ps : List Nt.Pay) (t : Int) : settleR ds.reverse ps t = ((settleR ds ps t).1.reverse, (settleR ds ps t).2) := by
  unfold settleR
  rw [Nt.allOk_rev, Nt.settle_rev]
  split <;> rfl
theorem settleR_len (ds : List Nt.Deb) (ps : List Nt.Pay) (t : Int) : (settleR ds ps t).1.length ≤ ds.length := by
  unfold settleR
  split
  · simp [Nt.settle]
  · simp
theorem split_len (ds : List Nt.Deb) (ps : List Nt.Pay) (t n : Int) : (Nt.split ds ps t n).1.length ≤ 64 := by
  unfold Nt.split
  split
  · rename_i h
    unfold Nt.splitOk Nt.win at h
    simp only [Bool.and_eq_true, decide_eq_true_eq] at h
    simp; omega
  · simp
theorem drop_rev {ds : List Nt.Deb} {r : Nat} {d : Nt.Deb} (h : ds[r]? = some d) : (ds.drop r).reverse = (ds.drop (r + 1)).reverse ++ [d] := by
  have hr := (List.getElem?_eq_some_iff.1 h).1
  have e : ds.drop r = d :: ds.drop (r + 1) := by
    rw [List.drop_eq_getElem_cons hr]
    congr 1
    rw [List.getElem?_eq_getElem hr] at h
    exact Option.some.inj h
  rw [e, List.reverse_cons]

/-- A row of debts that the call owns. -/
def DO (W : World) (B : Nat) (v : Value) (ds : List Nt.Deb) : Prop := W.ownsRow B 47 6 v (ds.map dcells).length (ds.map dcells).flatten
theorem DO.dl {W : World} {B : Nat} {v : Value} {ds : List Nt.Deb} (h : DO W B v ds) : DL W v ds := SC.of_own deb_len rfl h
theorem DO.below {W W' : World} {B : Nat} {v : Value} {ds : List Nt.Deb} (h : DO W B v ds) (hb : Below W.heap.size W W') : DO W' B v ds := h.kept_below hb

set_option maxHeartbeats 12800000 in
set_option maxRecDepth 100000 in
theorem order_law (dv : Value) (ds : List Nt.Deb) (pv : Value) (ps : List Nt.Pay) (t np : Int) (w : World) (hT : Tab w) (hd : DL w dv ds) (hp : PL w pv ps) :
    Calls Tryz.prog 6 #[dv, pv, .int .i64 t, .int .i64 np] w fun e w' => e = .returned (.bool true) ∧ Below w.heap.size w w' := by
  obtain ⟨pa, pc, rfl⟩ := hp.len
  obtain ⟨da, dc, rfl⟩ := hd.len
  have HH := Lib.hid fun W hTW => head_any W hTW
  have HP := Lib.hid hp
  have HD := Lib.hid hd
  clear hp hd
  by_cases hl : 12 < ds.length
  · go_enter Tryz.func6, Tryz.ntmps6
    go_wp2_with fail
    refine (HH.out _ hT).mono ?_
    rintro e W1 ⟨rfl, hb1⟩
    have HB1 := Lib.hid hb1
    clear hb1
    go_wp2
    go_ret
    exact ⟨rfl, HB1.out⟩
  have b0 : decide (12 < ds.length) = false := decide_eq_false hl
  by_cases hl2 : 12 < ps.length
  · go_enter Tryz.func6, Tryz.ntmps6
    go_wp2_with fail
    refine (HH.out _ hT).mono ?_
    rintro e W1 ⟨rfl, hb1⟩
    have HB1 := Lib.hid hb1
    clear hb1
    go_wp2
    go_ret
    exact ⟨rfl, HB1.out⟩
  have b1 : decide (12 < ps.length) = false := decide_eq_false hl2
  obtain ⟨i0, hi, hz0, hz1, hz2⟩ := info_parts info_deb
  have HS := Lib.hid fun dv W hd hp => settle_all dv (.slice pa ps.length pc) ds ps t W hd hp
  have HSr := Lib.hid fun dv W hd hp => settle_all dv (.slice pa ps.length pc) ds.reverse ps t W hd hp
  rw [settleR_rev] at HSr
  have HX := Lib.hid fun dv W hT hd hp => split_all dv (.slice pa ps.length pc) ds ps t np W hT hd hp
  have HXr := Lib.hid fun dv W hT hd hp => split_all dv (.slice pa ps.length pc) ds.reverse ps t np W hT hd hp
  rw [Nt.split_rev] at HXr
  have HXt := Lib.hid fun dv W hT hd hp => split_all dv (.slice pa ps.length pc) (ds ++ ds.reverse) ps t np W hT hd hp
  rw [Nt.split_twice ds ps t np (by omega)] at HXt
  have hal := settleR_len ds ps t
  have hxl := split_len ds ps t np
  generalize settleR ds ps t = A at *
  generalize Nt.split ds ps t np = X at *
  obtain ⟨al, ae⟩ := A
  obtain ⟨xl, xe⟩ := X
  dsimp only at HS HSr HX HXr HXt hal hxl
  obtain ⟨n, hn⟩ : ∃ n, ds.length = n := ⟨_, rfl⟩
  rw [hn] at HD b0 hl hal ⊢
  have HN := Lib.hid hn
  clear hn
  go_enter Tryz.func6, Tryz.ntmps6
  go_wp2_with fail
  refine (HH.out _ hT).mono ?_
  rintro e W1 ⟨rfl, hb1⟩
  have HB1 := Lib.hid hb1
  clear hb1
  go_wp2_with fail
  go_loopw [10, 11] (fun v i wr => ∃ r : Nat, i = .int .i64 ((r : Int) - 1) ∧ r ≤ n ∧ Below W1.heap.size W1 wr ∧ DO wr W1.heap.size v (ds.drop r).reverse) (fun _ i _ => (intOf i + 1).toNat)
  case atStart => exact ⟨n, rfl, Nat.le_refl _, Below.refl _ _, by rw [List.drop_eq_nil_of_le (by rw [HN.out]; exact Nat.le_refl _)]; exact World.ownsRow_nil _ _ _ _⟩
  case round =>
    obtain ⟨r, rfl, hr, hB, hO⟩ := hrel
    cases r with
    | succ r =>
      obtain ⟨d, hd⟩ : ∃ d, ds[r]? = some d := ⟨_, List.getElem?_eq_getElem (by rw [HN.out]; omega)⟩
      obtain ⟨p, rfl, -, e0, e1, e2, e3, e4, e5⟩ := DL.at HD.out hd
      have hbw := below_trans HB1.out hB
      have z0 := below_cell hbw e0
      have z1 := below_cell hbw e1
      have z2 := below_cell hbw e2
      have z3 := below_cell hbw e3
      have z4 := below_cell hbw e4
      have z5 := below_cell hbw e5
      have hdr := drop_rev hd
      obtain ⟨dk, dt, df, dfr, dun, dpr⟩ := d
      dsimp only at z0 z1 z2 z3 z4 z5
      rw [show ((r + 1 : Nat) : Int) - 1 = (r : Int) by omega]
      have h0 : (0 : Int) ≤ (r : Int) := Int.natCast_nonneg _
      have h1 : (r : Int) < (n : Int) := by omega
      have hba := below_alloc wr (.cells #[.int .i64 dk, .int .i64 dt, .int .i64 df, .int .i64 dfr, .int .i64 dun, .int .i64 dpr] 47)
      have hO' := hO.below hba
      have hS := sc_one (k := 6) (t := 47) (y := dcells ⟨dk, dt, df, dfr, dun, dpr⟩) rfl (kept_new (Below.refl _ (wr.alloc (.cells #[.int .i64 dk, .int .i64 dt, .int .i64 df, .int .i64 dfr, .int .i64 dun, .int .i64 dpr] 47))))
      have HO := Lib.hid hO'
      have HSC := Lib.hid hS
      have HB2 := Lib.hid (below_trans hB hba)
      have HDR := Lib.hid hdr
      have hle : W1.heap.size ≤ wr.heap.size + 1 := by have := hB.size; omega
      have hcap : ((ds.drop (r + 1)).reverse.map dcells).length ≤ 12 := by simp; rw [HN.out]; omega
      clear e0 e1 e2 e3 e4 e5 hbw hdr hd hO hO' hS hba hB
      go_wp2_with (at_builtin; go_must (refine wpList_append_rows (k := 6) (bytes := 48) rfl _ _ rfl W1.heap.size Tryz.underlying26 hi hz0 hz1 hz2 rfl (by decide) (by decide) _ _ ((ds.drop (r + 1)).reverse.map dcells) [dcells ⟨dk, dt, df, dfr, dun, dpr⟩] rfl rfl HO.out HSC.out (deb_len (ds := [⟨dk, dt, df, dfr, dun, dpr⟩])) (deb_one (ds := [⟨dk, dt, df, dfr, dun, dpr⟩])) (by simpa using hle) (by simp at hcap ⊢; omega) ?_); intro v' w' hv' hb')
      have HV' := Lib.hid hv'
      have HB' := Lib.hid hb'
      clear hv' hb' z0 z1 z2 z3 z4 z5 hcap
      go_wp2
      go_roundw
      case rel => exact ⟨r, rfl, by omega, HB2.out.trans HB'.out, by rw [HDR.out]; unfold DO; rw [List.map_append]; exact HV'.out⟩
      case measure => (simp [intOf] <;> omega)
    | zero =>
      obtain ⟨wo, rfl⟩ : ∃ wo : World, wo = wr := ⟨wr, rfl⟩
      rw [List.drop_zero] at hO
      have HO := Lib.hid hO
      have HBo := Lib.hid hB
      obtain ⟨oa, oc, hov⟩ := hO.dl.len
      rw [List.length_reverse, HN.out] at hov
      subst hov
      clear hO hB hr
      go_wp2_with fail
      refine (HS.out _ _ (HD.out.below (below_trans HB1.out HBo.out)) (HP.out.below (below_trans HB1.out HBo.out))).mono ?_
      rintro e W2 ⟨⟨v2, rfl, hi2⟩, hb2⟩
      have HI2 := Lib.hid hi2
      have HBo2 := Lib.hid (below_trans HBo.out hb2)
      have HO2 := Lib.hid (HO.out.below hb2)
      clear hi2 hb2
      go_wp2_with fail
      refine (HSr.out _ _ HO2.out.dl (HP.out.below (below_trans HB1.out HBo2.out))).mono ?_
      rintro e W3 ⟨⟨v3, rfl, hi3⟩, hb3⟩
      have HI3 := Lib.hid hi3
      have HI23 := Lib.hid (HI2.out.below hb3)
      have HBo3 := Lib.hid (below_trans HBo2.out hb3)
      have HO3 := Lib.hid (HO2.out.below hb3)
      clear hi3 hb3
      go_wp2_with fail
      refine (HX.out _ _ (hT.below (below_trans HB1.out HBo3.out)) (HD.out.below (below_trans HB1.out HBo3.out)) (HP.out.below (below_trans HB1.out HBo3.out))).mono ?_
      rintro e W4 ⟨⟨v4, rfl, hr4⟩, hb4⟩
      have HR4 := Lib.hid hr4
      have HB34 := Lib.hid hb4
      have HBo4 := Lib.hid (below_trans HBo3.out hb4)
      have HO4 := Lib.hid (HO3.out.below hb4)
      clear hr4 hb4
      go_wp2_with fail
      refine (HXr.out _ _ (hT.below (below_trans HB1.out HBo4.out)) HO4.out.dl (HP.out.below (below_trans HB1.out HBo4.out))).mono ?_
      rintro e W5 ⟨⟨v5, rfl, hr5⟩, hb5⟩
      have HR5 := Lib.hid hr5
      have HR45 := Lib.hid (RL.below HR4.out hb5)
      have HB35 := Lib.hid (below_trans HB34.out hb5)
      have HBo5 := Lib.hid (below_trans HBo4.out hb5)
      have HO5 := Lib.hid (HO4.out.below hb5)
      clear hr5 hb5
      have hba := below_alloc W5 (.cells #[] 47)
      have HBA := Lib.hid hba
      have HO0 : Hid ((W5.alloc (.cells #[] 47)).ownsRow W5.heap.size 47 6 (.slice (some ⟨W5.heap.size, 0, none⟩) 0 0) 0 []) := World.ownsRow_made W5 #[] 0 (Nat.le_refl _) (by unfold maxLen; omega) rfl
      have HD5 := Lib.hid (HD.out.below (below_trans HB1.out (below_trans HBo5.out hba)))
      have HDN := Lib.hid (show (ds.map dcells).length ≤ 12 by rw [List.length_map, HN.out]; omega)
      clear hba
      go_wp2_with (first
        | (at_builtin; refine wpList_append_rows (k := 6) (bytes := 48) rfl _ _ rfl W5.heap.size Tryz.underlying26 hi hz0 hz1 hz2 rfl (by decide) (by decide) (.slice (some ⟨W5.heap.size, 0, none⟩) 0 0) (.slice da n dc) [] (ds.map dcells) rfl rfl HO0.out HD5.out deb_len deb_one (by simp) (by have := HDN.out; simp at this ⊢; omega) ?_; intro v6 W6 hv6 hb6)
        | (at_builtin; refine wpList_append_rows (k := 6) (bytes := 48) rfl _ _ rfl W5.heap.size Tryz.underlying26 hi hz0 hz1 hz2 rfl (by decide) (by decide) v6 (.slice oa n oc) ([] ++ ds.map dcells) (ds.reverse.map dcells) rfl rfl hv6 (HO5.out.dl.below (HBA.out.trans hb6)) deb_len deb_one (HBA.out.trans hb6).size (by have := HDN.out; simp at this ⊢; omega) ?_; intro v7 W7 hv7 hb7))
      have hb57 : Below W5.heap.size W5 W7 := HBA.out.trans (hb6.trans hb7)
      have hd7 : DL W7 v7 (ds ++ ds.reverse) := SC.of_own (k := 6) (xs := (ds ++ ds.reverse).map dcells) deb_len rfl (by rw [List.map_append]; exact hv7)
      have HD7 := Lib.hid hd7
      have HB57 := Lib.hid hb57
      have HBo7 := Lib.hid (below_trans HBo5.out hb57)
      clear hb57 hd7 hv6 hv7 hb6 hb7
      refine (HXt.out _ _ (hT.below (below_trans HB1.out HBo7.out)) HD7.out (HP.out.below (below_trans HB1.out HBo7.out))).mono ?_
      rintro e W8 ⟨⟨v8, rfl, hr8⟩, hb8⟩
      have HB58 := Lib.hid (below_trans HB57.out hb8)
      have HBo8 := Lib.hid (below_trans HBo7.out hb8)
      have HR8 := Lib.hid hr8
      have HR48 := Lib.hid (RL.below HR45.out HB58.out)
      have HR58 := Lib.hid (RL.below HR5.out HB58.out)
      have HI28 := Lib.hid (HI23.out.below (below_trans HB35.out HB58.out))
      have HI38 := Lib.hid (HI3.out.below (below_trans HB35.out HB58.out))
      clear hr8 hb8
      have HRA1 := Lib.hid fun W (h : Below W8.heap.size W8 W) => rats_any v4 v5 xl xl W (RL.below HR48.out h) (RL.below HR58.out h) (by omega) (by omega)
      have HRA2 := Lib.hid fun W (h : Below W8.heap.size W8 W) => rats_any v4 v8 xl xl W (RL.below HR48.out h) (RL.below HR8.out h) (by omega) (by omega)
      rw [decide_eq_true rfl] at HRA1 HRA2
      obtain ⟨aa, ac, rfl⟩ := HI28.out.len
      obtain ⟨ba, bc, rfl⟩ := HI38.out.len
      rw [List.length_reverse] at HI38 ⊢
      obtain ⟨m, hm⟩ : ∃ m, al.length = m := ⟨_, rfl⟩
      have HMM := Lib.hid hm
      rw [hm] at HI28 HI38 hal ⊢
      clear hm
      go_wp2_with fail
      refine (HRA1.out _ (Below.refl _ _)).mono ?_
      rintro e W9 ⟨rfl, hb9⟩
      have HB9 := Lib.hid hb9
      clear hb9
      go_wp2_with fail
      refine (HRA2.out _ HB9.out).mono ?_
      rintro e W10 ⟨rfl, hb10⟩
      have HB10 := Lib.hid (below_trans HB9.out hb10)
      clear hb10
      go_wp2_with fail
      go_loopw [22] (fun i wr => ∃ k : Nat, i = .int .i64 k ∧ k ≤ m ∧ Below W8.heap.size W8 wr) (fun i _ => m - (intOf i).toNat)
      case atStart => exact ⟨0, rfl, Nat.zero_le _, HB10.out⟩
      case round =>
        obtain ⟨k, rfl, hk, hB⟩ := hrel
        by_cases hlt : k < m
        · obtain ⟨j, hj⟩ : ∃ j, m = k + 1 + j := ⟨m - k - 1, by omega⟩
          obtain ⟨x, hx⟩ : ∃ x, al[k]? = some x := ⟨_, List.getElem?_eq_getElem (by rw [HMM.out]; exact hlt)⟩
          have hy : al.reverse[j]? = some x := by
            rw [List.getElem?_reverse (by rw [HMM.out]; omega), HMM.out, show m - 1 - j = k by omega]; exact hx
          obtain ⟨g, rfl, -, c0⟩ := IL.at HI28.out hx
          obtain ⟨g', rfl, -, c1⟩ := IL.at HI38.out hy
          have d0 := below_cell hB c0
          have d1 := below_cell hB c1
          have HB := Lib.hid hB
          have h0 : (0 : Int) ≤ (k : Int) := Int.natCast_nonneg _
          have h1 : (k : Int) < (m : Int) := by omega
          have h2 : (m : Int) - 1 - (k : Int) = (j : Int) := by omega
          have h3 : (0 : Int) ≤ (j : Int) := Int.natCast_nonneg _
          have h4 : (j : Int) < (m : Int) := by omega
          clear c0 c1 hB hx hy hj
          go_wp2_with fail
          go_quiet (fail)
          go_wp2
          go_roundw
          case rel => exact ⟨k + 1, rfl, hlt, below_drewN HB.out _⟩
          case measure => (simp [intOf] <;> omega)
        · obtain rfl : k = m := by omega
          have HB := Lib.hid (below_trans HB1.out (below_trans HBo8.out hB))
          clear hB hlt hk
          go_wp2
          go_ret
          exact ⟨rfl, HB.out⟩
end Go.Proofs.YtcphclpekllcoaaGreatDoor
