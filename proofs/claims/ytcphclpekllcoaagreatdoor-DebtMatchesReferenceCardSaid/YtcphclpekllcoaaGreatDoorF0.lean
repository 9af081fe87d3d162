/- Walks: the law DebtMatchesReference. -/
import Derived.Test.YtcphclpekllcoaaGreatDoorRo
namespace Go.Proofs.YtcphclpekllcoaaGreatDoor
open Go.RowKit

theorem cells9a {W : World} {N : Nat} {t : TypeId} {a b c d e f g h i : Value} (hb : W.heap[N]? = some (.cells #[a, b, c, d, e, f, g, h, i] t)) :
    W.cell? ⟨N, 0, none⟩ = some a ∧ W.cell? ⟨N, 1, none⟩ = some b ∧ W.cell? ⟨N, 2, none⟩ = some c ∧ W.cell? ⟨N, 3, none⟩ = some d ∧ W.cell? ⟨N, 4, none⟩ = some e ∧ W.cell? ⟨N, 5, none⟩ = some f ∧ W.cell? ⟨N, 6, none⟩ = some g ∧ W.cell? ⟨N, 7, none⟩ = some h ∧ W.cell? ⟨N, 8, none⟩ = some i :=
  ⟨by simp [World.cell?, hb], by simp [World.cell?, hb], by simp [World.cell?, hb], by simp [World.cell?, hb], by simp [World.cell?, hb], by simp [World.cell?, hb], by simp [World.cell?, hb], by simp [World.cell?, hb], by simp [World.cell?, hb]⟩

set_option maxHeartbeats 6400000 in
set_option maxRecDepth 100000 in
theorem match_law (fr : Frm) (dv : Value) (ds : List Nt.Deb) (pv : Value) (ps : List Nt.Pay) (t np : Int) (w : World) (hT : Tab w) (hd : DL w dv ds) (hp : PL w pv ps) :
    Calls Tryz.prog 3 #[fv fr, dv, pv, .int .i64 t, .int .i64 np] w fun e w' => e = .returned (.bool true) ∧ Below w.heap.size w w' := by
  have HH := Lib.hid fun W hTW => head_any W hTW
  have HFEW := Lib.hid fun W hd hp => r18few_any dv pv ds ps W hd hp
  have HO1 := Lib.hid fun W => owe_all fr W
  have HO2 := Lib.hid fun W => r18owe_all fr W
  have HS1 := Lib.hid fun W hd hp => settle_all dv pv ds ps t W hd hp
  have HS2 := Lib.hid fun W hd hp => r18settle_all dv pv ds ps t W hd hp
  have HP1 := Lib.hid fun W hp => paid_any fr pv ps t W hp
  have HP2 := Lib.hid fun W hp => r18paid_any fr pv ps t W hp
  have HX1 := Lib.hid fun W hT hd hp => split_all dv pv ds ps t np W hT hd hp
  have HX2 := Lib.hid fun W hd hp => r18split_all dv pv ds ps t np W hd hp
  have hl1 : (oweR fr).1.length ≤ 1000000 := by unfold oweR; split <;> simp [owe]
  have hl2 : (settleR ds ps t).1.length ≤ 1000000 := by
    unfold settleR
    split
    · rename_i h
      unfold Nt.allOk at h
      simp only [Bool.and_eq_true, decide_eq_true_eq] at h
      unfold Nt.settle
      rw [List.length_map]
      omega
    · simp
  have hl3 : (Nt.split ds ps t np).1.length ≤ 1000000 := by
    unfold Nt.split
    split
    · rename_i h
      dsimp only
      rw [List.length_map, List.length_range]
      unfold Nt.splitOk Nt.win at h
      simp only [Bool.and_eq_true, decide_eq_true_eq] at h
      omega
    · simp
  have HL1 := Lib.hid hl1
  have HL2 := Lib.hid hl2
  have HL3 := Lib.hid hl3
  clear hl1 hl2 hl3
  generalize oweR fr = ro at *
  generalize settleR ds ps t = rse at *
  generalize Nt.split ds ps t np = rsp at *
  generalize paid fr ps t = rpa at *
  obtain ⟨o1, o2⟩ := ro
  obtain ⟨s1, s2⟩ := rse
  obtain ⟨x1, x2⟩ := rsp
  obtain ⟨p1, p2⟩ := rpa
  dsimp only at *
  obtain ⟨da, dc, rfl⟩ := hd.len
  obtain ⟨pa, pc, rfl⟩ := hp.len
  have HD := Lib.hid hd
  have HP := Lib.hid hp
  clear hd hp
  generalize ds.length = n at *
  generalize ps.length = m at *
  have HB := Lib.hid (below_alloc w (.cells (fcells fr) 25))
  have HK := Lib.hid (kept_new (Below.refl _ (w.alloc (.cells (fcells fr) 25))))
  obtain ⟨fat, ft, fpr, fti, ff, q0, q1, q2, q3⟩ := fr
  unfold fv at *
  unfold fcells at *
  dsimp only at *
  go_enter Tryz.func3, Tryz.ntmps3
  go_wp2_with fail
  refine (HH.out _ (hT.below HB.out)).mono ?_
  rintro e W1 ⟨rfl, hb1⟩
  have HK1 := Lib.hid ((hb1.block _ (lt_of_block HK.out)).trans HK.out)
  have HB1 := Lib.hid (below_trans HB.out hb1)
  clear hb1
  go_wp2_with fail
  refine (HFEW.out _ (HD.out.below HB1.out) (HP.out.below HB1.out)).mono ?_
  rintro e W2 ⟨b, rfl, rfl⟩
  cases b with
  | false =>
    go_wp2
    go_ret
    exact ⟨rfl, HB1.out⟩
  | true =>
    obtain ⟨k0, k1, k2, k3, k4, k5, k6, k7, k8⟩ := cells9a HK1.out
    go_wp2_with fail
    refine (HO1.out _).mono ?_
    rintro e W2 ⟨⟨v2, rfl, h2⟩, hb2⟩
    obtain ⟨a2, c2, rfl⟩ := h2.len
    have HV2 := Lib.hid h2
    have HK2 := Lib.hid ((hb2.block _ (lt_of_block HK1.out)).trans HK1.out)
    have HB2 := Lib.hid (below_trans HB1.out hb2)
    clear h2 hb2 k0 k1 k2 k3 k4 k5 k6 k7 k8
    obtain ⟨k0, k1, k2, k3, k4, k5, k6, k7, k8⟩ := cells9a HK2.out
    go_wp2_with fail
    refine (HO2.out _).mono ?_
    rintro e W3 ⟨⟨v3, rfl, h3⟩, hb3⟩
    obtain ⟨a3, c3, rfl⟩ := h3.len
    have HV3 := Lib.hid h3
    have HV2 := Lib.hid (SC.below HV2.out hb3)
    have HK3 := Lib.hid ((hb3.block _ (lt_of_block HK2.out)).trans HK2.out)
    have HB3 := Lib.hid (below_trans HB2.out hb3)
    clear h3 hb3 k0 k1 k2 k3 k4 k5 k6 k7 k8
    go_wp2_with fail
    refine (HS1.out _ (HD.out.below HB3.out) (HP.out.below HB3.out)).mono ?_
    rintro e W4 ⟨⟨v4, rfl, h4⟩, hb4⟩
    obtain ⟨a4, c4, rfl⟩ := h4.len
    have HV4 := Lib.hid h4
    have HV2 := Lib.hid (SC.below HV2.out hb4)
    have HV3 := Lib.hid (SC.below HV3.out hb4)
    have HK4 := Lib.hid ((hb4.block _ (lt_of_block HK3.out)).trans HK3.out)
    have HB4 := Lib.hid (below_trans HB3.out hb4)
    clear h4 hb4
    go_wp2_with fail
    refine (HS2.out _ (HD.out.below HB4.out) (HP.out.below HB4.out)).mono ?_
    rintro e W5 ⟨⟨v5, rfl, h5⟩, hb5⟩
    obtain ⟨a5, c5, rfl⟩ := h5.len
    have HV5 := Lib.hid h5
    have HV2 := Lib.hid (SC.below HV2.out hb5)
    have HV3 := Lib.hid (SC.below HV3.out hb5)
    have HV4 := Lib.hid (IL.below HV4.out hb5)
    have HK5 := Lib.hid ((hb5.block _ (lt_of_block HK4.out)).trans HK4.out)
    have HB5 := Lib.hid (below_trans HB4.out hb5)
    clear h5 hb5
    obtain ⟨k0, k1, k2, k3, k4, k5, k6, k7, k8⟩ := cells9a HK5.out
    go_wp2_with fail
    refine (HP1.out _ (HP.out.below HB5.out)).mono ?_
    rintro e W6 ⟨rfl, hb6⟩
    have HV2 := Lib.hid (SC.below HV2.out hb6)
    have HV3 := Lib.hid (SC.below HV3.out hb6)
    have HV4 := Lib.hid (IL.below HV4.out hb6)
    have HV5 := Lib.hid (IL.below HV5.out hb6)
    have HK6 := Lib.hid ((hb6.block _ (lt_of_block HK5.out)).trans HK5.out)
    have HB6 := Lib.hid (below_trans HB5.out hb6)
    clear hb6 k0 k1 k2 k3 k4 k5 k6 k7 k8
    obtain ⟨k0, k1, k2, k3, k4, k5, k6, k7, k8⟩ := cells9a HK6.out
    go_wp2_with fail
    refine (HP2.out _ (HP.out.below HB6.out)).mono ?_
    rintro e W7 ⟨rfl, hb7⟩
    have HV2 := Lib.hid (SC.below HV2.out hb7)
    have HV3 := Lib.hid (SC.below HV3.out hb7)
    have HV4 := Lib.hid (IL.below HV4.out hb7)
    have HV5 := Lib.hid (IL.below HV5.out hb7)
    have HB7 := Lib.hid (below_trans HB6.out hb7)
    clear hb7 k0 k1 k2 k3 k4 k5 k6 k7 k8
    go_wp2_with fail
    refine (HX1.out _ (hT.below HB7.out) (HD.out.below HB7.out) (HP.out.below HB7.out)).mono ?_
    rintro e W8 ⟨⟨v8, rfl, h8⟩, hb8⟩
    obtain ⟨a8, c8, rfl⟩ := h8.len
    have HV8 := Lib.hid h8
    have HV2 := Lib.hid (SC.below HV2.out hb8)
    have HV3 := Lib.hid (SC.below HV3.out hb8)
    have HV4 := Lib.hid (IL.below HV4.out hb8)
    have HV5 := Lib.hid (IL.below HV5.out hb8)
    have HB8 := Lib.hid (below_trans HB7.out hb8)
    clear h8 hb8
    go_wp2_with fail
    refine (HX2.out _ (HD.out.below HB8.out) (HP.out.below HB8.out)).mono ?_
    rintro e W9 ⟨⟨v9, rfl, h9⟩, hb9⟩
    obtain ⟨a9, c9, rfl⟩ := h9.len
    have HV9 := Lib.hid h9
    have HV2 := Lib.hid (SC.below HV2.out hb9)
    have HV3 := Lib.hid (SC.below HV3.out hb9)
    have HV4 := Lib.hid (IL.below HV4.out hb9)
    have HV5 := Lib.hid (IL.below HV5.out hb9)
    have HV8 := Lib.hid (SC.below HV8.out hb9)
    have HB9 := Lib.hid (below_trans HB8.out hb9)
    clear h9 hb9
    have HC1 := Lib.hid (debts_any _ _ o1 o1 W9 HV2.out HV3.out HL1.out HL1.out)
    rw [decide_eq_true rfl] at HC1
    have HC2 := Lib.hid fun W hb => equal_any _ _ s1 s1 W (IL.below HV4.out hb) (IL.below HV5.out hb) HL2.out HL2.out
    rw [decide_eq_true rfl] at HC2
    have HC3 := Lib.hid fun W hb => rats_any _ _ x1 x1 W (SC.below HV8.out hb) (SC.below HV9.out hb) HL3.out HL3.out
    rw [decide_eq_true rfl] at HC3
    go_wp2_with fail
    refine HC1.out.mono ?_
    rintro e W10 ⟨rfl, hb10⟩
    go_wp2_with fail
    refine (HC2.out _ hb10).mono ?_
    rintro e W11 ⟨rfl, hb11⟩
    have hb11 := below_trans hb10 hb11
    go_wp2_with fail
    refine (HC3.out _ hb11).mono ?_
    rintro e W12 ⟨rfl, hb12⟩
    have HB12 := Lib.hid (below_trans HB9.out (below_trans hb11 hb12))
    clear hb10 hb11 hb12
    go_wp2
    go_ret
    exact ⟨rfl, HB12.out⟩
end Go.Proofs.YtcphclpekllcoaaGreatDoor
