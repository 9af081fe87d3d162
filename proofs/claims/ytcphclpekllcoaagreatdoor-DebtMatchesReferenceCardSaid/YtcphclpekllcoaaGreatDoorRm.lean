/- Walks: package observatoryref18: Settle where something is not valid, Few, Owe, Paid. -/
import Derived.Test.YtcphclpekllcoaaGreatDoorRl
namespace Go.Proofs.YtcphclpekllcoaaGreatDoor
open Go.RowKit Go.Sort Go.Deep

set_option maxHeartbeats 1600000 in
set_option maxRecDepth 100000 in
theorem r18settle_bad (dv pv : Value) (ds : List Nt.Deb) (ps : List Nt.Pay) (t : Int) (w : World) (hd : DL w dv ds) (hp : PL w pv ps) (hok : Nt.allOk ds ps t = false) :
    Calls Tryz.prog 14 #[dv, pv, .int .i64 t] w fun e w' => e = .returned (.tuple #[.slice none 0 0, .int .i64 1]) ∧ Below w.heap.size w w' := by
  obtain ⟨da, dc, rfl⟩ := hd.len
  obtain ⟨pa, pc, rfl⟩ := hp.len
  have HV1 := Lib.hid (r18debts_any _ ds w hd)
  have HV2 := Lib.hid fun W hp => r18pays_any (.slice pa ps.length pc) ps W hp
  have HV3 := Lib.hid fun W => r9is_any t W
  have HP := Lib.hid hp
  have hall : ((decide (ds.length ≤ 1000) && ds.all Nt.debOk) && ((decide (ps.length ≤ 1000) && ps.all Nt.payOk) && Nt.win t 0 38399)) = false := by
    rw [← hok]
    unfold Nt.allOk
    cases decide (ds.length ≤ 1000) <;> cases decide (ps.length ≤ 1000) <;> cases Nt.win t 0 38399 <;> cases ds.all Nt.debOk <;> cases ps.all Nt.payOk <;> rfl
  generalize (decide (ds.length ≤ 1000) && ds.all Nt.debOk) = x1 at *
  generalize (decide (ps.length ≤ 1000) && ps.all Nt.payOk) = x2 at *
  generalize Nt.win t 0 38399 = x3 at *
  have hcase : x1 = false ∨ (x1 = true ∧ x2 = false) ∨ (x1 = true ∧ x2 = true ∧ x3 = false) := by
    cases x1 <;> cases x2 <;> cases x3 <;> simp at hall ⊢
  clear hd hp hok hall
  rcases hcase with rfl | ⟨rfl, rfl⟩ | ⟨rfl, rfl, rfl⟩
  · go_enter Tryz.func14, Tryz.ntmps14
    go_wp2_with fail
    refine HV1.out.mono ?_
    rintro e W1 ⟨rfl, hb1⟩
    go_wp2
    go_ret2
    exact ⟨rfl, hb1⟩
  · go_enter Tryz.func14, Tryz.ntmps14
    go_wp2_with fail
    refine HV1.out.mono ?_
    rintro e W1 ⟨rfl, hb1⟩
    go_wp2_with fail
    refine (HV2.out _ (HP.out.below hb1)).mono ?_
    rintro e W2 ⟨rfl, hb2⟩
    have HB2 := Lib.hid (below_trans hb1 hb2)
    clear hb1 hb2
    go_wp2
    go_ret2
    exact ⟨rfl, HB2.out⟩
  · go_enter Tryz.func14, Tryz.ntmps14
    go_wp2_with fail
    refine HV1.out.mono ?_
    rintro e W1 ⟨rfl, hb1⟩
    go_wp2_with fail
    refine (HV2.out _ (HP.out.below hb1)).mono ?_
    rintro e W2 ⟨rfl, hb2⟩
    have HB2 := Lib.hid (below_trans hb1 hb2)
    clear hb1 hb2
    go_wp2_with fail
    refine (HV3.out _).mono ?_
    rintro e W3 ⟨rfl, rfl⟩
    go_wp2
    go_ret2
    exact ⟨rfl, HB2.out⟩

theorem r18settle_all (dv pv : Value) (ds : List Nt.Deb) (ps : List Nt.Pay) (t : Int) (w : World) (hd : DL w dv ds) (hp : PL w pv ps) :
    Calls Tryz.prog 14 #[dv, pv, .int .i64 t] w fun e w' => (∃ v, e = .returned (.tuple #[v, .int .i64 (settleR ds ps t).2]) ∧ IL w' v (settleR ds ps t).1) ∧ Below w.heap.size w w' := by
  unfold settleR
  cases hok : Nt.allOk ds ps t with
  | false => exact (r18settle_bad dv pv ds ps t w hd hp hok).mono fun _ _ ⟨h1, h2⟩ => ⟨⟨_, h1, il_nil _⟩, h2⟩
  | true => exact r18settle_ok dv pv ds ps t w hd hp hok

def SomeBool (w : World) (e : Ending) (w' : World) : Prop := ∃ b, e = .returned (.bool b) ∧ w = w'
set_option maxHeartbeats 3200000 in
set_option maxRecDepth 100000 in
theorem r18few_any (dv pv : Value) (ds : List Nt.Deb) (ps : List Nt.Pay) (w : World) (hd : DL w dv ds) (hp : PL w pv ps) :
    Calls Tryz.prog 10 #[dv, pv] w (SomeBool w) := by
  have h1 : ds.length ≤ maxLen := by
    obtain ⟨a', c', e, h1, h2, -⟩ := hd
    simp at h1; omega
  have h2 : ps.length ≤ maxLen := by
    obtain ⟨a', c', e, h1, h2, -⟩ := hp
    simp at h1; omega
  obtain ⟨da, dc, rfl⟩ := hd.len
  obtain ⟨pa, pc, rfl⟩ := hp.len
  unfold maxLen at h1 h2
  generalize ds.length = n at *
  generalize ps.length = m at *
  clear hd hp
  go_enter Tryz.func10, Tryz.ntmps10
  go_wp2
  all_goals
    go_ret
    exact ⟨_, rfl, rfl⟩

theorem frmOk_ref (fr : Frm) : frmOk fr = (Nt.win fr.at_ 0 38399 && Nt.win fr.t 0 5 && Nt.win fr.pr 0 63 && Nt.win fr.f 0 7) := by
  unfold frmOk Nt.clsOk
  rw [if_neg (by decide), if_pos (.inl rfl)]
  cases Nt.win fr.at_ 0 38399 <;> cases Nt.win fr.t 0 5 <;> cases Nt.win fr.pr 0 63 <;> cases Nt.win fr.f 0 7 <;> rfl

set_option maxHeartbeats 3200000 in
set_option maxRecDepth 100000 in
theorem r18owe_all (fr : Frm) (w : World) :
    Calls Tryz.prog 12 #[fv fr] w fun e w' => (∃ v, e = .returned (.tuple #[v, .int .i64 (oweR fr).2]) ∧ DL w' v (oweR fr).1) ∧ Below w.heap.size w w' := by
  have H1 := Lib.hid fun W => r9is_any fr.at_ W
  have H2 := Lib.hid fun W => r18within_any fr.t 0 5 W
  have H3 := Lib.hid fun W => r18within_any fr.pr 0 63 W
  have H4 := Lib.hid fun W => r18within_any fr.f 0 7 W
  have hfr := frmOk_ref fr
  have HB := Lib.hid (below_alloc w (.cells (fcells fr) 25))
  have hat : Nt.win fr.at_ 0 38399 = true → 0 ≤ fr.at_ ∧ fr.at_ ≤ 38399 := fun h => by
    unfold Nt.win at h
    simpa using h
  unfold oweR
  have HOW : Hid (∀ fr, owe fr = [⟨1, fr.t, -1, fr.at_ - 96, fr.at_ + 96, fr.pr⟩, ⟨2, fr.t, fr.f, fr.at_ - 288, fr.at_ + 288, fr.pr⟩, ⟨3, fr.t, fr.f, fr.at_, fr.at_ + 48, fr.pr⟩]) := fun _ => rfl
  obtain ⟨R, hR⟩ : ∃ R, (if frmOk fr = true then (owe fr, (0 : Int)) else ([], 1)) = R := ⟨_, rfl⟩
  rw [hR]
  have HR := Lib.hid hR
  clear hR
  generalize Nt.win fr.at_ 0 38399 = x1 at *
  generalize Nt.win fr.t 0 5 = x2 at *
  generalize Nt.win fr.pr 0 63 = x3 at *
  generalize Nt.win fr.f 0 7 = x4 at *
  have HFR := Lib.hid hfr
  clear hfr
  obtain ⟨fat, ft, fpr, fti, ff, q0, q1, q2, q3⟩ := fr
  unfold fv
  unfold fcells at HB ⊢
  dsimp only at *
  have hcase : (x1 = false) ∨ (x1 = true ∧ x2 = false) ∨ (x1 = true ∧ x2 = true ∧ x3 = false) ∨ (x1 = true ∧ x2 = true ∧ x3 = true ∧ x4 = false) ∨ (x1 = true ∧ x2 = true ∧ x3 = true ∧ x4 = true) := by
    cases x1 <;> cases x2 <;> cases x3 <;> cases x4 <;> simp
  rcases hcase with rfl | ⟨rfl, rfl⟩ | ⟨rfl, rfl, rfl⟩ | ⟨rfl, rfl, rfl, rfl⟩ | ⟨rfl, rfl, rfl, rfl⟩
  case inr.inr.inr.inr =>
    have HRR : Hid (R = (owe ⟨fat, ft, fpr, fti, ff, q0, q1, q2, q3⟩, 0)) := by show _ = _; rw [← HR.out, HFR.out]; rfl
    obtain ⟨ha0, ha1⟩ := hat rfl
    clear hat
    go_enter Tryz.func12, Tryz.ntmps12
    go_wp2_with (first | (go_at_call 30; refine (H1.out _).mono ?_; rintro e W1 ⟨rfl, rfl⟩) | (go_at_call 31; (first | with_reducible refine (H2.out _).mono ?_ | with_reducible refine (H3.out _).mono ?_ | with_reducible refine (H4.out _).mono ?_); rintro e W1 ⟨rfl, rfl⟩))
    go_ret2
    have hrow := SC.row (k := 6) (t := 47) (W := ((((w.alloc (.cells #[.int .i64 fat, .int .i64 ft, .int .i64 fpr, .int .i64 fti, .int .i64 ff, .int .i64 q0, .int .i64 q1, .int .i64 q2, .int .i64 q3] 25)).alloc (.cells #[.int .i64 1, .int .i64 ft, .int .i64 (-1), .int .i64 (fat - 96), .int .i64 (fat + 96), .int .i64 fpr] 47)).alloc (.cells #[.int .i64 2, .int .i64 ft, .int .i64 ff, .int .i64 (fat - 288), .int .i64 (fat + 288), .int .i64 fpr] 47)).alloc (.cells #[.int .i64 3, .int .i64 ft, .int .i64 ff, .int .i64 fat, .int .i64 (fat + 48), .int .i64 fpr] 47)).alloc (.cells ((owe ⟨fat, ft, fpr, fti, ff, q0, q1, q2, q3⟩).map dcells).flatten.toArray 47)) (xs := (owe ⟨fat, ft, fpr, fti, ff, q0, q1, q2, q3⟩).map dcells)
      (by intro x hx; simp [owe] at hx; rcases hx with rfl | rfl | rfl <;> rfl) (kept_new (Below.refl _ _)) (by simp [owe, maxLen])
    simp only [World.size_alloc] at hrow
    refine ⟨⟨_, by rw [HRR.out]; rfl, by rw [HRR.out]; exact hrow⟩, ?_⟩
    exact ((((HB.out.alloc HB.out.size _).alloc (by simp; omega) _).alloc (by simp; omega) _).alloc (by simp; omega) _)
  all_goals
    have HRR : Hid (R = ([], 1)) := by show _ = _; rw [← HR.out, HFR.out]; rfl
    clear hat
    go_enter Tryz.func12, Tryz.ntmps12
    go_wp2_with (first | (go_at_call 30; refine (H1.out _).mono ?_; rintro e W1 ⟨rfl, rfl⟩) | (go_at_call 31; (first | with_reducible refine (H2.out _).mono ?_ | with_reducible refine (H3.out _).mono ?_ | with_reducible refine (H4.out _).mono ?_); rintro e W1 ⟨rfl, rfl⟩))
    go_ret2
    exact ⟨⟨_, by rw [HRR.out]; rfl, by rw [HRR.out]; exact dl_nil _⟩, HB.out⟩
theorem three_neg (a b c : Int) : ([a, b, c].all fun k => decide (0 ≤ k)) = (decide (a ≥ 0) && decide (b ≥ 0) && decide (c ≥ 0)) := by simp [Bool.and_assoc]

set_option maxHeartbeats 3200000 in
set_option maxRecDepth 100000 in
theorem r18paid_any (fr : Frm) (pv : Value) (ps : List Nt.Pay) (t : Int) (w : World) (hp : PL w pv ps) :
    Calls Tryz.prog 16 #[fv fr, pv, .int .i64 t] w fun e w' => e = .returned (.tuple #[.bool (paid fr ps t).1, .int .i64 (paid fr ps t).2]) ∧ Below w.heap.size w w' := by
  have HB := Lib.hid (below_alloc w (.cells (fcells fr) 25))
  have HP := Lib.hid hp
  clear hp
  have HO := Lib.hid fun W => r18owe_all fr W
  cases hok : frmOk fr with
  | false =>
    rw [show oweR fr = ([], 1) by unfold oweR; rw [hok]; rfl] at HO
    have e : paid fr ps t = (false, 1) := by unfold paid; rw [hok]; rfl
    rw [e]
    clear hok e
    unfold fv at *
    unfold fcells at *
    go_enter Tryz.func16, Tryz.ntmps16
    go_wp2_with fail
    refine (HO.out _).mono ?_
    rintro e W1 ⟨⟨v, rfl, hv⟩, hb1⟩
    obtain ⟨a, c, rfl⟩ := hv.len
    have hb1 := Lib.hid (below_trans HB.out hb1)
    clear hv
    go_wp2
    go_ret2
    exact ⟨rfl, hb1.out⟩
  | true =>
    rw [show oweR fr = (owe fr, 0) by unfold oweR; rw [hok]; rfl] at HO
    have HS := Lib.hid fun W dv hd hp => r18settle_all dv pv (owe fr) ps t W hd hp
    cases hall : Nt.allOk (owe fr) ps t with
    | false =>
      rw [show settleR (owe fr) ps t = ([], 1) by unfold settleR; rw [hall]; rfl] at HS
      have e : paid fr ps t = (false, 1) := by unfold paid; rw [hok, hall]; rfl
      rw [e]
      clear hok hall e
      unfold fv at *
      unfold fcells at *
      go_enter Tryz.func16, Tryz.ntmps16
      go_wp2_with fail
      refine (HO.out _).mono ?_
      rintro e W1 ⟨⟨v1, rfl, hd1⟩, hb1⟩
      have hb1 := below_trans HB.out hb1
      have HDV := Lib.hid (HS.out _ v1 hd1 (HP.out.below hb1))
      clear hd1
      go_wp2_with fail
      refine HDV.out.mono ?_
      rintro e W2 ⟨⟨v2, rfl, hv2⟩, hb2⟩
      obtain ⟨a, c, rfl⟩ := hv2.len
      have HB2 := Lib.hid (below_trans hb1 hb2)
      clear hv2 hb1 hb2
      go_wp2
      go_ret2
      exact ⟨rfl, HB2.out⟩
    | true =>
      rw [show settleR (owe fr) ps t = (Nt.settle (owe fr) ps t, 0) by unfold settleR; rw [hall]; rfl] at HS
      obtain ⟨k1, k2, k3, hk⟩ : ∃ k1 k2 k3, Nt.settle (owe fr) ps t = [k1, k2, k3] := ⟨_, _, _, rfl⟩
      have e : paid fr ps t = ((decide (k1 ≥ 0) && decide (k2 ≥ 0) && decide (k3 ≥ 0)), 0) := by unfold paid; rw [hok, hall, hk, three_neg]; rfl
      rw [hk] at HS
      rw [e]
      clear hok hall e hk
      unfold fv at *
      unfold fcells at *
      obtain ⟨x1, hx1⟩ : ∃ x, decide (k1 ≥ 0) = x := ⟨_, rfl⟩
      obtain ⟨x2, hx2⟩ : ∃ x, decide (k2 ≥ 0) = x := ⟨_, rfl⟩
      obtain ⟨x3, hx3⟩ : ∃ x, decide (k3 ≥ 0) = x := ⟨_, rfl⟩
      rw [hx1, hx2, hx3]
      go_enter Tryz.func16, Tryz.ntmps16
      go_wp2_with fail
      refine (HO.out _).mono ?_
      rintro e W1 ⟨⟨v1, rfl, hd1⟩, hb1⟩
      have hb1 := below_trans HB.out hb1
      have HDV := Lib.hid (HS.out _ v1 hd1 (HP.out.below hb1))
      clear hd1
      go_wp2_with fail
      refine HDV.out.mono ?_
      rintro e W2 ⟨⟨v2, rfl, hv2⟩, hb2⟩
      obtain ⟨a, c, rfl⟩ := hv2.len
      obtain ⟨g, rfl, -, c0⟩ := IL.at hv2 (i := 0) (x := k1) rfl
      obtain ⟨_, e1, -, c1⟩ := IL.at hv2 (i := 1) (x := k2) rfl
      obtain rfl : g = _ := by simpa using e1
      obtain ⟨_, e2, -, c2⟩ := IL.at hv2 (i := 2) (x := k3) rfl
      obtain rfl : g = _ := by simpa using e2
      have HB2 := Lib.hid (below_trans hb1 hb2)
      clear hv2 hb1 hb2 e1 e2
      cases x1 <;> cases x2
      all_goals
        go_wp2
        go_ret2
        exact ⟨rfl, HB2.out⟩
end Go.Proofs.YtcphclpekllcoaaGreatDoor
