/- Walks: package observatoryref18: Payments, Fits. -/
import Derived.Test.YtcphclpekllcoaaGreatDoorRj
namespace Go.Proofs.YtcphclpekllcoaaGreatDoor
open Go.RowKit Go.Sort Go.Deep

theorem same_below {f : FuncId} {args : Array Value} {w : World} {v : Value} (h : Calls Tryz.prog f args w fun e w' => e = .returned v ∧ w = w') : Calls Tryz.prog f args w fun e w' => e = .returned v ∧ Below w.heap.size w w' :=
  h.mono fun _ _ ⟨h1, h2⟩ => ⟨h1, h2 ▸ Below.refl _ _⟩

set_option maxHeartbeats 3200000 in
set_option maxRecDepth 100000 in
theorem r18pays_any (v : Value) (ps : List Nt.Pay) (w : World) (h : PL w v ps) :
    Calls Tryz.prog 34 #[v] w fun e w' => e = .returned (.bool (decide (ps.length ≤ 1000) && ps.all Nt.payOk)) ∧ Below w.heap.size w w' := by
  obtain ⟨a, c, rfl⟩ := h.len
  have hmax : ps.length ≤ maxLen := by
    obtain ⟨a', c', e, h1, h2, -⟩ := h
    simp at h1; omega
  unfold maxLen at hmax
  have H := Lib.hid h
  obtain ⟨R, hR⟩ : ∃ R, (decide (ps.length ≤ 1000) && ps.all Nt.payOk) = R := ⟨_, rfl⟩
  rw [hR]
  have HR := Lib.hid hR
  clear hR h
  obtain ⟨n, hn⟩ : ∃ n, ps.length = n := ⟨_, rfl⟩
  rw [hn] at H HR hmax ⊢
  have HN := Lib.hid hn
  clear hn
  go_enter Tryz.func34, Tryz.ntmps34
  go_wp2
  go_loopw [3] (fun i wr => ∃ k : Nat, i = .int .i64 k ∧ k ≤ n ∧ k ≤ 1001 ∧ (ps.take k).all Nt.payOk = true ∧ Below w.heap.size w wr) (fun i _ => n - (intOf i).toNat)
  case atStart => exact ⟨0, rfl, Nat.zero_le _, by omega, rfl, Below.refl _ _⟩
  case round =>
    obtain ⟨k, rfl, hk, hk2, hall, hB⟩ := hrel
    by_cases hlt : k < n ∧ k < 1001
    · obtain ⟨g1, g2⟩ := hlt
      obtain ⟨d, hd⟩ : ∃ d, ps[k]? = some d := ⟨_, List.getElem?_eq_getElem (by rw [HN.out]; exact g1)⟩
      obtain ⟨p, rfl, -, e0, e1, e2, e3⟩ := PL.at H.out hd
      have f0 := below_cell hB e0
      have f1 := below_cell hB e1
      have f2 := below_cell hB e2
      have f3 := below_cell hB e3
      have hok : Nt.payOk d = (Nt.clsOk d.k d.t d.f && Nt.win d.at_ 0 38399) := rfl
      have HC := Lib.hid fun W => same_below (r18cal_any d.k d.t d.f W)
      have H1 := Lib.hid fun W => same_below (r9is_any d.at_ W)
      have hyes : Hid (Nt.payOk d = true → (ps.take (k + 1)).all Nt.payOk = true) := fun h => all_snoc hall hd h
      have hno : Hid (Nt.payOk d = false → R = false) := fun h => by rw [← HR.out, all_no hd h, Bool.and_false]
      have HB := Lib.hid hB
      obtain ⟨dk, dt, df, dat⟩ := d
      dsimp only at *
      have k0 : (0 : Int) ≤ (k : Int) := Int.natCast_nonneg _
      have k1 : (k : Int) < (n : Int) := by omega
      generalize Nt.clsOk dk dt df = x1 at *
      generalize Nt.win dat 0 38399 = x2 at *
      clear e0 e1 e2 e3 hall hd hB
      have hcase : (x1 = false) ∨ (x1 = true ∧ x2 = false) ∨ (x1 = true ∧ x2 = true) := by
        cases x1 <;> cases x2 <;> simp
      rcases hcase with rfl | ⟨rfl, rfl⟩ | ⟨rfl, rfl⟩
      all_goals
        go_upto_region 4 with (fail)
        have k_f0 := fun d os => Go.cell_regrown (w := wr) f0 d os
        have k_f1 := fun d os => Go.cell_regrown (w := wr) f1 d os
        have k_f2 := fun d os => Go.cell_regrown (w := wr) f2 d os
        have k_f3 := fun d os => Go.cell_regrown (w := wr) f3 d os
        refine wp_region_quiet_below (by kernel_rfl) (by kernel_rfl) ?_
        repeat (first | go_big_quiet_step ((first | (go_at_call 51; exact Calls.regrown_of (HC.out _)) | (go_at_call 30; exact Calls.regrown_of (H1.out _)))) | quiet_step ((first | (go_at_call 51; exact Calls.regrown_of (HC.out _)) | (go_at_call 30; exact Calls.regrown_of (H1.out _)))))
        refine wpQuiet_nil ?_
        intro _ hw'
        obtain ⟨⟨dq, osq⟩, hw''⟩ := hw'
        subst hw''
        have hg := Go.below_regrown wr dq osq
        generalize Go.Sort.grow (Go.redrawn wr dq) osq = W' at hg ⊢
        clear k_f0 k_f1 k_f2 k_f3 f0 f1 f2 f3
        have HB2 := Lib.hid (below_trans HB.out hg)
        clear hg
        first
          | (have HY := Lib.hid (hno.out (hok.trans (by simp)))
             clear hok hyes hno
             go_wp2
             go_ret
             exact ⟨by rw [HY.out]; rfl, HB2.out⟩)
          | (have HY := Lib.hid (hyes.out (hok.trans rfl))
             clear hok hyes hno
             go_wp2
             go_roundw
             case rel => exact ⟨k + 1, rfl, g1, by omega, HY.out, HB2.out⟩
             case measure => simp [intOf]; omega)
    · have hE : Hid (R = decide (n ≤ 1000)) := by
        show _ = _
        by_cases hn : n ≤ 1000
        · have e : ps.take k = ps := List.take_of_length_le (by rw [HN.out]; omega)
          rw [e] at hall
          rw [← HR.out, hall, Bool.and_true]
        · rw [← HR.out, decide_eq_false hn, Bool.false_and]
      have hE : Hid (R = decide ((n : Int) ≤ 1000)) := hE.out.trans (decide_eq_decide.2 (by omega))
      have HB := Lib.hid hB
      clear hall hB
      by_cases g1 : k < n
      · have g2 : ¬ k < 1001 := fun h => hlt ⟨g1, h⟩
        have g3 : ¬ (k : Int) < 1001 := by omega
        clear hlt
        go_wp2
        go_ret
        exact ⟨by rw [hE.out]; rfl, HB.out⟩
      · clear hlt
        go_wp2
        go_ret
        exact ⟨by rw [hE.out]; rfl, HB.out⟩

set_option maxHeartbeats 1600000 in
set_option maxRecDepth 100000 in
theorem r18fits_any (d : Nt.Deb) (p : Nt.Pay) (t : Int) (w : World) :
    Calls Tryz.prog 35 #[dv6 d, pv4 p, .int .i64 t] w fun e w' => e = .returned (.bool (Nt.fit d p t)) ∧ Below w.heap.size w w' := by
  obtain ⟨dk, dt, df, dr, du, dp⟩ := d
  obtain ⟨pk, pt, pf, pat⟩ := p
  have hfit : Nt.fit ⟨dk, dt, df, dr, du, dp⟩ ⟨pk, pt, pf, pat⟩ t = (decide (dk = pk) && decide (dt = pt) && decide (df = pf) && decide (dr ≤ pat) && decide (pat ≤ du) && decide (pat ≤ t)) := by
    unfold Nt.fit Nt.win
    rw [Bool.eq_iff_iff]
    simp only [Bool.and_eq_true, decide_eq_true_eq]
    constructor
    · rintro ⟨⟨⟨h1, h2⟩, h3⟩, h4, h5⟩; exact ⟨⟨⟨⟨⟨h1, h2⟩, h3⟩, h4⟩, by omega⟩, by omega⟩
    · rintro ⟨⟨⟨⟨⟨h1, h2⟩, h3⟩, h4⟩, h5⟩, h6⟩; exact ⟨⟨⟨h1, h2⟩, h3⟩, h4, by omega⟩
  rw [hfit]
  unfold dv6 pv4 dcells pcells
  dsimp only
  have HB := Lib.hid (below2 w (.cells #[.int .i64 dk, .int .i64 dt, .int .i64 df, .int .i64 dr, .int .i64 du, .int .i64 dp] 47) (.cells #[.int .i64 pk, .int .i64 pt, .int .i64 pf, .int .i64 pat] 49))
  have c1 : ∀ a b : Int, decide (a = b) = (a == b) := fun a b => by rw [Bool.eq_iff_iff]; simp
  rw [c1, c1, c1]
  clear c1 hfit
  have b1 : ∀ r, decide (dr ≤ pat) = r → decide (pat ≥ dr) = r := fun r h => h
  obtain ⟨x1, h1⟩ : ∃ x, (dk == pk) = x := ⟨_, rfl⟩
  obtain ⟨x2, h2⟩ : ∃ x, (dt == pt) = x := ⟨_, rfl⟩
  obtain ⟨x3, h3⟩ : ∃ x, (df == pf) = x := ⟨_, rfl⟩
  obtain ⟨x4, h4⟩ : ∃ x, decide (dr ≤ pat) = x := ⟨_, rfl⟩
  obtain ⟨x5, h5⟩ : ∃ x, decide (pat ≤ du) = x := ⟨_, rfl⟩
  obtain ⟨x6, h6⟩ : ∃ x, decide (pat ≤ t) = x := ⟨_, rfl⟩
  rw [h1, h2, h3, h4, h5, h6]
  have h4' := b1 _ h4
  clear b1
  have hcase : (x1 = false) ∨ (x1 = true ∧ x2 = false) ∨ (x1 = true ∧ x2 = true ∧ x3 = false) ∨ (x1 = true ∧ x2 = true ∧ x3 = true ∧ x4 = false) ∨ (x1 = true ∧ x2 = true ∧ x3 = true ∧ x4 = true ∧ x5 = false) ∨ (x1 = true ∧ x2 = true ∧ x3 = true ∧ x4 = true ∧ x5 = true) := by
    cases x1 <;> cases x2 <;> cases x3 <;> cases x4 <;> cases x5 <;> simp
  rcases hcase with rfl | ⟨rfl, rfl⟩ | ⟨rfl, rfl, rfl⟩ | ⟨rfl, rfl, rfl, rfl⟩ | ⟨rfl, rfl, rfl, rfl, rfl⟩ | ⟨rfl, rfl, rfl, rfl, rfl⟩
  all_goals
    go_enter Tryz.func35, Tryz.ntmps35
    go_wp2
    go_ret
    exact ⟨by simp, HB.out⟩
end Go.Proofs.YtcphclpekllcoaaGreatDoor
