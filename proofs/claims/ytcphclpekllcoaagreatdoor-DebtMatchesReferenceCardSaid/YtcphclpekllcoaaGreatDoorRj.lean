/- Walks: package observatoryref18: within, calibration, Is, Debts, Payments, Fits. -/
import Derived.Test.YtcphclpekllcoaaGreatDoorRi
import Derived.Test.YtcphclpekllcoaaGreatDoorF1
import Derived.Lib.QuietBelow
namespace Go.Proofs.YtcphclpekllcoaaGreatDoor
open Go.RowKit Go.Sort Go.Deep

set_option maxRecDepth 100000 in
theorem r18within_any (n lo hi : Int) (w : World) : Calls Tryz.prog 31 #[.int .i64 n, .int .i64 lo, .int .i64 hi] w fun e w' => e = .returned (.bool (Nt.win n lo hi)) ∧ w = w' := by
  unfold Nt.win
  by_cases h1 : lo ≤ n
  · rw [decide_eq_true h1, Bool.true_and]
    go_enter Tryz.func31, Tryz.ntmps31
    go_wp2
    go_ret
    exact ⟨rfl, rfl⟩
  · rw [decide_eq_false h1, Bool.false_and]
    go_enter Tryz.func31, Tryz.ntmps31
    go_wp2
    go_ret
    exact ⟨rfl, rfl⟩

set_option maxRecDepth 100000 in
theorem r9is_any (n : Int) (w : World) : Calls Tryz.prog 30 #[.int .i64 n] w fun e w' => e = .returned (.bool (Nt.win n 0 38399)) ∧ w = w' := by
  unfold Nt.win
  by_cases h1 : 0 ≤ n
  · rw [decide_eq_true h1, Bool.true_and]
    go_enter Tryz.func30, Tryz.ntmps30
    go_wp2
    go_ret
    exact ⟨rfl, rfl⟩
  · rw [decide_eq_false h1, Bool.false_and]
    go_enter Tryz.func30, Tryz.ntmps30
    go_wp2
    go_ret
    exact ⟨rfl, rfl⟩

set_option maxRecDepth 100000 in
theorem r18cal_any (k t f : Int) (w : World) : Calls Tryz.prog 51 #[.int .i64 k, .int .i64 t, .int .i64 f] w fun e w' => e = .returned (.bool (Nt.clsOk k t f)) ∧ w = w' := by
  have HW := Lib.hid fun W => r18within_any t 0 5 W
  have HW2 := Lib.hid fun W => r18within_any f 0 7 W
  unfold Nt.clsOk
  cases ht : Nt.win t 0 5 with
  | false =>
    rw [ht] at HW
    rw [Bool.false_and]
    clear ht
    go_enter Tryz.func51, Tryz.ntmps51
    go_wp2_with fail
    refine (HW.out _).mono ?_
    rintro e W1 ⟨rfl, rfl⟩
    go_wp2
    go_ret
    exact ⟨rfl, rfl⟩
  | true =>
    rw [ht] at HW
    rw [Bool.true_and]
    clear ht
    by_cases h1 : k = 1
    · rw [if_pos h1]
      have b1 : (k == 1) = true := by simpa using h1
      clear h1
      go_enter Tryz.func51, Tryz.ntmps51
      go_wp2_with fail
      refine (HW.out _).mono ?_
      rintro e W1 ⟨rfl, rfl⟩
      go_wp2
      go_ret
      exact ⟨rfl, rfl⟩
    · rw [if_neg h1]
      have b1 : (k == 1) = false := by simpa using h1
      by_cases h2 : k = 2
      · rw [if_pos (.inl h2)]
        have b2 : (k == 2) = true := by simpa using h2
        clear h1 h2
        go_enter Tryz.func51, Tryz.ntmps51
        go_wp2_with fail
        refine (HW.out _).mono ?_
        rintro e W1 ⟨rfl, rfl⟩
        go_wp2_with fail
        refine (HW2.out _).mono ?_
        rintro e W1 ⟨rfl, rfl⟩
        go_wp2
        go_ret
        exact ⟨rfl, rfl⟩
      · have b2 : (k == 2) = false := by simpa using h2
        by_cases h3 : k = 3
        · rw [if_pos (.inr h3)]
          have b3 : (k == 3) = true := by simpa using h3
          clear h1 h2 h3
          go_enter Tryz.func51, Tryz.ntmps51
          go_wp2_with fail
          refine (HW.out _).mono ?_
          rintro e W1 ⟨rfl, rfl⟩
          go_wp2_with fail
          refine (HW2.out _).mono ?_
          rintro e W1 ⟨rfl, rfl⟩
          go_wp2
          go_ret
          exact ⟨rfl, rfl⟩
        · rw [if_neg (fun h => h.elim h2 h3)]
          have b3 : (k == 3) = false := by simpa using h3
          clear h1 h2 h3
          go_enter Tryz.func51, Tryz.ntmps51
          go_wp2_with fail
          refine (HW.out _).mono ?_
          rintro e W1 ⟨rfl, rfl⟩
          go_wp2
          go_ret
          exact ⟨rfl, rfl⟩

/-- What the reference asks of a debt. -/
theorem debOk_ref (d : Nt.Deb) : Nt.debOk d = (Nt.clsOk d.k d.t d.f && Nt.win d.pr 0 63 && Nt.win d.fr (-1000) 39399 && Nt.win d.un (-1000) 39399 && !decide (d.un < d.fr)) := by
  unfold Nt.debOk Nt.win
  rw [Bool.eq_iff_iff]
  simp only [Bool.and_eq_true, decide_eq_true_eq, Bool.not_eq_true', decide_eq_false_iff_not]
  constructor
  · rintro ⟨⟨⟨⟨h1, h2⟩, h3⟩, h4⟩, h5⟩
    exact ⟨⟨⟨⟨h1, h2⟩, by omega⟩, by omega⟩, by omega⟩
  · rintro ⟨⟨⟨⟨h1, h2⟩, h3⟩, h4⟩, h5⟩
    exact ⟨⟨⟨⟨h1, h2⟩, by omega⟩, by omega⟩, by omega⟩
theorem all_snoc {α : Type} {l : List α} {p : α → Bool} {k : Nat} {x : α} (h : (l.take k).all p = true) (hx : l[k]? = some x) (hp : p x = true) : (l.take (k + 1)).all p = true := by
  rw [List.take_add_one, hx]
  show (l.take k ++ [x]).all p = true
  rw [List.all_append, h]; simpa using hp
theorem all_no {α : Type} {l : List α} {p : α → Bool} {k : Nat} {x : α} (hx : l[k]? = some x) (hp : p x = false) : l.all p = false := by
  rw [← Bool.not_eq_true, List.all_eq_true]
  intro h
  rw [h x (List.mem_of_getElem? hx)] at hp; cases hp

set_option maxHeartbeats 3200000 in
set_option maxRecDepth 100000 in
theorem r18debts_any (v : Value) (ds : List Nt.Deb) (w : World) (h : DL w v ds) :
    Calls Tryz.prog 33 #[v] w fun e w' => e = .returned (.bool (decide (ds.length ≤ 1000) && ds.all Nt.debOk)) ∧ Below w.heap.size w w' := by
  obtain ⟨a, c, rfl⟩ := h.len
  have hmax : ds.length ≤ maxLen := by
    obtain ⟨a', c', e, h1, h2, -⟩ := h
    simp at h1; omega
  unfold maxLen at hmax
  have H := Lib.hid h
  obtain ⟨R, hR⟩ : ∃ R, (decide (ds.length ≤ 1000) && ds.all Nt.debOk) = R := ⟨_, rfl⟩
  rw [hR]
  have HR := Lib.hid hR
  clear hR h
  obtain ⟨n, hn⟩ : ∃ n, ds.length = n := ⟨_, rfl⟩
  rw [hn] at H HR hmax ⊢
  have HN := Lib.hid hn
  clear hn
  go_enter Tryz.func33, Tryz.ntmps33
  go_wp2
  go_loopw [3, 4] (fun i _ wr => ∃ k : Nat, i = .int .i64 k ∧ k ≤ n ∧ k ≤ 1001 ∧ (ds.take k).all Nt.debOk = true ∧ Below w.heap.size w wr) (fun i _ _ => n - (intOf i).toNat)
  case atStart => exact ⟨0, rfl, Nat.zero_le _, by omega, rfl, Below.refl _ _⟩
  case round =>
    obtain ⟨k, rfl, hk, hk2, hall, hB⟩ := hrel
    by_cases hlt : k < n ∧ k < 1001
    · obtain ⟨g1, g2⟩ := hlt
      obtain ⟨d, hd⟩ : ∃ d, ds[k]? = some d := ⟨_, List.getElem?_eq_getElem (by rw [HN.out]; exact g1)⟩
      obtain ⟨p, rfl, -, e0, e1, e2, e3, e4, e5⟩ := DL.at H.out hd
      have f0 := below_cell hB e0
      have f1 := below_cell hB e1
      have f2 := below_cell hB e2
      have f3 := below_cell hB e3
      have f4 := below_cell hB e4
      have f5 := below_cell hB e5
      have hok := debOk_ref d
      have HC := Lib.hid fun W => r18cal_any d.k d.t d.f W
      have H1 := Lib.hid fun W => r18within_any d.pr 0 63 W
      have H2 := Lib.hid fun W => r18within_any d.fr (-1000) 39399 W
      have H3 := Lib.hid fun W => r18within_any d.un (-1000) 39399 W
      have hyes : Hid (Nt.debOk d = true → (ds.take (k + 1)).all Nt.debOk = true) := fun h => all_snoc hall hd h
      have hno : Hid (Nt.debOk d = false → R = false) := fun h => by rw [← HR.out, all_no hd h, Bool.and_false]
      have HB := Lib.hid (hB.alloc hB.size (.cells #[.int .i64 d.k, .int .i64 d.t, .int .i64 d.f, .int .i64 d.fr, .int .i64 d.un, .int .i64 d.pr] 47))
      obtain ⟨dk, dt, df, dfr, dun, dpr⟩ := d
      dsimp only at *
      have k0 : (0 : Int) ≤ (k : Int) := Int.natCast_nonneg _
      have k1 : (k : Int) < (n : Int) := by omega
      have b5 : ∀ r, decide (dun < dfr) = r → decide (dfr > dun) = r := fun r h => h
      generalize Nt.clsOk dk dt df = x1 at *
      generalize Nt.win dpr 0 63 = x2 at *
      generalize Nt.win dfr (-1000) 39399 = x3 at *
      generalize Nt.win dun (-1000) 39399 = x4 at *
      obtain ⟨x5, hx5⟩ : ∃ x5, decide (dun < dfr) = x5 := ⟨_, rfl⟩
      rw [hx5] at hok
      have hx5' := b5 _ hx5
      clear e0 e1 e2 e3 e4 e5 hall hd hB b5
      have hcase : (x1 = false) ∨ (x1 = true ∧ x2 = false) ∨ (x1 = true ∧ x2 = true ∧ x3 = false) ∨ (x1 = true ∧ x2 = true ∧ x3 = true ∧ x4 = false) ∨ (x1 = true ∧ x2 = true ∧ x3 = true ∧ x4 = true ∧ x5 = true) ∨ (x1 = true ∧ x2 = true ∧ x3 = true ∧ x4 = true ∧ x5 = false) := by
        cases x1 <;> cases x2 <;> cases x3 <;> cases x4 <;> cases x5 <;> simp
      rcases hcase with rfl | ⟨rfl, rfl⟩ | ⟨rfl, rfl, rfl⟩ | ⟨rfl, rfl, rfl, rfl⟩ | ⟨rfl, rfl, rfl, rfl, rfl⟩ | ⟨rfl, rfl, rfl, rfl, rfl⟩
      case inr.inr.inr.inr.inr =>
        have HY := Lib.hid (hyes.out (hok.trans rfl))
        clear hok hyes hno
        go_wp2_with (first | (go_at_call 51; refine (HC.out _).mono ?_; rintro e W1 ⟨rfl, rfl⟩) | (go_at_call 31; (first | with_reducible refine (H1.out _).mono ?_ | with_reducible refine (H2.out _).mono ?_ | with_reducible refine (H3.out _).mono ?_); rintro e W1 ⟨rfl, rfl⟩))
        go_roundw
        case rel => exact ⟨k + 1, rfl, g1, by omega, HY.out, HB.out⟩
        case measure => simp [intOf]; omega
      all_goals
        have HY := Lib.hid (hno.out (hok.trans (by simp)))
        clear hok hyes hno
        go_wp2_with (first | (go_at_call 51; refine (HC.out _).mono ?_; rintro e W1 ⟨rfl, rfl⟩) | (go_at_call 31; (first | with_reducible refine (H1.out _).mono ?_ | with_reducible refine (H2.out _).mono ?_ | with_reducible refine (H3.out _).mono ?_); rintro e W1 ⟨rfl, rfl⟩))
        go_ret
        exact ⟨by rw [HY.out]; rfl, HB.out⟩
    · have hE : Hid (R = decide (n ≤ 1000)) := by
        show _ = _
        by_cases hn : n ≤ 1000
        · have e : ds.take k = ds := List.take_of_length_le (by rw [HN.out]; omega)
          rw [e] at hall
          rw [← HR.out, hall, Bool.and_true]
        · rw [← HR.out, decide_eq_false hn, Bool.false_and]
      have hE : Hid (R = decide ((n : Int) ≤ 1000)) := hE.out.trans (decide_eq_decide.2 (by omega))
      have HB := Lib.hid hB
      clear hall hB
      by_cases g1 : k < n
      · have g2 : ¬ k < 1001 := fun h => hlt ⟨g1, h⟩
        have g3 : ¬ (k : Int) < 1001 := by omega
        clear hlt
        go_wp2
        go_ret
        exact ⟨by rw [hE.out]; rfl, HB.out⟩
      · clear hlt
        go_wp2
        go_ret
        exact ⟨by rw [hE.out]; rfl, HB.out⟩
end Go.Proofs.YtcphclpekllcoaaGreatDoor
