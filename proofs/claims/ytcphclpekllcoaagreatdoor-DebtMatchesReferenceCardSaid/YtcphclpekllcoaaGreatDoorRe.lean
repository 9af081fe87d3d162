/- Walks: package observatoryref03: Add, Sub, Mul, Div, Gcd, Compare, at valid numbers. -/
import Derived.Test.YtcphclpekllcoaaGreatDoorRd
namespace Go.Proofs.YtcphclpekllcoaaGreatDoor
open Go.RowKit Go.Sort Go.Deep

theorem sNe {a b : ByteArray} (h : ¬ a = b) : (a.toList == b.toList) = false := by
  rw [beq_eq_false_iff_ne, ByteArray.toList_eq, ByteArray.toList_eq]
  intro e
  exact h (ByteArray.ext (Array.toList_inj.1 e))
theorem sum_dig {m n k : Nat} (hm : Lib.nDigits m ≤ k) (hn : Lib.nDigits n ≤ k) : Lib.nDigits (m + n) ≤ k + 1 := (Nt.nDigits_le_iff _ _ (by omega)).2 (by
  have := Nt.lt_pow_dig hm
  have := Nt.lt_pow_dig hn
  rw [Nat.pow_succ]; omega)
theorem r3valid_yes (n : Nat) (w : World) (hn : Lib.nDigits n ≤ 1000) :
    Calls Tryz.prog 74 #[.string (Nt.nat2s n)] w fun e w' => e = .returned (.bool true) ∧ w = w' := by
  have h := r3valid_any (Nt.nat2s n) w (by rw [Nt.nat2s_size]; omega)
  rw [Nt.num?_nat2s n hn] at h
  exact h

set_option maxRecDepth 100000 in
theorem r3Add_any (m n : Nat) (w : World) (hm : Lib.nDigits m ≤ 1000) (hn : Lib.nDigits n ≤ 1000) :
    Calls Tryz.prog 56 #[.string (Nt.nat2s m), .string (Nt.nat2s n)] w fun e w' => e = .returned (.tuple (nOut (m + n))) ∧ Below w.heap.size w w' := by
  have HV := Lib.hid fun W => r3valid_yes m W hm
  have HV2 := Lib.hid fun W => r3valid_yes n W hn
  have HC := Lib.hid fun W => r3add_any m n W hm hn
  have HW := Lib.hid fun W => r3within_any (m + n) W (by
    have := sum_dig hm hn
    omega)
  rw [nOut_eq] at HW ⊢
  generalize Nt.nat2s m = a at *
  generalize Nt.nat2s n = b at *
  generalize Nt.nat2s (m + n) = c at *
  generalize nS (m + n) = d at *
  generalize nE (m + n) = ee at *
  clear hm hn
  go_enter Tryz.func56, Tryz.ntmps56
  go_wp2_with fail
  refine (HV.out _).mono ?_
  rintro e W1 ⟨rfl, rfl⟩
  go_wp2_with fail
  refine (HV2.out _).mono ?_
  rintro e W1 ⟨rfl, rfl⟩
  go_wp2_with fail
  refine (HC.out _).mono ?_
  rintro e W1 ⟨rfl, hb1⟩
  go_wp2_with fail
  refine (HW.out _).mono ?_
  rintro e W2 ⟨rfl, rfl⟩
  go_wp2
  go_ret2
  exact ⟨rfl, hb1⟩

set_option maxRecDepth 100000 in
theorem r3Mul_any (m n : Nat) (w : World) (hm : Lib.nDigits m ≤ 1000) (hn : Lib.nDigits n ≤ 1000) :
    Calls Tryz.prog 55 #[.string (Nt.nat2s m), .string (Nt.nat2s n)] w fun e w' => e = .returned (.tuple (nOut (m * n))) ∧ Below w.heap.size w w' := by
  have HV := Lib.hid fun W => r3valid_yes m W hm
  have HV2 := Lib.hid fun W => r3valid_yes n W hn
  have HC := Lib.hid fun W => r3mul_any m n W hm hn
  have HW := Lib.hid fun W => r3within_any (m * n) W (by
    have : Lib.nDigits (m * n) ≤ Lib.nDigits m + Lib.nDigits n + 1 := (Nt.nDigits_le_iff _ _ (by omega)).2 (Nt.mul_lt_pow m n)
    omega)
  rw [nOut_eq] at HW ⊢
  generalize Nt.nat2s m = a at *
  generalize Nt.nat2s n = b at *
  generalize Nt.nat2s (m * n) = c at *
  generalize nS (m * n) = d at *
  generalize nE (m * n) = ee at *
  clear hm hn
  go_enter Tryz.func55, Tryz.ntmps55
  go_wp2_with fail
  refine (HV.out _).mono ?_
  rintro e W1 ⟨rfl, rfl⟩
  go_wp2_with fail
  refine (HV2.out _).mono ?_
  rintro e W1 ⟨rfl, rfl⟩
  go_wp2_with fail
  refine (HC.out _).mono ?_
  rintro e W1 ⟨rfl, hb1⟩
  go_wp2_with fail
  refine (HW.out _).mono ?_
  rintro e W2 ⟨rfl, rfl⟩
  go_wp2
  go_ret2
  exact ⟨rfl, hb1⟩

set_option maxRecDepth 100000 in
theorem r3Sub_any (m n : Nat) (w : World) (hm : Lib.nDigits m ≤ 1000) (hn : Lib.nDigits n ≤ 1000) (hle : n ≤ m) :
    Calls Tryz.prog 58 #[.string (Nt.nat2s m), .string (Nt.nat2s n)] w fun e w' => e = .returned (.tuple #[.string (Nt.nat2s (m - n)), .int .i64 0]) ∧ Below w.heap.size w w' := by
  have HV := Lib.hid fun W => r3valid_yes m W hm
  have HV2 := Lib.hid fun W => r3valid_yes n W hn
  have HC := Lib.hid fun W => r3sub_any m n W (by omega) (by omega) hle
  have HL := Lib.hid fun W => r3less_any m n W (by omega) (by omega)
  rw [decide_eq_false (by omega)] at HL
  generalize Nt.nat2s m = a at *
  generalize Nt.nat2s n = b at *
  generalize Nt.nat2s (m - n) = c at *
  clear hm hn hle
  go_enter Tryz.func58, Tryz.ntmps58
  go_wp2_with fail
  refine (HV.out _).mono ?_
  rintro e W1 ⟨rfl, rfl⟩
  go_wp2_with fail
  refine (HV2.out _).mono ?_
  rintro e W1 ⟨rfl, rfl⟩
  go_wp2_with fail
  refine (HL.out _).mono ?_
  rintro e W1 ⟨rfl, rfl⟩
  go_wp2_with fail
  refine (HC.out _).mono ?_
  rintro e W1 ⟨rfl, hb1⟩
  go_wp2
  go_ret2
  exact ⟨rfl, hb1⟩

theorem zero_b {n : Nat} (hn : Lib.nDigits n ≤ 1000) : ((Nt.nat2s n).toList == [48]) = decide (n = 0) := is_zero (Nt.num?_nat2s n hn)

set_option maxRecDepth 100000 in
theorem r3Div_any (m n : Nat) (w : World) (hm : Lib.nDigits m ≤ 1000) (hn : Lib.nDigits n ≤ 1000) (h0 : n ≠ 0) :
    Calls Tryz.prog 73 #[.string (Nt.nat2s m), .string (Nt.nat2s n)] w fun e w' => e = .returned (.tuple #[.string (Nt.nat2s (m / n)), .string (Nt.nat2s (m % n)), .int .i64 0]) ∧ Below w.heap.size w w' := by
  have HV := Lib.hid fun W => r3valid_yes m W hm
  have HV2 := Lib.hid fun W => r3valid_yes n W hn
  have HC := Lib.hid fun W => r3div_any m n W hm hn h0
  have hz := zero_b hn
  rw [decide_eq_false h0] at hz
  generalize Nt.nat2s m = a at *
  generalize Nt.nat2s n = b at *
  generalize Nt.nat2s (m / n) = c at *
  generalize Nt.nat2s (m % n) = d at *
  clear hm hn h0
  go_enter Tryz.func73, Tryz.ntmps73
  go_wp2_with fail
  refine (HV.out _).mono ?_
  rintro e W1 ⟨rfl, rfl⟩
  go_wp2_with fail
  refine (HV2.out _).mono ?_
  rintro e W1 ⟨rfl, rfl⟩
  go_wp2_with fail
  refine (HC.out _).mono ?_
  rintro e W1 ⟨rfl, hb1⟩
  go_wp2
  go_ret3
  exact ⟨rfl, hb1⟩

def strVal : Value → Nat
  | .string s => Nt.val s.data.toList
  | _ => 0
set_option maxRecDepth 100000 in
theorem r3Gcd_any (m n : Nat) (w : World) (hm : Lib.nDigits m ≤ 1000) (hn : Lib.nDigits n ≤ 1000) :
    Calls Tryz.prog 72 #[.string (Nt.nat2s m), .string (Nt.nat2s n)] w fun e w' => e = .returned (.tuple #[.string (Nt.nat2s (Nat.gcd m n)), .int .i64 0]) ∧ Below w.heap.size w w' := by
  have HV := Lib.hid fun W => r3valid_yes m W hm
  have HV2 := Lib.hid fun W => r3valid_yes n W hn
  have HD := Lib.hid fun x y W hx hy h0 => r3div_any x y W hx hy h0
  have HM := Lib.hid hm
  have HN := Lib.hid hn
  have HZ := Lib.hid fun (y : Nat) (hy : Lib.nDigits y ≤ 1000) => zero_b hy
  obtain ⟨a, ha⟩ : ∃ a, Nt.nat2s m = a := ⟨_, rfl⟩
  obtain ⟨b, hb⟩ : ∃ b, Nt.nat2s n = b := ⟨_, rfl⟩
  rw [ha] at HV ⊢
  rw [hb] at HV2 ⊢
  have HA := Lib.hid ha
  have HB := Lib.hid hb
  clear hm hn ha hb
  go_enter Tryz.func72, Tryz.ntmps72
  go_wp2_with fail
  refine (HV.out _).mono ?_
  rintro e W1 ⟨rfl, rfl⟩
  go_wp2_with fail
  refine (HV2.out _).mono ?_
  rintro e W1 ⟨rfl, rfl⟩
  go_wp2_with fail
  go_loopw [6, 7, 8, 9] (fun xv yv _ _ wr => ∃ x y : Nat, xv = .string (Nt.nat2s x) ∧ yv = .string (Nt.nat2s y) ∧ Lib.nDigits x ≤ 1000 ∧ Lib.nDigits y ≤ 1000 ∧ Nat.gcd x y = Nat.gcd m n ∧ Below w.heap.size w wr) (fun _ yv _ _ _ => strVal yv)
  case atStart => exact ⟨m, n, by rw [HA.out], by rw [HB.out], HM.out, HN.out, rfl, Below.refl _ _⟩
  case round =>
    obtain ⟨x, y, rfl, rfl, hx, hy, hg, hB⟩ := hrel
    have hz := HZ.out y hy
    by_cases h0 : y = 0
    · rw [decide_eq_true h0] at hz
      have HG : Hid (x = Nat.gcd m n) := by show _ = _; rw [← hg, h0, Nat.gcd_zero_right]
      have HBB := Lib.hid hB
      clear hg hB h0 hx hy
      generalize Nt.nat2s y = u at *
      go_wp2
      go_ret2
      exact ⟨by rw [HG.out]; rfl, HBB.out⟩
    · rw [decide_eq_false h0] at hz
      have HD := Lib.hid fun W => HD.out x y W hx hy h0
      have HG : Hid (Nat.gcd y (x % y) = Nat.gcd m n) := by show _ = _; rw [← hg, Nat.gcd_comm x y, Nat.gcd_rec y x, Nat.gcd_comm]
      have HR : Hid (Lib.nDigits (x % y) ≤ 1000) := digits_mono (Nat.mod_le _ _) hx
      have HY := Lib.hid hy
      have HLT : Hid (strVal (.string (Nt.nat2s (x % y))) < strVal (.string (Nt.nat2s y))) := by
        show _ < _
        unfold strVal
        dsimp only
        rw [Nt.nat2s_list, Nt.nat2s_list, Nt.val_dec, Nt.val_dec]
        exact Nat.mod_lt _ (Nat.pos_of_ne_zero h0)
      have HBB := Lib.hid hB
      clear hg hB h0 hx hy
      obtain ⟨u, hu⟩ : ∃ u, Nt.nat2s y = u := ⟨_, rfl⟩
      obtain ⟨v, hv⟩ : ∃ v, Nt.nat2s (x % y) = v := ⟨_, rfl⟩
      rw [hu] at hz HD HLT ⊢
      rw [hv] at HD HLT
      have HU := Lib.hid hu
      have HVV := Lib.hid hv
      clear hu hv
      go_wp2_with fail
      refine (HD.out _).mono ?_
      rintro e W1 ⟨rfl, hb1⟩
      go_wp2
      go_roundw
      case rel => exact ⟨y, x % y, by rw [HU.out], by rw [HVV.out], HY.out, HR.out, HG.out, below_trans HBB.out hb1⟩
      case measure => exact HLT.out

set_option maxRecDepth 100000 in
theorem r3Compare_any (m n : Nat) (w : World) (hm : Lib.nDigits m ≤ 1000) (hn : Lib.nDigits n ≤ 1000) :
    Calls Tryz.prog 57 #[.string (Nt.nat2s m), .string (Nt.nat2s n)] w fun e w' => e = .returned (.int .i64 (cmpI m n)) ∧ w = w' := by
  have HV := Lib.hid fun W => r3valid_yes m W hm
  have HV2 := Lib.hid fun W => r3valid_yes n W hn
  have HL := Lib.hid fun W => r3less_any m n W (by omega) (by omega)
  by_cases he : m = n
  · rw [cmpI_eq he]
    have hb : ((Nt.nat2s m).toList == (Nt.nat2s n).toList) = true := by rw [he]; simp
    generalize Nt.nat2s m = a at *
    generalize Nt.nat2s n = b at *
    clear hm hn he
    go_enter Tryz.func57, Tryz.ntmps57
    go_wp2_with fail
    refine (HV.out _).mono ?_
    rintro e W1 ⟨rfl, rfl⟩
    go_wp2_with fail
    refine (HV2.out _).mono ?_
    rintro e W1 ⟨rfl, rfl⟩
    go_wp2
    go_ret
    exact ⟨rfl, rfl⟩
  · have hb : ((Nt.nat2s m).toList == (Nt.nat2s n).toList) = false := sNe (fun e => he (Nt.nat2s_inj e))
    by_cases hlt : m < n
    · rw [cmpI_lt hlt]
      rw [decide_eq_true hlt] at HL
      generalize Nt.nat2s m = a at *
      generalize Nt.nat2s n = b at *
      clear hm hn he hlt
      go_enter Tryz.func57, Tryz.ntmps57
      go_wp2_with fail
      refine (HV.out _).mono ?_
      rintro e W1 ⟨rfl, rfl⟩
      go_wp2_with fail
      refine (HV2.out _).mono ?_
      rintro e W1 ⟨rfl, rfl⟩
      go_wp2_with fail
      refine (HL.out _).mono ?_
      rintro e W1 ⟨rfl, rfl⟩
      go_wp2
      go_ret
      exact ⟨rfl, rfl⟩
    · rw [cmpI_gt (show n < m by omega)]
      rw [decide_eq_false hlt] at HL
      generalize Nt.nat2s m = a at *
      generalize Nt.nat2s n = b at *
      clear hm hn he hlt
      go_enter Tryz.func57, Tryz.ntmps57
      go_wp2_with fail
      refine (HV.out _).mono ?_
      rintro e W1 ⟨rfl, rfl⟩
      go_wp2_with fail
      refine (HV2.out _).mono ?_
      rintro e W1 ⟨rfl, rfl⟩
      go_wp2_with fail
      refine (HL.out _).mono ?_
      rintro e W1 ⟨rfl, rfl⟩
      go_wp2
      go_ret
      exact ⟨rfl, rfl⟩
end Go.Proofs.YtcphclpekllcoaaGreatDoor
