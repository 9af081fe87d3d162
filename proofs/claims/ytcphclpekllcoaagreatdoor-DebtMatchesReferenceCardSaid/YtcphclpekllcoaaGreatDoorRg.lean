/- Walks: package observatoryref04: Zero, lowest, Valid, Add. -/
import Derived.Test.YtcphclpekllcoaaGreatDoorRe
namespace Go.Proofs.YtcphclpekllcoaaGreatDoor
open Go.RowKit Go.Sort Go.Deep

set_option maxRecDepth 100000 in
theorem r4zero_any (w : World) : Calls Tryz.prog 71 #[] w fun e w' => e = .returned (rv (false, ⟨#[48]⟩, ⟨#[49]⟩)) ∧ Below w.heap.size w w' := by
  go_enter Tryz.func71, Tryz.ntmps71
  go_wp2
  refine bodyPost_ret (results_rat rfl rfl (cells3 (kept_new (Below.refl _ _))).1) rfl ?_
  exact ⟨rfl, (Below.refl _ _).alloc (Nat.le_refl _) _⟩

set_option maxRecDepth 100000 in
theorem r4lowest_any (neg : Bool) (a b : ByteArray) (m n : Nat) (w : World) (hna : Nt.num? a = some m) (hnb : Nt.num? b = some n) (hn : n ≠ 0) :
    Calls Tryz.prog 52 #[.bool neg, .string a, .string b] w fun e w' => e = .returned (rv (Nt.rs (Nt.low neg m n))) ∧ Below w.heap.size w w' := by
  have hB := (Below.refl w.heap.size w).alloc (Nat.le_refl _) (.cells #[.bool false, .string ⟨#[]⟩, .string ⟨#[]⟩] 57)
  have hS := World.size_alloc' w (.cells #[.bool false, .string ⟨#[]⟩, .string ⟨#[]⟩] 57)
  by_cases hm : m = 0
  · have hz : (a.toList == [48]) = true := by rw [is_zero hna, decide_eq_true hm]
    have hs : Hid (Nt.rs (Nt.low neg m n) = (false, Nt.nat2s 0, Nt.nat2s 1)) := by show _ = _; rw [hm, Nt.low_zero, Nt.rs_zero]
    have HZ := Lib.hid fun W => r4zero_any W
    unfold rv at HZ
    clear hna hnb
    go_enter Tryz.func52, Tryz.ntmps52
    go_wp2_with fail
    refine (HZ.out _).mono ?_
    rintro e W3 ⟨rfl, hb3⟩
    obtain ⟨⟨hc0, hc1, hc2⟩, hf0, hf1, hf2⟩ := cells3 (kept_new hb3)
    have HK := Lib.hid (kept_new hb3)
    have hB := Lib.hid (hB.trans (hb3.mono (Nat.le_of_lt hS)))
    clear hb3 hS
    go_wp2
    obtain ⟨h1, h2⟩ := set3 (x := .bool false) (y := .string ⟨#[48]⟩) (z := .string ⟨#[49]⟩) HK.out hB.out (Nat.le_refl _)
    refine bodyPost_ret (results_rat rfl rfl (cells3 h1).1) rfl ?_
    exact ⟨by rw [hs.out, nat2s_0, nat2s_1], h2⟩
  · have hz : (a.toList == [48]) = false := by rw [is_zero hna, decide_eq_false hm]
    obtain ⟨rfl, fa⟩ := Nt.num?_some hna
    obtain ⟨rfl, fb⟩ := Nt.num?_some hnb
    have hgf := gcd_fit (m := m) hn fb
    have hg0 : Nat.gcd m n ≠ 0 := fun e => hn (Nat.eq_zero_of_gcd_eq_zero_right e)
    have HG := Lib.hid fun W => r3Gcd_any m n W fa fb
    have HD1 := Lib.hid fun W => r3Div_any m (Nat.gcd m n) W fa hgf hg0
    have HD2 := Lib.hid fun W => r3Div_any n (Nat.gcd m n) W fb hgf hg0
    have hs : Hid (Nt.rs (Nt.low neg m n) = (neg, Nt.nat2s (m / Nat.gcd m n), Nt.nat2s (n / Nat.gcd m n))) := Nt.low_eq neg m n hn hm
    clear hna hnb hn hm hg0 fa fb hgf
    generalize Nt.nat2s m = a at *
    generalize Nt.nat2s n = b at *
    generalize Nt.nat2s (Nat.gcd m n) = g at *
    generalize Nt.nat2s (m / Nat.gcd m n) = x1 at *
    generalize Nt.nat2s (n / Nat.gcd m n) = x2 at *
    generalize Nt.nat2s (m % Nat.gcd m n) = x3 at *
    generalize Nt.nat2s (n % Nat.gcd m n) = x4 at *
    go_enter Tryz.func52, Tryz.ntmps52
    go_wp2_with fail
    refine (HG.out _).mono ?_
    rintro e W1 ⟨rfl, hb1⟩
    go_wp2_with fail
    refine (HD1.out _).mono ?_
    rintro e W2 ⟨rfl, hb2⟩
    have hb2 := below_trans hb1 hb2
    go_wp2_with fail
    refine (HD2.out _).mono ?_
    rintro e W3 ⟨rfl, hb3⟩
    have hb3 := below_trans hb2 hb3
    obtain ⟨⟨hc0, hc1, hc2⟩, hf0, hf1, hf2⟩ := cells3 (kept_new hb3)
    have HK := Lib.hid (kept_new hb3)
    have hB := Lib.hid (hB.trans (hb3.mono (Nat.le_of_lt hS)))
    clear hb1 hb2 hb3 hS
    go_wp2
    obtain ⟨h1, h2⟩ := set3 (x := .bool neg) (y := .string x1) (z := .string x2) HK.out hB.out (Nat.le_refl _)
    refine bodyPost_ret (results_rat rfl rfl (cells3 h1).1) rfl ?_
    exact ⟨by rw [hs.out], h2⟩

set_option maxRecDepth 100000 in
theorem r4Valid_any (neg : Bool) (a b : ByteArray) (w : World) (ha : a.size ≤ 9223372036854775807) (hb : b.size ≤ 9223372036854775807) :
    Calls Tryz.prog 54 #[rv (neg, a, b)] w fun e w' => e = .returned (.bool (Nt.rValid (neg, a, b))) ∧ Below w.heap.size w w' := by
  have HV := Lib.hid fun W => r3valid_any a W ha
  have HV2 := Lib.hid fun W => r3valid_any b W hb
  have hB := (Below.refl w.heap.size w).alloc (Nat.le_refl _) (.cells #[.bool neg, .string a, .string b] 57)
  unfold rv
  cases hna : Nt.num? a with
  | none =>
    rw [hna] at HV
    rw [rValid_none1 hna]
    clear hna
    go_enter Tryz.func54, Tryz.ntmps54
    go_wp2_with fail
    refine (HV.out _).mono ?_
    rintro e W1 ⟨rfl, rfl⟩
    go_wp2
    go_ret
    exact ⟨rfl, hB⟩
  | some m =>
    rw [hna] at HV
    cases hnb : Nt.num? b with
    | none =>
      rw [hnb] at HV2
      rw [rValid_none2 hna hnb]
      clear hna hnb
      go_enter Tryz.func54, Tryz.ntmps54
      go_wp2_with fail
      refine (HV.out _).mono ?_
      rintro e W1 ⟨rfl, rfl⟩
      go_wp2_with fail
      refine (HV2.out _).mono ?_
      rintro e W1 ⟨rfl, rfl⟩
      go_wp2
      go_ret
      exact ⟨rfl, hB⟩
    | some n =>
      rw [hnb] at HV2
      rw [rValid_some hna hnb]
      have hz := is_zero hnb
      by_cases hn : n = 0
      · rw [decide_eq_true hn] at hz
        have HR : Hid ((decide (n ≠ 0) && decide (Nat.gcd m n = 1) && decide (m = 0 → neg = false)) = false) := by
          show _ = _; rw [decide_eq_false (fun h => h hn)]; rfl
        rw [HR.out]
        clear hna hnb hn
        go_enter Tryz.func54, Tryz.ntmps54
        go_wp2_with fail
        refine (HV.out _).mono ?_
        rintro e W1 ⟨rfl, rfl⟩
        go_wp2_with fail
        refine (HV2.out _).mono ?_
        rintro e W1 ⟨rfl, rfl⟩
        go_wp2
        go_ret
        exact ⟨rfl, hB⟩
      · rw [decide_eq_false hn] at hz
        have hz2 := is_zero hna
        by_cases hm : m = 0
        · rw [decide_eq_true hm] at hz2
          have ho := is_one hnb
          have HR : Hid ((decide (n ≠ 0) && decide (Nat.gcd m n = 1) && decide (m = 0 → neg = false)) = (!neg && decide (n = 1))) := by
            show _ = _; subst hm; cases neg <;> simp [hn]
          rw [HR.out]
          clear hna hnb hm hn HR
          generalize decide (n = 1) = r at *
          cases neg <;> cases r
          all_goals
            go_enter Tryz.func54, Tryz.ntmps54
            go_wp2_with fail
            refine (HV.out _).mono ?_
            rintro e W1 ⟨rfl, rfl⟩
            go_wp2_with fail
            refine (HV2.out _).mono ?_
            rintro e W1 ⟨rfl, rfl⟩
            go_wp2
            go_ret
            exact ⟨rfl, hB⟩
        · rw [decide_eq_false hm] at hz2
          obtain ⟨rfl, fa⟩ := Nt.num?_some hna
          obtain ⟨rfl, fb⟩ := Nt.num?_some hnb
          have HG := Lib.hid fun W => r3Gcd_any m n W fa fb
          have hg : Nt.num? (Nt.nat2s (Nat.gcd m n)) = some (Nat.gcd m n) := Nt.num?_nat2s _ (gcd_fit hn fb)
          have ho := is_one hg
          have HR : Hid ((decide (n ≠ 0) && decide (Nat.gcd m n = 1) && decide (m = 0 → neg = false)) = decide (Nat.gcd m n = 1)) := by
            show _ = _; rw [decide_eq_true hn, decide_eq_true (fun h => absurd h hm : m = 0 → neg = false)]; simp
          rw [HR.out]
          clear hna hnb hm hg hn HR fa fb
          generalize Nt.nat2s (Nat.gcd m n) = g at *
          generalize decide (Nat.gcd m n = 1) = r at *
          generalize Nt.nat2s m = a at *
          generalize Nt.nat2s n = b at *
          go_enter Tryz.func54, Tryz.ntmps54
          go_wp2_with fail
          refine (HV.out _).mono ?_
          rintro e W1 ⟨rfl, rfl⟩
          go_wp2_with fail
          refine (HV2.out _).mono ?_
          rintro e W1 ⟨rfl, rfl⟩
          go_wp2_with fail
          refine (HG.out _).mono ?_
          rintro e W3 ⟨rfl, hb3⟩
          have hB1 := Lib.hid (below_trans hB hb3)
          clear hb3 hB
          go_wp2
          go_ret
          exact ⟨rfl, hB1.out⟩
end Go.Proofs.YtcphclpekllcoaaGreatDoor
