/- Walks: package observatoryref04: Add. -/
import Derived.Test.YtcphclpekllcoaaGreatDoorRg
namespace Go.Proofs.YtcphclpekllcoaaGreatDoor
open Go.RowKit Go.Sort Go.Deep

theorem nOut_yes {n : Nat} (h : Nt.dig1000 n = true) : nOut n = #[.string (Nt.nat2s n), .int .i64 0] := if_pos (by simpa [Nt.dig1000] using h)
theorem nOut_no {n : Nat} (h : ¬ Nt.dig1000 n = true) : nOut n = #[.string ⟨#[]⟩, .int .i64 2] := if_neg (by simpa [Nt.dig1000] using h)
theorem dig_le {n : Nat} (h : Nt.dig1000 n = true) : Lib.nDigits n ≤ 1000 := by simpa [Nt.dig1000] using h
set_option maxHeartbeats 3200000 in
set_option maxRecDepth 100000 in
theorem r4Add_inv1 (x1 y1 : Bool) (a1 a2 b1 b2 : ByteArray) (w : World) (h1 : a1.size ≤ 9223372036854775807) (h2 : a2.size ≤ 9223372036854775807) (hva : Nt.rValid (x1, a1, a2) = false) :
    Calls Tryz.prog 38 #[rv (x1, a1, a2), rv (y1, b1, b2)] w fun e w' => e = .returned (.tuple (rout (rErr 1))) ∧ Below w.heap.size w w' := by
  have HV := Lib.hid fun W => r4Valid_any x1 a1 a2 W h1 h2
  rw [hva] at HV
  clear hva
  unfold rv at HV ⊢
  have B1 := (Below.refl w.heap.size w).alloc (Nat.le_refl _) (.cells #[.bool x1, .string a1, .string a2] 57)
  go_enter Tryz.func38, Tryz.ntmps38
  go_wp2_with fail
  refine (HV.out _).mono ?_
  rintro e W1 ⟨rfl, hw1⟩
  obtain ⟨r0, r1, r2⟩ := heap3 w (.cells #[.bool x1, .string a1, .string a2] 57) (.cells #[.bool y1, .string b1, .string b2] 57) (.cells #[.bool false, .string ⟨#[]⟩, .string ⟨#[]⟩] 57)
  have B3 := ((B1.alloc (by simp) (.cells #[.bool y1, .string b1, .string b2] 57)).alloc (by simp; omega) (.cells #[.bool false, .string ⟨#[]⟩, .string ⟨#[]⟩] 57))
  have B5 := Lib.hid (B3.trans (hw1.mono B3.size))
  have R2 := Lib.hid ((hw1.block _ (lt_of_block r2)).trans r2)
  obtain ⟨⟨hd0, hd1, hd2⟩, hf0, hf1, hf2⟩ := cells3 R2.out
  clear r0 r1 r2 B1 B3 hw1 HV
  go_wp2
  obtain ⟨h1, h2⟩ := set3 (x := .bool false) (y := .string ⟨#[]⟩) (z := .string ⟨#[]⟩) R2.out B5.out (Nat.le_add_right _ 2)
  refine bodyPost_ret (results_ratE rfl rfl (cells3 h1).1) rfl ?_
  exact ⟨rfl, h2⟩

set_option maxHeartbeats 3200000 in
set_option maxRecDepth 100000 in
theorem r4Add_inv2 (x1 y1 : Bool) (a1 a2 b1 b2 : ByteArray) (w : World) (h1 : a1.size ≤ 9223372036854775807) (h2 : a2.size ≤ 9223372036854775807) (h3 : b1.size ≤ 9223372036854775807) (h4 : b2.size ≤ 9223372036854775807) (hva : Nt.rValid (x1, a1, a2) = true) (hvb : Nt.rValid (y1, b1, b2) = false) :
    Calls Tryz.prog 38 #[rv (x1, a1, a2), rv (y1, b1, b2)] w fun e w' => e = .returned (.tuple (rout (rErr 1))) ∧ Below w.heap.size w w' := by
  have HV := Lib.hid fun W => r4Valid_any x1 a1 a2 W h1 h2
  have HV2 := Lib.hid fun W => r4Valid_any y1 b1 b2 W h3 h4
  rw [hva] at HV
  rw [hvb] at HV2
  clear hva hvb
  unfold rv at HV HV2 ⊢
  have B1 := (Below.refl w.heap.size w).alloc (Nat.le_refl _) (.cells #[.bool x1, .string a1, .string a2] 57)
  go_enter Tryz.func38, Tryz.ntmps38
  go_wp2_with fail
  refine (HV.out _).mono ?_
  rintro e W1 ⟨rfl, hw1⟩
  obtain ⟨r0, r1, r2⟩ := heap3 w (.cells #[.bool x1, .string a1, .string a2] 57) (.cells #[.bool y1, .string b1, .string b2] 57) (.cells #[.bool false, .string ⟨#[]⟩, .string ⟨#[]⟩] 57)
  have B3 := ((B1.alloc (by simp) (.cells #[.bool y1, .string b1, .string b2] 57)).alloc (by simp; omega) (.cells #[.bool false, .string ⟨#[]⟩, .string ⟨#[]⟩] 57))
  have B4 := B3.trans (hw1.mono B3.size)
  obtain ⟨⟨hc0, hc1, hc2⟩, -⟩ := cells3 ((hw1.block _ (lt_of_block r1)).trans r1)
  go_wp2_with fail
  refine (HV2.out _).mono ?_
  rintro e W2 ⟨rfl, hw2⟩
  have B5 := Lib.hid (below_trans B4 hw2)
  have hw2 := below_trans hw1 hw2
  have R0 := Lib.hid ((hw2.block _ (lt_of_block r0)).trans r0)
  have R1 := Lib.hid ((hw2.block _ (lt_of_block r1)).trans r1)
  have R2 := Lib.hid ((hw2.block _ (lt_of_block r2)).trans r2)
  clear r0 r1 r2 B1 B3 B4 hw1 hw2 hc0 hc1 hc2 HV HV2
  obtain ⟨⟨hd0, hd1, hd2⟩, hf0, hf1, hf2⟩ := cells3 R2.out
  go_wp2
  obtain ⟨h1, h2⟩ := set3 (x := .bool false) (y := .string ⟨#[]⟩) (z := .string ⟨#[]⟩) R2.out B5.out (Nat.le_add_right _ 2)
  refine bodyPost_ret (results_ratE rfl rfl (cells3 h1).1) rfl ?_
  exact ⟨rfl, h2⟩

set_option maxHeartbeats 12800000 in
set_option maxRecDepth 100000 in
theorem r4Add_ok (x1 y1 : Bool) (a1 a2 b1 b2 : ByteArray) (m1 d1 m2 d2 : Nat) (w : World) (ha1 : Nt.num? a1 = some m1) (ha2 : Nt.num? a2 = some d1) (hb1 : Nt.num? b1 = some m2) (hb2 : Nt.num? b2 = some d2)
    (hva : Nt.rValid (x1, a1, a2) = true) (hvb : Nt.rValid (y1, b1, b2) = true) :
    Calls Tryz.prog 38 #[rv (x1, a1, a2), rv (y1, b1, b2)] w fun e w' => e = .returned (.tuple (rout (Nt.rAdd (x1, a1, a2) (y1, b1, b2)))) ∧ Below w.heap.size w w' := by
  have HV := Lib.hid fun W => r4Valid_any x1 a1 a2 W (num_size ha1) (num_size ha2)
  have HV2 := Lib.hid fun W => r4Valid_any y1 b1 b2 W (num_size hb1) (num_size hb2)
  have hd1 : d1 ≠ 0 := by obtain ⟨q, _, _, _, rfl⟩ := rat_parts ha1 ha2 hva; exact q.den_nz
  have hd2 : d2 ≠ 0 := by obtain ⟨q, _, _, _, rfl⟩ := rat_parts hb1 hb2 hvb; exact q.den_nz
  have HADD := Lib.hid (addCase ha1 ha2 hb1 hb2 hva hvb)
  generalize Nt.rAdd (x1, a1, a2) (y1, b1, b2) = X at *
  rw [hva] at HV
  rw [hvb] at HV2
  unfold rv at HV HV2 ⊢
  clear hva hvb
  obtain ⟨ea1, fa1⟩ := Nt.num?_some ha1
  obtain ⟨ea2, fa2⟩ := Nt.num?_some ha2
  obtain ⟨eb1, fb1⟩ := Nt.num?_some hb1
  obtain ⟨eb2, fb2⟩ := Nt.num?_some hb2
  have HM1 := Lib.hid fun W => r3Mul_any m1 d2 W fa1 fb2
  have HM2 := Lib.hid fun W => r3Mul_any m2 d1 W fb1 fa2
  have HM3 := Lib.hid fun W => r3Mul_any d1 d2 W fa2 fb2
  rw [← ea1, ← eb2] at HM1
  rw [← eb1, ← ea2] at HM2
  rw [← ea2, ← eb2] at HM3
  have HDD : Hid (d1 * d2 ≠ 0) := Nat.mul_ne_zero hd1 hd2
  clear ea1 ea2 eb1 eb2 fa1 fa2 fb1 fb2 ha1 ha2 hb1 hb2 hd1 hd2
  by_cases h3 : Nt.dig1000 (m1 * d2) = true ∧ Nt.dig1000 (m2 * d1) = true ∧ Nt.dig1000 (d1 * d2) = true
  · rw [if_pos h3] at HADD
    obtain ⟨z1, z2, z3⟩ := h3
    rw [nOut_yes z1] at HM1
    rw [nOut_yes z2] at HM2
    rw [nOut_yes z3] at HM3
    have HLOW := Lib.hid fun neg n W (hn : Lib.nDigits n ≤ 1000) => r4lowest_any neg (Nt.nat2s n) (Nt.nat2s (d1 * d2)) n (d1 * d2) W (Nt.num?_nat2s n hn) (Nt.num?_nat2s _ (dig_le z3)) HDD.out
    by_cases hs : x1 = y1
    · rw [if_pos hs] at HADD
      have hxy : (x1 == y1) = true := by simpa using hs
      have HA := Lib.hid fun W => r3Add_any (m1 * d2) (m2 * d1) W (dig_le z1) (dig_le z2)
      by_cases h4 : Nt.dig1000 (m1 * d2 + m2 * d1) = true
      · rw [if_pos h4] at HADD
        rw [nOut_yes h4] at HA
        have HL := Lib.hid fun W => HLOW.out x1 (m1 * d2 + m2 * d1) W (dig_le h4)
        obtain ⟨⟨g1, g2, g3⟩, hg⟩ : ∃ g, Nt.rs (Nt.low x1 (m1 * d2 + m2 * d1) (d1 * d2)) = g := ⟨_, rfl⟩
        rw [hg] at HADD HL
        unfold rv at HL
        have HX := HADD
        generalize Nt.nat2s (m1 * d2 + m2 * d1) = u at *
        generalize Nt.nat2s (m1 * d2) = p at *
        generalize Nt.nat2s (m2 * d1) = q at *
        generalize Nt.nat2s (d1 * d2) = d at *
        clear hg h4 hs z1 z2 z3 HLOW HDD HADD
        have B1 := (Below.refl w.heap.size w).alloc (Nat.le_refl _) (.cells #[.bool x1, .string a1, .string a2] 57)
        go_enter Tryz.func38, Tryz.ntmps38
        go_wp2_with fail
        refine (HV.out _).mono ?_
        rintro e W1 ⟨rfl, hw1⟩
        obtain ⟨r0, r1, r2⟩ := heap3 w (.cells #[.bool x1, .string a1, .string a2] 57) (.cells #[.bool y1, .string b1, .string b2] 57) (.cells #[.bool false, .string ⟨#[]⟩, .string ⟨#[]⟩] 57)
        have B3 := ((B1.alloc (by simp) (.cells #[.bool y1, .string b1, .string b2] 57)).alloc (by simp; omega) (.cells #[.bool false, .string ⟨#[]⟩, .string ⟨#[]⟩] 57))
        have B4 := B3.trans (hw1.mono B3.size)
        obtain ⟨⟨hc0, hc1, hc2⟩, -⟩ := cells3 ((hw1.block _ (lt_of_block r1)).trans r1)
        go_wp2_with fail
        refine (HV2.out _).mono ?_
        rintro e W2 ⟨rfl, hw2⟩
        have B5 := Lib.hid (below_trans B4 hw2)
        have hw2 := below_trans hw1 hw2
        have R0 := Lib.hid ((hw2.block _ (lt_of_block r0)).trans r0)
        have R1 := Lib.hid ((hw2.block _ (lt_of_block r1)).trans r1)
        have R2 := Lib.hid ((hw2.block _ (lt_of_block r2)).trans r2)
        clear r0 r1 r2 B1 B3 B4 hw1 hw2 hc0 hc1 hc2 HV HV2
        obtain ⟨⟨p0, p1, p2⟩, -⟩ := cells3 R0.out
        obtain ⟨⟨q0, q1, q2⟩, -⟩ := cells3 R1.out
        go_wp2_with fail
        refine (HM1.out _).mono ?_
        rintro e W3 ⟨rfl, hb3⟩
        obtain ⟨⟨s0, s1, s2⟩, -⟩ := cells3 ((hb3.block _ (lt_of_block R0.out)).trans R0.out)
        obtain ⟨⟨t0, t1, t2⟩, -⟩ := cells3 ((hb3.block _ (lt_of_block R1.out)).trans R1.out)
        clear p0 p1 p2 q0 q1 q2
        go_wp2_with fail
        refine (HM2.out _).mono ?_
        rintro e W4 ⟨rfl, hb4⟩
        have hb4 := below_trans hb3 hb4
        obtain ⟨⟨p0, p1, p2⟩, -⟩ := cells3 ((hb4.block _ (lt_of_block R0.out)).trans R0.out)
        obtain ⟨⟨q0, q1, q2⟩, -⟩ := cells3 ((hb4.block _ (lt_of_block R1.out)).trans R1.out)
        clear s0 s1 s2 t0 t1 t2 hb3
        go_wp2_with fail
        refine (HM3.out _).mono ?_
        rintro e W5 ⟨rfl, hb5⟩
        have hb5 := below_trans hb4 hb5
        have B5 := Lib.hid (below_trans B5.out hb5)
        have R0 := Lib.hid ((hb5.block _ (lt_of_block R0.out)).trans R0.out)
        have R1 := Lib.hid ((hb5.block _ (lt_of_block R1.out)).trans R1.out)
        have R2 := Lib.hid ((hb5.block _ (lt_of_block R2.out)).trans R2.out)
        clear p0 p1 p2 q0 q1 q2 hb4 hb5
        obtain ⟨⟨s0, s1, s2⟩, -⟩ := cells3 R0.out
        obtain ⟨⟨t0, t1, t2⟩, -⟩ := cells3 R1.out
        go_wp2_with fail
        refine (HA.out _).mono ?_
        rintro e W6 ⟨rfl, hb6⟩
        have B5 := Lib.hid (below_trans B5.out hb6)
        have R0 := Lib.hid ((hb6.block _ (lt_of_block R0.out)).trans R0.out)
        have R1 := Lib.hid ((hb6.block _ (lt_of_block R1.out)).trans R1.out)
        have R2 := Lib.hid ((hb6.block _ (lt_of_block R2.out)).trans R2.out)
        clear s0 s1 s2 t0 t1 t2 hb6
        obtain ⟨⟨s0, s1, s2⟩, -⟩ := cells3 R0.out
        obtain ⟨⟨t0, t1, t2⟩, -⟩ := cells3 R1.out
        go_wp2_with fail
        refine (HL.out _).mono ?_
        rintro e W9 ⟨rfl, hb9⟩
        have B9 := Lib.hid (below_trans B5.out hb9)
        have R9 := Lib.hid ((hb9.block _ (lt_of_block R2.out)).trans R2.out)
        obtain ⟨⟨hd0, hd1, hd2⟩, hf0, hf1, hf2⟩ := cells3 R9.out
        clear hb9
        go_wp2
        obtain ⟨h1, h2⟩ := set3 (x := .bool g1) (y := .string g2) (z := .string g3) R9.out B9.out (Nat.le_add_right _ 2)
        refine bodyPost_ret (results_ratE rfl rfl (cells3 h1).1) rfl ?_
        exact ⟨by rw [HX.out]; rfl, h2⟩
      · rw [if_neg h4] at HADD
        rw [nOut_no h4] at HA
        have HX := HADD
        generalize Nt.nat2s (m1 * d2) = p at *
        generalize Nt.nat2s (m2 * d1) = q at *
        generalize Nt.nat2s (d1 * d2) = d at *
        clear h4 hs z1 z2 z3 HLOW HDD HADD
        have B1 := (Below.refl w.heap.size w).alloc (Nat.le_refl _) (.cells #[.bool x1, .string a1, .string a2] 57)
        go_enter Tryz.func38, Tryz.ntmps38
        go_wp2_with fail
        refine (HV.out _).mono ?_
        rintro e W1 ⟨rfl, hw1⟩
        obtain ⟨r0, r1, r2⟩ := heap3 w (.cells #[.bool x1, .string a1, .string a2] 57) (.cells #[.bool y1, .string b1, .string b2] 57) (.cells #[.bool false, .string ⟨#[]⟩, .string ⟨#[]⟩] 57)
        have B3 := ((B1.alloc (by simp) (.cells #[.bool y1, .string b1, .string b2] 57)).alloc (by simp; omega) (.cells #[.bool false, .string ⟨#[]⟩, .string ⟨#[]⟩] 57))
        have B4 := B3.trans (hw1.mono B3.size)
        obtain ⟨⟨hc0, hc1, hc2⟩, -⟩ := cells3 ((hw1.block _ (lt_of_block r1)).trans r1)
        go_wp2_with fail
        refine (HV2.out _).mono ?_
        rintro e W2 ⟨rfl, hw2⟩
        have B5 := Lib.hid (below_trans B4 hw2)
        have hw2 := below_trans hw1 hw2
        have R0 := Lib.hid ((hw2.block _ (lt_of_block r0)).trans r0)
        have R1 := Lib.hid ((hw2.block _ (lt_of_block r1)).trans r1)
        have R2 := Lib.hid ((hw2.block _ (lt_of_block r2)).trans r2)
        clear r0 r1 r2 B1 B3 B4 hw1 hw2 hc0 hc1 hc2 HV HV2
        obtain ⟨⟨p0, p1, p2⟩, -⟩ := cells3 R0.out
        obtain ⟨⟨q0, q1, q2⟩, -⟩ := cells3 R1.out
        go_wp2_with fail
        refine (HM1.out _).mono ?_
        rintro e W3 ⟨rfl, hb3⟩
        obtain ⟨⟨s0, s1, s2⟩, -⟩ := cells3 ((hb3.block _ (lt_of_block R0.out)).trans R0.out)
        obtain ⟨⟨t0, t1, t2⟩, -⟩ := cells3 ((hb3.block _ (lt_of_block R1.out)).trans R1.out)
        clear p0 p1 p2 q0 q1 q2
        go_wp2_with fail
        refine (HM2.out _).mono ?_
        rintro e W4 ⟨rfl, hb4⟩
        have hb4 := below_trans hb3 hb4
        obtain ⟨⟨p0, p1, p2⟩, -⟩ := cells3 ((hb4.block _ (lt_of_block R0.out)).trans R0.out)
        obtain ⟨⟨q0, q1, q2⟩, -⟩ := cells3 ((hb4.block _ (lt_of_block R1.out)).trans R1.out)
        clear s0 s1 s2 t0 t1 t2 hb3
        go_wp2_with fail
        refine (HM3.out _).mono ?_
        rintro e W5 ⟨rfl, hb5⟩
        have hb5 := below_trans hb4 hb5
        have B5 := Lib.hid (below_trans B5.out hb5)
        have R0 := Lib.hid ((hb5.block _ (lt_of_block R0.out)).trans R0.out)
        have R1 := Lib.hid ((hb5.block _ (lt_of_block R1.out)).trans R1.out)
        have R2 := Lib.hid ((hb5.block _ (lt_of_block R2.out)).trans R2.out)
        clear p0 p1 p2 q0 q1 q2 hb4 hb5
        obtain ⟨⟨s0, s1, s2⟩, -⟩ := cells3 R0.out
        obtain ⟨⟨t0, t1, t2⟩, -⟩ := cells3 R1.out
        go_wp2_with fail
        refine (HA.out _).mono ?_
        rintro e W6 ⟨rfl, hb6⟩
        have B5 := Lib.hid (below_trans B5.out hb6)
        have R0 := Lib.hid ((hb6.block _ (lt_of_block R0.out)).trans R0.out)
        have R1 := Lib.hid ((hb6.block _ (lt_of_block R1.out)).trans R1.out)
        have R2 := Lib.hid ((hb6.block _ (lt_of_block R2.out)).trans R2.out)
        clear s0 s1 s2 t0 t1 t2 hb6
        obtain ⟨⟨s0, s1, s2⟩, -⟩ := cells3 R0.out
        obtain ⟨⟨t0, t1, t2⟩, -⟩ := cells3 R1.out
        obtain ⟨⟨hd0, hd1, hd2⟩, hf0, hf1, hf2⟩ := cells3 R2.out
        go_wp2
        obtain ⟨h1, h2⟩ := set3 (x := .bool false) (y := .string ⟨#[]⟩) (z := .string ⟨#[]⟩) R2.out B5.out (Nat.le_add_right _ 2)
        refine bodyPost_ret (results_ratE rfl rfl (cells3 h1).1) rfl ?_
        exact ⟨by rw [HX.out]; rfl, h2⟩
    · rw [if_neg hs] at HADD
      have hxy : (x1 == y1) = false := by simpa using hs
      have HC := Lib.hid fun W => r3Compare_any (m1 * d2) (m2 * d1) W (dig_le z1) (dig_le z2)
      by_cases h4 : m1 * d2 < m2 * d1
      · rw [if_pos h4] at HADD
        rw [cmpI_lt h4] at HC
        have HA := Lib.hid fun W => r3Sub_any (m2 * d1) (m1 * d2) W (dig_le z2) (dig_le z1) (Nat.le_of_lt h4)
        have HL := Lib.hid fun W => HLOW.out y1 (m2 * d1 - m1 * d2) W (digits_mono (Nat.sub_le _ _) (dig_le z2))
        obtain ⟨⟨g1, g2, g3⟩, hg⟩ : ∃ g, Nt.rs (Nt.low y1 (m2 * d1 - m1 * d2) (d1 * d2)) = g := ⟨_, rfl⟩
        rw [hg] at HADD HL
        unfold rv at HL
        have HX := HADD
        generalize Nt.nat2s (m2 * d1 - m1 * d2) = u at *
        generalize Nt.nat2s (m1 * d2) = p at *
        generalize Nt.nat2s (m2 * d1) = q at *
        generalize Nt.nat2s (d1 * d2) = d at *
        clear hg h4 hs z1 z2 z3 HLOW HDD HADD
        have B1 := (Below.refl w.heap.size w).alloc (Nat.le_refl _) (.cells #[.bool x1, .string a1, .string a2] 57)
        go_enter Tryz.func38, Tryz.ntmps38
        go_wp2_with fail
        refine (HV.out _).mono ?_
        rintro e W1 ⟨rfl, hw1⟩
        obtain ⟨r0, r1, r2⟩ := heap3 w (.cells #[.bool x1, .string a1, .string a2] 57) (.cells #[.bool y1, .string b1, .string b2] 57) (.cells #[.bool false, .string ⟨#[]⟩, .string ⟨#[]⟩] 57)
        have B3 := ((B1.alloc (by simp) (.cells #[.bool y1, .string b1, .string b2] 57)).alloc (by simp; omega) (.cells #[.bool false, .string ⟨#[]⟩, .string ⟨#[]⟩] 57))
        have B4 := B3.trans (hw1.mono B3.size)
        obtain ⟨⟨hc0, hc1, hc2⟩, -⟩ := cells3 ((hw1.block _ (lt_of_block r1)).trans r1)
        go_wp2_with fail
        refine (HV2.out _).mono ?_
        rintro e W2 ⟨rfl, hw2⟩
        have B5 := Lib.hid (below_trans B4 hw2)
        have hw2 := below_trans hw1 hw2
        have R0 := Lib.hid ((hw2.block _ (lt_of_block r0)).trans r0)
        have R1 := Lib.hid ((hw2.block _ (lt_of_block r1)).trans r1)
        have R2 := Lib.hid ((hw2.block _ (lt_of_block r2)).trans r2)
        clear r0 r1 r2 B1 B3 B4 hw1 hw2 hc0 hc1 hc2 HV HV2
        obtain ⟨⟨p0, p1, p2⟩, -⟩ := cells3 R0.out
        obtain ⟨⟨q0, q1, q2⟩, -⟩ := cells3 R1.out
        go_wp2_with fail
        refine (HM1.out _).mono ?_
        rintro e W3 ⟨rfl, hb3⟩
        obtain ⟨⟨s0, s1, s2⟩, -⟩ := cells3 ((hb3.block _ (lt_of_block R0.out)).trans R0.out)
        obtain ⟨⟨t0, t1, t2⟩, -⟩ := cells3 ((hb3.block _ (lt_of_block R1.out)).trans R1.out)
        clear p0 p1 p2 q0 q1 q2
        go_wp2_with fail
        refine (HM2.out _).mono ?_
        rintro e W4 ⟨rfl, hb4⟩
        have hb4 := below_trans hb3 hb4
        obtain ⟨⟨p0, p1, p2⟩, -⟩ := cells3 ((hb4.block _ (lt_of_block R0.out)).trans R0.out)
        obtain ⟨⟨q0, q1, q2⟩, -⟩ := cells3 ((hb4.block _ (lt_of_block R1.out)).trans R1.out)
        clear s0 s1 s2 t0 t1 t2 hb3
        go_wp2_with fail
        refine (HM3.out _).mono ?_
        rintro e W5 ⟨rfl, hb5⟩
        have hb5 := below_trans hb4 hb5
        have B5 := Lib.hid (below_trans B5.out hb5)
        have R0 := Lib.hid ((hb5.block _ (lt_of_block R0.out)).trans R0.out)
        have R1 := Lib.hid ((hb5.block _ (lt_of_block R1.out)).trans R1.out)
        have R2 := Lib.hid ((hb5.block _ (lt_of_block R2.out)).trans R2.out)
        clear p0 p1 p2 q0 q1 q2 hb4 hb5
        obtain ⟨⟨s0, s1, s2⟩, -⟩ := cells3 R0.out
        obtain ⟨⟨t0, t1, t2⟩, -⟩ := cells3 R1.out
        go_wp2_with fail
        refine (HC.out _).mono ?_
        rintro e W6 ⟨rfl, rfl⟩
        go_wp2_with fail
        refine (HA.out _).mono ?_
        rintro e W6 ⟨rfl, hb6⟩
        have B5 := Lib.hid (below_trans B5.out hb6)
        have R0 := Lib.hid ((hb6.block _ (lt_of_block R0.out)).trans R0.out)
        have R1 := Lib.hid ((hb6.block _ (lt_of_block R1.out)).trans R1.out)
        have R2 := Lib.hid ((hb6.block _ (lt_of_block R2.out)).trans R2.out)
        clear s0 s1 s2 t0 t1 t2 hb6
        obtain ⟨⟨s0, s1, s2⟩, -⟩ := cells3 R0.out
        obtain ⟨⟨t0, t1, t2⟩, -⟩ := cells3 R1.out
        go_wp2_with fail
        refine (HL.out _).mono ?_
        rintro e W9 ⟨rfl, hb9⟩
        have B9 := Lib.hid (below_trans B5.out hb9)
        have R9 := Lib.hid ((hb9.block _ (lt_of_block R2.out)).trans R2.out)
        obtain ⟨⟨hd0, hd1, hd2⟩, hf0, hf1, hf2⟩ := cells3 R9.out
        clear hb9
        go_wp2
        obtain ⟨h1, h2⟩ := set3 (x := .bool g1) (y := .string g2) (z := .string g3) R9.out B9.out (Nat.le_add_right _ 2)
        refine bodyPost_ret (results_ratE rfl rfl (cells3 h1).1) rfl ?_
        exact ⟨by rw [HX.out]; rfl, h2⟩
      · rw [if_neg h4] at HADD
        have HA := Lib.hid fun W => r3Sub_any (m1 * d2) (m2 * d1) W (dig_le z1) (dig_le z2) (Nat.le_of_not_lt h4)
        have HL := Lib.hid fun W => HLOW.out x1 (m1 * d2 - m2 * d1) W (digits_mono (Nat.sub_le _ _) (dig_le z1))
        obtain ⟨⟨g1, g2, g3⟩, hg⟩ : ∃ g, Nt.rs (Nt.low x1 (m1 * d2 - m2 * d1) (d1 * d2)) = g := ⟨_, rfl⟩
        rw [hg] at HADD HL
        unfold rv at HL
        have HX := HADD
        obtain ⟨kk, hk⟩ : ∃ kk, cmpI (m1 * d2) (m2 * d1) = kk := ⟨_, rfl⟩
        have hk0 : 0 ≤ kk := by rw [← hk]; unfold cmpI; rw [if_neg h4]; split <;> decide
        rw [hk] at HC
        have hk1 : decide (kk ≥ 0) = true := decide_eq_true hk0
        generalize Nt.nat2s (m1 * d2 - m2 * d1) = u at *
        generalize Nt.nat2s (m1 * d2) = p at *
        generalize Nt.nat2s (m2 * d1) = q at *
        generalize Nt.nat2s (d1 * d2) = d at *
        clear hg h4 hs z1 z2 z3 HLOW HDD HADD hk
        have B1 := (Below.refl w.heap.size w).alloc (Nat.le_refl _) (.cells #[.bool x1, .string a1, .string a2] 57)
        go_enter Tryz.func38, Tryz.ntmps38
        go_wp2_with fail
        refine (HV.out _).mono ?_
        rintro e W1 ⟨rfl, hw1⟩
        obtain ⟨r0, r1, r2⟩ := heap3 w (.cells #[.bool x1, .string a1, .string a2] 57) (.cells #[.bool y1, .string b1, .string b2] 57) (.cells #[.bool false, .string ⟨#[]⟩, .string ⟨#[]⟩] 57)
        have B3 := ((B1.alloc (by simp) (.cells #[.bool y1, .string b1, .string b2] 57)).alloc (by simp; omega) (.cells #[.bool false, .string ⟨#[]⟩, .string ⟨#[]⟩] 57))
        have B4 := B3.trans (hw1.mono B3.size)
        obtain ⟨⟨hc0, hc1, hc2⟩, -⟩ := cells3 ((hw1.block _ (lt_of_block r1)).trans r1)
        go_wp2_with fail
        refine (HV2.out _).mono ?_
        rintro e W2 ⟨rfl, hw2⟩
        have B5 := Lib.hid (below_trans B4 hw2)
        have hw2 := below_trans hw1 hw2
        have R0 := Lib.hid ((hw2.block _ (lt_of_block r0)).trans r0)
        have R1 := Lib.hid ((hw2.block _ (lt_of_block r1)).trans r1)
        have R2 := Lib.hid ((hw2.block _ (lt_of_block r2)).trans r2)
        clear r0 r1 r2 B1 B3 B4 hw1 hw2 hc0 hc1 hc2 HV HV2
        obtain ⟨⟨p0, p1, p2⟩, -⟩ := cells3 R0.out
        obtain ⟨⟨q0, q1, q2⟩, -⟩ := cells3 R1.out
        go_wp2_with fail
        refine (HM1.out _).mono ?_
        rintro e W3 ⟨rfl, hb3⟩
        obtain ⟨⟨s0, s1, s2⟩, -⟩ := cells3 ((hb3.block _ (lt_of_block R0.out)).trans R0.out)
        obtain ⟨⟨t0, t1, t2⟩, -⟩ := cells3 ((hb3.block _ (lt_of_block R1.out)).trans R1.out)
        clear p0 p1 p2 q0 q1 q2
        go_wp2_with fail
        refine (HM2.out _).mono ?_
        rintro e W4 ⟨rfl, hb4⟩
        have hb4 := below_trans hb3 hb4
        obtain ⟨⟨p0, p1, p2⟩, -⟩ := cells3 ((hb4.block _ (lt_of_block R0.out)).trans R0.out)
        obtain ⟨⟨q0, q1, q2⟩, -⟩ := cells3 ((hb4.block _ (lt_of_block R1.out)).trans R1.out)
        clear s0 s1 s2 t0 t1 t2 hb3
        go_wp2_with fail
        refine (HM3.out _).mono ?_
        rintro e W5 ⟨rfl, hb5⟩
        have hb5 := below_trans hb4 hb5
        have B5 := Lib.hid (below_trans B5.out hb5)
        have R0 := Lib.hid ((hb5.block _ (lt_of_block R0.out)).trans R0.out)
        have R1 := Lib.hid ((hb5.block _ (lt_of_block R1.out)).trans R1.out)
        have R2 := Lib.hid ((hb5.block _ (lt_of_block R2.out)).trans R2.out)
        clear p0 p1 p2 q0 q1 q2 hb4 hb5
        obtain ⟨⟨s0, s1, s2⟩, -⟩ := cells3 R0.out
        obtain ⟨⟨t0, t1, t2⟩, -⟩ := cells3 R1.out
        go_wp2_with fail
        refine (HC.out _).mono ?_
        rintro e W6 ⟨rfl, rfl⟩
        go_wp2_with fail
        refine (HA.out _).mono ?_
        rintro e W6 ⟨rfl, hb6⟩
        have B5 := Lib.hid (below_trans B5.out hb6)
        have R0 := Lib.hid ((hb6.block _ (lt_of_block R0.out)).trans R0.out)
        have R1 := Lib.hid ((hb6.block _ (lt_of_block R1.out)).trans R1.out)
        have R2 := Lib.hid ((hb6.block _ (lt_of_block R2.out)).trans R2.out)
        clear s0 s1 s2 t0 t1 t2 hb6
        obtain ⟨⟨s0, s1, s2⟩, -⟩ := cells3 R0.out
        obtain ⟨⟨t0, t1, t2⟩, -⟩ := cells3 R1.out
        go_wp2_with fail
        refine (HL.out _).mono ?_
        rintro e W9 ⟨rfl, hb9⟩
        have B9 := Lib.hid (below_trans B5.out hb9)
        have R9 := Lib.hid ((hb9.block _ (lt_of_block R2.out)).trans R2.out)
        obtain ⟨⟨hd0, hd1, hd2⟩, hf0, hf1, hf2⟩ := cells3 R9.out
        clear hb9
        go_wp2
        obtain ⟨h1, h2⟩ := set3 (x := .bool g1) (y := .string g2) (z := .string g3) R9.out B9.out (Nat.le_add_right _ 2)
        refine bodyPost_ret (results_ratE rfl rfl (cells3 h1).1) rfl ?_
        exact ⟨by rw [HX.out]; rfl, h2⟩
  · rw [if_neg h3] at HADD
    have HX := HADD
    clear HADD HDD
    by_cases z1 : Nt.dig1000 (m1 * d2) = true
    · rw [nOut_yes z1] at HM1
      by_cases z2 : Nt.dig1000 (m2 * d1) = true
      · rw [nOut_yes z2] at HM2
        have z3 : ¬ Nt.dig1000 (d1 * d2) = true := fun z3 => h3 ⟨z1, z2, z3⟩
        rw [nOut_no z3] at HM3
        generalize Nt.nat2s (m1 * d2) = p at *
        generalize Nt.nat2s (m2 * d1) = q at *
        clear h3 z1 z2 z3
        have B1 := (Below.refl w.heap.size w).alloc (Nat.le_refl _) (.cells #[.bool x1, .string a1, .string a2] 57)
        go_enter Tryz.func38, Tryz.ntmps38
        go_wp2_with fail
        refine (HV.out _).mono ?_
        rintro e W1 ⟨rfl, hw1⟩
        obtain ⟨r0, r1, r2⟩ := heap3 w (.cells #[.bool x1, .string a1, .string a2] 57) (.cells #[.bool y1, .string b1, .string b2] 57) (.cells #[.bool false, .string ⟨#[]⟩, .string ⟨#[]⟩] 57)
        have B3 := ((B1.alloc (by simp) (.cells #[.bool y1, .string b1, .string b2] 57)).alloc (by simp; omega) (.cells #[.bool false, .string ⟨#[]⟩, .string ⟨#[]⟩] 57))
        have B4 := B3.trans (hw1.mono B3.size)
        obtain ⟨⟨hc0, hc1, hc2⟩, -⟩ := cells3 ((hw1.block _ (lt_of_block r1)).trans r1)
        go_wp2_with fail
        refine (HV2.out _).mono ?_
        rintro e W2 ⟨rfl, hw2⟩
        have B5 := Lib.hid (below_trans B4 hw2)
        have hw2 := below_trans hw1 hw2
        have R0 := Lib.hid ((hw2.block _ (lt_of_block r0)).trans r0)
        have R1 := Lib.hid ((hw2.block _ (lt_of_block r1)).trans r1)
        have R2 := Lib.hid ((hw2.block _ (lt_of_block r2)).trans r2)
        clear r0 r1 r2 B1 B3 B4 hw1 hw2 hc0 hc1 hc2 HV HV2
        obtain ⟨⟨p0, p1, p2⟩, -⟩ := cells3 R0.out
        obtain ⟨⟨q0, q1, q2⟩, -⟩ := cells3 R1.out
        go_wp2_with fail
        refine (HM1.out _).mono ?_
        rintro e W3 ⟨rfl, hb3⟩
        obtain ⟨⟨s0, s1, s2⟩, -⟩ := cells3 ((hb3.block _ (lt_of_block R0.out)).trans R0.out)
        obtain ⟨⟨t0, t1, t2⟩, -⟩ := cells3 ((hb3.block _ (lt_of_block R1.out)).trans R1.out)
        clear p0 p1 p2 q0 q1 q2
        go_wp2_with fail
        refine (HM2.out _).mono ?_
        rintro e W4 ⟨rfl, hb4⟩
        have hb4 := below_trans hb3 hb4
        obtain ⟨⟨p0, p1, p2⟩, -⟩ := cells3 ((hb4.block _ (lt_of_block R0.out)).trans R0.out)
        obtain ⟨⟨q0, q1, q2⟩, -⟩ := cells3 ((hb4.block _ (lt_of_block R1.out)).trans R1.out)
        clear s0 s1 s2 t0 t1 t2 hb3
        go_wp2_with fail
        refine (HM3.out _).mono ?_
        rintro e W5 ⟨rfl, hb5⟩
        have hb5 := below_trans hb4 hb5
        have B5 := Lib.hid (below_trans B5.out hb5)
        have R0 := Lib.hid ((hb5.block _ (lt_of_block R0.out)).trans R0.out)
        have R1 := Lib.hid ((hb5.block _ (lt_of_block R1.out)).trans R1.out)
        have R2 := Lib.hid ((hb5.block _ (lt_of_block R2.out)).trans R2.out)
        clear p0 p1 p2 q0 q1 q2 hb4 hb5
        obtain ⟨⟨s0, s1, s2⟩, -⟩ := cells3 R0.out
        obtain ⟨⟨t0, t1, t2⟩, -⟩ := cells3 R1.out
        obtain ⟨⟨hd0, hd1, hd2⟩, hf0, hf1, hf2⟩ := cells3 R2.out
        go_wp2
        obtain ⟨h1, h2⟩ := set3 (x := .bool false) (y := .string ⟨#[]⟩) (z := .string ⟨#[]⟩) R2.out B5.out (Nat.le_add_right _ 2)
        refine bodyPost_ret (results_ratE rfl rfl (cells3 h1).1) rfl ?_
        exact ⟨by rw [HX.out]; rfl, h2⟩
      · rw [nOut_no z2] at HM2
        rw [nOut_eq] at HM3
        generalize nS (d1 * d2) = d at *
        generalize nE (d1 * d2) = de at *
        generalize Nt.nat2s (m1 * d2) = p at *
        clear h3 z1 z2
        have B1 := (Below.refl w.heap.size w).alloc (Nat.le_refl _) (.cells #[.bool x1, .string a1, .string a2] 57)
        go_enter Tryz.func38, Tryz.ntmps38
        go_wp2_with fail
        refine (HV.out _).mono ?_
        rintro e W1 ⟨rfl, hw1⟩
        obtain ⟨r0, r1, r2⟩ := heap3 w (.cells #[.bool x1, .string a1, .string a2] 57) (.cells #[.bool y1, .string b1, .string b2] 57) (.cells #[.bool false, .string ⟨#[]⟩, .string ⟨#[]⟩] 57)
        have B3 := ((B1.alloc (by simp) (.cells #[.bool y1, .string b1, .string b2] 57)).alloc (by simp; omega) (.cells #[.bool false, .string ⟨#[]⟩, .string ⟨#[]⟩] 57))
        have B4 := B3.trans (hw1.mono B3.size)
        obtain ⟨⟨hc0, hc1, hc2⟩, -⟩ := cells3 ((hw1.block _ (lt_of_block r1)).trans r1)
        go_wp2_with fail
        refine (HV2.out _).mono ?_
        rintro e W2 ⟨rfl, hw2⟩
        have B5 := Lib.hid (below_trans B4 hw2)
        have hw2 := below_trans hw1 hw2
        have R0 := Lib.hid ((hw2.block _ (lt_of_block r0)).trans r0)
        have R1 := Lib.hid ((hw2.block _ (lt_of_block r1)).trans r1)
        have R2 := Lib.hid ((hw2.block _ (lt_of_block r2)).trans r2)
        clear r0 r1 r2 B1 B3 B4 hw1 hw2 hc0 hc1 hc2 HV HV2
        obtain ⟨⟨p0, p1, p2⟩, -⟩ := cells3 R0.out
        obtain ⟨⟨q0, q1, q2⟩, -⟩ := cells3 R1.out
        go_wp2_with fail
        refine (HM1.out _).mono ?_
        rintro e W3 ⟨rfl, hb3⟩
        obtain ⟨⟨s0, s1, s2⟩, -⟩ := cells3 ((hb3.block _ (lt_of_block R0.out)).trans R0.out)
        obtain ⟨⟨t0, t1, t2⟩, -⟩ := cells3 ((hb3.block _ (lt_of_block R1.out)).trans R1.out)
        clear p0 p1 p2 q0 q1 q2
        go_wp2_with fail
        refine (HM2.out _).mono ?_
        rintro e W4 ⟨rfl, hb4⟩
        have hb4 := below_trans hb3 hb4
        obtain ⟨⟨p0, p1, p2⟩, -⟩ := cells3 ((hb4.block _ (lt_of_block R0.out)).trans R0.out)
        obtain ⟨⟨q0, q1, q2⟩, -⟩ := cells3 ((hb4.block _ (lt_of_block R1.out)).trans R1.out)
        clear s0 s1 s2 t0 t1 t2 hb3
        go_wp2_with fail
        refine (HM3.out _).mono ?_
        rintro e W5 ⟨rfl, hb5⟩
        have hb5 := below_trans hb4 hb5
        have B5 := Lib.hid (below_trans B5.out hb5)
        have R0 := Lib.hid ((hb5.block _ (lt_of_block R0.out)).trans R0.out)
        have R1 := Lib.hid ((hb5.block _ (lt_of_block R1.out)).trans R1.out)
        have R2 := Lib.hid ((hb5.block _ (lt_of_block R2.out)).trans R2.out)
        clear p0 p1 p2 q0 q1 q2 hb4 hb5
        obtain ⟨⟨s0, s1, s2⟩, -⟩ := cells3 R0.out
        obtain ⟨⟨t0, t1, t2⟩, -⟩ := cells3 R1.out
        obtain ⟨⟨hd0, hd1, hd2⟩, hf0, hf1, hf2⟩ := cells3 R2.out
        go_wp2
        obtain ⟨h1, h2⟩ := set3 (x := .bool false) (y := .string ⟨#[]⟩) (z := .string ⟨#[]⟩) R2.out B5.out (Nat.le_add_right _ 2)
        refine bodyPost_ret (results_ratE rfl rfl (cells3 h1).1) rfl ?_
        exact ⟨by rw [HX.out]; rfl, h2⟩
    · rw [nOut_no z1] at HM1
      rw [nOut_eq] at HM2 HM3
      generalize nS (d1 * d2) = d at *
      generalize nE (d1 * d2) = de at *
      generalize nS (m2 * d1) = q at *
      generalize nE (m2 * d1) = qe at *
      clear h3 z1
      have B1 := (Below.refl w.heap.size w).alloc (Nat.le_refl _) (.cells #[.bool x1, .string a1, .string a2] 57)
      go_enter Tryz.func38, Tryz.ntmps38
      go_wp2_with fail
      refine (HV.out _).mono ?_
      rintro e W1 ⟨rfl, hw1⟩
      obtain ⟨r0, r1, r2⟩ := heap3 w (.cells #[.bool x1, .string a1, .string a2] 57) (.cells #[.bool y1, .string b1, .string b2] 57) (.cells #[.bool false, .string ⟨#[]⟩, .string ⟨#[]⟩] 57)
      have B3 := ((B1.alloc (by simp) (.cells #[.bool y1, .string b1, .string b2] 57)).alloc (by simp; omega) (.cells #[.bool false, .string ⟨#[]⟩, .string ⟨#[]⟩] 57))
      have B4 := B3.trans (hw1.mono B3.size)
      obtain ⟨⟨hc0, hc1, hc2⟩, -⟩ := cells3 ((hw1.block _ (lt_of_block r1)).trans r1)
      go_wp2_with fail
      refine (HV2.out _).mono ?_
      rintro e W2 ⟨rfl, hw2⟩
      have B5 := Lib.hid (below_trans B4 hw2)
      have hw2 := below_trans hw1 hw2
      have R0 := Lib.hid ((hw2.block _ (lt_of_block r0)).trans r0)
      have R1 := Lib.hid ((hw2.block _ (lt_of_block r1)).trans r1)
      have R2 := Lib.hid ((hw2.block _ (lt_of_block r2)).trans r2)
      clear r0 r1 r2 B1 B3 B4 hw1 hw2 hc0 hc1 hc2 HV HV2
      obtain ⟨⟨p0, p1, p2⟩, -⟩ := cells3 R0.out
      obtain ⟨⟨q0, q1, q2⟩, -⟩ := cells3 R1.out
      go_wp2_with fail
      refine (HM1.out _).mono ?_
      rintro e W3 ⟨rfl, hb3⟩
      obtain ⟨⟨s0, s1, s2⟩, -⟩ := cells3 ((hb3.block _ (lt_of_block R0.out)).trans R0.out)
      obtain ⟨⟨t0, t1, t2⟩, -⟩ := cells3 ((hb3.block _ (lt_of_block R1.out)).trans R1.out)
      clear p0 p1 p2 q0 q1 q2
      go_wp2_with fail
      refine (HM2.out _).mono ?_
      rintro e W4 ⟨rfl, hb4⟩
      have hb4 := below_trans hb3 hb4
      obtain ⟨⟨p0, p1, p2⟩, -⟩ := cells3 ((hb4.block _ (lt_of_block R0.out)).trans R0.out)
      obtain ⟨⟨q0, q1, q2⟩, -⟩ := cells3 ((hb4.block _ (lt_of_block R1.out)).trans R1.out)
      clear s0 s1 s2 t0 t1 t2 hb3
      go_wp2_with fail
      refine (HM3.out _).mono ?_
      rintro e W5 ⟨rfl, hb5⟩
      have hb5 := below_trans hb4 hb5
      have B5 := Lib.hid (below_trans B5.out hb5)
      have R0 := Lib.hid ((hb5.block _ (lt_of_block R0.out)).trans R0.out)
      have R1 := Lib.hid ((hb5.block _ (lt_of_block R1.out)).trans R1.out)
      have R2 := Lib.hid ((hb5.block _ (lt_of_block R2.out)).trans R2.out)
      clear p0 p1 p2 q0 q1 q2 hb4 hb5
      obtain ⟨⟨s0, s1, s2⟩, -⟩ := cells3 R0.out
      obtain ⟨⟨t0, t1, t2⟩, -⟩ := cells3 R1.out
      obtain ⟨⟨hd0, hd1, hd2⟩, hf0, hf1, hf2⟩ := cells3 R2.out
      go_wp2
      obtain ⟨h1, h2⟩ := set3 (x := .bool false) (y := .string ⟨#[]⟩) (z := .string ⟨#[]⟩) R2.out B5.out (Nat.le_add_right _ 2)
      refine bodyPost_ret (results_ratE rfl rfl (cells3 h1).1) rfl ?_
      exact ⟨by rw [HX.out]; rfl, h2⟩

theorem r4Add_any (x y : Nt.RS) (w : World) (h1 : x.2.1.size ≤ 9223372036854775807) (h2 : x.2.2.size ≤ 9223372036854775807) (h3 : y.2.1.size ≤ 9223372036854775807) (h4 : y.2.2.size ≤ 9223372036854775807) :
    Calls Tryz.prog 38 #[rv x, rv y] w fun e w' => e = .returned (.tuple (rout (Nt.rAdd x y))) ∧ Below w.heap.size w w' := by
  obtain ⟨x1, a1, a2⟩ := x
  obtain ⟨y1, b1, b2⟩ := y
  cases hva : Nt.rValid (x1, a1, a2) with
  | true =>
    cases hvb : Nt.rValid (y1, b1, b2) with
    | true =>
      obtain ⟨m1, d1, e1, e2⟩ := valid_nums hva
      obtain ⟨m2, d2, e3, e4⟩ := valid_nums hvb
      exact r4Add_ok x1 y1 a1 a2 b1 b2 m1 d1 m2 d2 w e1 e2 e3 e4 hva hvb
    | false => rw [rAdd_inv2 hvb]; exact r4Add_inv2 x1 y1 a1 a2 b1 b2 w h1 h2 h3 h4 hva hvb
  | false => rw [rAdd_inv1 hva]; exact r4Add_inv1 x1 y1 a1 a2 b1 b2 w h1 h2 hva
end Go.Proofs.YtcphclpekllcoaaGreatDoor
