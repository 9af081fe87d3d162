/- Walks: package observatoryref04: Abs and Of at numbers that are not negative. -/
import Derived.Test.YtcphclpekllcoaaGreatDoorRh
namespace Go.Proofs.YtcphclpekllcoaaGreatDoor
open Go.RowKit Go.Sort Go.Deep

/-- What Abs has written, and what is left. -/
def AbsSt (n x : Nat) (s : List UInt8) : Prop := (x = 0 ∧ s = Lib.decDigits n) ∨ (0 < x ∧ Lib.decDigits n = Lib.decDigits x ++ s)
theorem dec_small {n : Nat} (h : n < 10) : Lib.decDigits n = [UInt8.ofNat (48 + n)] := by rw [Lib.decDigits, dif_pos h]
theorem dec_big {n : Nat} (h : ¬ n < 10) : Lib.decDigits n = Lib.decDigits (n / 10) ++ [UInt8.ofNat (48 + n % 10)] := by
  conv => lhs; rw [Lib.decDigits, dif_neg h]
theorem AbsSt.start (n : Nat) : AbsSt n (n / 10) [UInt8.ofNat (48 + n % 10)] := by
  by_cases h : n < 10
  · exact .inl ⟨by omega, by rw [dec_small h, Nat.mod_eq_of_lt h]⟩
  · exact .inr ⟨by omega, dec_big h⟩
theorem AbsSt.step {n x : Nat} {s : List UInt8} (h : AbsSt n x s) (hx : 0 < x) : AbsSt n (x / 10) ([UInt8.ofNat (48 + x % 10)] ++ s) := by
  rcases h with ⟨h, _⟩ | ⟨_, h⟩
  · omega
  · by_cases hx9 : x < 10
    · refine .inl ⟨by omega, ?_⟩
      rw [h, dec_small hx9, Nat.mod_eq_of_lt hx9]
    · refine .inr ⟨by omega, ?_⟩
      rw [h, dec_big hx9, List.append_assoc]
theorem AbsSt.len {n x : Nat} {s : List UInt8} (h : AbsSt n x s) : s.length ≤ Lib.nDigits n := by
  rw [← Lib.decDigits_length]
  rcases h with ⟨_, h⟩ | ⟨_, h⟩
  · rw [h]; exact Nat.le_refl _
  · rw [h, List.length_append]; omega

set_option maxRecDepth 100000 in
set_option maxHeartbeats 1600000 in
theorem r4abs_any (n : Nat) (w : World) (hn : n ≤ 1000000000) :
    Calls Tryz.prog 53 #[.int .i64 n] w fun e w' => e = .returned (.string (Nt.nat2s n)) ∧ w = w' := by
  have hd := ten_at (n % 10) (Nat.mod_lt _ (by decide))
  have hu : IntKind.u64.wrap (n : Int) = (n : Int) := by rw [IntKind.wrap_u64]; omega
  have HD : Hid (Lib.nDigits n ≤ 10) := Nt.nDigits_of 9 (Nat.le_trans hn (by decide)) (by decide)
  have hm : ((n : Int) % 10) = ((n % 10 : Nat) : Int) := by omega
  have hq : ((n : Int) / 10) = ((n / 10 : Nat) : Int) := by omega
  have n0 : (0 : Int) ≤ (n : Int) := Int.natCast_nonneg _
  have n1 : (n : Int) ≤ 1000000000 := by omega
  have m0 : (0 : Int) ≤ ((n % 10 : Nat) : Int) := Int.natCast_nonneg _
  have m1 : ((n % 10 : Nat) : Int) ≤ 9 := by omega
  have HS := Lib.hid (AbsSt.start n)
  have HSZ : Hid (n / 10 ≤ 1000000000) := by show _ ≤ _; omega
  obtain ⟨r, hr⟩ : ∃ r, n % 10 = r := ⟨_, rfl⟩
  rw [hr] at hd hm HS m0 m1
  obtain ⟨q, hqq⟩ : ∃ q, n / 10 = q := ⟨_, rfl⟩
  rw [hqq] at hq HS HSZ
  have HDD := Lib.hid hd
  clear hr hd hn hqq
  go_enter Tryz.func53, Tryz.ntmps53
  go_wp2
  go_loop [3, 4] (fun xv sv => ∃ (x : Nat) (sb : ByteArray), xv = .int .u64 x ∧ sv = .string sb ∧ x ≤ 1000000000 ∧ AbsSt n x sb.data.toList) (fun xv _ => (intOf xv).toNat)
  case atStart => exact ⟨q, _, rfl, rfl, HSZ.out, by rw [HDD.out]; exact HS.out⟩
  case round =>
    obtain ⟨x, sb, rfl, rfl, hx, hA⟩ := hrel
    by_cases h0 : 0 < x
    · have hd := ten_at (x % 10) (Nat.mod_lt _ (by decide))
      have hst := hA.step h0
      have hlen := hA.len
      have hm : ((x : Int) % 10) = ((x % 10 : Nat) : Int) := by omega
      have hq : ((x : Int) / 10) = ((x / 10 : Nat) : Int) := by omega
      have hlt : x / 10 < x := by omega
      have x0 : (0 : Int) ≤ (x : Int) := Int.natCast_nonneg _
      have x1 : (x : Int) ≤ 1000000000 := by omega
      have x2 : (0 : Int) < (x : Int) := by omega
      have m0 : (0 : Int) ≤ ((x % 10 : Nat) : Int) := Int.natCast_nonneg _
      have m1 : ((x % 10 : Nat) : Int) ≤ 9 := by omega
      have hqx : x / 10 ≤ 1000000000 := by omega
      generalize x % 10 = r at *
      generalize x / 10 = q at *
      have hadd := fun W => run_string_add_sum (P := Tryz.prog) W ((⟨#[48, 49, 50, 51, 52, 53, 54, 55, 56, 57]⟩ : ByteArray).extract r (r + 1)) sb (by rw [size_list (ByteArray.extract _ _ _), hd, size_list sb]; simp only [List.length_singleton]; have := HD.out; omega)
      have hcat : ((⟨#[48, 49, 50, 51, 52, 53, 54, 55, 56, 57]⟩ : ByteArray).extract r (r + 1) ++ sb).data.toList = [UInt8.ofNat (48 + r)] ++ sb.data.toList := by rw [app_list, hd]
      generalize (⟨#[48, 49, 50, 51, 52, 53, 54, 55, 56, 57]⟩ : ByteArray).extract r (r + 1) ++ sb = sc at *
      have HST := Lib.hid hst
      have HCAT := Lib.hid hcat
      have HLT := Lib.hid hlt
      have HQX := Lib.hid hqx
      clear hd hst hlen hcat hlt hA hqx h0 hx
      go_wp2
      go_round
      case rel => exact ⟨q, sc, rfl, rfl, HQX.out, by rw [HCAT.out]; exact HST.out⟩
      case measure => have := HLT.out; simp [intOf]; omega
    · obtain rfl : x = 0 := by omega
      have hE : Hid (sb.data.toList = Lib.decDigits n) := by
        rcases hA with ⟨_, h⟩ | ⟨h, _⟩
        · exact h
        · omega
      clear hA hx h0
      go_wp2
      go_ret
      exact ⟨by rw [of_list hE.out]; rfl, rfl⟩

set_option maxRecDepth 100000 in
theorem r4Of_any (p q : Nat) (w : World) (hp : p ≤ 1000000000) (hq : q ≤ 1000000000) (h0 : q ≠ 0) :
    Calls Tryz.prog 37 #[.int .i64 p, .int .i64 q] w fun e w' => e = .returned (.tuple (rout (Nt.rs (mkRat p q), 0))) ∧ Below w.heap.size w w' := by
  have HA := Lib.hid fun W => r4abs_any p W hp
  have HA2 := Lib.hid fun W => r4abs_any q W hq
  have HL := Lib.hid fun W => r4lowest_any false _ _ p q W (Nt.num?_nat2s p (fit64 _ (by omega))) (Nt.num?_nat2s q (fit64 _ (by omega))) h0
  rw [show Nt.low false p q = mkRat p q from rfl] at HL
  obtain ⟨⟨g1, g2, g3⟩, hg⟩ : ∃ g, Nt.rs (mkRat (p : Int) q) = g := ⟨_, rfl⟩
  rw [hg] at HL ⊢
  unfold rv at HL
  have b0 : ((q : Int) == 0) = false := by simpa using h0
  have p0 : (0 : Int) ≤ (p : Int) := Int.natCast_nonneg _
  have q0 : (0 : Int) ≤ (q : Int) := Int.natCast_nonneg _
  have hB := (Below.refl w.heap.size w).alloc (Nat.le_refl _) (.cells #[.bool false, .string ⟨#[]⟩, .string ⟨#[]⟩] 57)
  have hS := World.size_alloc' w (.cells #[.bool false, .string ⟨#[]⟩, .string ⟨#[]⟩] 57)
  generalize Nt.nat2s p = a at *
  generalize Nt.nat2s q = b at *
  clear hg hp hq h0
  go_enter Tryz.func37, Tryz.ntmps37
  go_wp2_with fail
  refine (HA.out _).mono ?_
  rintro e W1 ⟨rfl, rfl⟩
  go_wp2_with fail
  refine (HA2.out _).mono ?_
  rintro e W1 ⟨rfl, rfl⟩
  go_wp2_with fail
  refine (HL.out _).mono ?_
  rintro e W3 ⟨rfl, hb3⟩
  obtain ⟨⟨hc0, hc1, hc2⟩, hf0, hf1, hf2⟩ := cells3 (kept_new hb3)
  have HK := Lib.hid (kept_new hb3)
  have hB := Lib.hid (hB.trans (hb3.mono (Nat.le_of_lt hS)))
  clear hb3 hS
  go_wp2
  obtain ⟨h1, h2⟩ := set3 (x := .bool g1) (y := .string g2) (z := .string g3) HK.out hB.out (Nat.le_refl _)
  refine bodyPost_ret (results_ratE rfl rfl (cells3 h1).1) rfl ?_
  exact ⟨rfl, h2⟩
end Go.Proofs.YtcphclpekllcoaaGreatDoor
