/- Walks: natural.Div at a divisor that is not 0. -/
import Derived.Test.YtcphclpekllcoaaGreatDoorWk
namespace Go.Proofs.YtcphclpekllcoaaGreatDoor
open Go.RowKit

theorem is_zero {b : ByteArray} {n : Nat} (h : Nt.num? b = some n) : (b.toList == [48]) = decide (n = 0) := by
  obtain ⟨rfl, _⟩ := Nt.num?_some h
  rw [ByteArray.toList_eq, Nt.nat2s_list]
  by_cases h0 : n = 0
  · subst h0; rw [decide_eq_true rfl, Lib.decDigits]; rfl
  · rw [decide_eq_false h0, beq_eq_false_iff_ne]
    intro e
    have := Nt.dec_head n (by omega)
    rw [e] at this
    simp at this

theorem nOut_fit {n : Nat} (h : Lib.nDigits n ≤ 1000) : nOut n = #[.string (Nt.nat2s n), .int .i64 0] := if_pos h

theorem digits_mono {m n : Nat} (h : m ≤ n) (hn : Lib.nDigits n ≤ 1000) : Lib.nDigits m ≤ 1000 := by
  have h1 := (Nt.nDigits_le_iff n 1000 (by decide)).1 hn
  exact (Nt.nDigits_le_iff m 1000 (by decide)).2 (Nat.lt_of_le_of_lt h h1)

set_option maxRecDepth 100000 in
theorem natDiv_any (a b : ByteArray) (m n : Nat) (w : World) (hT : Tab w) (ha : a.size ≤ 9223372036854775807) (hb : b.size ≤ 9223372036854775807) (hna : Nt.num? a = some m) (hnb : Nt.num? b = some n) (hn : n ≠ 0) :
    Calls Tryz.prog 50 #[.string a, .string b] w fun e w' => e = .returned (.tuple #[.string (Nt.nat2s (m / n)), .string (Nt.nat2s (m % n)), .int .i64 0]) ∧ Below w.heap.size w w' := by
  have HV := Lib.hid (valid_any a w ha)
  have HV2 := Lib.hid fun W => valid_any b W hb
  rw [hna] at HV
  rw [hnb] at HV2
  have hz : (b.toList == [48]) = false := by rw [is_zero hnb, decide_eq_false hn]
  have HNA := Lib.hid hna
  have HNB := Lib.hid hnb
  have HN := Lib.hid hn
  clear hna hnb hn
  go_enter Tryz.func50, Tryz.ntmps50
  go_wp2_with fail
  refine HV.out.mono ?_
  rintro e W1 ⟨rfl, hb1⟩
  go_wp2_with fail
  refine (HV2.out _).mono ?_
  rintro e W2 ⟨rfl, hb2⟩
  go_wp2_with fail
  refine (readN a m W2 HNA.out).mono ?_
  rintro e W3 ⟨v3, rfl, hv3, hb3⟩
  have HV3 := Lib.hid hv3
  clear hv3
  go_wp2_with fail
  refine (readN b n W3 HNB.out).mono ?_
  rintro e W4 ⟨v4, rfl, hv4, hb4⟩
  have HV4 := Lib.hid hv4
  have hb5 : Below w.heap.size w W4 := below_trans (below_trans (below_trans hb1 hb2) hb3) hb4
  clear hv4
  have HDV := Lib.hid (div_any v3 v4 m n W4 (HV3.out.below hb4) HV4.out (Nat.pos_of_ne_zero HN.out) (by have := num_len HNA.out; omega) (by have := num_len HNB.out; omega))
  go_wp2_with fail
  refine HDV.out.mono ?_
  rintro e W5 ⟨v5, v6, rfl, hv5, hv6, hb6⟩
  have HT5 := Lib.hid (textN v5 _ W5 hv5 (hT.below (below_trans hb5 hb6)) (Nat.le_trans (limbs_mono (Nat.div_le_self m n)) (by have := num_len HNA.out; omega)))
  rw [nOut_fit (digits_mono (Nat.div_le_self m n) (Nt.num?_some HNA.out).2)] at HT5
  have HV6 := Lib.hid hv6
  clear hv5 hv6
  go_wp2_with fail
  refine HT5.out.mono ?_
  rintro e W6 ⟨rfl, hb7⟩
  have HT6 := Lib.hid (textN v6 _ W6 (HV6.out.below hb7) (hT.below (below_trans (below_trans hb5 hb6) hb7)) (Nat.le_trans (limbs_mono (Nat.mod_le m n)) (by have := num_len HNA.out; omega)))
  rw [nOut_fit (digits_mono (Nat.mod_le m n) (Nt.num?_some HNA.out).2)] at HT6
  go_wp2_with fail
  refine HT6.out.mono ?_
  rintro e W7 ⟨rfl, hb8⟩
  go_wp2
  go_ret3
  exact ⟨rfl, below_trans (below_trans (below_trans hb5 hb6) hb7) hb8⟩
end Go.Proofs.YtcphclpekllcoaaGreatDoor
