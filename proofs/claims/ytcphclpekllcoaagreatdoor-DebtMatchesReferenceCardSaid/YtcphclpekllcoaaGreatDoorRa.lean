/- Walks: package observatoryref03: trimmed, at, within, less, Valid. -/
import Derived.Test.YtcphclpekllcoaaGreatDoorWr
import Derived.Test.YtcphclpekllcoaaGreatDoorMA
import Derived.Sort.Walk0
namespace Go.Proofs.YtcphclpekllcoaaGreatDoor
open Go.RowKit

theorem bat {s : ByteArray} {k : Nat} (h : k < s.size) : s.data.toList[k]? = some s[k] := by
  have h' : k < s.data.toList.length := by simpa using h
  rw [List.getElem?_eq_getElem h']; rfl
theorem bless_eq (s u : ByteArray) : Op.bytesLess s.toList u.toList = decide (s.data.toList < u.data.toList) := by rw [ByteArray.toList_eq, ByteArray.toList_eq]; exact Go.Proofs.bytesLess_eq _ _
theorem ext_str {s : ByteArray} {k : Nat} : s.extract k s.size = ⟨(s.data.toList.drop k).toArray⟩ := by
  apply ByteArray.ext
  apply Array.ext'
  rw [ByteArray.data_extract, Array.toList_extract]
  show List.take _ _ = _
  exact List.take_of_length_le (by simp)

set_option maxRecDepth 100000 in
theorem r3trim_any (s : ByteArray) (w : World) (hd : s.data.toList.all Nt.isDg = true) (hne : 0 < s.size) (hs : s.size ≤ 1000000) :
    Calls Tryz.prog 120 #[.string s] w fun e w' => e = .returned (.string (Nt.nat2s (Nt.val s.data.toList))) ∧ w = w' := by
  have HD := Lib.hid hd
  clear hd
  go_enter Tryz.func120, Tryz.ntmps120
  go_wp2
  go_loop [3] (fun i => ∃ k : Nat, i = .int .i64 k ∧ k < s.size ∧ Nt.val (s.data.toList.drop k) = Nt.val s.data.toList) (fun i => s.size - (intOf i).toNat)
  case atStart => exact ⟨0, rfl, hne, rfl⟩
  case round =>
    obtain ⟨k, rfl, hk, hv⟩ := hrel
    have HV := Lib.hid hv
    clear hv
    by_cases hlt : k + 1 < s.size
    · have b0 : decide ((k : Int) + 1 < (s.size : Int)) = true := decide_eq_true (by omega)
      by_cases hz : s[k] = 48
      · have b1 : ((s[k].toNat : Int) == 48) = true := by rw [hz]; rfl
        have HN := Lib.hid (Nt.trim_step (by simpa using hk) HV.out (by rw [bat hk, hz]))
        clear hz
        go_wp2
        go_round
        case rel => exact ⟨k + 1, rfl, hlt, HN.out⟩
        case measure => simp [intOf]; omega
      · have b1 : ((s[k].toNat : Int) == 48) = false := by
          rw [beq_eq_false_iff_ne]
          intro e
          exact hz (UInt8.toNat_inj.1 (by have : s[k].toNat = 48 := by omega
                                          simpa using this))
        have HE := Lib.hid (Nt.trim_end HD.out (by simpa using hk) HV.out (.inr (by rw [bat hk]; simpa using hz)))
        clear hz
        go_wp2
        go_ret
        exact ⟨by rw [ext_str, HE.out]; rfl, rfl⟩
    · have b0 : decide ((k : Int) + 1 < (s.size : Int)) = false := decide_eq_false (by omega)
      have HE := Lib.hid (Nt.trim_end HD.out (by simpa using hk) HV.out (.inl (by simp; omega)))
      go_wp2
      go_ret
      exact ⟨by rw [ext_str, HE.out]; rfl, rfl⟩

set_option maxRecDepth 100000 in
theorem r3at_any (m i : Nat) (w : World) (hm : Lib.nDigits m ≤ 1000000) (hi : i ≤ 1000000) :
    Calls Tryz.prog 97 #[.string (Nt.nat2s m), .int .i64 i] w fun e w' => e = .returned (.int .i64 (Nt.dgt m i)) ∧ w = w' := by
  have hsz := Nt.nat2s_size m
  by_cases hlt : i < Lib.nDigits m
  · obtain ⟨j, hj⟩ : ∃ j, Lib.nDigits m = i + 1 + j := ⟨Lib.nDigits m - (i + 1), by omega⟩
    have hd := Nt.dec_at m i hlt
    rw [← Nt.nat2s_list] at hd
    rw [hj] at hm hsz hd
    rw [show i + 1 + j - 1 - i = j by omega] at hd
    have h9 := Nt.dgt_lt m i
    generalize Nt.nat2s m = s at *
    generalize Nt.dgt m i = d at *
    have hjs : j < s.size := by omega
    rw [bat hjs] at hd
    have hc : s[j].toNat = 48 + d := by rw [Option.some.inj hd]; exact Nt.u8_of d h9
    have hjs1 : (i : Int) < (s.size : Int) := by omega
    have hjs2 : (s.size : Int) - 1 - (i : Int) = (j : Int) := by omega
    have HC := Lib.hid hc
    clear hd hj hlt hsz
    go_enter Tryz.func97, Tryz.ntmps97
    go_wp2
    go_ret
    exact ⟨ret_int (by omega), rfl⟩
  · have h0 := Nt.dgt_beyond (m := m) (i := i) (by omega)
    rw [h0]
    generalize Nt.nat2s m = s at *
    have : ¬ (i : Int) < (s.size : Int) := by omega
    have : (s.size : Int) ≤ (i : Int) := by omega
    clear hsz h0
    go_enter Tryz.func97, Tryz.ntmps97
    go_wp2
    go_ret
    exact ⟨rfl, rfl⟩

set_option maxRecDepth 100000 in
theorem r3within_any (n : Nat) (w : World) (hn : Lib.nDigits n ≤ 1000000) :
    Calls Tryz.prog 75 #[.string (Nt.nat2s n)] w fun e w' => e = .returned (.tuple (nOut n)) ∧ w = w' := by
  have hsz := Nt.nat2s_size n
  rw [nOut_eq]
  unfold nS nE
  by_cases h : Lib.nDigits n ≤ 1000
  · rw [if_pos h, if_pos h]
    generalize Nt.nat2s n = s at *
    have h' : s.size ≤ 1000 := by omega
    clear hsz h hn
    go_enter Tryz.func75, Tryz.ntmps75
    go_wp2
    go_ret2
    exact ⟨rfl, rfl⟩
  · rw [if_neg h, if_neg h]
    generalize Nt.nat2s n = s at *
    have h' : 1000 < s.size := by omega
    have h2 : s.size ≤ 1000000 := by omega
    clear hsz h hn
    go_enter Tryz.func75, Tryz.ntmps75
    go_wp2
    go_ret2
    exact ⟨rfl, rfl⟩

set_option maxRecDepth 100000 in
theorem r3less_any (m n : Nat) (w : World) (hm : Lib.nDigits m ≤ 1000000) (hn : Lib.nDigits n ≤ 1000000) :
    Calls Tryz.prog 78 #[.string (Nt.nat2s m), .string (Nt.nat2s n)] w fun e w' => e = .returned (.bool (decide (m < n))) ∧ w = w' := by
  have h1 := Nt.nat2s_size m
  have h2 := Nt.nat2s_size n
  by_cases he : Lib.nDigits m = Lib.nDigits n
  · have hl := Nt.lex_dec he
    rw [← Nt.nat2s_list, ← Nt.nat2s_list] at hl
    have HL := Lib.hid hl
    clear hl
    generalize Nt.nat2s m = s at *
    generalize Nt.nat2s n = u at *
    have b0 : ((s.size : Int) == (u.size : Int)) = true := by rw [h1, h2, he]; simp
    have h1' : s.size ≤ 1000000 := by omega
    have h2' : u.size ≤ 1000000 := by omega
    clear h1 h2 he hm hn
    go_enter Tryz.func78, Tryz.ntmps78
    go_wp2
    go_ret
    exact ⟨by rw [bless_eq, decide_eq_decide.2 HL.out]; rfl, rfl⟩
  · generalize Nt.nat2s m = s at *
    generalize Nt.nat2s n = u at *
    have b0 : ((s.size : Int) == (u.size : Int)) = false := by
      rw [beq_eq_false_iff_ne]; omega
    have hd : decide (m < n) = decide (s.size < u.size) := by
      rw [h1, h2]
      refine decide_eq_decide.2 ⟨fun h => ?_, Nt.less_len⟩
      apply Classical.byContradiction
      intro hh
      have := Nt.less_len (m := n) (n := m) (by omega)
      omega
    rw [hd]
    have h1' : s.size ≤ 1000000 := by omega
    have h2' : u.size ≤ 1000000 := by omega
    clear h1 h2 he hm hn hd
    go_enter Tryz.func78, Tryz.ntmps78
    go_wp2
    go_ret
    exact ⟨rfl, rfl⟩
end Go.Proofs.YtcphclpekllcoaaGreatDoor
