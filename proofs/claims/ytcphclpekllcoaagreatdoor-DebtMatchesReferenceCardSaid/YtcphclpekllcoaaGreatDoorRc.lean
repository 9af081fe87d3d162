/- Walks: package observatoryref03: Valid, mul, div. -/
import Derived.Test.YtcphclpekllcoaaGreatDoorRb
namespace Go.Proofs.YtcphclpekllcoaaGreatDoor
open Go.RowKit Go.Sort Go.Deep

theorem isDg_b {c : UInt8} : Nt.isDg c = true ↔ ¬ (c.toNat : Int) < 48 ∧ ¬ (57 : Int) < (c.toNat : Int) := by rw [Nt.isDg_iff]; omega

set_option maxRecDepth 100000 in
theorem r3valid_any (s : ByteArray) (w : World) (hs : s.size ≤ 9223372036854775807) :
    Calls Tryz.prog 74 #[.string s] w fun e w' => e = .returned (.bool (Nt.num? s).isSome) ∧ w = w' := by
  have hN : (Nt.num? s).isSome = Nt.okL s.data.toList := by unfold Nt.num?; split <;> simp_all
  rw [hN]
  have hsz : s.data.toList.length = s.size := by rw [Array.length_toList]; rfl
  have hout : ¬ (1 ≤ s.size ∧ s.size ≤ 1000) → Nt.okL s.data.toList = false := fun h => by
    unfold Nt.okL
    rw [hsz]
    by_cases h1 : 1 ≤ s.size
    · rw [decide_eq_false (show ¬ s.size ≤ 1000 by omega)]; simp
    · rw [decide_eq_false h1]; simp
  by_cases h0 : s.size = 0
  · rw [hout (by omega)]
    have b0 : decide ((s.size : Int) < 1) = true := decide_eq_true (by omega)
    clear hN hsz hout
    go_enter Tryz.func74, Tryz.ntmps74
    go_wp2
    go_ret
    exact ⟨rfl, rfl⟩
  by_cases h1 : 1000 < s.size
  · rw [hout (by omega)]
    have b1 : ¬ (s.size : Int) < 1 := by omega
    clear hN hsz hout
    go_enter Tryz.func74, Tryz.ntmps74
    go_wp2
    go_ret
    exact ⟨rfl, rfl⟩
  have hpos : 0 < s.size := by omega
  have hh : s.data.toList.head? = some s[0] := by rw [List.head?_eq_getElem?, bat hpos]
  have hok : Nt.okL s.data.toList = (s.data.toList.all Nt.isDg && (decide (s.size = 1) || decide (s[0] ≠ 48))) := by
    unfold Nt.okL
    rw [hsz, hh, decide_eq_true (show 1 ≤ s.size by omega), decide_eq_true (show s.size ≤ 1000 by omega)]
    simp
  rw [hok]
  have c1 : ¬ (s.size : Int) < 1 := by omega
  have c2 : ¬ (1000 : Int) < (s.size : Int) := by omega
  by_cases hz : 1 < s.size ∧ s[0] = 48
  · have c3 : 1 < s.size := hz.1
    have b3 : ((s[0].toNat : Int) == 48) = true := by rw [hz.2]; rfl
    have hR : (s.data.toList.all Nt.isDg && (decide (s.size = 1) || decide (s[0] ≠ 48))) = false := by
      rw [decide_eq_false (show ¬ s.size = 1 by omega), decide_eq_false (fun h => h hz.2)]; simp
    rw [hR]
    clear hN hsz hout hh hok hz hR
    go_enter Tryz.func74, Tryz.ntmps74
    go_wp2
    go_ret
    exact ⟨rfl, rfl⟩
  · have hR : (s.data.toList.all Nt.isDg && (decide (s.size = 1) || decide (s[0] ≠ 48))) = s.data.toList.all Nt.isDg := by
      by_cases e1 : s.size = 1
      · rw [decide_eq_true e1]; simp
      · rw [decide_eq_true (show s[0] ≠ 48 from fun e => hz ⟨by omega, e⟩)]; simp
    rw [hR]
    have hgo : (¬ 1 < s.size) ∨ (1 < s.size ∧ ((s[0].toNat : Int) == 48) = false) := by
      by_cases e1 : 1 < s.size
      · right
        refine ⟨e1, ?_⟩
        rw [beq_eq_false_iff_ne]
        intro e
        exact hz ⟨e1, UInt8.toNat_inj.1 (by have : s[0].toNat = 48 := by omega
                                            simpa using this)⟩
      · exact .inl e1
    have HSZ := Lib.hid hsz
    obtain ⟨r, hr⟩ : ∃ r, s.data.toList.all Nt.isDg = r := ⟨_, rfl⟩
    rw [hr]
    have HR := Lib.hid hr
    clear hr
    clear hN hsz hout hh hok hz hR h0 h1
    rcases hgo with c3 | ⟨c3, b3⟩
    all_goals
      go_enter Tryz.func74, Tryz.ntmps74
      go_wp2
      go_loop [3] (fun i => ∃ k : Nat, i = .int .i64 k ∧ k ≤ s.size ∧ (s.data.toList.take k).all Nt.isDg = true) (fun i => s.size - (intOf i).toNat)
      case atStart => exact ⟨0, rfl, Nat.zero_le _, rfl⟩
      case round =>
        obtain ⟨k, rfl, hk, hall⟩ := hrel
        have HALL := Lib.hid hall
        clear hall
        by_cases hlt : k < s.size
        · have hb := bat hlt
          by_cases hdg : Nt.isDg s[k] = true
          · have HN : Hid ((s.data.toList.take (k + 1)).all Nt.isDg = true) := by
              show _ = _
              rw [List.take_add_one, hb]
              show (s.data.toList.take k ++ [s[k]]).all _ = _
              rw [List.all_append, HALL.out]; simpa using hdg
            obtain ⟨d1, d2⟩ := isDg_b.1 hdg
            clear hdg hb
            go_wp2
            go_round
            case rel => exact ⟨k + 1, rfl, hlt, HN.out⟩
            case measure => simp [intOf]; omega
          · have HN : Hid (s.data.toList.all Nt.isDg = false) := by
              show _ = _
              rw [← Bool.not_eq_true, List.all_eq_true]
              exact fun h => hdg (h _ (List.mem_of_getElem? hb))
            have hd : (s[k].toNat : Int) < 48 ∨ (¬ (s[k].toNat : Int) < 48 ∧ (57 : Int) < (s[k].toNat : Int)) := by
              rw [isDg_b] at hdg; omega
            clear hdg hb
            rcases hd with d1 | ⟨d1, d2⟩
            all_goals
              go_wp2
              go_ret
              exact ⟨by rw [show r = false from HR.out.symm.trans HN.out]; rfl, rfl⟩
        · have HN : Hid (s.data.toList.all Nt.isDg = true) := by
            show _ = _
            have := HALL.out
            rwa [List.take_of_length_le (by have := HSZ.out; omega)] at this
          go_wp2
          go_ret
          exact ⟨by rw [show r = true from HR.out.symm.trans HN.out]; rfl, rfl⟩

/-! ### div -/
theorem ten_dig {n R k : Nat} (hn : Lib.nDigits n ≤ k) (hR : R < 10 * n) : Lib.nDigits R ≤ k + 1 :=
  (Nt.nDigits_le_iff R (k + 1) (by omega)).2 (by have := Nt.lt_pow_dig hn; rw [Nat.pow_succ]; omega)

theorem ext1 {s : ByteArray} {k : Nat} (h : k < s.size) : (s.extract k (k + 1)).data.toList = [s[k]] := by
  rw [ByteArray.data_extract, Array.toList_extract]
  show List.take (k + 1 - k) (List.drop k s.data.toList) = _
  have h' : k < s.data.toList.length := by simpa using h
  rw [List.drop_eq_getElem_cons h', show k + 1 - k = 1 by omega]
  rfl
theorem app_list (a b : ByteArray) : (a ++ b).data.toList = a.data.toList ++ b.data.toList := by rw [ByteArray.data_append]; simp
theorem of_list {s : ByteArray} {l : List UInt8} (h : s.data.toList = l) : s = ⟨l.toArray⟩ := by
  apply ByteArray.ext; apply Array.ext'; simpa using h
theorem ten_at (c : Nat) (h : c < 10) : ((⟨#[48, 49, 50, 51, 52, 53, 54, 55, 56, 57]⟩ : ByteArray).extract c (c + 1)).data.toList = [UInt8.ofNat (48 + c)] := by
  have : ∀ c : Fin 10, ((⟨#[48, 49, 50, 51, 52, 53, 54, 55, 56, 57]⟩ : ByteArray).extract c.1 (c.1 + 1)).data.toList = [UInt8.ofNat (48 + c.1)] := by decide
  exact this ⟨c, h⟩
theorem size_list (s : ByteArray) : s.size = s.data.toList.length := by rw [Array.length_toList]; rfl

set_option maxHeartbeats 1600000 in
set_option maxRecDepth 100000 in
theorem r3div_any (m n : Nat) (w : World) (hm : Lib.nDigits m ≤ 1000) (hn : Lib.nDigits n ≤ 1000) (h0 : n ≠ 0) :
    Calls Tryz.prog 96 #[.string (Nt.nat2s m), .string (Nt.nat2s n)] w fun e w' => e = .returned (.tuple #[.string (Nt.nat2s (m / n)), .string (Nt.nat2s (m % n))]) ∧ Below w.heap.size w w' := by
  have HDIG : Hid (∀ R, R < 10 * n → Lib.nDigits R ≤ 1001) := fun R hR => ten_dig hn hR
  have HLESS := Lib.hid fun R W (h : R < 10 * n) => r3less_any R n W (by have := HDIG.out R h; omega) (by omega)
  have HSUB := Lib.hid fun R W (h : R < 10 * n) (hle : n ≤ R) => r3sub_any R n W (HDIG.out R h) (by omega) hle
  have h1 := Nt.nat2s_size m
  have hp := Lib.nDigits_pos m
  have hd := fun i hi => Nt.dec_at m i hi
  obtain ⟨s, hs⟩ : ∃ s, Nt.nat2s m = s := ⟨_, rfl⟩
  have HLIST : Hid (s.data.toList = Lib.decDigits m) := by show _ = _; rw [← hs, Nt.nat2s_list]
  rw [hs] at h1 ⊢
  obtain ⟨u, hu⟩ : ∃ u, Nt.nat2s n = u := ⟨_, rfl⟩
  rw [hu] at HLESS HSUB ⊢
  have HM : Hid (Lib.nDigits m = s.size) := h1.symm
  have HDAT : Hid (∀ i, i < s.size → ∃ d, d < 10 ∧ s.data.toList[i]? = some (UInt8.ofNat (48 + d))) := fun i hi => by
    refine ⟨Nt.dgt m (s.size - 1 - i), Nt.dgt_lt _ _, ?_⟩
    have := hd (s.size - 1 - i) (by omega)
    rw [HLIST.out, ← this]
    congr 1; omega
  have hs1 : s.size ≤ 1000 := by omega
  have hs0 : 1 ≤ s.size := by omega
  have H0 : Hid (0 < n) := Nat.pos_of_ne_zero h0
  clear h1 hp hd hs hu hm hn h0
  go_enter Tryz.func96, Tryz.ntmps96
  go_wp2
  go_loopw [6, 7, 8, 9] (fun q r i _ wr => ∃ (k : Nat) (qb : ByteArray) (R : Nat), i = .int .i64 k ∧ q = .string qb ∧ r = .string (Nt.nat2s R) ∧ k ≤ s.size ∧ Nt.DivSt m n k qb.data.toList R ∧ Below w.heap.size w wr) (fun _ _ i _ _ => s.size - (intOf i).toNat)
  case atStart => exact ⟨0, ⟨#[]⟩, 0, rfl, rfl, by rw [nat2s_0], Nat.zero_le _, Nt.DivSt.start m n H0.out, Below.refl _ _⟩
  case round =>
    obtain ⟨k, qb, R, rfl, rfl, rfl, hk, hA, hB⟩ := hrel
    by_cases hlt : k < s.size
    · obtain ⟨d, hd9, hdk⟩ := HDAT.out k hlt
      have hRn := hA.lt
      obtain ⟨n1, n2⟩ := Nt.rest_next (r := R) hd9
      have hl1 := ext1 hlt
      have hsk : s[k] = UInt8.ofNat (48 + d) := by rw [bat hlt] at hdk; exact Option.some.inj hdk
      have hcat : (Nt.nat2s R ++ s.extract k (k + 1)).data.toList = Lib.decDigits R ++ [UInt8.ofNat (48 + d)] := by rw [app_list, hl1, Nt.nat2s_list, hsk]
      have hR1 : Lib.nDigits R ≤ 1001 := HDIG.out R (by omega)
      have HTR := Lib.hid fun W => r3trim_any (Nt.nat2s R ++ s.extract k (k + 1)) W (by rw [hcat]; exact n1) (by rw [size_list, hcat]; simp) (by rw [size_list, hcat]; simp [Lib.decDigits_length]; omega)
      rw [hcat, n2] at HTR
      have HA := Lib.hid hA
      have HB := Lib.hid hB
      have HDK : Hid ((Lib.decDigits m)[k]? = some (UInt8.ofNat (48 + d))) := by show _ = _; rw [← HLIST.out]; exact hdk
      have hX : 10 * R + d < 10 * n := by omega
      generalize hXX : 10 * R + d = X at *
      have HXX := Lib.hid hXX
      have hadd := fun W => run_string_add_sum (P := Tryz.prog) W (Nt.nat2s R) (s.extract k (k + 1)) (by rw [Nt.nat2s_size, size_list (s.extract k (k + 1)), hl1]; simp; omega)
      clear hA hB hdk n1 n2 hl1 hsk hcat hR1 hXX hRn
      generalize Nt.nat2s R ++ s.extract k (k + 1) = cs at *
      generalize Nt.nat2s R = rs at *
      go_wp2_with fail
      refine (HTR.out _).mono ?_
      rintro e W2 ⟨rfl, rfl⟩
      obtain ⟨wq, rfl⟩ : ∃ wq : World, wq = wr := ⟨wr, rfl⟩
      go_wp2_with fail
      go_loopw [7, 9] (fun r c wr => ∃ (cc Y : Nat), c = .int .i64 cc ∧ r = .string (Nt.nat2s Y) ∧ X = cc * n + Y ∧ cc < 10 ∧ Below wq.heap.size wq wr) (fun _ c _ => 10 - (intOf c).toNat)
      case atStart => exact ⟨0, X, rfl, rfl, by omega, by omega, Below.refl _ _⟩
      case round =>
        obtain ⟨cc, Y, rfl, rfl, hXY, hcc, hB2⟩ := hrel
        have hY : Y < 10 * n := by omega
        have HL2 := Lib.hid fun W => HLESS.out Y W hY
        by_cases hyn : Y < n
        · rw [decide_eq_true hyn] at HL2
          obtain ⟨hst, -⟩ := HA.out.step (c := cc) (r' := Y) HDK.out hd9 (by rw [HXX.out]; exact hXY) hyn
          have HST := Lib.hid hst
          have hten := ten_at cc hcc
          have HCAT : Hid ((qb ++ (⟨#[48, 49, 50, 51, 52, 53, 54, 55, 56, 57]⟩ : ByteArray).extract cc (cc + 1)).data.toList = qb.data.toList ++ [UInt8.ofNat (48 + cc)]) := by show _ = _; rw [app_list, hten]
          have HB3 := Lib.hid (below_trans HB.out hB2)
          have hadd2 := fun W => run_string_add_sum (P := Tryz.prog) W qb ((⟨#[48, 49, 50, 51, 52, 53, 54, 55, 56, 57]⟩ : ByteArray).extract cc (cc + 1)) (by rw [size_list qb, HA.out.len, size_list (ByteArray.extract _ _ _), hten]; simp; omega)
          generalize qb ++ (⟨#[48, 49, 50, 51, 52, 53, 54, 55, 56, 57]⟩ : ByteArray).extract cc (cc + 1) = qb2 at *
          have c0 : (0 : Int) ≤ (cc : Int) := Int.natCast_nonneg _
          have c1 : (cc : Int) ≤ 9 := by omega
          clear hst hten hB2 hXY hY
          go_wp2_with fail
          refine (HL2.out _).mono ?_
          rintro e W3 ⟨rfl, rfl⟩
          go_wp2
          go_roundw
          case rel => exact ⟨k + 1, qb2, Y, rfl, rfl, rfl, by omega, by rw [HCAT.out]; exact HST.out, HB3.out⟩
          case measure => simp [intOf]; omega
        · rw [decide_eq_false hyn] at HL2
          have hle : n ≤ Y := by omega
          have HS2 := Lib.hid fun W => HSUB.out Y W hY hle
          have hc9 : cc + 1 < 10 := by
            apply Classical.byContradiction
            intro h
            have : 10 * n ≤ (cc + 1) * n := Nat.mul_le_mul_right _ (by omega)
            rw [Nat.add_mul] at this
            omega
          have HXY : Hid (X = (cc + 1) * n + (Y - n)) := by show _ = _; rw [Nat.add_mul]; omega
          have HB3 := Lib.hid hB2
          clear hB2 hXY hY hle
          go_wp2_with fail
          refine (HL2.out _).mono ?_
          rintro e W3 ⟨rfl, rfl⟩
          go_wp2_with fail
          refine (HS2.out _).mono ?_
          rintro e W3 ⟨rfl, hb3⟩
          go_wp2
          go_roundw
          case rel => exact ⟨cc + 1, Y - n, rfl, rfl, HXY.out, hc9, below_trans HB3.out hb3⟩
          case measure => simp [intOf]; omega
    · obtain rfl : k = s.size := by omega
      obtain ⟨e1, e2⟩ := hA.end_ (Nat.le_of_eq HM.out)
      have hqn : 0 < qb.data.toList.length := by rw [hA.len]; omega
      have HTR := Lib.hid fun W => r3trim_any qb W hA.dig (by rw [size_list]; exact hqn) (by rw [size_list, hA.len]; omega)
      rw [e1] at HTR
      have HE := Lib.hid e2
      have HB3 := Lib.hid hB
      clear e1 e2 hqn hA hB
      go_wp2_with fail
      refine (HTR.out _).mono ?_
      rintro e W3 ⟨rfl, rfl⟩
      go_wp2
      go_ret2
      exact ⟨by rw [HE.out]; rfl, HB3.out⟩
end Go.Proofs.YtcphclpekllcoaaGreatDoor
