/- Walks: strconv.FormatUint at base 10; package rational: abs, Make, Of. -/
import Derived.Test.YtcphclpekllcoaaGreatDoorWm
namespace Go.Proofs.YtcphclpekllcoaaGreatDoor
open Go.RowKit Go.Sort Go.Lib

theorem holds_zero0 (w : World) (T : TypeId) (nd : Nat) (hs : nd ≤ 24) : Holds (fun (b : UInt8) => Value.int .u8 (b.toNat : Int)) (w.alloc (.cells zeros24 T)) w.heap.size 0 (Array.replicate nd (0 : UInt8)) := fun j hj => by
  have hj' : j < nd := by simpa using hj
  refine ⟨?_, World.frozen?_alloc_new _ _ _ _⟩
  rw [World.cell?_alloc_new, zeros24_at _ (by omega), getElem!_pos _ j hj]
  simp
theorem fin0 (w : World) (o : Obj) (dk : Array UInt8) (k : Nat) : ∃ os, (putRow (fun (b : UInt8) => Value.int .u8 (b.toNat : Int)) (w.alloc o) w.heap.size 0 dk).drewN k = grow (w.drewN k) os := by
  rw [alloc_eq_grow]
  obtain ⟨os', _, e⟩ := putRow_grow_new (fun (b : UInt8) => Value.int .u8 (b.toNat : Int)) w #[o] w.heap.size 0 dk (Nat.le_refl _)
  exact ⟨os', by rw [e]; rfl⟩

set_option maxHeartbeats 6400000 in
set_option maxRecDepth 100000 in
theorem formatUint_in (u : Nat) (hu64 : u < 18446744073709551616) (w : World) (hT : Tab w) :
    Calls Tryz.prog 81 #[.int .u64 u, .int .i64 10] w fun e w' => e = .returned (.string (Nt.nat2s u)) ∧ Below w.heap.size w w' := by
  by_cases hi : u < 100
  · go_enter Tryz.func81, Tryz.ntmps81
    go_wp2_with fail
    refine (Tryz.internal_strconv_small u hi _).mono ?_
    rintro e w' ⟨rfl, rfl⟩
    go_wp2
    go_ret
    exact ⟨rfl, Below.refl _ _⟩
  · have hu1 : 1 ≤ u := by omega
    have hnd20 : Lib.nDigits u ≤ 20 := by have := Lib.numDigits_eq u hu1 hu64; split at this <;> omega
    have hb3 : Lib.nDigits u ≤ 24 := by omega
    have hal : Tryz.prog.arrayLen 136 = 24 := by kernel_rfl
    have hel : Tryz.prog.elem 136 = 5 := by kernel_rfl
    have hsl1 : ∀ W, (Instr.sliceAt 136 (.pointer (some ⟨w.heap.size, 0, none⟩)) none (some (.int .i64 (Lib.nDigits u : Int))) none).run Tryz.prog W = .ok (.slice (some ⟨w.heap.size, 0, none⟩) (Lib.nDigits u) 24) W := fun W => by
      rw [run_sliceAt_array_h W 136 ⟨w.heap.size, 0, none⟩ (by rw [hal, hel]; exact Tryz.underlying136) .i64 (Lib.nDigits u : Int) (by omega) (by rw [hal]; omega)]
      go_simp
    have hH0 := holds_zero0 w 136 (Lib.nDigits u) (by omega)
    have hfmt := Tryz.internal_strconv_formatBase10 w.heap.size 0 24 u (Array.replicate (Lib.nDigits u) 0) (w.alloc (.cells Lib.zeros24 136)) hH0 (by rw [Array.size_replicate]; exact Lib.lt_pow_nDigits u) hu64 (by rw [Array.size_replicate]; omega)
    rw [Array.size_replicate] at hfmt
    have HH0 := Lib.hid hH0
    clear hH0 hal hel
    go_enter Tryz.func81, Tryz.ntmps81
    go_wp2_with fail
    refine (Tryz.internal_strconv_numDigits u hu1 hu64 _ (Lib.tabIs_alloc hT _)).mono ?_
    rintro e w' ⟨rfl, rfl⟩
    go_wp2_with fail
    refine hfmt.mono ?_
    rintro e w' ⟨rfl, k, v', dk, rfl, hF⟩
    have hcv : (convert 118 9 (.slice (some ⟨w.heap.size, 0, none⟩) (Lib.nDigits u) 24)).run Tryz.prog ((putRow (fun (b : UInt8) => Value.int .u8 (b.toNat : Int)) (w.alloc (.cells Lib.zeros24 136)) w.heap.size 0 dk).drewN k) = .ok (.string ⟨(Lib.decDigits u).toArray⟩) ((putRow (fun (b : UInt8) => Value.int .u8 (b.toNat : Int)) (w.alloc (.cells Lib.zeros24 136)) w.heap.size 0 dk).drewN k) := by
      have h := run_convert_bytes_back (P := Tryz.prog) ((putRow (fun (b : UInt8) => Value.int .u8 (b.toNat : Int)) (w.alloc (.cells Lib.zeros24 136)) w.heap.size 0 dk).drewN k) 118 9 5 ⟨w.heap.size, 0, none⟩ 24 (Lib.decDigits u) Tryz.underlying118 Tryz.underlying5 Tryz.underlying9 (fun j hj => by
        rw [Lib.row_is_numeral hF j hj, Lib.add_plain, World.cell?_drewN]
        exact cell?_putRow (fun (b : UInt8) => Value.int .u8 (b.toNat : Int)) _ w.heap.size 0 _ dk HH0.out (by rw [hF.size, Array.size_replicate]) j (by rw [hF.size]; rw [Lib.decDigits_length] at hj; exact hj))
      rw [Lib.decDigits_length] at h
      exact h
    go_wp2
    go_ret
    obtain ⟨os, eo⟩ := fin0 w (.cells Lib.zeros24 136) dk k
    exact ⟨rfl, by rw [eo]; exact below_grow' w k os⟩

set_option maxRecDepth 100000 in
theorem formatUint_any (u : Nat) (hu64 : u < 18446744073709551616) (w : World) (hT : Tab w) :
    Calls Tryz.prog 61 #[.int .u64 u, .int .i64 10] w fun e w' => e = .returned (.string (Nt.nat2s u)) ∧ Below w.heap.size w w' := by
  go_enter Tryz.func61, Tryz.ntmps61
  go_wp2_with fail
  refine (formatUint_in u hu64 w hT).mono ?_
  rintro e W1 ⟨rfl, hb1⟩
  go_wp2
  go_ret
  exact ⟨rfl, hb1⟩

/-! ### abs -/
def sub64Entry : Array Value → Sem Value := fun args => do
  let (x, y, b) ← Extern.MathBitsCarry.three "Sub64" args
  pure (Extern.MathBitsCarry.pair ((x + Extern.MathBitsCarry.m64 - y - b) % Extern.MathBitsCarry.m64) (if x < y + b then 1 else 0))

theorem run_sub64 {P : Program} (u : Nat) (h0 : 0 < u) (h : u ≤ 9223372036854775808) (y : Int) (hy : y = -(u : Int) + 18446744073709551616) (w : World) :
    (sub64Entry #[.int .u64 0, .int .u64 y, .int .u64 0]).run P w = .ok (.tuple #[.int .u64 u, .int .u64 1]) w := by
  have key : (sub64Entry #[.int .u64 0, .int .u64 y, .int .u64 0]).run P w =
      .ok (Extern.MathBitsCarry.pair ((0 + Extern.MathBitsCarry.m64 - y.toNat - 0) % Extern.MathBitsCarry.m64) (if 0 < y.toNat + 0 then 1 else 0)) w := rfl
  rw [key]
  have hm : Extern.MathBitsCarry.m64 = 18446744073709551616 := rfl
  have e1 : (0 + Extern.MathBitsCarry.m64 - y.toNat - 0) % Extern.MathBitsCarry.m64 = u := by rw [hm]; omega
  have e2 : 0 < y.toNat + 0 := by omega
  rw [e1, if_pos e2]
  rfl

theorem enters_sub64 (args : Array Value) (w : World) :
    (callFunc 60 args).run Tryz.prog w = ((sub64Entry args).run Tryz.prog w).andThen fun v w' => .ok (.value v) w' :=
  run_callFunc_extern Tryz.func60 (by kernel_rfl) (by kernel_rfl) (by kernel_rfl) (by kernel_rfl) args w
set_option maxRecDepth 100000 in
theorem abs_any (n : Int) (h0 : -9223372036854775808 ≤ n) (h1 : n ≤ 9223372036854775807) (w : World) (hT : Tab w) :
    Calls Tryz.prog 40 #[.int .i64 n] w fun e w' => e = .returned (.string (Nt.nat2s n.natAbs)) ∧ Below w.heap.size w w' := by
  have HF := Lib.hid fun W => formatUint_any n.natAbs (by omega) W
  by_cases hn : n < 0
  · have hw : IntKind.u64.wrap n = n + 18446744073709551616 := by rw [IntKind.wrap_u64]; omega
    go_enter Tryz.func40, Tryz.ntmps40
    have he := enters_sub64
    have hr := fun W => run_sub64 (P := Tryz.prog) n.natAbs (by omega) (by omega) (n + 18446744073709551616) (by omega) W
    go_wp2_with fail
    refine (HF.out _ hT).mono ?_
    rintro e W1 ⟨rfl, hb1⟩
    go_wp2
    go_ret
    exact ⟨rfl, hb1⟩
  · obtain ⟨u, rfl⟩ : ∃ u : Nat, n = u := ⟨n.toNat, by omega⟩
    have hw : IntKind.u64.wrap (u : Int) = u := by rw [IntKind.wrap_u64]; omega
    go_enter Tryz.func40, Tryz.ntmps40
    go_wp2_with fail
    refine (HF.out _ hT).mono ?_
    rintro e W1 ⟨rfl, hb1⟩
    go_wp2
    go_ret
    exact ⟨rfl, hb1⟩

/-- A rational result with an error code, in two. -/
def rout (x : Nt.RS × Int) : Array Value := #[rv x.1, .int .i64 x.2]
def rErr (c : Int) : Nt.RS × Int := ((false, ByteArray.empty, ByteArray.empty), c)

/-! ### Make and Of -/
set_option maxRecDepth 100000 in
theorem make_any (neg : Bool) (a b : ByteArray) (m n : Nat) (w : World) (hT : Tab w) (hna : Nt.num? a = some m) (hnb : Nt.num? b = some n) (hn : n ≠ 0) :
    Calls Tryz.prog 39 #[.bool neg, .string a, .string b] w fun e w' => e = .returned (.tuple (rout (Nt.rs (Nt.low neg m n), 0))) ∧ Below w.heap.size w w' := by
  have HV := Lib.hid fun W => valid_any a W (num_size hna)
  have HV2 := Lib.hid fun W => valid_any b W (num_size hnb)
  rw [hna] at HV
  rw [hnb] at HV2
  have HL := Lib.hid fun W hTW => lowest_any neg a b m n W hTW hna hnb hn
  have hz : (b.toList == [48]) = false := by rw [is_zero hnb, decide_eq_false hn]
  clear hna hnb hn
  have hB := (Below.refl w.heap.size w).alloc (Nat.le_refl _) (.cells #[.bool false, .string ⟨#[]⟩, .string ⟨#[]⟩] 57)
  have hS := World.size_alloc' w (.cells #[.bool false, .string ⟨#[]⟩, .string ⟨#[]⟩] 57)
  obtain ⟨⟨neg', x1, x2⟩, hrs⟩ : ∃ x, Nt.rs (Nt.low neg m n) = x := ⟨_, rfl⟩
  rw [hrs] at HL ⊢
  clear hrs
  unfold rv at HL
  go_enter Tryz.func39, Tryz.ntmps39
  go_wp2_with fail
  refine (HV.out _).mono ?_
  rintro e W1 ⟨rfl, hb1⟩
  go_wp2_with fail
  refine (HV2.out _).mono ?_
  rintro e W2 ⟨rfl, hb2⟩
  have hb2 := below_trans hb1 hb2
  go_wp2_with fail
  refine (HL.out _ (hT.below (hB.trans (hb2.mono (Nat.le_of_lt hS))))).mono ?_
  rintro e W3 ⟨rfl, hb3⟩
  have hb3 := below_trans hb2 hb3
  obtain ⟨⟨hc0, hc1, hc2⟩, hf0, hf1, hf2⟩ := cells3 (kept_new hb3)
  have HK := Lib.hid (kept_new hb3)
  have hB := Lib.hid (hB.trans (hb3.mono (Nat.le_of_lt hS)))
  clear hb1 hb2 hb3 hS
  go_wp2
  obtain ⟨h1, h2⟩ := set3 (x := .bool neg') (y := .string x1) (z := .string x2) HK.out hB.out (Nat.le_refl _)
  refine bodyPost_ret (results_ratE rfl rfl (cells3 h1).1) rfl ?_
  exact ⟨rfl, h2⟩

theorem fit64 (u : Nat) (h : u ≤ 9223372036854775808) : Lib.nDigits u ≤ 1000 :=
  Nt.nDigits_of 19 (Nat.le_trans h (by decide)) (by decide)

theorem of_low (p q : Nat) : Nt.low (decide ((p : Int) < 0) != decide ((q : Int) < 0)) (p : Int).natAbs (q : Int).natAbs = mkRat p q := by
  rw [decide_eq_false (by omega), decide_eq_false (by omega)]; rfl

set_option maxRecDepth 100000 in
theorem of_any (p q : Int) (w : World) (hT : Tab w) (hp0 : -9223372036854775808 ≤ p) (hp1 : p ≤ 9223372036854775807) (hq0 : -9223372036854775808 ≤ q) (hq1 : q ≤ 9223372036854775807) (hq : q ≠ 0) :
    Calls Tryz.prog 23 #[.int .i64 p, .int .i64 q] w fun e w' => e = .returned (.tuple (rout (Nt.rs (Nt.low (decide (p < 0) != decide (q < 0)) p.natAbs q.natAbs), 0))) ∧ Below w.heap.size w w' := by
  have HA := Lib.hid fun W hTW => abs_any p hp0 hp1 W hTW
  have HA2 := Lib.hid fun W hTW => abs_any q hq0 hq1 W hTW
  have HM := Lib.hid fun neg W hTW => make_any neg _ _ p.natAbs q.natAbs W hTW (Nt.num?_nat2s _ (fit64 _ (by omega))) (Nt.num?_nat2s _ (fit64 _ (by omega))) (by omega)
  have hB := (Below.refl w.heap.size w).alloc (Nat.le_refl _) (.cells #[.bool false, .string ⟨#[]⟩, .string ⟨#[]⟩] 57)
  have hS := World.size_alloc' w (.cells #[.bool false, .string ⟨#[]⟩, .string ⟨#[]⟩] 57)
  generalize Nt.nat2s p.natAbs = a at *
  generalize Nt.nat2s q.natAbs = b at *
  go_enter Tryz.func23, Tryz.ntmps23
  go_wp2_with fail
  refine (HA.out _ (hT.below hB)).mono ?_
  rintro e W1 ⟨rfl, hb1⟩
  go_wp2_with fail
  refine (HA2.out _ (hT.below (hB.trans (hb1.mono (Nat.le_of_lt hS))))).mono ?_
  rintro e W2 ⟨rfl, hb2⟩
  have hb2 := below_trans hb1 hb2
  obtain ⟨⟨neg', x1, x2⟩, hrs⟩ : ∃ x, Nt.rs (Nt.low (decide (p < 0) != decide (q < 0)) p.natAbs q.natAbs) = x := ⟨_, rfl⟩
  have HM := Lib.hid (HM.out (!(decide (p < 0) == decide (q < 0))) _ (hT.below (hB.trans (hb2.mono (Nat.le_of_lt hS)))))
  have hrs' : Nt.rs (Nt.low (!(decide (p < 0) == decide (q < 0))) p.natAbs q.natAbs) = (neg', x1, x2) := hrs
  have HRS := Lib.hid hrs
  rw [hrs'] at HM
  clear hrs hrs'
  unfold rout rv at HM
  go_wp2_with fail
  refine HM.out.mono ?_
  rintro e W3 ⟨rfl, hb3⟩
  have hb3 := below_trans hb2 hb3
  obtain ⟨⟨hc0, hc1, hc2⟩, hf0, hf1, hf2⟩ := cells3 (kept_new hb3)
  have HK := Lib.hid (kept_new hb3)
  have hB := Lib.hid (hB.trans (hb3.mono (Nat.le_of_lt hS)))
  clear hb1 hb2 hb3 hS
  go_wp2
  obtain ⟨h1, h2⟩ := set3 (x := .bool neg') (y := .string x1) (z := .string x2) HK.out hB.out (Nat.le_refl _)
  refine bodyPost_ret (results_ratE rfl rfl (cells3 h1).1) rfl ?_
  exact ⟨by rw [HRS.out]; rfl, h2⟩
end Go.Proofs.YtcphclpekllcoaaGreatDoor
