/- Walks: package observatoryref03: mul. -/
import Derived.Test.YtcphclpekllcoaaGreatDoorRc
import Derived.StillTailTactics
namespace Go.Proofs.YtcphclpekllcoaaGreatDoor
open Go.RowKit Go.Sort Go.Deep

theorem info_i64 : (Tryz.prog.info? 3).map (fun i => (i.zero, i.size, i.bytes)) = some (some (.int .i64 0), 1, 8) := by kernel_rfl
/-- A row of ints. -/
def RowN (W : World) (N : Nat) (S : List Nat) : Prop := W.heap[N]? = some (.cells (S.map fun (x : Nat) => Value.int .i64 (x : Int)).toArray 3)
theorem RowN.new (W : World) (L : Nat) : RowN (W.alloc (.cells (madeCells #[.int .i64 0] L) 3)) W.heap.size (List.replicate L 0) := by
  unfold RowN
  rw [kept_new (Below.refl _ _)]
  congr 2
  apply Array.ext
  · simp [madeCells]
  · intro i h1 h2
    simp [madeCells, Nat.mod_one]
theorem RowN.cell {W : World} {N j x : Nat} {S : List Nat} (h : RowN W N S) (hx : S[j]? = some x) : W.cell? ⟨N, j, none⟩ = some (.int .i64 (x : Int)) ∧ W.frozen? ⟨N, j, none⟩ = false := by
  refine ⟨?_, by unfold RowN at h; simp [World.frozen?, h]⟩
  rw [cell_of_row W N j _ _ (0, 0) h]
  simp [hx]
theorem RowN.set {W : World} {N j x : Nat} {S : List Nat} (h : RowN W N S) : RowN (W.setCell ⟨N, j, none⟩ (.int .i64 (x : Int))) N (S.set j x) := by
  unfold RowN
  rw [row_setCell h]
  simp [List.map_set]
theorem RowN.below {W W' : World} {N : Nat} {S : List Nat} (h : RowN W N S) (hb : Below W.heap.size W W') : RowN W' N S := (hb.block N (lt_of_block h)).trans h
theorem RowN.other {W : World} {N N' j : Nat} {S : List Nat} {u : Value} (h : RowN W N S) (hne : N ≠ N') : RowN (W.setCell ⟨N', j, none⟩ u) N S := (Below.heap_setCell _ _ _ _ hne).trans h
/-- A row of digits, as far as it is written. -/
def RowD (W : World) (N L : Nat) (l : List Nat) : Prop := ∃ cur : Array Value, W.heap[N]? = some (.cells cur 5) ∧ cur.size = L ∧ ∀ (j d : Nat), l[j]? = some d → cur[j]? = some (.int .u8 (d : Int))
theorem RowD.new (W : World) (L : Nat) : RowD (W.alloc (.cells (madeCells #[.int .u8 0] L) 5)) W.heap.size L [] :=
  ⟨_, kept_new (Below.refl _ _), by simp [madeCells], fun j d h => by simp at h⟩
theorem RowD.cell {W : World} {N L j : Nat} {l : List Nat} (h : RowD W N L l) (hj : j < L) : (∃ x, W.cell? ⟨N, j, none⟩ = some x) ∧ W.frozen? ⟨N, j, none⟩ = false := by
  obtain ⟨cur, h1, h2, -⟩ := h
  refine ⟨⟨cur[j]'(by omega), ?_⟩, by simp [World.frozen?, h1]⟩
  rw [cell_of_row W N j cur _ (0, 0) h1]; simp
theorem RowD.set {W : World} {N L d : Nat} {l : List Nat} (h : RowD W N L l) (hj : l.length < L) : RowD (W.setCell ⟨N, l.length, none⟩ (.int .u8 (d : Int))) N L (l ++ [d]) := by
  obtain ⟨cur, h1, h2, h3⟩ := h
  refine ⟨_, row_setCell h1, by simp [h2], fun i e he => ?_⟩
  by_cases hi : i = l.length
  · subst hi
    rw [List.getElem?_append_right (Nat.le_refl _)] at he
    simp at he
    subst he
    rw [Array.getElem?_setIfInBounds_self, if_pos (by omega)]
  · have hil := (List.getElem?_eq_some_iff.1 he).1
    simp at hil
    rw [List.getElem?_append_left (by omega)] at he
    rw [Array.getElem?_setIfInBounds_ne (fun e => hi e.symm)]
    exact h3 i e he
theorem RowD.cells {W : World} {N L : Nat} {l : List Nat} (h : RowD W N L l) : ∀ (i d : Nat), l[i]? = some d → W.cell? ⟨N, i, none⟩ = some (.int .u8 (d : Int)) := by
  obtain ⟨cur, h1, h2, h3⟩ := h
  intro i d hi
  rw [cell_of_row W N i cur _ (0, 0) h1]
  exact h3 i d hi

theorem dig_mul_le {x y : Nat} (hx : x < 10) (hy : y < 10) : x * y ≤ 81 := Nat.le_trans (Nat.mul_le_mul (show x ≤ 9 by omega) (show y ≤ 9 by omega)) (by decide)

set_option maxHeartbeats 3200000 in
set_option maxRecDepth 100000 in
theorem r3mul_any (m n : Nat) (w : World) (hm : Lib.nDigits m ≤ 1000) (hn : Lib.nDigits n ≤ 1000) :
    Calls Tryz.prog 76 #[.string (Nt.nat2s m), .string (Nt.nat2s n)] w fun e w' => e = .returned (.string (Nt.nat2s (m * n))) ∧ Below w.heap.size w w' := by
  have HA1 := Lib.hid fun i W hi => r3at_any m i W (by omega) hi
  have HA2 := Lib.hid fun i W hi => r3at_any n i W (by omega) hi
  have h1 := Nt.nat2s_size m
  have h2 := Nt.nat2s_size n
  generalize Nt.nat2s m = s at *
  generalize Nt.nat2s n = u at *
  have HM : Hid (s.size = Lib.nDigits m) := h1
  have HN : Hid (u.size = Lib.nDigits n) := h2
  have hs1 : s.size ≤ 1000 := by omega
  have hu1 : u.size ≤ 1000 := by omega
  have hmk := fun W => run_make_row' (P := Tryz.prog) 33 3 (.int .i64 0) 8 Tryz.underlying33 info_i64 rfl .i64 .i64 (s.size + u.size + 1) (by omega) (by omega) W
  have hmk2 := fun W => run_make_row' (P := Tryz.prog) 118 5 (.int .u8 0) 1 Tryz.underlying118 info_u8 rfl .i64 .i64 (s.size + u.size + 1) (by omega) (by omega) W
  rw [show ((s.size + u.size + 1 : Nat) : Int) = (s.size : Int) + (u.size : Int) + 1 by omega] at hmk hmk2
  clear h1 h2 hm hn
  go_enter Tryz.func76, Tryz.ntmps76
  go_wp2
  go_loopw [6, 7] (fun i _ wr => ∃ (i0 : Nat) (S : List Nat), i = .int .i64 i0 ∧ i0 ≤ s.size ∧ Nt.MulSt m n (s.size + u.size + 1) i0 0 S ∧ RowN wr w.heap.size S ∧ Below w.heap.size w wr) (fun i _ _ => s.size - (intOf i).toNat)
  case atStart => exact ⟨0, _, rfl, Nat.zero_le _, Nt.MulSt.start m n _, RowN.new w _, (Below.refl _ _).alloc (Nat.le_refl _) _⟩
  case round =>
    obtain ⟨i, S, rfl, hi, hA, hR, hB⟩ := hrel
    by_cases hlt : i < s.size
    · obtain ⟨wq, rfl⟩ : ∃ wq : World, wq = wr := ⟨wr, rfl⟩
      have HA := Lib.hid hA
      have HR := Lib.hid hR
      have HB := Lib.hid hB
      have hx9 := Nt.dgt_lt m i
      have HX1 := Lib.hid fun W => HA1.out i W (by omega)
      clear hA hR hB
      go_wp2_with fail
      go_loopw [7] (fun k wr => ∃ (k0 : Nat) (S : List Nat), k = .int .i64 k0 ∧ k0 ≤ u.size ∧ Nt.MulSt m n (s.size + u.size + 1) i k0 S ∧ RowN wr w.heap.size S ∧ Below w.heap.size w wr) (fun k _ => u.size - (intOf k).toNat)
      case atStart => exact ⟨0, S, rfl, Nat.zero_le _, HA.out, HR.out, HB.out⟩
      case round =>
        obtain ⟨k, S2, rfl, hk, hA, hR, hB⟩ := hrel
        by_cases hlk : k < u.size
        · obtain ⟨x, hx⟩ : ∃ x, S2[i + k]? = some x := ⟨_, List.getElem?_eq_getElem (by rw [hA.len]; omega)⟩
          obtain ⟨c0, f0⟩ := hR.cell hx
          have hxb := hA.bnd x (List.mem_of_getElem? hx)
          have hy9 := Nt.dgt_lt n k
          have HX2 := Lib.hid fun W => HA2.out k W (by omega)
          have HST := Lib.hid (hA.step hx)
          have hxy := dig_mul_le hx9 hy9
          have hxb2 : x ≤ 81000000 := by
            have h3 : i * Lib.nDigits n ≤ 999 * 1000 := Nat.mul_le_mul (by omega) (by have := HN.out; omega)
            omega
          have HSET := Lib.hid (hR.set (j := i + k) (x := x + Nt.dgt m i * Nt.dgt n k))
          have HB2 := Lib.hid hB
          generalize Nt.dgt m i = a at *
          generalize Nt.dgt n k = b at *
          have hab : (a : Int) * (b : Int) = ((a * b : Nat) : Int) := by rw [Int.natCast_mul]
          generalize a * b = ab at *
          have hik : IntKind.i64.wrap ((i : Int) + (k : Int)) = (i : Int) + (k : Int) := by rw [IntKind.wrap_i64]; omega
          have HW1 : Hid (wrap64 (ab : Int) = (ab : Int)) := by show _ = _; unfold wrap64; omega
          have HW2 : Hid (wrap64 ((x : Int) + (ab : Int)) = ((x + ab : Nat) : Int)) := by show _ = _; unfold wrap64; omega
          have j0 : (0 : Int) ≤ (i : Int) + (k : Int) := by omega
          have j1 : (i : Int) + (k : Int) < (s.size : Int) + (u.size : Int) + 1 := by omega
          have j2 : ((i : Int) + (k : Int)).toNat = i + k := by omega
          clear hx hA hR hB hxb hx9 hy9 hxy
          go_upto_region 8 with (fail)
          refine wp_region_still_tail 19 (by kernel_rfl) (by kernel_rfl) ?_
          simp only [List.take_succ_cons, List.take_zero, List.drop_succ_cons, List.drop_zero]
          repeat still_step
          still_call ((HX1.out _).mono fun _ _ h => ⟨h.1, h.2.symm⟩)
          repeat still_step
          still_call ((HX2.out _).mono fun _ _ h => ⟨h.1, h.2.symm⟩)
          repeat still_step
          try refine wpStill_nil ?_
          go_wp2
          go_roundw
          case rel => exact ⟨k + 1, _, rfl, by omega, HST.out, by rw [HW1.out, HW2.out]; exact HSET.out, (HB2.out.setCell (p := ⟨w.heap.size, i + k, none⟩) (Nat.le_refl _) _).drew⟩
          case measure => simp [intOf]; omega
        · obtain rfl : k = u.size := by omega
          have HST : Hid (Nt.MulSt m n (s.size + u.size + 1) (i + 1) 0 S2) := Nt.MulSt.next (L := s.size + u.size + 1) (by rw [← HN.out]; exact hA)
          have HRR := Lib.hid hR
          have HBB := Lib.hid hB
          clear hA hR hB
          go_wp2
          go_roundw
          case rel => exact ⟨i + 1, S2, rfl, hlt, HST.out, HRR.out, HBB.out⟩
          case measure => simp [intOf]; omega
    · obtain rfl : i = s.size := by omega
      have HE : Hid (Nt.lv S = m * n) := Nt.MulSt.end_ (L := s.size + u.size + 1) (k := 0) (by rw [← HM.out]; exact hA)
      have HLEN := Lib.hid hA.len
      have HBND : Hid (∀ x ∈ S, x ≤ 81000000) := fun x hx => by
        have := hA.bnd x hx
        have h3 : s.size * Lib.nDigits n ≤ 1000 * 1000 := Nat.mul_le_mul (by omega) (by have := HN.out; omega)
        omega
      obtain ⟨wq, rfl⟩ : ∃ wq : World, wq = wr := ⟨wr, rfl⟩
      have HR := Lib.hid hR
      have HB := Lib.hid hB
      have HNE : Hid (w.heap.size < wq.heap.size) := lt_of_block hR
      clear hA hR hB hlt hi
      go_wp2_with fail
      go_loopw [9, 10, 11] (fun c i _ wr => ∃ (k cc : Nat) (l : List Nat), i = .int .i64 k ∧ c = .int .i64 cc ∧ k ≤ s.size + u.size + 1 ∧ cc ≤ 81000000 ∧ Nt.CarSt S k l cc ∧ RowN wr w.heap.size S ∧ RowD wr wq.heap.size (s.size + u.size + 1) l ∧ Below w.heap.size w wr) (fun _ i _ _ => s.size + u.size + 1 - (intOf i).toNat)
      case atStart => exact ⟨0, 0, [], rfl, rfl, Nat.zero_le _, by omega, Nt.CarSt.start S, HR.out.below ((Below.refl _ _).alloc (Nat.le_refl _) _), RowD.new _ _, HB.out.alloc HB.out.size _⟩
      case round =>
        obtain ⟨k, cc, l, rfl, rfl, hk, hcc, hC, hR2, hD, hB2⟩ := hrel
        have hlen := hC.len
        by_cases hlt : k < s.size + u.size + 1
        · obtain ⟨x, hx⟩ : ∃ x, S[k]? = some x := ⟨_, List.getElem?_eq_getElem (by rw [HLEN.out]; exact hlt)⟩
          have hxb := HBND.out x (List.mem_of_getElem? hx)
          obtain ⟨c0, -⟩ := hR2.cell hx
          obtain ⟨⟨y, c1⟩, f1⟩ := hD.cell (show k < s.size + u.size + 1 from hlt)
          have HST := Lib.hid (hC.step hx)
          have HSET := Lib.hid (hD.set (d := (x + cc) % 10) (by omega))
          have HR3 := Lib.hid hR2
          have HB3 := Lib.hid hB2
          have q1 : ((x : Int) + (cc : Int)) / 10 = (((x + cc) / 10 : Nat) : Int) := by omega
          have q2 : ((x : Int) + (cc : Int)) % 10 = (((x + cc) % 10 : Nat) : Int) := by omega
          have x0 : (0 : Int) ≤ (x : Int) := Int.natCast_nonneg _
          have z0 : (0 : Int) ≤ (cc : Int) := Int.natCast_nonneg _
          have x1 : (x : Int) ≤ 81000000 := by omega
          have z1 : (cc : Int) ≤ 81000000 := by omega
          have r9 : (x + cc) % 10 < 10 := Nat.mod_lt _ (by decide)
          have hq9 : (x + cc) / 10 ≤ 81000000 := by omega
          generalize (x + cc) / 10 = q at *
          generalize (x + cc) % 10 = r at *
          have r0 : (0 : Int) ≤ (r : Int) := Int.natCast_nonneg _
          have r1 : (r : Int) ≤ 9 := by omega
          have j0 : (0 : Int) ≤ (k : Int) := Int.natCast_nonneg _
          have j1 : (k : Int) < (s.size : Int) + (u.size : Int) + 1 := by omega
          have hnn : ¬ wq.heap.size = w.heap.size := by have := HNE.out; omega
          have hnn2 : ¬ w.heap.size = wq.heap.size := by have := HNE.out; omega
          have HLL := Lib.hid hlen
          clear hx hC hR2 hD hB2 hxb hcc hlen
          go_wp2
          go_roundw
          case rel => exact ⟨k + 1, q, l ++ [r], rfl, by first | rfl | rw [q1], by omega, hq9, HST.out, HR3.out.other hnn2, by
            have := HSET.out
            rw [HLL.out] at this
            exact this, HB3.out.setCell (p := ⟨wq.heap.size, k, none⟩) (Nat.le_of_lt HNE.out) _⟩
          case measure => simp [intOf]; omega
        · obtain rfl : k = s.size + u.size + 1 := by omega
          have hlt3 : m * n < 10 ^ (s.size + u.size + 1) := by rw [HM.out, HN.out]; exact Nt.mul_lt_pow m n
          have he := hC.end_ HLEN.out.symm HE.out hlt3
          have HTX := Lib.hid (r3text_any wq.heap.size (s.size + u.size + 1) l wr (by omega) (by omega) hC.dig hD.cells)
          rw [he, hlen] at HTX
          have HB3 := Lib.hid hB2
          clear hlt3 he hC hD hR2 hB2 hlen
          go_wp2_with fail
          refine HTX.out.mono ?_
          rintro e W3 ⟨rfl, hb3⟩
          go_wp2
          go_ret
          exact ⟨rfl, below_trans HB3.out hb3⟩
end Go.Proofs.YtcphclpekllcoaaGreatDoor
