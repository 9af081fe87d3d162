/- Walks: writing into a strings.Builder; the text of a number. -/
import Derived.Test.YtcphclpekllcoaaGreatDoorWf
import Derived.Lib.FrozenHead
import Derived.Lib.Builder
import Derived.Lib.ItoaLen
namespace Go.Proofs.YtcphclpekllcoaaGreatDoor
open Go.RowKit

theorem copyCheck_used (b : Nat) (w : World) (h0 : w.cell? ⟨b, 0, none⟩ = some (.pointer (some ⟨b, 0, none⟩))) :
    Calls Tryz.prog 116 #[.pointer (some ⟨b, 0, none⟩)] w fun e w' => e = .returned (.tuple #[]) ∧ w' = w := by
  have hne : ∀ W, (binOp .neq 117 (.pointer (some ⟨b, 0, none⟩)) (.pointer (some ⟨b, 0, none⟩))).run Tryz.prog W = .ok (.bool false) W := fun W => by
    obtain ⟨j, hj, _⟩ := Option.map_eq_some_iff.1 (show (Tryz.prog.info? 120).map (·.size) = some 2 by kernel_rfl)
    exact Lib.run_neq_ptr_same (P := Tryz.prog) W ⟨b, 0, none⟩ Tryz.underlying117 hj
  go_enter Tryz.func116, Tryz.ntmps116
  go_wp2
  go_end0
  exact ⟨rfl, rfl⟩

set_option maxRecDepth 100000 in
theorem copyCheck_fresh (b : Nat) (w : World) (h0 : w.cell? ⟨b, 0, none⟩ = some (.pointer none)) (hsh : w.shape? b = some (120, 2)) (hfz : w.frozen? ⟨b, 0, none⟩ = false) :
    Calls Tryz.prog 116 #[.pointer (some ⟨b, 0, none⟩)] w fun e w' => e = .returned (.tuple #[]) ∧ w' = w.setCell ⟨b, 0, none⟩ (.pointer (some ⟨b, 0, none⟩)) := by
  obtain ⟨j, hj, hjs⟩ := Option.map_eq_some_iff.1 (show (Tryz.prog.info? 120).map (·.size) = some 2 by kernel_rfl)
  have hne : ∀ W, (binOp .neq 117 (.pointer (some ⟨b, 0, none⟩)) (.pointer (some ⟨b, 0, none⟩))).run Tryz.prog W = .ok (.bool false) W := fun W =>
    Lib.run_neq_ptr_same (P := Tryz.prog) W ⟨b, 0, none⟩ Tryz.underlying117 hj
  go_enter Tryz.func116, Tryz.ntmps116
  go_wp2
  rw [Lib.run_to_unsafe w ⟨b, 0, none⟩ Tryz.underlying117 Tryz.underlying165 hj (by rw [hjs]; decide) hsh (Nat.zero_lt_succ 1)]
  simp only [Result.andThen]
  rw [Oper.upon_value]
  go_wp2
  rw [run_callFunc_extern Tryz.func136 (by kernel_rfl) (by kernel_rfl) (by kernel_rfl) (e := Extern.AbiNoEscape.same) (by kernel_rfl)]
  rw [Lib.run_noEscape]
  simp only [Result.andThen]
  rw [Oper.upon_value]
  go_wp2
  rw [Lib.run_from_unsafe w ⟨b, 0, none⟩ Tryz.underlying165 Tryz.underlying117 hj hsh (by kernel_rfl)]
  simp only [Result.andThen]
  rw [Oper.upon_value]
  go_wp2
  go_end0
  exact ⟨rfl, rfl⟩

theorem copyCheck_any (B b : Nat) (bs : List Value) (w : World) (h : Lib.IsBuilderF 120 5 B b bs w) :
    Calls Tryz.prog 116 #[.pointer (some ⟨b, 0, none⟩)] w fun e w' => e = .returned (.tuple #[]) ∧ (Lib.BuilderAtF 120 5 B b (.pointer (some ⟨b, 0, none⟩)) bs w' ∧ Below B w w') := by
  rcases h with h | h
  · refine (copyCheck_fresh b w h.cell0 h.shape h.frozen0).mono ?_
    rintro e w' ⟨rfl, rfl⟩
    exact ⟨rfl, h.used _, (Below.refl B w).setCell (p := ⟨b, 0, none⟩) h.1 _⟩
  · refine (copyCheck_used b w h.cell0).mono ?_
    rintro e w' ⟨rfl, rfl⟩
    exact ⟨rfl, h, Below.refl B _⟩

theorem info_byte : (Tryz.prog.info? 5).map (fun i => (i.zero, i.size, i.bytes)) = some (some (.int .u8 0), 1, 1) := by kernel_rfl

set_option maxHeartbeats 1000000 in
set_option maxRecDepth 100000 in
theorem write_any (B b : Nat) (bs : List Value) (s : ByteArray) (w : World) (h : Lib.IsBuilderF 120 5 B b bs w) (hlen : bs.length + s.size ≤ 1000000) (hBw : B ≤ w.heap.size) :
    Calls Tryz.prog 92 #[.pointer (some ⟨b, 0, none⟩), .string s] w fun e w' => e = .returned (.tuple #[.int .i64 s.size, .nilIface]) ∧
      (Lib.BuilderAtF 120 5 B b (.pointer (some ⟨b, 0, none⟩)) (bs ++ Lib.strCells s) w' ∧ Below B w w') := by
  obtain ⟨i0, hi, hz0, hz1, hz2⟩ := info_parts info_byte
  have HW := Lib.hid (copyCheck_any B b bs w h)
  clear h
  go_enter Tryz.func92, Tryz.ntmps92
  go_wp2_with fail
  refine HW.out.mono ?_
  rintro e w1 ⟨rfl, h1, hb1⟩
  obtain ⟨hB, v, hbk, hown, hne⟩ := h1
  have c0 : w1.cell? ⟨b, 0, none⟩ = some (.pointer (some ⟨b, 0, none⟩)) := by rw [Lib.cell_of_heap hbk]; rfl
  have c1 : w1.cell? ⟨b, 1, none⟩ = some v := by rw [Lib.cell_of_heap hbk]; rfl
  go_wp2_with (at_builtin; refine Lib.wpList_append_own_stringF _ rfl _ _ 118 9 rfl B 5 i0 Tryz.underlying118 Tryz.underlying9 hi hz0 hz1 hz2 _ _ _ rfl hown s rfl ?c3 ?c4 ?c5 ?_)
  case c3 => unfold maxLen; omega
  case c4 => omega
  case c5 => have := hb1.size; omega
  intro v' w2 hown' hgrow _
  have hlt : b < w1.heap.size := lt_of_block hbk
  have hb2 : w2.heap[b]? = some (.cells #[.pointer (some ⟨b, 0, none⟩), v] 120 (0, 0)) := by
    rw [hgrow.block b hlt (fun e => hne e.symm)]
    exact hbk
  have d0 : w2.cell? ⟨b, 0, none⟩ = some (.pointer (some ⟨b, 0, none⟩)) := by rw [Lib.cell_of_heap hb2]; rfl
  have d1 : w2.cell? ⟨b, 1, none⟩ = some v := by rw [Lib.cell_of_heap hb2]; rfl
  have f1 : w2.frozen? ⟨b, 1, none⟩ = false := Lib.frozen_of_heap hb2 1
  obtain ⟨ao, n', cap, rfl⟩ : ∃ ao n' cap, v' = .slice ao n' cap := by
    rcases hown'.2 with ⟨hv, _⟩ | ⟨g, cap, cur, fz, hv, _⟩
    · exact ⟨_, _, _, hv⟩
    · exact ⟨_, _, _, hv⟩
  go_wp2
  go_ret2
  refine ⟨rfl, ?_, ?_⟩
  · exact Lib.BuilderAtF.put (T := 120) (e := 5) hB hb2 (bs' := bs ++ Lib.strCells s) (by simpa [Lib.strCells_length] using hown') (by decide)
  · exact (hb1.grown hgrow (by have := hb1.size; omega) (fun k hk => (hown.lt k hk).1)).setCell (p := ⟨b, 1, none⟩) hB _

/-- The table of powers of ten lies as the library's text lays it. -/
def Tab (w : World) : Prop := Lib.TabIs Tryz.prog w "internal/strconv.uint64pow10" .u64 Lib.pow10Tab

theorem Tab.below {w w' : World} (h : Tab w) (hb : Below w.heap.size w w') : Tab w' := by
  unfold Tab Lib.TabIs World.var? at *
  obtain ⟨g, hg, h2⟩ := Option.bind_eq_some_iff.1 h
  rw [hg, Option.bind_some]
  have hlt : g < w.heap.size := by
    rcases Nat.lt_or_ge g w.heap.size with h' | h'
    · exact h'
    · rw [Array.getElem?_eq_none h'] at h2; simp at h2
  rw [hb.block g hlt]
  exact h2

theorem strCells_nat (n : Nat) : Lib.strCells (Nt.nat2s n) = Lib.byteCells (Lib.decDigits n) := by
  unfold Lib.strCells Lib.byteCells; rw [Nt.nat2s_list]

theorem below_grow' (w : World) (k : Nat) (os : Array Obj) : Below w.heap.size w (Go.Sort.grow (w.drewN k) os) :=
  ⟨rfl, rfl, rfl, by show w.heap.size ≤ (w.heap ++ os).size; simp, fun j hj => by show (w.heap ++ os)[j]? = _; rw [Array.getElem?_append_left hj]⟩

theorem itoa_any (d : Nat) (hd : d < 1000000000) (w : World) (hT : Tab w) :
    Calls Tryz.prog 91 #[.int .i64 (d : Int)] w fun e w' => e = .returned (.string (Nt.nat2s d)) ∧ Below w.heap.size w w' := by
  refine (Tryz.strconv_Itoa (d : Int) (by omega) (by omega) w hT).mono ?_
  rintro e w' ⟨rfl, k, os, rfl⟩
  refine ⟨?_, below_grow' w k os⟩
  have : Lib.itoa (d : Int) = Lib.decDigits d := by
    unfold Lib.itoa
    rw [if_neg (by omega)]; rfl
  rw [this]; rfl

/-- The text of the upper k limbs of a number of L limbs. -/
def tx (n L k : Nat) : List UInt8 := if k = 0 then [] else Lib.decDigits (n / 1000000000 ^ (L - k))

theorem tx_one (n : Nat) (h : (Nt.limbs n).length ≠ 0) : tx n (Nt.limbs n).length 1 = Lib.decDigits ((Nt.limbs n)[(Nt.limbs n).length - 1]?.getD 0) := by
  unfold tx
  rw [if_neg (by decide), Nt.step_up n ((Nt.limbs n).length - 1), show (Nt.limbs n).length - 1 + 1 = (Nt.limbs n).length by omega, Nt.div_len, Nat.zero_mul, Nat.zero_add, List.getD_eq_getElem?_getD]

theorem tx_succ (n k : Nat) (hk : 0 < k) (h : k < (Nt.limbs n).length) :
    tx n (Nt.limbs n).length (k + 1) = tx n (Nt.limbs n).length k ++ (List.replicate (9 - (Lib.decDigits ((Nt.limbs n)[(Nt.limbs n).length - 1 - k]?.getD 0)).length) 48 ++ Lib.decDigits ((Nt.limbs n)[(Nt.limbs n).length - 1 - k]?.getD 0)) := by
  have hlt := Nt.limbs_getD_lt n ((Nt.limbs n).length - 1 - k)
  have hst := Nt.step_up n ((Nt.limbs n).length - 1 - k)
  rw [List.getD_eq_getElem?_getD] at hlt hst
  have hpos : 0 < n / 1000000000 ^ ((Nt.limbs n).length - 1 - k + 1) := by
    have h1 : ¬ n < 1000000000 ^ ((Nt.limbs n).length - 1) := fun hc => by
      have := (Nt.limbs_len_le n ((Nt.limbs n).length - 1)).2 hc
      omega
    have h2 : 1000000000 ^ ((Nt.limbs n).length - 1 - k + 1) ≤ 1000000000 ^ ((Nt.limbs n).length - 1) := Nat.pow_le_pow_right (by decide) (by omega)
    exact Nat.div_pos (Nat.le_trans h2 (Nat.le_of_not_lt h1)) (Nat.pow_pos (by decide))
  unfold tx
  rw [if_neg (by omega), if_neg (by omega), show (Nt.limbs n).length - (k + 1) = (Nt.limbs n).length - 1 - k by omega, hst, Nt.dec_pad _ _ hpos hlt,
    show (Nt.limbs n).length - 1 - k + 1 = (Nt.limbs n).length - k by omega]
  rfl

theorem tx_all (n : Nat) (h : (Nt.limbs n).length ≠ 0) : tx n (Nt.limbs n).length (Nt.limbs n).length = Lib.decDigits n := by
  unfold tx
  rw [if_neg h, Nat.sub_self, Nat.pow_zero, Nat.div_one]

end Go.Proofs.YtcphclpekllcoaaGreatDoor
