/- Walks: the text of a number. -/
import Derived.Test.YtcphclpekllcoaaGreatDoorWg
namespace Go.Proofs.YtcphclpekllcoaaGreatDoor
open Go.RowKit

theorem bytes_app (a b : List UInt8) : Lib.byteCells a ++ Lib.byteCells b = Lib.byteCells (a ++ b) := by simp [Lib.byteCells]
theorem strCells_list (l : List UInt8) : Lib.strCells ⟨l.toArray⟩ = Lib.byteCells l := by simp [Lib.strCells, Lib.byteCells]
theorem bytes_len (l : List UInt8) : (Lib.byteCells l).length = l.length := by simp [Lib.byteCells]
theorem repeat_one (c : Nat) : Lib.repeatL [48] c = List.replicate c 48 := by
  induction c with
  | zero => rfl
  | succ c ih => rw [Lib.repeatL, ih, List.replicate_succ]; rfl

theorem tx_len (n k : Nat) : (tx n (Nt.limbs n).length k).length ≤ 9 * (Nt.limbs n).length + 1 := by
  unfold tx
  split
  · simp
  · rw [Lib.decDigits_length]
    have h1 := (Nt.limbs_len_le n (Nt.limbs n).length).1 (Nat.le_refl _)
    rw [Nt.nDigits_le_iff _ _ (by omega)]
    refine Nat.lt_of_le_of_lt (Nat.div_le_self _ _) (Nat.lt_of_lt_of_le h1 ?_)
    rw [show (1000000000 : Nat) = 10 ^ 9 from rfl, ← Nat.pow_mul]
    exact Nat.pow_le_pow_right (by decide) (by omega)

def TxI (n : Nat) (w : World) (k : Nat) (wr : World) : Prop :=
  Lib.IsBuilderF 120 5 w.heap.size w.heap.size (Lib.byteCells (tx n (Nt.limbs n).length k)) wr ∧ Below w.heap.size w wr

theorem IsB.below {T e : TypeId} {B b : Nat} {bs : List Value} {w w' : World} (h : Lib.IsBuilderF T e B b bs w) (hb : Below w.heap.size w w') : Lib.IsBuilderF T e B b bs w' := by
  have key : ∀ p, Lib.BuilderAtF T e B b p bs w → Lib.BuilderAtF T e B b p bs w' := by
    rintro p ⟨hB, v, hbk, ⟨h1, h2⟩, hne⟩
    refine ⟨hB, v, (hb.block b (lt_of_block hbk)).trans hbk, ⟨h1, ?_⟩, hne⟩
    rcases h2 with h2 | ⟨g, cap, cur, fz, hv, hg, hh, r⟩
    · exact .inl h2
    · exact .inr ⟨g, cap, cur, fz, hv, hg, (hb.block g (lt_of_block hh)).trans hh, r⟩
  exact h.imp (key _) (key _)

theorem TxI.start (n : Nat) (w : World) : TxI n w 0 (w.alloc (.cells #[.pointer none, .slice none 0 0] 120)) := by
  refine ⟨.inl (Lib.BuilderAtF.of ⟨Nat.le_refl _, .slice none 0 0, heap_alloc_new w _, ?_, by simp [Value.ownBlock]⟩), (Below.refl _ w).alloc (Nat.le_refl _) _⟩
  exact World.ownsRow_nil _ _ _ _

set_option maxRecDepth 100000 in
theorem text_any (v : Value) (n : Nat) (w : World) (h : LB w v (Nt.limbs n)) (hT : Tab w) (hl : (Nt.limbs n).length ≤ 1000) :
    Calls Tryz.prog 70 #[v] w fun e w' => e = .returned (.tuple (if Lib.nDigits n ≤ 1000 then #[.string (Nt.nat2s n), .int .i64 0] else #[.string ⟨#[]⟩, .int .i64 2])) ∧ Below w.heap.size w w' := by
  have G := Lib.hid h
  obtain ⟨a, c, rfl, _, _, _⟩ := h
  by_cases h0 : n = 0
  · subst h0
    have e0 : (Nt.limbs 0).length = 0 := by rw [Nt.limbs_zero]; rfl
    have e1 : (((Nt.limbs 0).length : Int) == 0) = true := by rw [e0]; rfl
    have hf : (if Lib.nDigits 0 ≤ 1000 then #[Value.string (Nt.nat2s 0), Value.int .i64 0] else #[Value.string ⟨#[]⟩, Value.int .i64 2]) = #[Value.string ⟨#[48]⟩, Value.int .i64 0] := by
      rw [if_pos (by rw [Lib.nDigits_small (by decide)]; decide)]
      have : Nt.nat2s 0 = ⟨#[48]⟩ := by unfold Nt.nat2s; rw [Lib.decDigits]; rfl
      rw [this]
    have HF := Lib.hid hf
    clear hf
    rw [HF.out]
    clear e0
    go_enter Tryz.func70, Tryz.ntmps70
    go_wp2
    go_ret2
    exact ⟨rfl, Below.refl _ _⟩
  · have hne : (Nt.limbs n).length ≠ 0 := fun e => h0 ((Nt.limbs_nil_iff n).1 (List.length_eq_zero_iff.1 e))
    have e1 : (((Nt.limbs n).length : Int) == 0) = false := by simp; exact fun e => hne (by simpa using congrArg List.length e)
    have hpos : 0 < (Nt.limbs n).length := Nat.pos_of_ne_zero hne
    have HNE := Lib.hid hne
    clear hne h0
    obtain ⟨RES, hRES⟩ : ∃ RES, RES = (if Lib.nDigits n ≤ 1000 then #[Value.string (Nt.nat2s n), Value.int .i64 0] else #[Value.string ⟨#[]⟩, Value.int .i64 2]) := ⟨_, rfl⟩
    rw [← hRES]
    have HR := Lib.hid hRES
    clear hRES
    go_enter Tryz.func70, Tryz.ntmps70
    go_wp2
    go_loopw [12] (fun i wr => ∃ k : Nat, i = .int .i64 k ∧ k ≤ (Nt.limbs n).length ∧ TxI n w k wr) (fun i _ => (Nt.limbs n).length - (intOf i).toNat)
    case atStart => exact ⟨0, rfl, Nat.zero_le _, TxI.start n w⟩
    case round =>
      obtain ⟨k, rfl, hk, hI, hB⟩ := hrel
      by_cases hlt : k < (Nt.limbs n).length
      · obtain ⟨j, hj⟩ : ∃ j, j = (Nt.limbs n).length - 1 - k := ⟨_, rfl⟩
        have hj2 : ((Nt.limbs n).length : Int) - 1 - (k : Int) = (j : Int) := by omega
        have hjl : j < (Nt.limbs n).length := by omega
        obtain ⟨g, rfl, _, c1⟩ := LB.at G.out hjl
        have hc1 := below_cell hB c1
        have hdlt := Nt.limbs_getD_lt n j
        rw [List.getD_eq_getElem?_getD] at hdlt
        have HJ := Lib.hid hj
        generalize hD : (Nt.limbs n)[j]?.getD 0 = D at hc1 hdlt
        have HD := Lib.hid hD
        clear hj c1 hD
        have HIT := Lib.hid (itoa_any D hdlt wr (hT.below hB))
        obtain ⟨S, hS⟩ : ∃ S, S = Nt.nat2s D := ⟨_, rfl⟩
        rw [← hS] at HIT
        have HS := Lib.hid hS
        have hs9 : S.size ≤ 9 := by rw [hS, Nt.nat2s_size, Nt.nDigits_le_iff _ _ (by decide)]; simpa using hdlt
        have hI' := Lib.hid hI
        clear hS hI
        by_cases hk0 : k = 0
        · subst hk0
          obtain rfl : j = (Nt.limbs n).length - 1 := by have := HJ.out; omega
          go_wp2_with fail
          refine HIT.out.mono ?_
          rintro e W1 ⟨rfl, hb1⟩
          have HWr := Lib.hid (write_any w.heap.size w.heap.size _ S W1 (IsB.below hI'.out hb1) (by rw [bytes_len]; have := tx_len n 0; omega) (Nat.le_trans hB.size hb1.size))
          go_wp2_with fail
          refine HWr.out.mono ?_
          rintro e W2 ⟨rfl, hb2, hb3⟩
          have HT2 : Hid (TxI n w (0 + 1) W2) := by
            refine ⟨.inr ?_, (below_trans hB hb1).trans hb3⟩
            rw [tx_one n HNE.out, HD.out]
            rw [HS.out, strCells_nat] at hb2
            exact hb2
          clear hb2 hb3
          go_wp2
          go_roundw
          case rel => exact ⟨0 + 1, by go_num, by omega, HT2.out⟩
          case measure => simp [intOf]; omega
        · have hkp : (0 : Int) < (k : Int) := by omega
          obtain ⟨C, hC⟩ : ∃ C, C = 9 - S.size := ⟨_, rfl⟩
          have hC2 : (9 : Int) - (S.size : Int) = (C : Int) := by omega
          have hC3 : C ≤ 9 := by omega
          have HC := Lib.hid hC
          clear hC
          go_wp2_with fail
          refine HIT.out.mono ?_
          rintro e W1 ⟨rfl, hb1⟩
          have HRP := Lib.hid (Tryz.strings_Repeat ⟨#[48]⟩ C W1 (by omega) (by
            have : (⟨#[48]⟩ : ByteArray).size = 1 := rfl
            rw [this]; omega))
          rw [show (⟨#[48]⟩ : ByteArray).data.toList = [48] from rfl, repeat_one] at HRP
          obtain ⟨Z, hZ⟩ : ∃ Z : ByteArray, Z = ⟨(List.replicate C 48).toArray⟩ := ⟨_, rfl⟩
          rw [← hZ] at HRP
          have hz9 : Z.size ≤ 9 := by rw [hZ]; simp [ByteArray.size]; omega
          have HZ := Lib.hid hZ
          clear hZ
          go_wp2_with fail
          refine HRP.out.mono ?_
          rintro e W2 ⟨rfl, hb2⟩
          have HWr := Lib.hid (write_any w.heap.size w.heap.size _ Z W2 (IsB.below (IsB.below hI'.out hb1) hb2) (by rw [bytes_len]; have := tx_len n k; omega) (Nat.le_trans hB.size (Nat.le_trans hb1.size hb2.size)))
          go_wp2_with fail
          refine HWr.out.mono ?_
          rintro e W3 ⟨rfl, hb3, hb4⟩
          have HWs := Lib.hid (write_any w.heap.size w.heap.size _ S W3 (.inr hb3) (by rw [List.length_append, bytes_len, Lib.strCells_length]; have := tx_len n k; omega) (Nat.le_trans hB.size (Nat.le_trans hb1.size (Nat.le_trans hb2.size hb4.size))))
          have HB4 : Hid (Below w.heap.size w W3) := (below_trans (below_trans hB hb1) hb2).trans hb4
          clear hb3 hb4
          go_wp2_with fail
          refine HWs.out.mono ?_
          rintro e W4 ⟨rfl, hb5, hb6⟩
          have HT2 : Hid (TxI n w (k + 1) W4) := by
            refine ⟨.inr ?_, HB4.out.trans hb6⟩
            rw [tx_succ n k (by omega) hlt, ← HJ.out, HD.out]
            rw [HS.out, strCells_nat, HZ.out, strCells_list, HC.out, HS.out, Nt.nat2s_size, bytes_app, bytes_app] at hb5
            rw [Lib.decDigits_length, ← List.append_assoc]
            exact hb5
          clear hb5 hb6
          go_wp2
          go_roundw
          case rel => exact ⟨k + 1, by go_num, by omega, HT2.out⟩
          case measure => simp [intOf]; omega
      · obtain rfl : k = (Nt.limbs n).length := by omega
        rw [tx_all n HNE.out] at hI
        have HLn := Lib.hid (Tryz.Builder_Len_f w.heap.size w.heap.size _ wr hI)
        rw [bytes_len, Lib.decDigits_length] at HLn
        have HSt := Lib.hid (Tryz.Builder_String_any_f w.heap.size w.heap.size (Lib.decDigits n) wr hI hB.size)
        clear hI
        go_wp2_with fail
        refine HLn.out.mono ?_
        rintro e W1 ⟨rfl, rfl⟩
        by_cases hn : Lib.nDigits n ≤ 1000
        · have hR2 := HR.out
          rw [if_pos hn] at hR2
          have HR2 := Lib.hid hR2
          clear hR2
          go_wp2_with fail
          refine HSt.out.mono ?_
          rintro e W2 ⟨rfl, _, hb2⟩
          go_wp2
          go_ret2
          refine ⟨?_, hB.trans hb2⟩
          rw [HR2.out]; rfl
        · have hR2 := HR.out
          rw [if_neg hn] at hR2
          have HR2 := Lib.hid hR2
          clear hR2
          go_wp2
          go_ret2
          refine ⟨?_, hB⟩
          rw [HR2.out]; rfl
end Go.Proofs.YtcphclpekllcoaaGreatDoor
