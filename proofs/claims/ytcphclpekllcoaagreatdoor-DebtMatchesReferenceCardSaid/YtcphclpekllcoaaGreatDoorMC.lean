/- Walks: reading a number's limbs out of its digits. -/
import Derived.Test.YtcphclpekllcoaaGreatDoorMB
import Derived.Test.YtcphclpekllcoaaGreatDoorShelf
import Derived.Lib.AtoiErrMem
import Derived.Lib.FrozenHead
import Derived.Lib.Builder
import Derived.Lib.ItoaLen
import Derived.Lib.SlTrimSet
import Derived.WalkSpells
namespace Go.Proofs.YtcphclpekllcoaaGreatDoor
open Go.RowKit

theorem decFrom_val (l : List UInt8) (h : l.all Nt.isDg = true) : ∀ acc, Lib.decFrom acc l = some (acc * 10 ^ l.length + Nt.val l) := by
  induction l with
  | nil => intro acc; simp [Lib.decFrom, Nt.val]
  | cons c l ih =>
    intro acc
    simp only [List.all_cons, Bool.and_eq_true] at h
    obtain ⟨h1, h2⟩ := h
    rw [Nt.isDg_iff] at h1
    rw [Lib.decFrom]
    simp only [Lib.digitVal, h1, and_self, if_true]
    rw [ih h2, Nt.val_cons, List.length_cons, Nat.pow_succ, Nat.add_mul, Nat.mul_assoc, Nat.mul_comm 10, Nat.add_assoc]

theorem atoi_val (l : List UInt8) (h : l.all Nt.isDg = true) (h0 : l ≠ []) : Lib.atoi l = some (Nt.val l : Int) := by
  cases l with
  | nil => exact absurd rfl h0
  | cons c l =>
    have h1 := h
    simp only [List.all_cons, Bool.and_eq_true] at h1
    have h2 := (Nt.isDg_iff c).1 h1.1
    have e1 : (c == 45) = false := by
      rw [beq_eq_false_iff_ne]; rintro rfl; simp at h2
    have e2 : (c == 43) = false := by
      rw [beq_eq_false_iff_ne]; rintro rfl; simp at h2
    rw [Lib.atoi]
    simp only [e1, e2, Bool.false_eq_true, if_false, Lib.decNat, List.isEmpty_cons]
    rw [decFrom_val _ h]
    simp

theorem one_LB (W : World) (X : Nat) : LB (W.alloc (.cells #[.int .i64 X] 3)) (.slice (some ⟨W.heap.size, 0, none⟩) 1 1) [X] := LB.of_own (one_own W W.heap.size X (Nat.le_refl _))

theorem read_size (w : World) (t : TypeId) (s : ByteArray) (o : Obj) : w.heap.size ≤ ((Lib.bytesWorld w t s).alloc o).heap.size := by
  have := (Lib.bytesWorld_below w t s).size
  simp; omega
theorem _root_.Go.World.ownsRow.kept_below {w w' : World} {B : Nat} {e : TypeId} {size : Nat} {v : Value} {n : Nat} {xs : List Value} (h : w.ownsRow B e size v n xs) (hb : Below w.heap.size w w') : w'.ownsRow B e size v n xs :=
  h.kept (row := none) ⟨hb.os, hb.tape, hb.output, hb.size, fun k hk _ => hb.block k hk⟩ (by cases hv : v.ownBlock <;> simp)

/-- What has been read when k pieces are done. -/
def RdI (L : List UInt8) (w : World) (k : Nat) (out : Value) (wr : World) : Prop :=
  ∃ xs : List Nat, xs.length = k ∧ (∀ d ∈ xs, d < 1000000000) ∧ Nt.lval xs = Nt.val (L.drop (L.length - 9 * k)) ∧ wr.ownsRow w.heap.size 3 1 out xs.length (ints xs) ∧ Below w.heap.size w wr

theorem read_below {w wr W1 : World} {t : TypeId} {s : ByteArray} {o : Obj} (hB : Below w.heap.size w wr) (h : Below w.heap.size ((Lib.bytesWorld wr t s).alloc o) W1) : Below w.heap.size w W1 := by
  have h1 := hB.size
  have h2 := (Lib.bytesWorld_below wr t s).size
  exact ((hB.trans ((Lib.bytesWorld_below wr t s).mono h1)).alloc (by omega) o).trans h

theorem RdI.start (L : List UInt8) (w : World) : RdI L w 0 (.slice none 0 0) w := by
  refine ⟨[], rfl, by simp, ?_, World.ownsRow_nil _ _ _ _, Below.refl _ _⟩
  rw [Nat.mul_zero, Nat.sub_zero, List.drop_length]; rfl

theorem RdI.step {L : List UInt8} {w W' : World} {k e' : Nat} {v' : Value} {xs : List Nat} (hd : L.all Nt.isDg = true) (h1 : xs.length = k) (h2 : ∀ d ∈ xs, d < 1000000000) (h3 : Nt.lval xs = Nt.val (L.drop (L.length - 9 * k)))
    (hk : 9 * k < L.length) (he : e' = L.length - 9 * (k + 1))
    (ho : W'.ownsRow w.heap.size 3 1 v' (xs ++ [Nt.val ((L.drop e').take (L.length - 9 * k - e'))]).length (ints (xs ++ [Nt.val ((L.drop e').take (L.length - 9 * k - e'))]))) (hb : Below w.heap.size w W') : RdI L w (k + 1) v' W' := by
  subst he
  refine ⟨_, by simp [h1], fun d hd' => ?_, ?_, ho, hb⟩
  · rcases List.mem_append.1 hd' with h | h
    · exact h2 d h
    · rw [List.mem_singleton.1 h]; exact Nt.chunk_lt L _ _ hd (by omega)
  · exact Nt.read_step L xs _ _ (by omega) (by omega) (by omega) h3

set_option maxRecDepth 100000 in
theorem read_any (s : ByteArray) (w : World) (hd : s.data.toList.all Nt.isDg = true) (hl : s.size ≤ 1000) :
    Calls Tryz.prog 65 #[.string s] w fun e w' => ∃ v, e = .returned v ∧ LB w' v (Nt.limbs (Nt.val s.data.toList)) ∧ Below w.heap.size w w' := by
  have hsz : s.data.toList.length = s.size := by rw [Array.length_toList]; rfl
  obtain ⟨L, hL⟩ : ∃ L, L = s.data.toList := ⟨_, rfl⟩
  rw [← hL] at hd hsz ⊢
  have HL := Lib.hid hL
  have HD := Lib.hid hd
  have HSZ := Lib.hid hsz
  clear hL hd hsz
  go_enter Tryz.func65, Tryz.ntmps65
  go_wp2
  go_loopw [3, 4] (fun o e wr => ∃ k : Nat, e = .int .i64 ((s.size : Int) - 9 * (k : Int)) ∧ (k = 0 ∨ 9 * (k - 1) < s.size) ∧ RdI L w k o wr) (fun _ e _ => (intOf e + 9).toNat)
  case atStart => exact ⟨0, congrArg (Value.int .i64) (by omega), .inl rfl, RdI.start L w⟩
  case round =>
    obtain ⟨k, rfl, hk, hI⟩ := hrel
    by_cases hlt : 9 * k < s.size
    · obtain ⟨xs, h1, h2, h3, h4, hB⟩ := hI
      have hBs : w.heap.size ≤ wr.heap.size := hB.size
      have hxl : xs.length ≤ 1000 := by omega
      obtain ⟨E, hE2⟩ : ∃ E, E = s.size - 9 * k := ⟨_, rfl⟩
      have e0 : (s.size : Int) - 9 * (k : Int) = (E : Int) := by omega
      have he2 : E ≤ s.size := by omega
      have he3 : 0 < E := by omega
      have h10 : ∀ E', E' ≤ E → E - E' ≤ 9 → E' < E → ∀ W, Calls Tryz.prog 85 #[.string (s.extract E' E)] W fun e w' => e = .returned (.tuple #[.int .i64 (Nt.val ((L.drop E').take (E - E')) : Nat), .nilIface]) ∧ ∃ t, w' = Lib.bytesWorld W 5 t := fun E' ha hb hc W => by
        have hx : (s.extract E' E).data.toList = (L.drop E').take (E - E') := by rw [Lib.extract_data, HL.out]
        refine Tryz.strconv_Atoi (s.extract E' E) _ ?_ ?_ W
        · rw [ByteArray.size_extract]; omega
        · rw [hx]
          exact atoi_val _ (List.all_eq_true.2 fun c hc => List.all_eq_true.1 HD.out c (List.mem_of_mem_drop (List.mem_of_mem_take hc))) (by
            intro e
            have := congrArg List.length e
            rw [List.length_take, List.length_drop, HSZ.out] at this
            simp at this; omega)
      have H10 := Lib.hid h10
      have H1 := Lib.hid h1
      have H2 := Lib.hid h2
      have H3 := Lib.hid h3
      have H4 := Lib.hid h4
      have HE2 := Lib.hid hE2
      rw [e0]
      clear e0 h10 h1 h2 h3 h4 hE2
      by_cases h9 : 9 ≤ E
      · obtain ⟨F, rfl⟩ : ∃ F, E = F + 9 := ⟨E - 9, by omega⟩
        have hsl : ∀ W, (Instr.slice 55 (.string s) (some (.int .i64 (F : Int))) (some (.int .i64 ((F : Int) + 9))) none).run Tryz.prog W = .ok (.string (s.extract F (F + 9))) W := fun W => by
          have := run_slice_string (P := Tryz.prog) (w := W) 55 s .i64 .i64 (F : Int) ((F : Int) + 9) Tryz.underlying55 (by omega) (by omega) (by omega)
          rw [this, Int.toNat_natCast, show ((F : Int) + 9).toNat = F + 9 by omega]
        go_wp2_with fail
        refine (H10.out F (by omega) (by omega) (by omega) _).mono ?_
        rintro e W1 ⟨rfl, tt, rfl⟩
        generalize hX : Nt.val ((L.drop F).take (F + 9 - F)) = X
        have HX := Lib.hid hX
        clear hX
        go_wp2_with (at_builtin; go_must (refine wpList_append_lb rfl _ _ rfl w.heap.size _ _ xs [X] rfl rfl (H4.out.kept_below (below_trans (Lib.bytesWorld_below wr _ _) ((Below.refl _ _).alloc (Nat.le_refl _) _))) (one_LB _ X) (Nat.le_trans hBs (read_size wr _ tt _)) (by simp only [List.length_singleton]; omega) ?_); intro v1 W1 ho1 hb1)
        have HI2 := Lib.hid (RdI.step (e' := F) HD.out H1.out H2.out H3.out (by rw [HSZ.out]; exact hlt) (by rw [HSZ.out]; have := HE2.out; omega) (by rw [HSZ.out, ← HE2.out, HX.out]; exact ho1)
          (read_below hB hb1))
        go_roundw
        case rel => exact ⟨k + 1, congrArg (Value.int .i64) (by have := HE2.out; omega), .inr hlt, HI2.out⟩
        case measure => simp [intOf]; omega
      · have hmx : max (0 : Int) ((E : Int) - 9) = 0 := by omega
        have hsl : ∀ W, (Instr.slice 55 (.string s) (some (.int .i64 0)) (some (.int .i64 (E : Int))) none).run Tryz.prog W = .ok (.string (s.extract 0 E)) W := fun W => by
          have := run_slice_string (P := Tryz.prog) (w := W) 55 s .i64 .i64 0 (E : Int) Tryz.underlying55 (by omega) (by omega) (by omega)
          rw [this, Int.toNat_natCast]; rfl
        go_wp2_with fail
        refine (H10.out 0 (by omega) (by omega) (by omega) _).mono ?_
        rintro e W1 ⟨rfl, tt, rfl⟩
        generalize hX : Nt.val ((L.drop 0).take (E - 0)) = X
        have HX := Lib.hid hX
        clear hX
        go_wp2_with (at_builtin; go_must (refine wpList_append_lb rfl _ _ rfl w.heap.size _ _ xs [X] rfl rfl (H4.out.kept_below (below_trans (Lib.bytesWorld_below wr _ _) ((Below.refl _ _).alloc (Nat.le_refl _) _))) (one_LB _ X) (Nat.le_trans hBs (read_size wr _ tt _)) (by simp only [List.length_singleton]; omega) ?_); intro v1 W1 ho1 hb1)
        have HI2 := Lib.hid (RdI.step (e' := 0) HD.out H1.out H2.out H3.out (by rw [HSZ.out]; exact hlt) (by rw [HSZ.out]; have := HE2.out; omega) (by rw [HSZ.out, ← HE2.out, HX.out]; exact ho1)
          (read_below hB hb1))
        go_roundw
        case rel => exact ⟨k + 1, congrArg (Value.int .i64) (by have := HE2.out; omega), .inr hlt, HI2.out⟩
        case measure => simp [intOf]; omega
    · obtain ⟨xs, h1, h2, h3, h4, hB⟩ := hI
      have HT := Lib.hid (trimmed_any _ _ wr (LB.of_own h4) h2 (by omega))
      rw [h3, HSZ.out, show s.size - 9 * k = 0 by omega, List.drop_zero] at HT
      clear h1 h2 h3 h4
      go_wp2_with fail
      refine HT.out.mono ?_
      rintro e W1 ⟨v1, rfl, hv1, _, rfl⟩
      go_wp2
      go_ret
      exact ⟨_, rfl, hv1, hB⟩
end Go.Proofs.YtcphclpekllcoaaGreatDoor


/- Walks: writing into a strings.Builder; the text of a number. -/
namespace Go.Proofs.YtcphclpekllcoaaGreatDoor
open Go.RowKit

theorem copyCheck_used (b : Nat) (w : World) (h0 : w.cell? ⟨b, 0, none⟩ = some (.pointer (some ⟨b, 0, none⟩))) :
    Calls Tryz.prog 116 #[.pointer (some ⟨b, 0, none⟩)] w fun e w' => e = .returned (.tuple #[]) ∧ w' = w := by
  have hne : ∀ W, (binOp .neq 117 (.pointer (some ⟨b, 0, none⟩)) (.pointer (some ⟨b, 0, none⟩))).run Tryz.prog W = .ok (.bool false) W := fun W => by
    obtain ⟨j, hj, _⟩ := Option.map_eq_some_iff.1 (show (Tryz.prog.info? 120).map (·.size) = some 2 by kernel_rfl)
    exact Lib.run_neq_ptr_same (P := Tryz.prog) W ⟨b, 0, none⟩ Tryz.underlying117 hj
  go_enter Tryz.func116, Tryz.ntmps116
  go_wp2
  go_end0
  exact ⟨rfl, rfl⟩

set_option maxRecDepth 100000 in
theorem copyCheck_fresh (b : Nat) (w : World) (h0 : w.cell? ⟨b, 0, none⟩ = some (.pointer none)) (hsh : w.shape? b = some (120, 2)) (hfz : w.frozen? ⟨b, 0, none⟩ = false) :
    Calls Tryz.prog 116 #[.pointer (some ⟨b, 0, none⟩)] w fun e w' => e = .returned (.tuple #[]) ∧ w' = w.setCell ⟨b, 0, none⟩ (.pointer (some ⟨b, 0, none⟩)) := by
  obtain ⟨j, hj, hjs⟩ := Option.map_eq_some_iff.1 (show (Tryz.prog.info? 120).map (·.size) = some 2 by kernel_rfl)
  have hne : ∀ W, (binOp .neq 117 (.pointer (some ⟨b, 0, none⟩)) (.pointer (some ⟨b, 0, none⟩))).run Tryz.prog W = .ok (.bool false) W := fun W =>
    Lib.run_neq_ptr_same (P := Tryz.prog) W ⟨b, 0, none⟩ Tryz.underlying117 hj
  go_enter Tryz.func116, Tryz.ntmps116
  go_wp2
  rw [Lib.run_to_unsafe w ⟨b, 0, none⟩ Tryz.underlying117 Tryz.underlying165 hj (by rw [hjs]; decide) hsh (Nat.zero_lt_succ 1)]
  simp only [Result.andThen]
  rw [Oper.upon_value]
  go_wp2
  rw [run_callFunc_extern Tryz.func136 (by kernel_rfl) (by kernel_rfl) (by kernel_rfl) (e := Extern.AbiNoEscape.same) (by kernel_rfl)]
  rw [Lib.run_noEscape]
  simp only [Result.andThen]
  rw [Oper.upon_value]
  go_wp2
  rw [Lib.run_from_unsafe w ⟨b, 0, none⟩ Tryz.underlying165 Tryz.underlying117 hj hsh (by kernel_rfl)]
  simp only [Result.andThen]
  rw [Oper.upon_value]
  go_wp2
  go_end0
  exact ⟨rfl, rfl⟩

theorem copyCheck_any (B b : Nat) (bs : List Value) (w : World) (h : Lib.IsBuilderF 120 5 B b bs w) :
    Calls Tryz.prog 116 #[.pointer (some ⟨b, 0, none⟩)] w fun e w' => e = .returned (.tuple #[]) ∧ (Lib.BuilderAtF 120 5 B b (.pointer (some ⟨b, 0, none⟩)) bs w' ∧ Below B w w') := by
  rcases h with h | h
  · refine (copyCheck_fresh b w h.cell0 h.shape h.frozen0).mono ?_
    rintro e w' ⟨rfl, rfl⟩
    exact ⟨rfl, h.used _, (Below.refl B w).setCell (p := ⟨b, 0, none⟩) h.1 _⟩
  · refine (copyCheck_used b w h.cell0).mono ?_
    rintro e w' ⟨rfl, rfl⟩
    exact ⟨rfl, h, Below.refl B _⟩

theorem info_byte : (Tryz.prog.info? 5).map (fun i => (i.zero, i.size, i.bytes)) = some (some (.int .u8 0), 1, 1) := by kernel_rfl

set_option maxHeartbeats 1000000 in
set_option maxRecDepth 100000 in
theorem write_any (B b : Nat) (bs : List Value) (s : ByteArray) (w : World) (h : Lib.IsBuilderF 120 5 B b bs w) (hlen : bs.length + s.size ≤ 1000000) (hBw : B ≤ w.heap.size) :
    Calls Tryz.prog 92 #[.pointer (some ⟨b, 0, none⟩), .string s] w fun e w' => e = .returned (.tuple #[.int .i64 s.size, .nilIface]) ∧
      (Lib.BuilderAtF 120 5 B b (.pointer (some ⟨b, 0, none⟩)) (bs ++ Lib.strCells s) w' ∧ Below B w w') := by
  obtain ⟨i0, hi, hz0, hz1, hz2⟩ := info_parts info_byte
  have HW := Lib.hid (copyCheck_any B b bs w h)
  clear h
  go_enter Tryz.func92, Tryz.ntmps92
  go_wp2_with fail
  refine HW.out.mono ?_
  rintro e w1 ⟨rfl, h1, hb1⟩
  obtain ⟨hB, v, hbk, hown, hne⟩ := h1
  have c0 : w1.cell? ⟨b, 0, none⟩ = some (.pointer (some ⟨b, 0, none⟩)) := by rw [Lib.cell_of_heap hbk]; rfl
  have c1 : w1.cell? ⟨b, 1, none⟩ = some v := by rw [Lib.cell_of_heap hbk]; rfl
  go_wp2_with (at_builtin; refine Lib.wpList_append_own_stringF _ rfl _ _ 118 9 rfl B 5 i0 Tryz.underlying118 Tryz.underlying9 hi hz0 hz1 hz2 _ _ _ rfl hown s rfl ?c3 ?c4 ?c5 ?_)
  case c3 => unfold maxLen; omega
  case c4 => omega
  case c5 => have := hb1.size; omega
  intro v' w2 hown' hgrow _
  have hlt : b < w1.heap.size := lt_of_block hbk
  have hb2 : w2.heap[b]? = some (.cells #[.pointer (some ⟨b, 0, none⟩), v] 120 (0, 0)) := by
    rw [hgrow.block b hlt (fun e => hne e.symm)]
    exact hbk
  have d0 : w2.cell? ⟨b, 0, none⟩ = some (.pointer (some ⟨b, 0, none⟩)) := by rw [Lib.cell_of_heap hb2]; rfl
  have d1 : w2.cell? ⟨b, 1, none⟩ = some v := by rw [Lib.cell_of_heap hb2]; rfl
  have f1 : w2.frozen? ⟨b, 1, none⟩ = false := Lib.frozen_of_heap hb2 1
  obtain ⟨ao, n', cap, rfl⟩ : ∃ ao n' cap, v' = .slice ao n' cap := by
    rcases hown'.2 with ⟨hv, _⟩ | ⟨g, cap, cur, fz, hv, _⟩
    · exact ⟨_, _, _, hv⟩
    · exact ⟨_, _, _, hv⟩
  go_wp2
  go_ret2
  refine ⟨rfl, ?_, ?_⟩
  · exact Lib.BuilderAtF.put (T := 120) (e := 5) hB hb2 (bs' := bs ++ Lib.strCells s) (by simpa [Lib.strCells_length] using hown') (by decide)
  · exact (hb1.grown hgrow (by have := hb1.size; omega) (fun k hk => (hown.lt k hk).1)).setCell (p := ⟨b, 1, none⟩) hB _

/-- The table of powers of ten lies as the library's text lays it. -/
def Tab (w : World) : Prop := Lib.TabIs Tryz.prog w "internal/strconv.uint64pow10" .u64 Lib.pow10Tab

theorem Tab.below {w w' : World} (h : Tab w) (hb : Below w.heap.size w w') : Tab w' := by
  unfold Tab Lib.TabIs World.var? at *
  obtain ⟨g, hg, h2⟩ := Option.bind_eq_some_iff.1 h
  rw [hg, Option.bind_some]
  have hlt : g < w.heap.size := by
    rcases Nat.lt_or_ge g w.heap.size with h' | h'
    · exact h'
    · rw [Array.getElem?_eq_none h'] at h2; simp at h2
  rw [hb.block g hlt]
  exact h2

theorem strCells_nat (n : Nat) : Lib.strCells (Nt.nat2s n) = Lib.byteCells (Lib.decDigits n) := by
  unfold Lib.strCells Lib.byteCells; rw [Nt.nat2s_list]

theorem below_grow' (w : World) (k : Nat) (os : Array Obj) : Below w.heap.size w (Go.Sort.grow (w.drewN k) os) :=
  ⟨rfl, rfl, rfl, by show w.heap.size ≤ (w.heap ++ os).size; simp, fun j hj => by show (w.heap ++ os)[j]? = _; rw [Array.getElem?_append_left hj]⟩

theorem itoa_any (d : Nat) (hd : d < 1000000000) (w : World) (hT : Tab w) :
    Calls Tryz.prog 91 #[.int .i64 (d : Int)] w fun e w' => e = .returned (.string (Nt.nat2s d)) ∧ Below w.heap.size w w' := by
  refine (Tryz.strconv_Itoa (d : Int) (by omega) (by omega) w hT).mono ?_
  rintro e w' ⟨rfl, k, os, rfl⟩
  refine ⟨?_, below_grow' w k os⟩
  have : Lib.itoa (d : Int) = Lib.decDigits d := by
    unfold Lib.itoa
    rw [if_neg (by omega)]; rfl
  rw [this]; rfl

/-- The text of the upper k limbs of a number of L limbs. -/
def tx (n L k : Nat) : List UInt8 := if k = 0 then [] else Lib.decDigits (n / 1000000000 ^ (L - k))

theorem tx_one (n : Nat) (h : (Nt.limbs n).length ≠ 0) : tx n (Nt.limbs n).length 1 = Lib.decDigits ((Nt.limbs n)[(Nt.limbs n).length - 1]?.getD 0) := by
  unfold tx
  rw [if_neg (by decide), Nt.step_up n ((Nt.limbs n).length - 1), show (Nt.limbs n).length - 1 + 1 = (Nt.limbs n).length by omega, Nt.div_len, Nat.zero_mul, Nat.zero_add, List.getD_eq_getElem?_getD]

theorem tx_succ (n k : Nat) (hk : 0 < k) (h : k < (Nt.limbs n).length) :
    tx n (Nt.limbs n).length (k + 1) = tx n (Nt.limbs n).length k ++ (List.replicate (9 - (Lib.decDigits ((Nt.limbs n)[(Nt.limbs n).length - 1 - k]?.getD 0)).length) 48 ++ Lib.decDigits ((Nt.limbs n)[(Nt.limbs n).length - 1 - k]?.getD 0)) := by
  have hlt := Nt.limbs_getD_lt n ((Nt.limbs n).length - 1 - k)
  have hst := Nt.step_up n ((Nt.limbs n).length - 1 - k)
  rw [List.getD_eq_getElem?_getD] at hlt hst
  have hpos : 0 < n / 1000000000 ^ ((Nt.limbs n).length - 1 - k + 1) := by
    have h1 : ¬ n < 1000000000 ^ ((Nt.limbs n).length - 1) := fun hc => by
      have := (Nt.limbs_len_le n ((Nt.limbs n).length - 1)).2 hc
      omega
    have h2 : 1000000000 ^ ((Nt.limbs n).length - 1 - k + 1) ≤ 1000000000 ^ ((Nt.limbs n).length - 1) := Nat.pow_le_pow_right (by decide) (by omega)
    exact Nat.div_pos (Nat.le_trans h2 (Nat.le_of_not_lt h1)) (Nat.pow_pos (by decide))
  unfold tx
  rw [if_neg (by omega), if_neg (by omega), show (Nt.limbs n).length - (k + 1) = (Nt.limbs n).length - 1 - k by omega, hst, Nt.dec_pad _ _ hpos hlt,
    show (Nt.limbs n).length - 1 - k + 1 = (Nt.limbs n).length - k by omega]
  rfl

theorem tx_all (n : Nat) (h : (Nt.limbs n).length ≠ 0) : tx n (Nt.limbs n).length (Nt.limbs n).length = Lib.decDigits n := by
  unfold tx
  rw [if_neg h, Nat.sub_self, Nat.pow_zero, Nat.div_one]

end Go.Proofs.YtcphclpekllcoaaGreatDoor


/- Walks: the text of a number. -/
namespace Go.Proofs.YtcphclpekllcoaaGreatDoor
open Go.RowKit

theorem bytes_app (a b : List UInt8) : Lib.byteCells a ++ Lib.byteCells b = Lib.byteCells (a ++ b) := by simp [Lib.byteCells]
theorem strCells_list (l : List UInt8) : Lib.strCells ⟨l.toArray⟩ = Lib.byteCells l := by simp [Lib.strCells, Lib.byteCells]
theorem bytes_len (l : List UInt8) : (Lib.byteCells l).length = l.length := by simp [Lib.byteCells]
theorem repeat_one (c : Nat) : Lib.repeatL [48] c = List.replicate c 48 := by
  induction c with
  | zero => rfl
  | succ c ih => rw [Lib.repeatL, ih, List.replicate_succ]; rfl

theorem tx_len (n k : Nat) : (tx n (Nt.limbs n).length k).length ≤ 9 * (Nt.limbs n).length + 1 := by
  unfold tx
  split
  · simp
  · rw [Lib.decDigits_length]
    have h1 := (Nt.limbs_len_le n (Nt.limbs n).length).1 (Nat.le_refl _)
    rw [Nt.nDigits_le_iff _ _ (by omega)]
    refine Nat.lt_of_le_of_lt (Nat.div_le_self _ _) (Nat.lt_of_lt_of_le h1 ?_)
    rw [show (1000000000 : Nat) = 10 ^ 9 from rfl, ← Nat.pow_mul]
    exact Nat.pow_le_pow_right (by decide) (by omega)

def TxI (n : Nat) (w : World) (k : Nat) (wr : World) : Prop :=
  Lib.IsBuilderF 120 5 w.heap.size w.heap.size (Lib.byteCells (tx n (Nt.limbs n).length k)) wr ∧ Below w.heap.size w wr

theorem IsB.below {T e : TypeId} {B b : Nat} {bs : List Value} {w w' : World} (h : Lib.IsBuilderF T e B b bs w) (hb : Below w.heap.size w w') : Lib.IsBuilderF T e B b bs w' := by
  have key : ∀ p, Lib.BuilderAtF T e B b p bs w → Lib.BuilderAtF T e B b p bs w' := by
    rintro p ⟨hB, v, hbk, ⟨h1, h2⟩, hne⟩
    refine ⟨hB, v, (hb.block b (lt_of_block hbk)).trans hbk, ⟨h1, ?_⟩, hne⟩
    rcases h2 with h2 | ⟨g, cap, cur, fz, hv, hg, hh, r⟩
    · exact .inl h2
    · exact .inr ⟨g, cap, cur, fz, hv, hg, (hb.block g (lt_of_block hh)).trans hh, r⟩
  exact h.imp (key _) (key _)

theorem TxI.start (n : Nat) (w : World) : TxI n w 0 (w.alloc (.cells #[.pointer none, .slice none 0 0] 120)) := by
  refine ⟨.inl (Lib.BuilderAtF.of ⟨Nat.le_refl _, .slice none 0 0, heap_alloc_new w _, ?_, by simp [Value.ownBlock]⟩), (Below.refl _ w).alloc (Nat.le_refl _) _⟩
  exact World.ownsRow_nil _ _ _ _

set_option maxRecDepth 100000 in
theorem text_any (v : Value) (n : Nat) (w : World) (h : LB w v (Nt.limbs n)) (hT : Tab w) (hl : (Nt.limbs n).length ≤ 1000) :
    Calls Tryz.prog 70 #[v] w fun e w' => e = .returned (.tuple (if Lib.nDigits n ≤ 1000 then #[.string (Nt.nat2s n), .int .i64 0] else #[.string ⟨#[]⟩, .int .i64 2])) ∧ Below w.heap.size w w' := by
  have G := Lib.hid h
  obtain ⟨a, c, rfl, _, _, _⟩ := h
  by_cases h0 : n = 0
  · subst h0
    have e0 : (Nt.limbs 0).length = 0 := by rw [Nt.limbs_zero]; rfl
    have e1 : (((Nt.limbs 0).length : Int) == 0) = true := by rw [e0]; rfl
    have hf : (if Lib.nDigits 0 ≤ 1000 then #[Value.string (Nt.nat2s 0), Value.int .i64 0] else #[Value.string ⟨#[]⟩, Value.int .i64 2]) = #[Value.string ⟨#[48]⟩, Value.int .i64 0] := by
      rw [if_pos (by rw [Lib.nDigits_small (by decide)]; decide)]
      have : Nt.nat2s 0 = ⟨#[48]⟩ := by unfold Nt.nat2s; rw [Lib.decDigits]; rfl
      rw [this]
    have HF := Lib.hid hf
    clear hf
    rw [HF.out]
    clear e0
    go_enter Tryz.func70, Tryz.ntmps70
    go_wp2
    go_ret2
    exact ⟨rfl, Below.refl _ _⟩
  · have hne : (Nt.limbs n).length ≠ 0 := fun e => h0 ((Nt.limbs_nil_iff n).1 (List.length_eq_zero_iff.1 e))
    have e1 : (((Nt.limbs n).length : Int) == 0) = false := by simp; exact fun e => hne (by simpa using congrArg List.length e)
    have hpos : 0 < (Nt.limbs n).length := Nat.pos_of_ne_zero hne
    have HNE := Lib.hid hne
    clear hne h0
    obtain ⟨RES, hRES⟩ : ∃ RES, RES = (if Lib.nDigits n ≤ 1000 then #[Value.string (Nt.nat2s n), Value.int .i64 0] else #[Value.string ⟨#[]⟩, Value.int .i64 2]) := ⟨_, rfl⟩
    rw [← hRES]
    have HR := Lib.hid hRES
    clear hRES
    go_enter Tryz.func70, Tryz.ntmps70
    go_wp2
    go_loopw [12] (fun i wr => ∃ k : Nat, i = .int .i64 k ∧ k ≤ (Nt.limbs n).length ∧ TxI n w k wr) (fun i _ => (Nt.limbs n).length - (intOf i).toNat)
    case atStart => exact ⟨0, rfl, Nat.zero_le _, TxI.start n w⟩
    case round =>
      obtain ⟨k, rfl, hk, hI, hB⟩ := hrel
      by_cases hlt : k < (Nt.limbs n).length
      · obtain ⟨j, hj⟩ : ∃ j, j = (Nt.limbs n).length - 1 - k := ⟨_, rfl⟩
        have hj2 : ((Nt.limbs n).length : Int) - 1 - (k : Int) = (j : Int) := by omega
        have hjl : j < (Nt.limbs n).length := by omega
        obtain ⟨g, rfl, _, c1⟩ := LB.at G.out hjl
        have hc1 := below_cell hB c1
        have hdlt := Nt.limbs_getD_lt n j
        rw [List.getD_eq_getElem?_getD] at hdlt
        have HJ := Lib.hid hj
        generalize hD : (Nt.limbs n)[j]?.getD 0 = D at hc1 hdlt
        have HD := Lib.hid hD
        clear hj c1 hD
        have HIT := Lib.hid (itoa_any D hdlt wr (hT.below hB))
        obtain ⟨S, hS⟩ : ∃ S, S = Nt.nat2s D := ⟨_, rfl⟩
        rw [← hS] at HIT
        have HS := Lib.hid hS
        have hs9 : S.size ≤ 9 := by rw [hS, Nt.nat2s_size, Nt.nDigits_le_iff _ _ (by decide)]; simpa using hdlt
        have hI' := Lib.hid hI
        clear hS hI
        by_cases hk0 : k = 0
        · subst hk0
          obtain rfl : j = (Nt.limbs n).length - 1 := by have := HJ.out; omega
          go_wp2_with fail
          refine HIT.out.mono ?_
          rintro e W1 ⟨rfl, hb1⟩
          have HWr := Lib.hid (write_any w.heap.size w.heap.size _ S W1 (IsB.below hI'.out hb1) (by rw [bytes_len]; have := tx_len n 0; omega) (Nat.le_trans hB.size hb1.size))
          go_wp2_with fail
          refine HWr.out.mono ?_
          rintro e W2 ⟨rfl, hb2, hb3⟩
          have HT2 : Hid (TxI n w (0 + 1) W2) := by
            refine ⟨.inr ?_, (below_trans hB hb1).trans hb3⟩
            rw [tx_one n HNE.out, HD.out]
            rw [HS.out, strCells_nat] at hb2
            exact hb2
          clear hb2 hb3
          go_wp2
          go_roundw
          case rel => exact ⟨0 + 1, by go_num, by omega, HT2.out⟩
          case measure => simp [intOf]; omega
        · have hkp : (0 : Int) < (k : Int) := by omega
          obtain ⟨C, hC⟩ : ∃ C, C = 9 - S.size := ⟨_, rfl⟩
          have hC2 : (9 : Int) - (S.size : Int) = (C : Int) := by omega
          have hC3 : C ≤ 9 := by omega
          have HC := Lib.hid hC
          clear hC
          go_wp2_with fail
          refine HIT.out.mono ?_
          rintro e W1 ⟨rfl, hb1⟩
          have HRP := Lib.hid (Tryz.strings_Repeat ⟨#[48]⟩ C W1 (by omega) (by
            have : (⟨#[48]⟩ : ByteArray).size = 1 := rfl
            rw [this]; omega))
          rw [show (⟨#[48]⟩ : ByteArray).data.toList = [48] from rfl, repeat_one] at HRP
          obtain ⟨Z, hZ⟩ : ∃ Z : ByteArray, Z = ⟨(List.replicate C 48).toArray⟩ := ⟨_, rfl⟩
          rw [← hZ] at HRP
          have hz9 : Z.size ≤ 9 := by rw [hZ]; simp [ByteArray.size]; omega
          have HZ := Lib.hid hZ
          clear hZ
          go_wp2_with fail
          refine HRP.out.mono ?_
          rintro e W2 ⟨rfl, hb2⟩
          have HWr := Lib.hid (write_any w.heap.size w.heap.size _ Z W2 (IsB.below (IsB.below hI'.out hb1) hb2) (by rw [bytes_len]; have := tx_len n k; omega) (Nat.le_trans hB.size (Nat.le_trans hb1.size hb2.size)))
          go_wp2_with fail
          refine HWr.out.mono ?_
          rintro e W3 ⟨rfl, hb3, hb4⟩
          have HWs := Lib.hid (write_any w.heap.size w.heap.size _ S W3 (.inr hb3) (by rw [List.length_append, bytes_len, Lib.strCells_length]; have := tx_len n k; omega) (Nat.le_trans hB.size (Nat.le_trans hb1.size (Nat.le_trans hb2.size hb4.size))))
          have HB4 : Hid (Below w.heap.size w W3) := (below_trans (below_trans hB hb1) hb2).trans hb4
          clear hb3 hb4
          go_wp2_with fail
          refine HWs.out.mono ?_
          rintro e W4 ⟨rfl, hb5, hb6⟩
          have HT2 : Hid (TxI n w (k + 1) W4) := by
            refine ⟨.inr ?_, HB4.out.trans hb6⟩
            rw [tx_succ n k (by omega) hlt, ← HJ.out, HD.out]
            rw [HS.out, strCells_nat, HZ.out, strCells_list, HC.out, HS.out, Nt.nat2s_size, bytes_app, bytes_app] at hb5
            rw [Lib.decDigits_length, ← List.append_assoc]
            exact hb5
          clear hb5 hb6
          go_wp2
          go_roundw
          case rel => exact ⟨k + 1, by go_num, by omega, HT2.out⟩
          case measure => simp [intOf]; omega
      · obtain rfl : k = (Nt.limbs n).length := by omega
        rw [tx_all n HNE.out] at hI
        have HLn := Lib.hid (Tryz.Builder_Len_f w.heap.size w.heap.size _ wr hI)
        rw [bytes_len, Lib.decDigits_length] at HLn
        have HSt := Lib.hid (Tryz.Builder_String_any_f w.heap.size w.heap.size (Lib.decDigits n) wr hI hB.size)
        clear hI
        go_wp2_with fail
        refine HLn.out.mono ?_
        rintro e W1 ⟨rfl, rfl⟩
        by_cases hn : Lib.nDigits n ≤ 1000
        · have hR2 := HR.out
          rw [if_pos hn] at hR2
          have HR2 := Lib.hid hR2
          clear hR2
          go_wp2_with fail
          refine HSt.out.mono ?_
          rintro e W2 ⟨rfl, _, hb2⟩
          go_wp2
          go_ret2
          refine ⟨?_, hB.trans hb2⟩
          rw [HR2.out]; rfl
        · have hR2 := HR.out
          rw [if_neg hn] at hR2
          have HR2 := Lib.hid hR2
          clear hR2
          go_wp2
          go_ret2
          refine ⟨?_, hB⟩
          rw [HR2.out]; rfl
end Go.Proofs.YtcphclpekllcoaaGreatDoor


/- Walks: the exported functions of package natural. -/
namespace Go.Proofs.YtcphclpekllcoaaGreatDoor
open Go.RowKit

def digits10 : ByteArray := ⟨#[48, 49, 50, 51, 52, 53, 54, 55, 56, 57]⟩

theorem dig_mem (c : UInt8) : digits10.data.toList.contains c = Nt.isDg c := by
  have : ∀ n : Fin 256, digits10.data.toList.contains (UInt8.ofNat n.val) = Nt.isDg (UInt8.ofNat n.val) := by decide +kernel
  have h := this ⟨c.toNat, c.toNat_lt⟩
  simpa using h

theorem dropWhile_nil {α : Type} (p : α → Bool) (l : List α) : l.dropWhile p = [] ↔ l.all p = true := by
  induction l with
  | nil => simp
  | cons a l ih =>
    rw [List.dropWhile_cons]
    by_cases h : p a = true
    · simp [h, ih]
    · simp [h]

theorem dropWhile_all {α : Type} (p : α → Bool) (l : List α) : (l.dropWhile p).all p = l.all p := by
  induction l with
  | nil => rfl
  | cons a l ih =>
    rw [List.dropWhile_cons]
    by_cases h : p a = true
    · simp only [h, if_true, ih, List.all_cons, Bool.true_and]
    · simp [h]

theorem trim_nil (l : List UInt8) : Lib.trimS l digits10.data.toList = [] ↔ l.all Nt.isDg = true := by
  have e : (fun c => digits10.data.toList.contains c) = Nt.isDg := funext dig_mem
  unfold Lib.trimS Lib.trimLeftS Lib.trimRightS
  rw [e, dropWhile_nil, List.all_reverse, dropWhile_all, List.all_reverse]

theorem okL_head (s : ByteArray) (h : 0 < s.size) (h1 : s.size ≤ 1000) (hd : s.data.toList.all Nt.isDg = true) :
    Nt.okL s.data.toList = (decide (s.size = 1) || decide (s[0].toNat ≠ 48)) := by
  have hsz : s.data.toList.length = s.size := by rw [Array.length_toList]; rfl
  have hh : s.data.toList.head? = some s[0] := by
    rw [List.head?_eq_getElem?, List.getElem?_eq_getElem (by omega)]
    rfl
  unfold Nt.okL
  rw [hsz, hd, hh, decide_eq_true (by omega : 1 ≤ s.size), decide_eq_true h1]
  simp only [Bool.true_and, ne_eq, Option.some.injEq]
  congr 1
  have : (s[0] = 48) ↔ (s[0].toNat = 48) := ⟨fun e => by rw [e]; rfl, fun e => UInt8.toNat_inj.1 (by simpa using e)⟩
  simp [this]
theorem okL_48 (s : ByteArray) (h : 0 < s.size) (h1 : s.size ≤ 1000) (hd : s.data.toList.all Nt.isDg = true) (h48 : (s[0].toNat : Int) = 48) : Nt.okL s.data.toList = ((s.size : Int) == 1) := by
  rw [okL_head s h h1 hd, decide_eq_false (by omega : ¬ s[0].toNat ≠ 48), Bool.or_false]
  by_cases e : s.size = 1
  · rw [e]; rfl
  · rw [decide_eq_false e]; symm; rw [beq_eq_false_iff_ne]; omega
theorem okL_n48 (s : ByteArray) (h : 0 < s.size) (h1 : s.size ≤ 1000) (hd : s.data.toList.all Nt.isDg = true) (h48 : ¬ (s[0].toNat : Int) = 48) : Nt.okL s.data.toList = true := by
  rw [okL_head s h h1 hd, decide_eq_true (by omega : s[0].toNat ≠ 48), Bool.or_true]

theorem valid_any (s : ByteArray) (w : World) (hs : s.size ≤ 9223372036854775807) :
    Calls Tryz.prog 59 #[.string s] w fun e w' => e = .returned (.bool (Nt.num? s).isSome) ∧ Below w.heap.size w w' := by
  have hN : (Nt.num? s).isSome = Nt.okL s.data.toList := by unfold Nt.num?; split <;> simp_all
  rw [hN]
  have hsz : s.data.toList.length = s.size := by rw [Array.length_toList]; rfl
  by_cases h0 : s.size = 0
  · have e : Nt.okL s.data.toList = false := by unfold Nt.okL; rw [hsz, h0]; rfl
    rw [e]
    have h1 : ¬ (1 : Int) ≤ (s.size : Int) := by omega
    clear e hN hsz
    go_enter Tryz.func59, Tryz.ntmps59
    go_wp2
    go_ret
    exact ⟨rfl, Below.refl _ _⟩
  · by_cases h1000 : s.size ≤ 1000
    · obtain ⟨T, hT⟩ : ∃ T : ByteArray, T = ⟨(Lib.trimS s.data.toList digits10.data.toList).toArray⟩ := ⟨_, rfl⟩
      have HC := Lib.hid (Any.strings_Trim_laid Tryz.l160 (by kernel_rfl) s digits10 w hs (by decide) (Go.Proofs.ascii_of_all (by decide)))
      rw [← hT] at HC
      have hz : 1 ≤ s.size := by omega
      by_cases hd : s.data.toList.all Nt.isDg = true
      · have hTe : T.toList = [] := by rw [hT, ByteArray.toList_mk]; exact (trim_nil _).2 hd
        clear hT
        go_enter Tryz.func59, Tryz.ntmps59
        go_wp2_with fail
        refine HC.out.mono ?_
        rintro e W1 ⟨rfl, hb1⟩
        have HD := Lib.hid hd
        have HSZ := Lib.hid hsz
        clear hd hsz hN
        go_wp2
        · go_ret
          refine ⟨?_, hb1⟩
          have h48 : (s[0].toNat : Int) = 48 := by assumption
          rw [okL_48 s (by omega) h1000 HD.out h48]; rfl
        · go_ret
          refine ⟨?_, hb1⟩
          have h48 : ¬ (s[0].toNat : Int) = 48 := by assumption
          rw [okL_n48 s (by omega) h1000 HD.out h48]; rfl
      · have hTe : T.toList.isEmpty = false := by
          rw [hT, ByteArray.toList_mk]
          have := mt (trim_nil s.data.toList).1 hd
          simpa using this
        have e : Nt.okL s.data.toList = false := by unfold Nt.okL; rw [Bool.not_eq_true] at hd; rw [hd]; simp
        rw [e]
        clear hT hd e hsz hN
        go_enter Tryz.func59, Tryz.ntmps59
        go_wp2_with fail
        refine HC.out.mono ?_
        rintro e W1 ⟨rfl, hb1⟩
        go_wp2
        go_ret
        exact ⟨rfl, hb1⟩
    · have e : Nt.okL s.data.toList = false := by unfold Nt.okL; rw [hsz, decide_eq_false h1000]; simp
      rw [e]
      clear e hN hsz
      have h1 : (1 : Int) ≤ (s.size : Int) := by omega
      have h2 : ¬ (s.size : Int) ≤ 1000 := by omega
      go_enter Tryz.func59, Tryz.ntmps59
      go_wp2
      go_ret
      exact ⟨rfl, Below.refl _ _⟩
end Go.Proofs.YtcphclpekllcoaaGreatDoor


/- Walks: the exported functions of package natural: sums, differences, products, quotients, gcd, order. -/
namespace Go.Proofs.YtcphclpekllcoaaGreatDoor
open Go.RowKit

/-- A number as a result: its text, or ErrLimit. -/
def nOut (n : Nat) : Array Value := if Lib.nDigits n ≤ 1000 then #[.string (Nt.nat2s n), .int .i64 0] else #[.string ⟨#[]⟩, .int .i64 2]
def nErr (c : Int) : Array Value := #[.string ⟨#[]⟩, .int .i64 c]
/-- A function of two numbers: ErrArg where one is not valid. -/
def spec2 (f : Nat → Nat → Nat) (a b : ByteArray) : Array Value :=
  match Nt.num? a, Nt.num? b with
  | some m, some n => nOut (f m n)
  | _, _ => nErr 1

theorem nOut_two (n : Nat) : ∃ x y, nOut n = #[.string x, .int .i64 y] := by
  unfold nOut; split
  · exact ⟨_, _, rfl⟩
  · exact ⟨_, _, rfl⟩

theorem num_all {s : ByteArray} {n : Nat} (h : Nt.num? s = some n) : s.data.toList.all Nt.isDg = true ∧ s.size ≤ 1000 ∧ Nt.val s.data.toList = n := by
  unfold Nt.num? at h
  split at h
  · rename_i ho
    have hsz : s.data.toList.length = s.size := by rw [Array.length_toList]; rfl
    simp only [Nt.okL, Bool.and_eq_true, decide_eq_true_eq] at ho
    exact ⟨ho.1.2, by rw [← hsz]; exact ho.1.1.2, by simpa using h⟩
  · simp at h

theorem len_of_digits {n k j : Nat} (h : Lib.nDigits n ≤ k) (hk : k ≤ 9 * j) (h1 : 1 ≤ k) : (Nt.limbs n).length ≤ j := by
  rw [Nt.nDigits_le_iff _ _ h1] at h
  rw [Nt.limbs_len_le]
  refine Nat.lt_of_lt_of_le h ?_
  rw [show (1000000000 : Nat) = 10 ^ 9 from rfl, ← Nat.pow_mul]
  exact Nat.pow_le_pow_right (by decide) hk

theorem num_len {s : ByteArray} {n : Nat} (h : Nt.num? s = some n) : (Nt.limbs n).length ≤ 112 :=
  len_of_digits (Nt.num?_some h).2 (by decide) (by decide)

theorem readN (s : ByteArray) (n : Nat) (w : World) (h : Nt.num? s = some n) :
    Calls Tryz.prog 65 #[.string s] w fun e w' => ∃ v, e = .returned v ∧ LB w' v (Nt.limbs n) ∧ Below w.heap.size w w' := by
  obtain ⟨h1, h2, h3⟩ := num_all h
  have := read_any s w h1 h2
  rwa [h3] at this

theorem textN (v : Value) (n : Nat) (w : World) (h : LB w v (Nt.limbs n)) (hT : Tab w) (hl : (Nt.limbs n).length ≤ 1000) :
    Calls Tryz.prog 70 #[v] w fun e w' => e = .returned (.tuple (nOut n)) ∧ Below w.heap.size w w' := text_any v n w h hT hl

set_option maxRecDepth 100000 in
theorem both_any (f : Nat → Nat → Nat) (op : Nat) (cap : Array Value) (a b : ByteArray) (w : World) (hT : Tab w) (ha : a.size ≤ 9223372036854775807) (hb : b.size ≤ 9223372036854775807)
    (hcf : ∀ x W, (callFunc op x).run Tryz.prog W = .ok (.enter op x) W)
    (hlen : ∀ m n, (Nt.limbs m).length ≤ 112 → (Nt.limbs n).length ≤ 112 → Nt.num? a = some m → Nt.num? b = some n → (Nt.limbs (f m n)).length ≤ 1000)
    (hop : ∀ m n v u W, LB W v (Nt.limbs m) → LB W u (Nt.limbs n) → (Nt.limbs m).length ≤ 112 → (Nt.limbs n).length ≤ 112 → Below w.heap.size w W → Nt.num? a = some m → Nt.num? b = some n →
      Calls Tryz.prog op (#[v, u] ++ cap) W fun e W' => ∃ v', e = .returned v' ∧ LB W' v' (Nt.limbs (f m n)) ∧ Below W.heap.size W W') :
    Calls Tryz.prog 67 #[.string a, .string b, .func (.func op) #[] cap] w fun e w' => e = .returned (.tuple (spec2 f a b)) ∧ Below w.heap.size w w' := by
  have HOP := Lib.hid hop
  have HLEN := Lib.hid hlen
  clear hop hlen
  cases hna : Nt.num? a with
  | none =>
    have HV := Lib.hid (valid_any a w ha)
    rw [hna] at HV
    have HS : Hid (spec2 f a b = nErr 1) := by show spec2 f a b = nErr 1; unfold spec2; rw [hna]
    rw [HS.out]
    clear hna
    go_enter Tryz.func67, Tryz.ntmps67
    go_wp2_with fail
    refine HV.out.mono ?_
    rintro e W1 ⟨rfl, hb1⟩
    go_wp2_with fail
    go_ret2
    exact ⟨rfl, hb1⟩
  | some m =>
    have HV := Lib.hid (valid_any a w ha)
    rw [hna] at HV
    cases hnb : Nt.num? b with
    | none =>
      have HV2 := Lib.hid fun W => valid_any b W hb
      rw [hnb] at HV2
      have HS : Hid (spec2 f a b = nErr 1) := by show spec2 f a b = nErr 1; unfold spec2; rw [hna, hnb]
      rw [HS.out]
      clear hna hnb
      go_enter Tryz.func67, Tryz.ntmps67
      go_wp2_with fail
      refine HV.out.mono ?_
      rintro e W1 ⟨rfl, hb1⟩
      go_wp2_with fail
      refine (HV2.out _).mono ?_
      rintro e W2 ⟨rfl, hb2⟩
      go_wp2_with fail
      go_ret2
      exact ⟨rfl, below_trans hb1 hb2⟩
    | some n =>
      have HV2 := Lib.hid fun W => valid_any b W hb
      rw [hnb] at HV2
      have HS : Hid (spec2 f a b = nOut (f m n)) := by show spec2 f a b = nOut (f m n); unfold spec2; rw [hna, hnb]
      rw [HS.out]
      have HNA := Lib.hid hna
      have HNB := Lib.hid hnb
      clear hna hnb
      go_enter Tryz.func67, Tryz.ntmps67
      go_wp2_with fail
      refine HV.out.mono ?_
      rintro e W1 ⟨rfl, hb1⟩
      go_wp2_with fail
      refine (HV2.out _).mono ?_
      rintro e W2 ⟨rfl, hb2⟩
      go_wp2_with fail
      refine (readN a m W2 HNA.out).mono ?_
      rintro e W3 ⟨v3, rfl, hv3, hb3⟩
      have HV3 := Lib.hid hv3
      clear hv3
      go_wp2_with fail
      refine (readN b n W3 HNB.out).mono ?_
      rintro e W4 ⟨v4, rfl, hv4, hb4⟩
      have HV4 := Lib.hid hv4
      have hb5 : Below w.heap.size w W4 := below_trans (below_trans (below_trans hb1 hb2) hb3) hb4
      clear hv4
      go_wp2_with fail
      refine (HOP.out m n v3 v4 W4 (HV3.out.below hb4) HV4.out (num_len HNA.out) (num_len HNB.out) hb5 HNA.out HNB.out).mono ?_
      rintro e W5 ⟨v5, rfl, hv5, hb6⟩
      have HTX := Lib.hid (textN v5 _ W5 hv5 (hT.below (below_trans hb5 hb6)) (HLEN.out m n (num_len HNA.out) (num_len HNB.out) HNA.out HNB.out))
      clear hv5
      go_wp2_with fail
      refine HTX.out.mono ?_
      obtain ⟨rx, ry, hr⟩ := nOut_two (f m n)
      have HRR := Lib.hid hr
      rw [hr]
      rintro e W6 ⟨rfl, hb7⟩
      clear hr
      go_wp2
      go_ret2
      exact ⟨by rw [HRR.out]; rfl, below_trans (below_trans hb5 hb6) hb7⟩

theorem len_add {m n k : Nat} (h1 : m < 1000000000 ^ k) (h2 : n < 1000000000 ^ k) : (Nt.limbs (m + n)).length ≤ k + 1 := by
  rw [Nt.limbs_len_le, Nat.pow_succ]; omega

theorem spec2_two (f : Nat → Nat → Nat) (a b : ByteArray) : ∃ x y, spec2 f a b = #[.string x, .int .i64 y] := by
  unfold spec2; split
  · exact nOut_two _
  · exact ⟨_, _, rfl⟩

theorem natAdd_any (a b : ByteArray) (w : World) (hT : Tab w) (ha : a.size ≤ 9223372036854775807) (hb : b.size ≤ 9223372036854775807) :
    Calls Tryz.prog 64 #[.string a, .string b] w fun e w' => e = .returned (.tuple (spec2 (· + ·) a b)) ∧ Below w.heap.size w w' := by
  have HB := Lib.hid (both_any (· + ·) 84 #[] a b w hT ha hb (fun _ _ => by kernel_rfl)
    (fun m n hm hn _ _ => by
      have : (Nt.limbs (m + n)).length ≤ 113 := by
        have h1 := (Nt.limbs_len_le m _).1 hm
        have h2 := (Nt.limbs_len_le n _).1 hn
        exact len_add h1 h2
      omega)
    (fun m n v u W hv hu hm hn _ _ _ => by
      refine (add_any v u _ _ W hv hu (Nt.limbs_lt _) (Nt.limbs_lt _) (by omega) (by omega)).mono ?_
      rintro e W' ⟨v', rfl, h1, _, h2⟩
      rw [Nt.lval_limbs, Nt.lval_limbs] at h1
      exact ⟨v', rfl, h1, h2⟩))
  go_enter Tryz.func64, Tryz.ntmps64
  go_wp2_with fail
  refine HB.out.mono ?_
  obtain ⟨rx, ry, hr⟩ := spec2_two (· + ·) a b
  have HRR := Lib.hid hr
  rw [hr]
  rintro e W6 ⟨rfl, hb7⟩
  clear hr
  go_wp2
  go_ret2
  exact ⟨by rw [HRR.out]; rfl, hb7⟩

theorem natMul_any (a b : ByteArray) (w : World) (hT : Tab w) (ha : a.size ≤ 9223372036854775807) (hb : b.size ≤ 9223372036854775807) :
    Calls Tryz.prog 63 #[.string a, .string b] w fun e w' => e = .returned (.tuple (spec2 (· * ·) a b)) ∧ Below w.heap.size w w' := by
  have HB := Lib.hid (both_any (· * ·) 83 #[] a b w hT ha hb (fun _ _ => by kernel_rfl)
    (fun m n hm hn _ _ => Nat.le_trans (limbs_len_mul m n) (by omega))
    (fun m n v u W hv hu hm hn _ _ _ => mul_any v u m n W hv hu (by omega) (by omega)))
  go_enter Tryz.func63, Tryz.ntmps63
  go_wp2_with fail
  refine HB.out.mono ?_
  obtain ⟨rx, ry, hr⟩ := spec2_two (· * ·) a b
  have HRR := Lib.hid hr
  rw [hr]
  rintro e W6 ⟨rfl, hb7⟩
  clear hr
  go_wp2
  go_ret2
  exact ⟨by rw [HRR.out]; rfl, hb7⟩
end Go.Proofs.YtcphclpekllcoaaGreatDoor


/- Walks: natural.Compare, Sub, Gcd, Div. -/
namespace Go.Proofs.YtcphclpekllcoaaGreatDoor
open Go.RowKit

def nCmp (a b : ByteArray) : Int :=
  match Nt.num? a, Nt.num? b with
  | some m, some n => cmpI m n
  | _, _ => 0

theorem natCompare_any (a b : ByteArray) (w : World) (ha : a.size ≤ 9223372036854775807) (hb : b.size ≤ 9223372036854775807) :
    Calls Tryz.prog 46 #[.string a, .string b] w fun e w' => e = .returned (.int .i64 (nCmp a b)) ∧ Below w.heap.size w w' := by
  have HV := Lib.hid (valid_any a w ha)
  have HV2 := Lib.hid fun W => valid_any b W hb
  cases hna : Nt.num? a with
  | none =>
    rw [hna] at HV
    have HS : Hid (nCmp a b = 0) := by show nCmp a b = 0; unfold nCmp; rw [hna]
    clear hna
    go_enter Tryz.func46, Tryz.ntmps46
    go_wp2_with fail
    refine HV.out.mono ?_
    rintro e W1 ⟨rfl, hb1⟩
    go_wp2_with fail
    go_ret
    exact ⟨ret_int HS.out.symm, hb1⟩
  | some m =>
    rw [hna] at HV
    cases hnb : Nt.num? b with
    | none =>
      rw [hnb] at HV2
      have HS : Hid (nCmp a b = 0) := by show nCmp a b = 0; unfold nCmp; rw [hna, hnb]
      clear hna hnb
      go_enter Tryz.func46, Tryz.ntmps46
      go_wp2_with fail
      refine HV.out.mono ?_
      rintro e W1 ⟨rfl, hb1⟩
      go_wp2_with fail
      refine (HV2.out _).mono ?_
      rintro e W2 ⟨rfl, hb2⟩
      go_wp2_with fail
      go_ret
      exact ⟨ret_int HS.out.symm, below_trans hb1 hb2⟩
    | some n =>
      rw [hnb] at HV2
      have HS : Hid (nCmp a b = cmpI m n) := by show nCmp a b = cmpI m n; unfold nCmp; rw [hna, hnb]
      have HNA := Lib.hid hna
      have HNB := Lib.hid hnb
      clear hna hnb
      go_enter Tryz.func46, Tryz.ntmps46
      go_wp2_with fail
      refine HV.out.mono ?_
      rintro e W1 ⟨rfl, hb1⟩
      go_wp2_with fail
      refine (HV2.out _).mono ?_
      rintro e W2 ⟨rfl, hb2⟩
      go_wp2_with fail
      refine (readN a m W2 HNA.out).mono ?_
      rintro e W3 ⟨v3, rfl, hv3, hb3⟩
      have HV3 := Lib.hid hv3
      clear hv3
      go_wp2_with fail
      refine (readN b n W3 HNB.out).mono ?_
      rintro e W4 ⟨v4, rfl, hv4, hb4⟩
      have HV4 := Lib.hid hv4
      have hb5 : Below w.heap.size w W4 := below_trans (below_trans (below_trans hb1 hb2) hb3) hb4
      clear hv4
      have HCP := Lib.hid (compare_any v3 v4 m n W4 (HV3.out.below hb4) HV4.out (by have := num_len HNA.out; omega) (by have := num_len HNB.out; omega))
      go_wp2_with fail
      refine HCP.out.mono ?_
      rintro e W5 ⟨rfl, nq, rfl⟩
      go_wp2
      go_ret
      exact ⟨ret_int HS.out.symm, below_drewN hb5 nq⟩

def nSub (a b : ByteArray) : Array Value :=
  match Nt.num? a, Nt.num? b with
  | some m, some n => if m < n then nErr 9 else nOut (m - n)
  | _, _ => nErr 1

theorem nSub_two (a b : ByteArray) : ∃ x y, nSub a b = #[.string x, .int .i64 y] := by
  unfold nSub; split
  · split
    · exact ⟨_, _, rfl⟩
    · exact nOut_two _
  · exact ⟨_, _, rfl⟩

theorem bothSub (a b : ByteArray) (w : World) (hT : Tab w) (ha : a.size ≤ 9223372036854775807) (hb : b.size ≤ 9223372036854775807) (hle : ∀ m n, Nt.num? a = some m → Nt.num? b = some n → n ≤ m) :
    Calls Tryz.prog 67 #[.string a, .string b, .func (.func 68) #[] #[]] w fun e w' => e = .returned (.tuple (nSub a b)) ∧ Below w.heap.size w w' := by
  have e : spec2 (· - ·) a b = nSub a b := by
    unfold spec2 nSub
    cases h1 : Nt.num? a with
    | none => rfl
    | some m =>
      cases h2 : Nt.num? b with
      | none => rfl
      | some n =>
        show nOut (m - n) = if m < n then nErr 9 else nOut (m - n)
        rw [if_neg (Nat.not_lt.2 (hle m n h1 h2))]
  rw [← e]
  exact both_any (· - ·) 68 #[] a b w hT ha hb (fun _ _ => by kernel_rfl)
    (fun m n hm hn _ _ => Nat.le_trans (limbs_mono (Nat.sub_le m n)) (by omega))
    (fun m n v u W hv hu hm hn _ h1 h2 => by
      refine (sub_any v u _ _ W hv hu (Nt.limbs_lt _) (Nt.limbs_lt _) (by omega) (limbs_mono (hle m n h1 h2)) (by rw [Nt.lval_limbs, Nt.lval_limbs]; exact hle m n h1 h2)).mono ?_
      rintro e W' ⟨v', rfl, h1, _, h2⟩
      rw [Nt.lval_limbs, Nt.lval_limbs] at h1
      exact ⟨v', rfl, h1, h2⟩)

theorem natSub_any (a b : ByteArray) (w : World) (hT : Tab w) (ha : a.size ≤ 9223372036854775807) (hb : b.size ≤ 9223372036854775807) :
    Calls Tryz.prog 48 #[.string a, .string b] w fun e w' => e = .returned (.tuple (nSub a b)) ∧ Below w.heap.size w w' := by
  have HV := Lib.hid (valid_any a w ha)
  have HV2 := Lib.hid fun W => valid_any b W hb
  cases hna : Nt.num? a with
  | none =>
    have HB := Lib.hid fun W (hTW : Tab W) => bothSub a b W hTW ha hb (fun m n h _ => by rw [hna] at h; cases h)
    rw [hna] at HV
    clear hna
    go_enter Tryz.func48, Tryz.ntmps48
    go_wp2_with fail
    refine HV.out.mono ?_
    rintro e W1 ⟨rfl, hb1⟩
    go_wp2_with fail
    refine (HB.out W1 (hT.below hb1)).mono ?_
    obtain ⟨rx, ry, hr⟩ := nSub_two a b
    have HRR := Lib.hid hr
    rw [hr]
    rintro e W6 ⟨rfl, hb7⟩
    clear hr
    go_wp2
    go_ret2
    exact ⟨by rw [HRR.out]; rfl, below_trans hb1 hb7⟩
  | some m =>
    cases hnb : Nt.num? b with
    | none =>
      have HB := Lib.hid fun W (hTW : Tab W) => bothSub a b W hTW ha hb (fun m n _ h => by rw [hnb] at h; cases h)
      rw [hna] at HV
      rw [hnb] at HV2
      clear hna hnb
      go_enter Tryz.func48, Tryz.ntmps48
      go_wp2_with fail
      refine HV.out.mono ?_
      rintro e W1 ⟨rfl, hb1⟩
      go_wp2_with fail
      refine (HV2.out _).mono ?_
      rintro e W2 ⟨rfl, hb2⟩
      go_wp2_with fail
      refine (HB.out W2 (hT.below (below_trans hb1 hb2))).mono ?_
      obtain ⟨rx, ry, hr⟩ := nSub_two a b
      have HRR := Lib.hid hr
      rw [hr]
      rintro e W6 ⟨rfl, hb7⟩
      clear hr
      go_wp2
      go_ret2
      exact ⟨by rw [HRR.out]; rfl, below_trans (below_trans hb1 hb2) hb7⟩
    | some n =>
      have HCM := Lib.hid fun W => natCompare_any a b W ha hb
      have hcm : nCmp a b = cmpI m n := by unfold nCmp; rw [hna, hnb]
      rw [hcm] at HCM
      clear hcm
      by_cases hlt : m < n
      · have HS : Hid (nSub a b = nErr 9) := by show nSub a b = nErr 9; unfold nSub; rw [hna, hnb]; exact if_pos hlt
        rw [HS.out]
        rw [hna] at HV
        rw [hnb] at HV2
        rw [cmpI_lt hlt] at HCM
        clear hna hnb
        go_enter Tryz.func48, Tryz.ntmps48
        go_wp2_with fail
        refine HV.out.mono ?_
        rintro e W1 ⟨rfl, hb1⟩
        go_wp2_with fail
        refine (HV2.out _).mono ?_
        rintro e W2 ⟨rfl, hb2⟩
        go_wp2_with fail
        refine (HCM.out _).mono ?_
        rintro e W3 ⟨rfl, hb3⟩
        go_wp2_with fail
        go_ret2
        exact ⟨rfl, below_trans (below_trans hb1 hb2) hb3⟩
      · have HB := Lib.hid fun W (hTW : Tab W) => bothSub a b W hTW ha hb (fun m' n' h h' => by
          rw [hna] at h; rw [hnb] at h'; cases h; cases h'; omega)
        have hge : 0 ≤ cmpI m n := by
          unfold cmpI
          rw [if_neg hlt]
          split <;> omega
        generalize cmpI m n = cv at HCM hge
        rw [hna] at HV
        rw [hnb] at HV2
        clear hna hnb
        go_enter Tryz.func48, Tryz.ntmps48
        go_wp2_with fail
        refine HV.out.mono ?_
        rintro e W1 ⟨rfl, hb1⟩
        go_wp2_with fail
        refine (HV2.out _).mono ?_
        rintro e W2 ⟨rfl, hb2⟩
        go_wp2_with fail
        refine (HCM.out _).mono ?_
        rintro e W3 ⟨rfl, hb3⟩
        go_wp2_with fail
        refine (HB.out W3 (hT.below (below_trans (below_trans hb1 hb2) hb3))).mono ?_
        obtain ⟨rx, ry, hr⟩ := nSub_two a b
        have HRR := Lib.hid hr
        rw [hr]
        rintro e W6 ⟨rfl, hb7⟩
        clear hr
        go_wp2
        go_ret2
        exact ⟨by rw [HRR.out]; rfl, below_trans (below_trans (below_trans hb1 hb2) hb3) hb7⟩

/-- The number that a slice of limbs holds, read off memory. -/
noncomputable def meas (w : World) (v : Value) : Nat := open Classical in if h : ∃ n, LB w v (Nt.limbs n) then h.choose else 0

theorem LB.inj {w : World} {v : Value} {xs ys : List Nat} (h : LB w v xs) (h' : LB w v ys) : xs = ys := by
  obtain ⟨a, c, rfl, _, _, h3⟩ := h
  obtain ⟨a', c', e, _, _, h3'⟩ := h'
  simp only [Value.slice.injEq] at e
  obtain ⟨rfl, hl, rfl⟩ := e
  refine List.ext_getElem hl fun i h1 h2 => ?_
  rcases h3 with ⟨_, rfl, _⟩ | ⟨g, rfl, h3⟩
  · simp at h1
  · rcases h3' with ⟨hn, _, _⟩ | ⟨g', hg, h3'⟩
    · simp at hn
    · simp only [Option.some.injEq, Addr.mk.injEq, and_true] at hg
      subst hg
      have e1 := h3 i h1
      have e2 := h3' i h2
      rw [e1] at e2
      exact Int.ofNat_inj.1 (by simpa [List.getElem?_eq_getElem h1, List.getElem?_eq_getElem h2] using e2)

theorem meas_eq {w : World} {v : Value} {n : Nat} (h : LB w v (Nt.limbs n)) : meas w v = n := by
  unfold meas
  rw [dif_pos ⟨n, h⟩]
  exact Nt.limbs_inj (LB.inj (Exists.choose_spec (⟨n, h⟩ : ∃ n, LB w v (Nt.limbs n))) h)

set_option maxRecDepth 100000 in
theorem gcd1_any (v u : Value) (m n : Nat) (w : World) (h : LB w v (Nt.limbs m)) (h' : LB w u (Nt.limbs n)) (hl : (Nt.limbs m).length ≤ 112) (hl' : (Nt.limbs n).length ≤ 112) :
    Calls Tryz.prog 82 #[v, u] w fun e w' => ∃ v', e = .returned v' ∧ LB w' v' (Nt.limbs (Nat.gcd m n)) ∧ Below w.heap.size w w' := by
  obtain ⟨T, hT⟩ : ∃ T, T = Nat.gcd m n := ⟨_, rfl⟩
  rw [← hT]
  have HT := Lib.hid hT
  have G := Lib.hid h
  have G' := Lib.hid h'
  clear hT h h'
  go_enter Tryz.func82, Tryz.ntmps82
  go_wp2
  go_loopw [0, 1] (fun x y wr => ∃ p q : Nat, LB wr x (Nt.limbs p) ∧ LB wr y (Nt.limbs q) ∧ (Nt.limbs p).length ≤ 112 ∧ (Nt.limbs q).length ≤ 112 ∧ Nat.gcd p q = T ∧ Below w.heap.size w wr) (fun x y wr => meas wr y)
  case atStart => exact ⟨m, n, G.out, G'.out, hl, hl', HT.out.symm, Below.refl _ _⟩
  case round =>
    obtain ⟨p, q, hx, hy, hlp, hlq, hg, hB⟩ := hrel
    have HM := Lib.hid (meas_eq hy)
    have HX := Lib.hid hx
    have HY := Lib.hid hy
    have HG := Lib.hid hg
    obtain ⟨ya, yc, rfl, _, _, _⟩ := hy
    clear hx hg
    by_cases hq : q = 0
    · subst hq
      have e0 : (Nt.limbs 0).length = 0 := by rw [Nt.limbs_zero]; rfl
      have hgt := HG.out
      rw [Nat.gcd_zero_right] at hgt
      have HGT := Lib.hid hgt
      clear hgt
      go_wp2
      go_ret
      exact ⟨_, rfl, by rw [← HGT.out]; exact HX.out, hB⟩
    · have hq0 : 0 < q := by omega
      have hlen : 0 < (Nt.limbs q).length := by
        rcases Nat.eq_zero_or_pos (Nt.limbs q).length with e | e
        · exact absurd ((Nt.limbs_nil_iff q).1 (List.length_eq_zero_iff.1 e)) hq
        · exact e
      have hlm : (Nt.limbs (p % q)).length ≤ 112 := Nat.le_trans (limbs_mono (Nat.le_of_lt (Nat.mod_lt p hq0))) hlq
      have HDV := Lib.hid (div_any _ _ p q wr HX.out HY.out hq0 (by omega) (by omega))
      have HQ := Lib.hid hq
      clear hq
      go_wp2_with fail
      refine HDV.out.mono ?_
      rintro e W1 ⟨v1, v2, rfl, hv1, hv2, hb1⟩
      have HV2 := Lib.hid hv2
      clear hv1 hv2
      go_wp2
      go_roundw
      case rel => exact ⟨q, p % q, HY.out.below hb1, HV2.out, hlq, hlm, by rw [← HG.out, Nat.gcd_comm, ← Nat.gcd_rec, Nat.gcd_comm], below_trans hB hb1⟩
      case measure =>
        show meas W1 v2 < meas wr (.slice ya (Nt.limbs q).length yc)
        rw [meas_eq HV2.out, HM.out]
        exact Nat.mod_lt p hq0

theorem natGcd_any (a b : ByteArray) (w : World) (hT : Tab w) (ha : a.size ≤ 9223372036854775807) (hb : b.size ≤ 9223372036854775807) :
    Calls Tryz.prog 62 #[.string a, .string b] w fun e w' => e = .returned (.tuple (spec2 Nat.gcd a b)) ∧ Below w.heap.size w w' := by
  have HB := Lib.hid (both_any Nat.gcd 82 #[] a b w hT ha hb (fun _ _ => by kernel_rfl)
    (fun m n hm hn _ _ => by
      by_cases h0 : m = 0
      · subst h0; rw [Nat.gcd_zero_left]; omega
      · exact Nat.le_trans (limbs_mono (Nat.gcd_le_left n (by omega))) (by omega))
    (fun m n v u W hv hu hm hn _ _ _ => gcd1_any v u m n W hv hu hm hn))
  go_enter Tryz.func62, Tryz.ntmps62
  go_wp2_with fail
  refine HB.out.mono ?_
  obtain ⟨rx, ry, hr⟩ := spec2_two Nat.gcd a b
  have HRR := Lib.hid hr
  rw [hr]
  rintro e W6 ⟨rfl, hb7⟩
  clear hr
  go_wp2
  go_ret2
  exact ⟨by rw [HRR.out]; rfl, hb7⟩
end Go.Proofs.YtcphclpekllcoaaGreatDoor


/- Walks: natural.Div at a divisor that is not 0. -/
namespace Go.Proofs.YtcphclpekllcoaaGreatDoor
open Go.RowKit

theorem is_zero {b : ByteArray} {n : Nat} (h : Nt.num? b = some n) : (b.toList == [48]) = decide (n = 0) := by
  obtain ⟨rfl, _⟩ := Nt.num?_some h
  rw [ByteArray.toList_eq, Nt.nat2s_list]
  by_cases h0 : n = 0
  · subst h0; rw [decide_eq_true rfl, Lib.decDigits]; rfl
  · rw [decide_eq_false h0, beq_eq_false_iff_ne]
    intro e
    have := Nt.dec_head n (by omega)
    rw [e] at this
    simp at this

theorem nOut_fit {n : Nat} (h : Lib.nDigits n ≤ 1000) : nOut n = #[.string (Nt.nat2s n), .int .i64 0] := if_pos h

theorem digits_mono {m n : Nat} (h : m ≤ n) (hn : Lib.nDigits n ≤ 1000) : Lib.nDigits m ≤ 1000 := by
  have h1 := (Nt.nDigits_le_iff n 1000 (by decide)).1 hn
  exact (Nt.nDigits_le_iff m 1000 (by decide)).2 (Nat.lt_of_le_of_lt h h1)

set_option maxRecDepth 100000 in
theorem natDiv_any (a b : ByteArray) (m n : Nat) (w : World) (hT : Tab w) (ha : a.size ≤ 9223372036854775807) (hb : b.size ≤ 9223372036854775807) (hna : Nt.num? a = some m) (hnb : Nt.num? b = some n) (hn : n ≠ 0) :
    Calls Tryz.prog 50 #[.string a, .string b] w fun e w' => e = .returned (.tuple #[.string (Nt.nat2s (m / n)), .string (Nt.nat2s (m % n)), .int .i64 0]) ∧ Below w.heap.size w w' := by
  have HV := Lib.hid (valid_any a w ha)
  have HV2 := Lib.hid fun W => valid_any b W hb
  rw [hna] at HV
  rw [hnb] at HV2
  have hz : (b.toList == [48]) = false := by rw [is_zero hnb, decide_eq_false hn]
  have HNA := Lib.hid hna
  have HNB := Lib.hid hnb
  have HN := Lib.hid hn
  clear hna hnb hn
  go_enter Tryz.func50, Tryz.ntmps50
  go_wp2_with fail
  refine HV.out.mono ?_
  rintro e W1 ⟨rfl, hb1⟩
  go_wp2_with fail
  refine (HV2.out _).mono ?_
  rintro e W2 ⟨rfl, hb2⟩
  go_wp2_with fail
  refine (readN a m W2 HNA.out).mono ?_
  rintro e W3 ⟨v3, rfl, hv3, hb3⟩
  have HV3 := Lib.hid hv3
  clear hv3
  go_wp2_with fail
  refine (readN b n W3 HNB.out).mono ?_
  rintro e W4 ⟨v4, rfl, hv4, hb4⟩
  have HV4 := Lib.hid hv4
  have hb5 : Below w.heap.size w W4 := below_trans (below_trans (below_trans hb1 hb2) hb3) hb4
  clear hv4
  have HDV := Lib.hid (div_any v3 v4 m n W4 (HV3.out.below hb4) HV4.out (Nat.pos_of_ne_zero HN.out) (by have := num_len HNA.out; omega) (by have := num_len HNB.out; omega))
  go_wp2_with fail
  refine HDV.out.mono ?_
  rintro e W5 ⟨v5, v6, rfl, hv5, hv6, hb6⟩
  have HT5 := Lib.hid (textN v5 _ W5 hv5 (hT.below (below_trans hb5 hb6)) (Nat.le_trans (limbs_mono (Nat.div_le_self m n)) (by have := num_len HNA.out; omega)))
  rw [nOut_fit (digits_mono (Nat.div_le_self m n) (Nt.num?_some HNA.out).2)] at HT5
  have HV6 := Lib.hid hv6
  clear hv5 hv6
  go_wp2_with fail
  refine HT5.out.mono ?_
  rintro e W6 ⟨rfl, hb7⟩
  have HT6 := Lib.hid (textN v6 _ W6 (HV6.out.below hb7) (hT.below (below_trans (below_trans hb5 hb6) hb7)) (Nat.le_trans (limbs_mono (Nat.mod_le m n)) (by have := num_len HNA.out; omega)))
  rw [nOut_fit (digits_mono (Nat.mod_le m n) (Nt.num?_some HNA.out).2)] at HT6
  go_wp2_with fail
  refine HT6.out.mono ?_
  rintro e W7 ⟨rfl, hb8⟩
  go_wp2
  go_ret3
  exact ⟨rfl, below_trans (below_trans (below_trans hb5 hb6) hb7) hb8⟩
end Go.Proofs.YtcphclpekllcoaaGreatDoor
