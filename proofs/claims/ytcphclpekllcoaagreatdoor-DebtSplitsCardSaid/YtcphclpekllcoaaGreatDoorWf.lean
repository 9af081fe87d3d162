/- Walks: reading a number's limbs out of its digits. -/
import Derived.Test.YtcphclpekllcoaaGreatDoorWe
import Derived.Test.YtcphclpekllcoaaGreatDoorShelf
import Derived.Lib.AtoiErrMem
namespace Go.Proofs.YtcphclpekllcoaaGreatDoor
open Go.RowKit

theorem decFrom_val (l : List UInt8) (h : l.all Nt.isDg = true) : ∀ acc, Lib.decFrom acc l = some (acc * 10 ^ l.length + Nt.val l) := by
  induction l with
  | nil => intro acc; simp [Lib.decFrom, Nt.val]
  | cons c l ih =>
    intro acc
    simp only [List.all_cons, Bool.and_eq_true] at h
    obtain ⟨h1, h2⟩ := h
    rw [Nt.isDg_iff] at h1
    rw [Lib.decFrom]
    simp only [Lib.digitVal, h1, and_self, if_true]
    rw [ih h2, Nt.val_cons, List.length_cons, Nat.pow_succ, Nat.add_mul, Nat.mul_assoc, Nat.mul_comm 10, Nat.add_assoc]

theorem atoi_val (l : List UInt8) (h : l.all Nt.isDg = true) (h0 : l ≠ []) : Lib.atoi l = some (Nt.val l : Int) := by
  cases l with
  | nil => exact absurd rfl h0
  | cons c l =>
    have h1 := h
    simp only [List.all_cons, Bool.and_eq_true] at h1
    have h2 := (Nt.isDg_iff c).1 h1.1
    have e1 : (c == 45) = false := by
      rw [beq_eq_false_iff_ne]; rintro rfl; simp at h2
    have e2 : (c == 43) = false := by
      rw [beq_eq_false_iff_ne]; rintro rfl; simp at h2
    rw [Lib.atoi]
    simp only [e1, e2, Bool.false_eq_true, if_false, Lib.decNat, List.isEmpty_cons]
    rw [decFrom_val _ h]
    simp

theorem one_LB (W : World) (X : Nat) : LB (W.alloc (.cells #[.int .i64 X] 3)) (.slice (some ⟨W.heap.size, 0, none⟩) 1 1) [X] := LB.of_own (one_own W W.heap.size X (Nat.le_refl _))

theorem read_size (w : World) (t : TypeId) (s : ByteArray) (o : Obj) : w.heap.size ≤ ((Lib.bytesWorld w t s).alloc o).heap.size := by
  have := (Lib.bytesWorld_below w t s).size
  simp; omega
theorem _root_.Go.World.ownsRow.kept_below {w w' : World} {B : Nat} {e : TypeId} {size : Nat} {v : Value} {n : Nat} {xs : List Value} (h : w.ownsRow B e size v n xs) (hb : Below w.heap.size w w') : w'.ownsRow B e size v n xs :=
  h.kept (row := none) ⟨hb.os, hb.tape, hb.output, hb.size, fun k hk _ => hb.block k hk⟩ (by cases hv : v.ownBlock <;> simp)

/-- What has been read when k pieces are done. -/
def RdI (L : List UInt8) (w : World) (k : Nat) (out : Value) (wr : World) : Prop :=
  ∃ xs : List Nat, xs.length = k ∧ (∀ d ∈ xs, d < 1000000000) ∧ Nt.lval xs = Nt.val (L.drop (L.length - 9 * k)) ∧ wr.ownsRow w.heap.size 3 1 out xs.length (ints xs) ∧ Below w.heap.size w wr

theorem read_below {w wr W1 : World} {t : TypeId} {s : ByteArray} {o : Obj} (hB : Below w.heap.size w wr) (h : Below w.heap.size ((Lib.bytesWorld wr t s).alloc o) W1) : Below w.heap.size w W1 := by
  have h1 := hB.size
  have h2 := (Lib.bytesWorld_below wr t s).size
  exact ((hB.trans ((Lib.bytesWorld_below wr t s).mono h1)).alloc (by omega) o).trans h

theorem RdI.start (L : List UInt8) (w : World) : RdI L w 0 (.slice none 0 0) w := by
  refine ⟨[], rfl, by simp, ?_, World.ownsRow_nil _ _ _ _, Below.refl _ _⟩
  rw [Nat.mul_zero, Nat.sub_zero, List.drop_length]; rfl

theorem RdI.step {L : List UInt8} {w W' : World} {k e' : Nat} {v' : Value} {xs : List Nat} (hd : L.all Nt.isDg = true) (h1 : xs.length = k) (h2 : ∀ d ∈ xs, d < 1000000000) (h3 : Nt.lval xs = Nt.val (L.drop (L.length - 9 * k)))
    (hk : 9 * k < L.length) (he : e' = L.length - 9 * (k + 1))
    (ho : W'.ownsRow w.heap.size 3 1 v' (xs ++ [Nt.val ((L.drop e').take (L.length - 9 * k - e'))]).length (ints (xs ++ [Nt.val ((L.drop e').take (L.length - 9 * k - e'))]))) (hb : Below w.heap.size w W') : RdI L w (k + 1) v' W' := by
  subst he
  refine ⟨_, by simp [h1], fun d hd' => ?_, ?_, ho, hb⟩
  · rcases List.mem_append.1 hd' with h | h
    · exact h2 d h
    · rw [List.mem_singleton.1 h]; exact Nt.chunk_lt L _ _ hd (by omega)
  · exact Nt.read_step L xs _ _ (by omega) (by omega) (by omega) h3

set_option maxRecDepth 100000 in
theorem read_any (s : ByteArray) (w : World) (hd : s.data.toList.all Nt.isDg = true) (hl : s.size ≤ 1000) :
    Calls Tryz.prog 65 #[.string s] w fun e w' => ∃ v, e = .returned v ∧ LB w' v (Nt.limbs (Nt.val s.data.toList)) ∧ Below w.heap.size w w' := by
  have hsz : s.data.toList.length = s.size := by rw [Array.length_toList]; rfl
  obtain ⟨L, hL⟩ : ∃ L, L = s.data.toList := ⟨_, rfl⟩
  rw [← hL] at hd hsz ⊢
  have HL := Lib.hid hL
  have HD := Lib.hid hd
  have HSZ := Lib.hid hsz
  clear hL hd hsz
  go_enter Tryz.func65, Tryz.ntmps65
  go_wp2
  go_loopw [3, 4] (fun o e wr => ∃ k : Nat, e = .int .i64 ((s.size : Int) - 9 * (k : Int)) ∧ (k = 0 ∨ 9 * (k - 1) < s.size) ∧ RdI L w k o wr) (fun _ e _ => (intOf e + 9).toNat)
  case atStart => exact ⟨0, congrArg (Value.int .i64) (by omega), .inl rfl, RdI.start L w⟩
  case round =>
    obtain ⟨k, rfl, hk, hI⟩ := hrel
    by_cases hlt : 9 * k < s.size
    · obtain ⟨xs, h1, h2, h3, h4, hB⟩ := hI
      have hBs : w.heap.size ≤ wr.heap.size := hB.size
      have hxl : xs.length ≤ 1000 := by omega
      obtain ⟨E, hE2⟩ : ∃ E, E = s.size - 9 * k := ⟨_, rfl⟩
      have e0 : (s.size : Int) - 9 * (k : Int) = (E : Int) := by omega
      have he2 : E ≤ s.size := by omega
      have he3 : 0 < E := by omega
      have h10 : ∀ E', E' ≤ E → E - E' ≤ 9 → E' < E → ∀ W, Calls Tryz.prog 85 #[.string (s.extract E' E)] W fun e w' => e = .returned (.tuple #[.int .i64 (Nt.val ((L.drop E').take (E - E')) : Nat), .nilIface]) ∧ ∃ t, w' = Lib.bytesWorld W 5 t := fun E' ha hb hc W => by
        have hx : (s.extract E' E).data.toList = (L.drop E').take (E - E') := by rw [Lib.extract_data, HL.out]
        refine Tryz.strconv_Atoi (s.extract E' E) _ ?_ ?_ W
        · rw [ByteArray.size_extract]; omega
        · rw [hx]
          exact atoi_val _ (List.all_eq_true.2 fun c hc => List.all_eq_true.1 HD.out c (List.mem_of_mem_drop (List.mem_of_mem_take hc))) (by
            intro e
            have := congrArg List.length e
            rw [List.length_take, List.length_drop, HSZ.out] at this
            simp at this; omega)
      have H10 := Lib.hid h10
      have H1 := Lib.hid h1
      have H2 := Lib.hid h2
      have H3 := Lib.hid h3
      have H4 := Lib.hid h4
      have HE2 := Lib.hid hE2
      rw [e0]
      clear e0 h10 h1 h2 h3 h4 hE2
      by_cases h9 : 9 ≤ E
      · obtain ⟨F, rfl⟩ : ∃ F, E = F + 9 := ⟨E - 9, by omega⟩
        have hsl : ∀ W, (Instr.slice 55 (.string s) (some (.int .i64 (F : Int))) (some (.int .i64 ((F : Int) + 9))) none).run Tryz.prog W = .ok (.string (s.extract F (F + 9))) W := fun W => by
          have := run_slice_string (P := Tryz.prog) (w := W) 55 s .i64 .i64 (F : Int) ((F : Int) + 9) Tryz.underlying55 (by omega) (by omega) (by omega)
          rw [this, Int.toNat_natCast, show ((F : Int) + 9).toNat = F + 9 by omega]
        go_wp2_with fail
        refine (H10.out F (by omega) (by omega) (by omega) _).mono ?_
        rintro e W1 ⟨rfl, tt, rfl⟩
        generalize hX : Nt.val ((L.drop F).take (F + 9 - F)) = X
        have HX := Lib.hid hX
        clear hX
        go_wp2_with (at_builtin; go_must (refine wpList_append_lb rfl _ _ rfl w.heap.size _ _ xs [X] rfl rfl (H4.out.kept_below (below_trans (Lib.bytesWorld_below wr _ _) ((Below.refl _ _).alloc (Nat.le_refl _) _))) (one_LB _ X) (Nat.le_trans hBs (read_size wr _ tt _)) (by simp only [List.length_singleton]; omega) ?_); intro v1 W1 ho1 hb1)
        have HI2 := Lib.hid (RdI.step (e' := F) HD.out H1.out H2.out H3.out (by rw [HSZ.out]; exact hlt) (by rw [HSZ.out]; have := HE2.out; omega) (by rw [HSZ.out, ← HE2.out, HX.out]; exact ho1)
          (read_below hB hb1))
        go_roundw
        case rel => exact ⟨k + 1, congrArg (Value.int .i64) (by have := HE2.out; omega), .inr hlt, HI2.out⟩
        case measure => simp [intOf]; omega
      · have hmx : max (0 : Int) ((E : Int) - 9) = 0 := by omega
        have hsl : ∀ W, (Instr.slice 55 (.string s) (some (.int .i64 0)) (some (.int .i64 (E : Int))) none).run Tryz.prog W = .ok (.string (s.extract 0 E)) W := fun W => by
          have := run_slice_string (P := Tryz.prog) (w := W) 55 s .i64 .i64 0 (E : Int) Tryz.underlying55 (by omega) (by omega) (by omega)
          rw [this, Int.toNat_natCast]; rfl
        go_wp2_with fail
        refine (H10.out 0 (by omega) (by omega) (by omega) _).mono ?_
        rintro e W1 ⟨rfl, tt, rfl⟩
        generalize hX : Nt.val ((L.drop 0).take (E - 0)) = X
        have HX := Lib.hid hX
        clear hX
        go_wp2_with (at_builtin; go_must (refine wpList_append_lb rfl _ _ rfl w.heap.size _ _ xs [X] rfl rfl (H4.out.kept_below (below_trans (Lib.bytesWorld_below wr _ _) ((Below.refl _ _).alloc (Nat.le_refl _) _))) (one_LB _ X) (Nat.le_trans hBs (read_size wr _ tt _)) (by simp only [List.length_singleton]; omega) ?_); intro v1 W1 ho1 hb1)
        have HI2 := Lib.hid (RdI.step (e' := 0) HD.out H1.out H2.out H3.out (by rw [HSZ.out]; exact hlt) (by rw [HSZ.out]; have := HE2.out; omega) (by rw [HSZ.out, ← HE2.out, HX.out]; exact ho1)
          (read_below hB hb1))
        go_roundw
        case rel => exact ⟨k + 1, congrArg (Value.int .i64) (by have := HE2.out; omega), .inr hlt, HI2.out⟩
        case measure => simp [intOf]; omega
    · obtain ⟨xs, h1, h2, h3, h4, hB⟩ := hI
      have HT := Lib.hid (trimmed_any _ _ wr (LB.of_own h4) h2 (by omega))
      rw [h3, HSZ.out, show s.size - 9 * k = 0 by omega, List.drop_zero] at HT
      clear h1 h2 h3 h4
      go_wp2_with fail
      refine HT.out.mono ?_
      rintro e W1 ⟨v1, rfl, hv1, _, rfl⟩
      go_wp2
      go_ret
      exact ⟨_, rfl, hv1, hB⟩
end Go.Proofs.YtcphclpekllcoaaGreatDoor
