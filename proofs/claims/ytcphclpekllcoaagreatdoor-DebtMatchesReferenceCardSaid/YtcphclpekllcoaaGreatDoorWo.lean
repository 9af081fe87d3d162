/- Walks: package rational: sums (take, mul, add), minus. -/
import Derived.Test.YtcphclpekllcoaaGreatDoorWn
namespace Go.Proofs.YtcphclpekllcoaaGreatDoor
open Go.RowKit

def nS (n : Nat) : ByteArray := if Lib.nDigits n ≤ 1000 then Nt.nat2s n else ⟨#[]⟩
def nE (n : Nat) : Int := if Lib.nDigits n ≤ 1000 then 0 else 2
theorem nOut_eq (n : Nat) : nOut n = #[.string (nS n), .int .i64 (nE n)] := by
  unfold nOut nS nE; split <;> rfl

/-- The first error stays. -/
def e1 (e0 e : Int) : Int := if e0 = 0 then e else e0

/-- s.err lies in block b. -/
def Er (w : World) (b : Nat) (e : Int) : Prop := w.heap[b]? = some (.cells #[.int .i64 e] 78)

theorem Er.below {w w' : World} {b : Nat} {e : Int} (h : Er w b e) (hb : Below w.heap.size w w') : Er w' b e := (hb.block b (lt_of_block h)).trans h
theorem Er.lt {w : World} {b : Nat} {e : Int} (h : Er w b e) : b < w.heap.size := lt_of_block h

theorem Kp.below_of {a w : World} {B : Nat} {b : Nat} (h : Kp (· = b) a w) (hb : B ≤ b) (hB : B ≤ a.heap.size) : Below B a w := h.below (fun _ e => e ▸ hb) hB

set_option maxRecDepth 100000 in
theorem take_any (b : Nat) (s : ByteArray) (e0 e : Int) (w : World) (h : Er w b e0) :
    Calls Tryz.prog 47 #[.pointer (some ⟨b, 0, none⟩), .string s, .int .i64 e] w fun r w' => r = .returned (.string s) ∧ Kp (· = b) w w' ∧ Er w' b (e1 e0 e) := by
  have hc := cell_of_one h
  have hf := free_of_one h
  have H := Lib.hid h
  clear h
  by_cases h0 : e0 = 0
  · subst h0
    go_enter Tryz.func47, Tryz.ntmps47
    go_wp2
    go_ret
    exact ⟨rfl, (Kp.refl (· = b) w).setCell (p := ⟨b, 0, none⟩) rfl _, row_setCell H.out⟩
  · have hb : (e0 == 0) = false := by simpa using h0
    have H0 := Lib.hid h0
    clear h0
    go_enter Tryz.func47, Tryz.ntmps47
    go_wp2
    go_ret
    refine ⟨rfl, Kp.refl _ _, ?_⟩
    unfold e1; rw [if_neg H0.out]; exact H.out

set_option maxRecDepth 100000 in
theorem sumsMul_any (b : Nat) (x y : ByteArray) (m n : Nat) (e0 : Int) (w : World) (h : Er w b e0) (hT : Tab w) (hx : Nt.num? x = some m) (hy : Nt.num? y = some n) :
    Calls Tryz.prog 42 #[.pointer (some ⟨b, 0, none⟩), .string x, .string y] w fun r w' => r = .returned (.string (nS (m * n))) ∧ Kp (· = b) w w' ∧ Er w' b (e1 e0 (nE (m * n))) := by
  have HM := Lib.hid (natMul_any x y w hT (num_size hx) (num_size hy))
  have e : spec2 (· * ·) x y = #[.string (nS (m * n)), .int .i64 (nE (m * n))] := by unfold spec2; rw [hx, hy]; exact nOut_eq _
  rw [e] at HM
  clear e hx hy
  generalize nS (m * n) = s at *
  generalize nE (m * n) = ee at *
  have H := Lib.hid h
  clear h
  go_enter Tryz.func42, Tryz.ntmps42
  go_wp2_with fail
  refine HM.out.mono ?_
  rintro e W1 ⟨rfl, hb1⟩
  have HTK := Lib.hid (take_any b s e0 ee W1 (H.out.below hb1))
  go_wp2_with fail
  refine HTK.out.mono ?_
  rintro e W2 ⟨rfl, hk, he⟩
  go_wp2
  go_ret
  exact ⟨rfl, (Kp.of_below hb1).trans hk, he⟩

set_option maxRecDepth 100000 in
theorem sumsAdd_any (b : Nat) (x y : ByteArray) (m n : Nat) (e0 : Int) (w : World) (h : Er w b e0) (hT : Tab w) (hx : Nt.num? x = some m) (hy : Nt.num? y = some n) :
    Calls Tryz.prog 45 #[.pointer (some ⟨b, 0, none⟩), .string x, .string y] w fun r w' => r = .returned (.string (nS (m + n))) ∧ Kp (· = b) w w' ∧ Er w' b (e1 e0 (nE (m + n))) := by
  have HM := Lib.hid (natAdd_any x y w hT (num_size hx) (num_size hy))
  have e : spec2 (· + ·) x y = #[.string (nS (m + n)), .int .i64 (nE (m + n))] := by unfold spec2; rw [hx, hy]; exact nOut_eq _
  rw [e] at HM
  clear e hx hy
  generalize nS (m + n) = s at *
  generalize nE (m + n) = ee at *
  have H := Lib.hid h
  clear h
  go_enter Tryz.func45, Tryz.ntmps45
  go_wp2_with fail
  refine HM.out.mono ?_
  rintro e W1 ⟨rfl, hb1⟩
  have HTK := Lib.hid (take_any b s e0 ee W1 (H.out.below hb1))
  go_wp2_with fail
  refine HTK.out.mono ?_
  rintro e W2 ⟨rfl, hk, he⟩
  go_wp2
  go_ret
  exact ⟨rfl, (Kp.of_below hb1).trans hk, he⟩

theorem heapR2 (w : World) (a b : Obj) : ((w.alloc a).alloc b).heap[w.heap.size]? = some a ∧ ((w.alloc a).alloc b).heap[w.heap.size + 1]? = some b := heap2 w a b

set_option maxRecDepth 100000 in
/-- The opposite number. -/
theorem minus_any (neg : Bool) (a b : ByteArray) (z : Bool) (w : World) (hz : (a.toList == [48]) = z) :
    Calls Tryz.prog 49 #[rv (neg, a, b)] w fun e w' => e = .returned (rv (!neg && !z, a, b)) ∧ Below w.heap.size w w' := by
  unfold rv
  obtain ⟨b0, b1⟩ := heap2 w (.cells #[.bool neg, .string a, .string b] 57) (.cells #[.bool false, .string ⟨#[]⟩, .string ⟨#[]⟩] 57)
  have HB := Lib.hid (below2 w (.cells #[.bool neg, .string a, .string b] 57) (.cells #[.bool false, .string ⟨#[]⟩, .string ⟨#[]⟩] 57))
  cases neg <;> cases z
  all_goals
    go_enter Tryz.func49, Tryz.ntmps49
    go_wp2
    refine bodyPost_ret (results_rat rfl rfl (cells3 (heap2 w _ _).2).1) rfl ?_
    exact ⟨rfl, below2 _ _ _⟩
end Go.Proofs.YtcphclpekllcoaaGreatDoor
