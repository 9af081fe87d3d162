/- Walks: rational.Add at any numbers. -/
import Derived.Test.YtcphclpekllcoaaGreatDoorWq
namespace Go.Proofs.YtcphclpekllcoaaGreatDoor
open Go.RowKit

theorem valid_nums {x : Bool} {a b : ByteArray} (hv : Nt.rValid (x, a, b) = true) : ∃ m d, Nt.num? a = some m ∧ Nt.num? b = some d := by
  cases ha : Nt.num? a with
  | none => rw [rValid_none1 ha] at hv; cases hv
  | some m =>
    cases hb : Nt.num? b with
    | none => rw [rValid_none2 ha hb] at hv; cases hv
    | some d => exact ⟨m, d, rfl, rfl⟩

theorem rAdd_inv1 {x y : Nt.RS} (h : Nt.rValid x = false) : Nt.rAdd x y = rErr 1 := by
  unfold Nt.rValid at h
  unfold Nt.rAdd
  have : Nt.rat? x = none := by cases e : Nt.rat? x <;> simp_all
  rw [this]; rfl
theorem rAdd_inv2 {x y : Nt.RS} (h : Nt.rValid y = false) : Nt.rAdd x y = rErr 1 := by
  unfold Nt.rValid at h
  unfold Nt.rAdd
  have : Nt.rat? y = none := by cases e : Nt.rat? y <;> simp_all
  rw [this]
  cases Nt.rat? x <;> rfl

set_option maxHeartbeats 3200000 in
set_option maxRecDepth 100000 in
theorem ratAdd_any (x1 y1 : Bool) (a1 a2 b1 b2 : ByteArray) (w : World) (hT : Tab w) (h1 : a1.size ≤ 9223372036854775807) (h2 : a2.size ≤ 9223372036854775807) (h3 : b1.size ≤ 9223372036854775807) (h4 : b2.size ≤ 9223372036854775807) :
    Calls Tryz.prog 24 #[rv (x1, a1, a2), rv (y1, b1, b2)] w fun e w' => e = .returned (.tuple (rout (Nt.rAdd (x1, a1, a2) (y1, b1, b2)))) ∧ Below w.heap.size w w' := by
  cases hva : Nt.rValid (x1, a1, a2) with
  | true =>
    cases hvb : Nt.rValid (y1, b1, b2) with
    | true =>
      obtain ⟨m1, d1, e1, e2⟩ := valid_nums hva
      obtain ⟨m2, d2, e3, e4⟩ := valid_nums hvb
      exact add_sums x1 y1 a1 a2 b1 b2 m1 d1 m2 d2 w hT e1 e2 e3 e4 hva hvb
    | false =>
      have HV := Lib.hid fun W hTW => ratValid_any x1 a1 a2 W hTW h1 h2
      have HV2 := Lib.hid fun W hTW => ratValid_any y1 b1 b2 W hTW h3 h4
      rw [rAdd_inv2 hvb]
      rw [hva] at HV
      rw [hvb] at HV2
      clear hva hvb
      unfold rv at HV HV2 ⊢
      have B1 := (Below.refl w.heap.size w).alloc (Nat.le_refl _) (.cells #[.bool x1, .string a1, .string a2] 57)
      go_enter Tryz.func24, Tryz.ntmps24
      go_wp2_with fail
      refine (HV.out _ (hT.below ?_)).mono ?_
      · exact ((B1.alloc (by simp) _).alloc (by simp; omega) _)
      rintro e W1 ⟨rfl, hw1⟩
      obtain ⟨r0, r1, r2⟩ := heap3 w (.cells #[.bool x1, .string a1, .string a2] 57) (.cells #[.bool y1, .string b1, .string b2] 57) (.cells #[.bool false, .string ⟨#[]⟩, .string ⟨#[]⟩] 57)
      have B3 := ((B1.alloc (by simp) (.cells #[.bool y1, .string b1, .string b2] 57)).alloc (by simp; omega) (.cells #[.bool false, .string ⟨#[]⟩, .string ⟨#[]⟩] 57))
      have B4 := B3.trans (hw1.mono B3.size)
      obtain ⟨⟨hc0, hc1, hc2⟩, -⟩ := cells3 ((hw1.block _ (lt_of_block r1)).trans r1)
      go_wp2_with fail
      refine (HV2.out _ (hT.below B4)).mono ?_
      rintro e W2 ⟨rfl, hw2⟩
      have B5 := Lib.hid (below_trans B4 hw2)
      have hw2 := below_trans hw1 hw2
      have R2 := Lib.hid ((hw2.block _ (lt_of_block r2)).trans r2)
      obtain ⟨⟨hd0, hd1, hd2⟩, hf0, hf1, hf2⟩ := cells3 R2.out
      clear r0 r1 r2 B1 B3 B4 hw1 hw2 hc0 hc1 hc2 HV HV2
      go_wp2
      obtain ⟨h1, h2⟩ := set3 (x := .bool false) (y := .string ⟨#[]⟩) (z := .string ⟨#[]⟩) R2.out B5.out (Nat.le_add_right _ 2)
      refine bodyPost_ret (results_ratE rfl rfl (cells3 h1).1) rfl ?_
      exact ⟨rfl, h2⟩
  | false =>
    have HV := Lib.hid fun W hTW => ratValid_any x1 a1 a2 W hTW h1 h2
    rw [rAdd_inv1 hva]
    rw [hva] at HV
    clear hva
    unfold rv at HV ⊢
    have B1 := (Below.refl w.heap.size w).alloc (Nat.le_refl _) (.cells #[.bool x1, .string a1, .string a2] 57)
    go_enter Tryz.func24, Tryz.ntmps24
    go_wp2_with fail
    refine (HV.out _ (hT.below ?_)).mono ?_
    · exact ((B1.alloc (by simp) _).alloc (by simp; omega) _)
    rintro e W1 ⟨rfl, hw1⟩
    obtain ⟨r0, r1, r2⟩ := heap3 w (.cells #[.bool x1, .string a1, .string a2] 57) (.cells #[.bool y1, .string b1, .string b2] 57) (.cells #[.bool false, .string ⟨#[]⟩, .string ⟨#[]⟩] 57)
    have B3 := ((B1.alloc (by simp) (.cells #[.bool y1, .string b1, .string b2] 57)).alloc (by simp; omega) (.cells #[.bool false, .string ⟨#[]⟩, .string ⟨#[]⟩] 57))
    have B5 := Lib.hid (B3.trans (hw1.mono B3.size))
    have R2 := Lib.hid ((hw1.block _ (lt_of_block r2)).trans r2)
    obtain ⟨⟨hd0, hd1, hd2⟩, hf0, hf1, hf2⟩ := cells3 R2.out
    clear r0 r1 r2 B1 B3 hw1 HV
    go_wp2
    obtain ⟨h1, h2⟩ := set3 (x := .bool false) (y := .string ⟨#[]⟩) (z := .string ⟨#[]⟩) R2.out B5.out (Nat.le_add_right _ 2)
    refine bodyPost_ret (results_ratE rfl rfl (cells3 h1).1) rfl ?_
    exact ⟨rfl, h2⟩
end Go.Proofs.YtcphclpekllcoaaGreatDoor
