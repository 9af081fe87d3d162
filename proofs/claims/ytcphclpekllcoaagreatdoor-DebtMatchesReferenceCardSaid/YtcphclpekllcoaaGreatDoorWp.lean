/- Walks: rational.Add. -/
import Derived.Test.YtcphclpekllcoaaGreatDoorWo
import Derived.Deep.RegionHeld3
namespace Go.Proofs.YtcphclpekllcoaaGreatDoor
open Go.RowKit

def dRat (w : World) (b : Nat) (s : ByteArray) : Prop := w.heap[b]? = some (.cells #[.string s] 55)

set_option maxRecDepth 100000 in
/-- The closure that ends a sum: an error stays; else lowest terms. -/
theorem join_err (b c : Nat) (neg : Bool) (n : ByteArray) (e0 : Int) (w : World) (h : Er w b e0) (h0 : e0 ≠ 0) :
    Calls Tryz.prog 43 #[.bool neg, .string n, .pointer (some ⟨b, 0, none⟩), .pointer (some ⟨c, 0, none⟩)] w fun e w' => e = .returned (.tuple (rout (rErr e0))) ∧ Below w.heap.size w w' := by
  have hc := cell_of_one h
  have hz : (e0 == 0) = false := by simpa using h0
  have hl := h.lt
  clear h h0
  go_enter Tryz.func43, Tryz.ntmps43
  go_wp2
  go_region
  go_wp2
  refine bodyPost_ret (results_ratE rfl rfl (cells3 (kept_new (Below.refl _ _).drew)).1) rfl ?_
  exact ⟨rfl, ((Below.refl _ _).alloc (Nat.le_refl _) _).drew⟩

set_option maxRecDepth 100000 in
theorem join_ok (b c : Nat) (neg : Bool) (x y : ByteArray) (m n : Nat) (w : World) (h : Er w b 0) (hd : dRat w c y) (hT : Tab w) (hx : Nt.num? x = some m) (hy : Nt.num? y = some n) (hn : n ≠ 0) :
    Calls Tryz.prog 43 #[.bool neg, .string x, .pointer (some ⟨b, 0, none⟩), .pointer (some ⟨c, 0, none⟩)] w fun e w' => e = .returned (.tuple (rout (Nt.rs (Nt.low neg m n), 0))) ∧ Below w.heap.size w w' := by
  have hc := cell_of_one h
  have hc2 := cell_of_one hd
  have hl := h.lt
  have hl2 := lt_of_block hd
  have HL := Lib.hid fun W hTW => lowest_any neg x y m n W hTW hx hy hn
  clear h hd hx hy hn
  have hB := (Below.refl w.heap.size w).alloc (Nat.le_refl _) (.cells #[.bool false, .string ⟨#[]⟩, .string ⟨#[]⟩] 57)
  have hS := World.size_alloc' w (.cells #[.bool false, .string ⟨#[]⟩, .string ⟨#[]⟩] 57)
  obtain ⟨⟨neg', x1, x2⟩, hrs⟩ : ∃ x, Nt.rs (Nt.low neg m n) = x := ⟨_, rfl⟩
  rw [hrs] at HL ⊢
  clear hrs
  unfold rv at HL
  go_enter Tryz.func43, Tryz.ntmps43
  go_wp2_with fail
  refine (HL.out _ (hT.below hB)).mono ?_
  rintro e W3 ⟨rfl, hb3⟩
  obtain ⟨⟨hc0, hc1, hc2⟩, hf0, hf1, hf2⟩ := cells3 (kept_new hb3)
  have HK := Lib.hid (kept_new hb3)
  have hB := Lib.hid (hB.trans (hb3.mono (Nat.le_of_lt hS)))
  clear hb3 hS
  go_wp2
  obtain ⟨h1, h2⟩ := set3 (x := .bool neg') (y := .string x1) (z := .string x2) HK.out hB.out (Nat.le_refl _)
  refine bodyPost_ret (results_ratE rfl rfl (cells3 h1).1) rfl ?_
  exact ⟨rfl, h2⟩
end Go.Proofs.YtcphclpekllcoaaGreatDoor
