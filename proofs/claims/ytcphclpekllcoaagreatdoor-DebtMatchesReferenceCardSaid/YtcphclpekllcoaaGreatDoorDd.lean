/- Walks: debt.Settle at input that is not valid; Owe. -/
import Derived.Test.YtcphclpekllcoaaGreatDoorDc
namespace Go.Proofs.YtcphclpekllcoaaGreatDoor
open Go.RowKit

set_option maxRecDepth 100000 in
theorem settle_bad (dv pv : Value) (ds : List Nt.Deb) (ps : List Nt.Pay) (t : Int) (w : World) (hd : DL w dv ds) (hp : PL w pv ps) (hok : Nt.allOk ds ps t = false) :
    Calls Tryz.prog 13 #[dv, pv, .int .i64 t] w fun e w' => e = .returned (.tuple #[.slice none 0 0, .int .i64 1]) ∧ Below w.heap.size w w' := by
  have HV := Lib.hid (dvalid_any dv pv ds ps t w hd hp)
  rw [hok] at HV
  clear hok hd hp
  go_enter Tryz.func13, Tryz.ntmps13
  go_wp2_with fail
  refine HV.out.mono ?_
  rintro e W1 ⟨rfl, hb1⟩
  go_wp2
  go_ret2
  exact ⟨rfl, hb1⟩

/-! ### Owe -/
structure Frm where
  at_ : Int
  t : Int
  pr : Int
  ti : Int
  f : Int
  r0 : Int
  r1 : Int
  r2 : Int
  r3 : Int
def fcells (f : Frm) : Array Value := #[.int .i64 f.at_, .int .i64 f.t, .int .i64 f.pr, .int .i64 f.ti, .int .i64 f.f, .int .i64 f.r0, .int .i64 f.r1, .int .i64 f.r2, .int .i64 f.r3]
def frmOk (f : Frm) : Bool := Nt.win f.at_ 0 38399 && Nt.win f.pr 0 63 && Nt.clsOk 2 f.t f.f
def owe (f : Frm) : List Nt.Deb :=
  [⟨1, f.t, -1, f.at_ - 96, f.at_ + 96, f.pr⟩, ⟨2, f.t, f.f, f.at_ - 288, f.at_ + 288, f.pr⟩, ⟨3, f.t, f.f, f.at_, f.at_ + 48, f.pr⟩]

theorem cells9 {W : World} {N : Nat} {t : TypeId} {a b c d e f g h i : Value} (hb : W.heap[N]? = some (.cells #[a, b, c, d, e, f, g, h, i] t)) :
    W.cell? ⟨N, 0, none⟩ = some a ∧ W.cell? ⟨N, 1, none⟩ = some b ∧ W.cell? ⟨N, 2, none⟩ = some c ∧ W.cell? ⟨N, 4, none⟩ = some e :=
  ⟨by simp [World.cell?, hb], by simp [World.cell?, hb], by simp [World.cell?, hb], by simp [World.cell?, hb]⟩

theorem results_deb {fn : Func} {t : Tmp} {W : World} {N : Nat} {a b c d e f : Value} {tmps : Array Value} (h : fn.results = #[.cell t 47]) (ht : tmps.getD t undef = .pointer (some ⟨N, 0, none⟩))
    (hl : W.heap[N]? = some (.cells #[a, b, c, d, e, f] 47)) :
    (results fn tmps).run Tryz.prog W = .ok (.agg #[a, b, c, d, e, f]) W := by
  obtain ⟨h0, h1, h2, h3, h4, h5⟩ := cells6 hl
  have e : (loadVar 47 ⟨N, 0, none⟩).run Tryz.prog W = .ok (.agg #[a, b, c, d, e, f]) W := by go_simp
  rw [Array.getD_eq_getD_getElem?] at ht
  simp [results, h, ht, asAddr, e]

set_option maxRecDepth 100000 in
theorem owe1_any (N : Nat) (fr : Frm) (kind fil be af : Int) (w : World) (hf : w.heap[N]? = some (.cells (fcells fr) 25)) (h0 : 0 ≤ fr.at_) (h1 : fr.at_ ≤ 38399) (h2 : 0 ≤ be) (h3 : be ≤ 1000) (h4 : 0 ≤ af) (h5 : af ≤ 1000) :
    Calls Tryz.prog 29 #[.int .i64 kind, .int .i64 fil, .int .i64 be, .int .i64 af, .pointer (some ⟨N, 0, none⟩)] w fun e w' =>
      e = .returned (.agg #[.int .i64 kind, .int .i64 fr.t, .int .i64 fil, .int .i64 (fr.at_ - be), .int .i64 (fr.at_ + af), .int .i64 fr.pr]) ∧ Below w.heap.size w w' := by
  obtain ⟨c0, c1, c2, c4⟩ := cells9 hf
  have hlt := lt_of_block hf
  obtain ⟨fat, ft, fpr, fti, ff, _, _, _, _⟩ := fr
  dsimp only at *
  clear hf
  go_enter Tryz.func29, Tryz.ntmps29
  go_wp2
  refine bodyPost_ret (results_deb rfl rfl (kept_new (Below.refl _ _))) rfl ?_
  exact ⟨rfl, below_alloc _ _⟩
end Go.Proofs.YtcphclpekllcoaaGreatDoor
