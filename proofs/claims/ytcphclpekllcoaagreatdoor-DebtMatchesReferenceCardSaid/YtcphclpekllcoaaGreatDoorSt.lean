/- Walks: debt.Split, debt.Settle, debt.Owe at every input. -/
import Derived.Test.YtcphclpekllcoaaGreatDoorSs
import Derived.Test.YtcphclpekllcoaaGreatDoorDf
namespace Go.Proofs.YtcphclpekllcoaaGreatDoor
open Go.RowKit

theorem split_bad (dv pv : Value) (ds : List Nt.Deb) (ps : List Nt.Pay) (t n : Int) (w : World) (hd : DL w dv ds) (hp : PL w pv ps) (hok : Nt.allOk ds ps t = false) :
    Calls Tryz.prog 17 #[dv, pv, .int .i64 t, .int .i64 n] w fun e w' => e = .returned (.tuple #[.slice none 0 0, .int .i64 1]) ∧ Below w.heap.size w w' := by
  have HS := Lib.hid (settle_bad dv pv ds ps t w hd hp hok)
  clear hd hp hok
  go_enter Tryz.func17, Tryz.ntmps17
  go_wp2_with fail
  refine HS.out.mono ?_
  rintro e W1 ⟨rfl, hb1⟩
  have HB1 := Lib.hid hb1
  clear hb1
  go_wp2
  go_ret2
  exact ⟨rfl, HB1.out⟩
set_option maxRecDepth 100000 in
theorem split_off (dv pv : Value) (ds : List Nt.Deb) (ps : List Nt.Pay) (t n : Int) (w : World) (hd : DL w dv ds) (hp : PL w pv ps) (hok : Nt.allOk ds ps t = true) (hw : Nt.win n 1 64 = false) :
    Calls Tryz.prog 17 #[dv, pv, .int .i64 t, .int .i64 n] w fun e w' => e = .returned (.tuple #[.slice none 0 0, .int .i64 1]) ∧ Below w.heap.size w w' := by
  have HS := Lib.hid (settle_any dv pv ds ps t w hd hp hok)
  have HWI := Lib.hid fun W => within_any n 1 64 W
  rw [hw] at HWI
  clear hd hp hok hw
  go_enter Tryz.func17, Tryz.ntmps17
  go_wp2_with fail
  refine HS.out.mono ?_
  rintro e W1 ⟨⟨sv, rfl, hsv⟩, hb1⟩
  have HB1 := Lib.hid hb1
  clear hb1 hsv
  go_wp2_with fail
  refine (HWI.out _).mono ?_
  rintro e W2 ⟨rfl, rfl⟩
  go_wp2
  go_ret2
  exact ⟨rfl, HB1.out⟩

theorem split_all (dv pv : Value) (ds : List Nt.Deb) (ps : List Nt.Pay) (t n : Int) (w : World) (hT : Tab w) (hd : DL w dv ds) (hp : PL w pv ps) :
    Calls Tryz.prog 17 #[dv, pv, .int .i64 t, .int .i64 n] w fun e w' => (∃ v, e = .returned (.tuple #[v, .int .i64 (Nt.split ds ps t n).2]) ∧ RL w' v (Nt.split ds ps t n).1) ∧ Below w.heap.size w w' := by
  cases hok : Nt.allOk ds ps t with
  | false =>
    have e : Nt.split ds ps t n = ([], 1) := by unfold Nt.split Nt.splitOk; rw [hok]; rfl
    rw [e]
    exact (split_bad dv pv ds ps t n w hd hp hok).mono fun _ _ ⟨h1, h2⟩ => ⟨⟨_, h1, rl_nil _⟩, h2⟩
  | true =>
    cases hw : Nt.win n 1 64 with
    | false =>
      have e : Nt.split ds ps t n = ([], 1) := by unfold Nt.split Nt.splitOk; rw [hok, hw]; rfl
      rw [e]
      exact (split_off dv pv ds ps t n w hd hp hok hw).mono fun _ _ ⟨h1, h2⟩ => ⟨⟨_, h1, rl_nil _⟩, h2⟩
    | true => exact split_any dv pv ds ps t n w hT hd hp hok hw

/-- What Settle answers. -/
def settleR (ds : List Nt.Deb) (ps : List Nt.Pay) (t : Int) : List Int × Int := if Nt.allOk ds ps t then (Nt.settle ds ps t, 0) else ([], 1)
theorem il_nil (W : World) : IL W (.slice none 0 0) [] := ⟨none, 0, rfl, Nat.le_refl _, by unfold maxLen; omega, .inl ⟨rfl, rfl, rfl⟩⟩
theorem settle_all (dv pv : Value) (ds : List Nt.Deb) (ps : List Nt.Pay) (t : Int) (w : World) (hd : DL w dv ds) (hp : PL w pv ps) :
    Calls Tryz.prog 13 #[dv, pv, .int .i64 t] w fun e w' => (∃ v, e = .returned (.tuple #[v, .int .i64 (settleR ds ps t).2]) ∧ IL w' v (settleR ds ps t).1) ∧ Below w.heap.size w w' := by
  unfold settleR
  cases hok : Nt.allOk ds ps t with
  | false => exact (settle_bad dv pv ds ps t w hd hp hok).mono fun _ _ ⟨h1, h2⟩ => ⟨⟨_, h1, il_nil _⟩, h2⟩
  | true => exact settle_any dv pv ds ps t w hd hp hok
/-- What Owe answers. -/
def oweR (fr : Frm) : List Nt.Deb × Int := if frmOk fr then (owe fr, 0) else ([], 1)
theorem dl_nil (W : World) : DL W (.slice none 0 0) [] := ⟨none, 0, rfl, Nat.le_refl _, by unfold maxLen; omega, .inl ⟨rfl, rfl, rfl⟩⟩
theorem owe_all (fr : Frm) (w : World) :
    Calls Tryz.prog 11 #[fv fr] w fun e w' => (∃ v, e = .returned (.tuple #[v, .int .i64 (oweR fr).2]) ∧ DL w' v (oweR fr).1) ∧ Below w.heap.size w w' := by
  unfold oweR
  cases hok : frmOk fr with
  | false => exact (owe_bad fr w hok).mono fun _ _ ⟨h1, h2⟩ => ⟨⟨_, h1, dl_nil _⟩, h2⟩
  | true => exact owe_any fr w hok
end Go.Proofs.YtcphclpekllcoaaGreatDoor
