/- Walks: debt.valid. -/
import Derived.Test.YtcphclpekllcoaaGreatDoorDa
namespace Go.Proofs.YtcphclpekllcoaaGreatDoor
open Go.RowKit

theorem all_of {α : Type} {p : α → Bool} {l : List α} (h : ∀ j (x : α), j < l.length → l[j]? = some x → p x = true) : l.all p = true := by
  rw [List.all_eq_true]
  intro x hx
  obtain ⟨j, hj, e⟩ := List.getElem_of_mem hx
  exact h j x hj (by rw [List.getElem?_eq_getElem hj, e])
theorem not_all_of {α : Type} {p : α → Bool} {l : List α} {j : Nat} {x : α} (h : l[j]? = some x) (hp : p x = false) : l.all p = false := by
  rw [← Bool.not_eq_true, List.all_eq_true]
  intro ha
  rw [ha x (List.mem_of_getElem? h)] at hp; cases hp

theorem debBad {d : Nt.Deb} {ds : List Nt.Deb} {k : Nat} {ps : List Nt.Pay} {t : Int} (hd : ds[k]? = some d) (h : Nt.debOk d = false) : Nt.allOk ds ps t = false := by
  unfold Nt.allOk; rw [not_all_of hd h]; simp
theorem payBad {d : Nt.Pay} {ds : List Nt.Deb} {k : Nat} {ps : List Nt.Pay} {t : Int} (hd : ps[k]? = some d) (h : Nt.payOk d = false) : Nt.allOk ds ps t = false := by
  unfold Nt.allOk; rw [not_all_of hd h]; simp

theorem ret_bool {a b : Bool} (h : a = b) : Ending.returned (.bool a) = .returned (.bool b) := by rw [h]

/-- A world with a new block, past a call: the cells of a debt's copy. -/
theorem cells6 {W : World} {N : Nat} {t : TypeId} {a b c d e f : Value} (h : W.heap[N]? = some (.cells #[a, b, c, d, e, f] t)) :
    W.cell? ⟨N, 0, none⟩ = some a ∧ W.cell? ⟨N, 1, none⟩ = some b ∧ W.cell? ⟨N, 2, none⟩ = some c ∧ W.cell? ⟨N, 3, none⟩ = some d ∧ W.cell? ⟨N, 4, none⟩ = some e ∧ W.cell? ⟨N, 5, none⟩ = some f :=
  ⟨by simp [World.cell?, h], by simp [World.cell?, h], by simp [World.cell?, h], by simp [World.cell?, h], by simp [World.cell?, h], by simp [World.cell?, h]⟩
theorem cells4 {W : World} {N : Nat} {t : TypeId} {a b c d : Value} (h : W.heap[N]? = some (.cells #[a, b, c, d] t)) :
    W.cell? ⟨N, 0, none⟩ = some a ∧ W.cell? ⟨N, 1, none⟩ = some b ∧ W.cell? ⟨N, 2, none⟩ = some c ∧ W.cell? ⟨N, 3, none⟩ = some d :=
  ⟨by simp [World.cell?, h], by simp [World.cell?, h], by simp [World.cell?, h], by simp [World.cell?, h]⟩

set_option maxHeartbeats 3200000 in
set_option maxRecDepth 100000 in
theorem dvalid_any (dv pv : Value) (ds : List Nt.Deb) (ps : List Nt.Pay) (t : Int) (w : World) (hd : DL w dv ds) (hp : PL w pv ps) :
    Calls Tryz.prog 32 #[dv, pv, .int .i64 t] w fun e w' => e = .returned (.bool (Nt.allOk ds ps t)) ∧ Below w.heap.size w w' := by
  have HW := Lib.hid fun W => within_any t 0 38399 W
  obtain ⟨X, hX⟩ : ∃ X, Nt.allOk ds ps t = X := ⟨_, rfl⟩
  rw [hX]
  have hX' := hX
  unfold Nt.allOk at hX'
  have HX := Lib.hid hX
  clear hX
  obtain ⟨da, dc, rfl, d1, d2, d3⟩ := hd
  have HD : Hid (DL w (.slice da (ds.map dcells).length dc) ds) := ⟨da, dc, rfl, d1, d2, d3⟩
  obtain ⟨pa, pc, rfl, p1, p2, p3⟩ := hp
  have HP : Hid (PL w (.slice pa (ps.map pcells).length pc) ps) := ⟨pa, pc, rfl, p1, p2, p3⟩
  clear d1 d2 d3 p1 p2 p3
  rw [List.length_map] at HD HP ⊢
  rw [List.length_map]
  by_cases c1 : ds.length ≤ 1000
  · by_cases c2 : ps.length ≤ 1000
    · cases c3 : Nt.win t 0 38399 with
      | true =>
        rw [c3] at HW
        clear hX'
        go_enter Tryz.func32, Tryz.ntmps32
        go_wp2_with fail
        refine (HW.out _).mono ?_
        rintro e W1 ⟨rfl, rfl⟩
        go_wp2
        go_loopw [26] (fun i wr => ∃ k : Nat, i = .int .i64 k ∧ k ≤ ds.length ∧ Below w.heap.size w wr ∧ ∀ j (x : Nt.Deb), j < k → ds[j]? = some x → Nt.debOk x = true) (fun i _ => ds.length - (intOf i).toNat)
        case atStart => exact ⟨0, rfl, Nat.zero_le _, Below.refl _ _, fun j x h => absurd h (Nat.not_lt_zero j)⟩
        case round =>
          obtain ⟨k, rfl, hk, hB, hall⟩ := hrel
          by_cases hlt : k < ds.length
          · obtain ⟨d, hd⟩ : ∃ d, ds[k]? = some d := ⟨_, List.getElem?_eq_getElem hlt⟩
            obtain ⟨p, rfl, _, e0, e1, e2, e3, e4, e5⟩ := DL.at HD.out hd
            have f0 := below_cell hB e0
            have f1 := below_cell hB e1
            have f2 := below_cell hB e2
            have f3 := below_cell hB e3
            have f4 := below_cell hB e4
            have f5 := below_cell hB e5
            have HALL := Lib.hid hall
            have HDK := Lib.hid hd
            have hB' := Lib.hid hB
            clear e0 e1 e2 e3 e4 e5 hall hd hB
            obtain ⟨dk, dt, df, dfr, dun, dpr⟩ := d
            dsimp only at f0 f1 f2 f3 f4 f5
            have HC := Lib.hid fun W => class_any dk dt df W
            have HW3 := Lib.hid fun W => within_any dpr 0 63 W
            cases hc : Nt.clsOk dk dt df with
            | false =>
              rw [hc] at HC
              have HBAD : Hid (Nt.debOk ⟨dk, dt, df, dfr, dun, dpr⟩ = false) := by show _ = _; unfold Nt.debOk; simp only; rw [hc]; simp
              clear hc
              go_wp2_with fail
              refine (HC.out _).mono ?_
              rintro e W1 ⟨rfl, hb1⟩
              obtain ⟨g0, g1, g2, g3, g4, g5⟩ := cells6 (kept_new hb1)
              have HB1 := Lib.hid (below_trans (below_trans hB'.out (below_alloc _ _)) hb1)
              clear hb1
              go_wp2
              go_ret
              exact ⟨ret_bool ((debBad HDK.out HBAD.out).symm.trans HX.out), HB1.out⟩
            | true =>
              rw [hc] at HC
              cases hw : Nt.win dpr 0 63 with
              | false =>
                rw [hw] at HW3
                have HBAD : Hid (Nt.debOk ⟨dk, dt, df, dfr, dun, dpr⟩ = false) := by show _ = _; unfold Nt.debOk; simp only; rw [hc, hw]; simp
                clear hc hw
                go_wp2_with fail
                refine (HC.out _).mono ?_
                rintro e W1 ⟨rfl, hb1⟩
                obtain ⟨g0, g1, g2, g3, g4, g5⟩ := cells6 (kept_new hb1)
                have HB1 := Lib.hid (below_trans (below_trans hB'.out (below_alloc _ _)) hb1)
                clear hb1
                go_wp2_with fail
                refine (HW3.out _).mono ?_
                rintro e W2 ⟨rfl, rfl⟩
                go_wp2
                go_ret
                exact ⟨ret_bool ((debBad HDK.out HBAD.out).symm.trans HX.out), HB1.out⟩
              | true =>
                rw [hw] at HW3
                by_cases h1 : -1000 ≤ dfr
                · by_cases h2 : dun ≤ 39399
                  · by_cases h3 : dfr ≤ dun
                    · have HOK : Hid (Nt.debOk ⟨dk, dt, df, dfr, dun, dpr⟩ = true) := by show _ = _; unfold Nt.debOk; simp only; rw [hc, hw, decide_eq_true h1, decide_eq_true h2, decide_eq_true h3]; rfl
                      clear hc hw
                      go_wp2_with fail
                      refine (HC.out _).mono ?_
                      rintro e W1 ⟨rfl, hb1⟩
                      obtain ⟨g0, g1, g2, g3, g4, g5⟩ := cells6 (kept_new hb1)
                      have HB1 := Lib.hid (below_trans (below_trans hB'.out (below_alloc _ _)) hb1)
                      clear hb1
                      go_wp2_with fail
                      refine (HW3.out _).mono ?_
                      rintro e W2 ⟨rfl, rfl⟩
                      go_wp2
                      go_roundw
                      case rel => exact ⟨k + 1, rfl, hlt, HB1.out, fun j x hj hx => by
                        by_cases e : j = k
                        · subst e
                          rw [HDK.out] at hx
                          obtain rfl := Option.some.inj hx
                          exact HOK.out
                        · exact HALL.out j x (by omega) hx⟩
                      case measure => simp [intOf]; omega
                    · have HBAD : Hid (Nt.debOk ⟨dk, dt, df, dfr, dun, dpr⟩ = false) := by show _ = _; unfold Nt.debOk; simp only; rw [decide_eq_false h3]; simp
                      clear hc hw
                      go_wp2_with fail
                      refine (HC.out _).mono ?_
                      rintro e W1 ⟨rfl, hb1⟩
                      obtain ⟨g0, g1, g2, g3, g4, g5⟩ := cells6 (kept_new hb1)
                      have HB1 := Lib.hid (below_trans (below_trans hB'.out (below_alloc _ _)) hb1)
                      clear hb1
                      go_wp2_with fail
                      refine (HW3.out _).mono ?_
                      rintro e W2 ⟨rfl, rfl⟩
                      go_wp2
                      go_ret
                      exact ⟨ret_bool ((debBad HDK.out HBAD.out).symm.trans HX.out), HB1.out⟩
                  · have HBAD : Hid (Nt.debOk ⟨dk, dt, df, dfr, dun, dpr⟩ = false) := by show _ = _; unfold Nt.debOk; simp only; rw [decide_eq_false h2]; simp
                    clear hc hw
                    go_wp2_with fail
                    refine (HC.out _).mono ?_
                    rintro e W1 ⟨rfl, hb1⟩
                    obtain ⟨g0, g1, g2, g3, g4, g5⟩ := cells6 (kept_new hb1)
                    have HB1 := Lib.hid (below_trans (below_trans hB'.out (below_alloc _ _)) hb1)
                    clear hb1
                    go_wp2_with fail
                    refine (HW3.out _).mono ?_
                    rintro e W2 ⟨rfl, rfl⟩
                    go_wp2
                    go_ret
                    exact ⟨ret_bool ((debBad HDK.out HBAD.out).symm.trans HX.out), HB1.out⟩
                · have HBAD : Hid (Nt.debOk ⟨dk, dt, df, dfr, dun, dpr⟩ = false) := by show _ = _; unfold Nt.debOk; simp only; rw [decide_eq_false h1]; simp
                  clear hc hw
                  go_wp2_with fail
                  refine (HC.out _).mono ?_
                  rintro e W1 ⟨rfl, hb1⟩
                  obtain ⟨g0, g1, g2, g3, g4, g5⟩ := cells6 (kept_new hb1)
                  have HB1 := Lib.hid (below_trans (below_trans hB'.out (below_alloc _ _)) hb1)
                  clear hb1
                  go_wp2_with fail
                  refine (HW3.out _).mono ?_
                  rintro e W2 ⟨rfl, rfl⟩
                  go_wp2
                  go_ret
                  exact ⟨ret_bool ((debBad HDK.out HBAD.out).symm.trans HX.out), HB1.out⟩
          · obtain rfl : k = ds.length := by omega
            have HALL := Lib.hid hall
            have HB0 := Lib.hid hB
            clear hall hB
            have HALLD := HALL
            clear HALL hk hlt
            obtain ⟨wo, rfl⟩ : ∃ wo : World, wo = wr := ⟨wr, rfl⟩
            go_wp2
            go_loopw [65] (fun i wr => ∃ k : Nat, i = .int .i64 k ∧ k ≤ ps.length ∧ Below w.heap.size w wr ∧ ∀ j (x : Nt.Pay), j < k → ps[j]? = some x → Nt.payOk x = true) (fun i _ => ps.length - (intOf i).toNat)
            case atStart => exact ⟨0, rfl, Nat.zero_le _, HB0.out, fun j x h => absurd h (Nat.not_lt_zero j)⟩
            case round =>
              obtain ⟨k, rfl, hk, hB, hall⟩ := hrel
              by_cases hlt : k < ps.length
              · obtain ⟨d, hd⟩ : ∃ d, ps[k]? = some d := ⟨_, List.getElem?_eq_getElem hlt⟩
                obtain ⟨p, rfl, _, e0, e1, e2, e3⟩ := PL.at HP.out hd
                have f0 := below_cell hB e0
                have f1 := below_cell hB e1
                have f2 := below_cell hB e2
                have f3 := below_cell hB e3
                have HALL := Lib.hid hall
                have HDK := Lib.hid hd
                have hB' := Lib.hid hB
                clear e0 e1 e2 e3 hall hd hB
                obtain ⟨dk, dt, df, dat⟩ := d
                dsimp only at f0 f1 f2 f3
                have HC := Lib.hid fun W => class_any dk dt df W
                have HW3 := Lib.hid fun W => within_any dat 0 38399 W
                cases hc : Nt.clsOk dk dt df with
                | false =>
                  rw [hc] at HC
                  have HBAD : Hid (Nt.payOk ⟨dk, dt, df, dat⟩ = false) := by show _ = _; unfold Nt.payOk; simp only; rw [hc]; simp
                  clear hc
                  go_wp2_with fail
                  refine (HC.out _).mono ?_
                  rintro e W1 ⟨rfl, hb1⟩
                  obtain ⟨g0, g1, g2, g3⟩ := cells4 (kept_new hb1)
                  have HB1 := Lib.hid (below_trans (below_trans hB'.out (below_alloc _ _)) hb1)
                  clear hb1
                  go_wp2
                  go_ret
                  exact ⟨ret_bool ((payBad HDK.out HBAD.out).symm.trans HX.out), HB1.out⟩
                | true =>
                  rw [hc] at HC
                  cases hw : Nt.win dat 0 38399 with
                  | false =>
                    rw [hw] at HW3
                    have HBAD : Hid (Nt.payOk ⟨dk, dt, df, dat⟩ = false) := by show _ = _; unfold Nt.payOk; simp only; rw [hc, hw]; simp
                    clear hc hw
                    go_wp2_with fail
                    refine (HC.out _).mono ?_
                    rintro e W1 ⟨rfl, hb1⟩
                    obtain ⟨g0, g1, g2, g3⟩ := cells4 (kept_new hb1)
                    have HB1 := Lib.hid (below_trans (below_trans hB'.out (below_alloc _ _)) hb1)
                    clear hb1
                    go_wp2_with fail
                    refine (HW3.out _).mono ?_
                    rintro e W2 ⟨rfl, rfl⟩
                    go_wp2
                    go_ret
                    exact ⟨ret_bool ((payBad HDK.out HBAD.out).symm.trans HX.out), HB1.out⟩
                  | true =>
                    rw [hw] at HW3
                    have HOK : Hid (Nt.payOk ⟨dk, dt, df, dat⟩ = true) := by show _ = _; unfold Nt.payOk; simp only; rw [hc, hw]; rfl
                    clear hc hw
                    go_wp2_with fail
                    refine (HC.out _).mono ?_
                    rintro e W1 ⟨rfl, hb1⟩
                    obtain ⟨g0, g1, g2, g3⟩ := cells4 (kept_new hb1)
                    have HB1 := Lib.hid (below_trans (below_trans hB'.out (below_alloc _ _)) hb1)
                    clear hb1
                    go_wp2_with fail
                    refine (HW3.out _).mono ?_
                    rintro e W2 ⟨rfl, rfl⟩
                    go_wp2
                    go_roundw
                    case rel => exact ⟨k + 1, rfl, hlt, HB1.out, fun j x hj hx => by
                      by_cases e : j = k
                      · subst e
                        rw [HDK.out] at hx
                        obtain rfl := Option.some.inj hx
                        exact HOK.out
                      · exact HALL.out j x (by omega) hx⟩
                    case measure => simp [intOf]; omega
              · obtain rfl : k = ps.length := by omega
                have HOK : Hid (Nt.allOk ds ps t = true) := by
                  show _ = _
                  unfold Nt.allOk
                  rw [decide_eq_true c1, decide_eq_true c2, c3, all_of HALLD.out, all_of hall]; rfl
                have HB1 := Lib.hid hB
                clear hall hB
                go_wp2
                go_ret
                exact ⟨ret_bool (HOK.out.symm.trans HX.out), HB1.out⟩
      | false =>
        rw [c3] at HW hX'
        obtain rfl : X = false := by rw [← hX']; simp
        clear hX'
        go_enter Tryz.func32, Tryz.ntmps32
        go_wp2_with fail
        refine (HW.out _).mono ?_
        rintro e W1 ⟨rfl, rfl⟩
        go_wp2
        go_ret
        exact ⟨rfl, Below.refl _ _⟩
    · obtain rfl : X = false := by rw [← hX', decide_eq_false c2]; simp
      clear hX'
      go_enter Tryz.func32, Tryz.ntmps32
      go_wp2
      go_ret
      exact ⟨rfl, Below.refl _ _⟩
  · obtain rfl : X = false := by rw [← hX', decide_eq_false c1]; simp
    clear hX'
    go_enter Tryz.func32, Tryz.ntmps32
    go_wp2
    go_ret
    exact ⟨rfl, Below.refl _ _⟩
end Go.Proofs.YtcphclpekllcoaaGreatDoor
