/- Walks: the laws' own head: the chapter's examples. -/
import Derived.Test.YtcphclpekllcoaaGreatDoorSt
import Derived.Test.YtcphclpekllcoaaGreatDoorLe
import Derived.ArgAppend
namespace Go.Proofs.YtcphclpekllcoaaGreatDoor
open Go.RowKit

def exFrm : Frm := ⟨100, 1, 2, 0, 3, 0, 0, 0, 0⟩
def exWant : List Nt.Deb := [⟨1, 1, -1, 4, 196, 2⟩, ⟨2, 1, 3, -188, 388, 2⟩, ⟨3, 1, 3, 100, 148, 2⟩]
def exNew : Nt.Deb := ⟨1, 1, -1, 0, 196, 0⟩
def exMore : List Nt.Deb := exWant ++ [exNew]

theorem ex_owe : oweR exFrm = (exWant, 0) := by decide
theorem ex_settle : settleR exWant exPays 200 = ([3, -1, 2], 0) := by decide
theorem ex_settle2 : settleR exWant exPays 388 = ([3, 1, 2], 0) := by decide
theorem ex_paid : paid exFrm exPays 388 = (true, 0) := by decide
theorem ex_split0 : Nt.splitR exMore exPays 388 0 = mkRat 1 2 := by decide +kernel
theorem ex_split1 : Nt.splitR exMore exPays 388 1 = 0 := by decide +kernel
theorem ex_split2 : Nt.splitR exMore exPays 388 2 = mkRat 5 2 := by decide +kernel
theorem ex_ok : Nt.splitOk exMore exPays 388 3 = true := by decide
theorem ex_split : Nt.split exMore exPays 388 3 = ([Nt.rs (mkRat 1 2), Nt.rs 0, Nt.rs (mkRat 5 2)], 0) := by
  unfold Nt.split
  rw [ex_ok, if_pos rfl]
  have e : List.range (Int.toNat 3) = [0, 1, 2] := by decide
  rw [e]
  simp only [List.map_cons, List.map_nil]
  rw [show ((0 : Nat) : Int) = 0 from rfl, show ((1 : Nat) : Int) = 1 from rfl, show ((2 : Nat) : Int) = 2 from rfl, ex_split0, ex_split1, ex_split2]

/-- A row of one's own holds structs. -/
theorem SC.of_own {k : Nat} {W : World} {B : Nat} {t : TypeId} {v : Value} {n : Nat} {xs : List (List Value)} (hk : ∀ x ∈ xs, x.length = k) (hn : xs.length = n) (h : W.ownsRow B t k v n xs.flatten) : SC k W v xs := by
  have h0 := h
  obtain ⟨h1, h2⟩ := h
  subst hn
  rcases h2 with ⟨rfl, h2⟩ | ⟨g, cap, cur, rfl, hb, hg, hn, hm, hc, ht⟩
  · have : xs = [] := List.length_eq_zero_iff.1 h2
    subst this
    exact ⟨none, 0, rfl, Nat.le_refl _, by unfold maxLen; omega, .inl ⟨rfl, rfl, rfl⟩⟩
  · exact ⟨some ⟨g, 0, none⟩, cap, rfl, hn, hm, .inr ⟨_, rfl, fun i j x y hx hy => h0.cells (g := g) rfl _ _ (flat_at xs hk i j x y hx hy)⟩⟩
theorem info_deb : (Tryz.prog.info? 47).map (fun i => (i.zero, i.size, i.bytes)) = some (some (.agg #[.int .i64 0, .int .i64 0, .int .i64 0, .int .i64 0, .int .i64 0, .int .i64 0]), 6, 48) := by kernel_rfl

theorem RL.below {w w' : World} {v : Value} {xs : List Nt.RS} (h : RL w v xs) (hb : Below w.heap.size w w') : RL w' v xs := SC.below h hb
theorem IL.row {W : World} {g : Nat} {t : TypeId} {xs : List Int} (h : W.heap[g]? = some (.cells (xs.map (fun x => Value.int .i64 x)).toArray t)) (hm : xs.length ≤ maxLen) : IL W (.slice (some ⟨g, 0, none⟩) xs.length xs.length) xs :=
  ⟨_, _, rfl, Nat.le_refl _, hm, .inr ⟨g, rfl, fun i x hx => by rw [cell_of_row W g i _ t (0, 0) h]; simp [hx]⟩⟩
theorem grown_below {a w w' : World} {B : Nat} (h : Below B a w) (h0 : B ≤ a.heap.size) (hg : w.grownBy w' none) : Below B a w' :=
  ⟨hg.os.trans h.os, hg.tape.trans h.tape, hg.output.trans h.output, Nat.le_trans h.size hg.size, fun k hk => by
    by_cases hlt : k < w.heap.size
    · rw [hg.block k hlt (by simp)]; exact h.block k hk
    · have := h.size; omega⟩

set_option maxHeartbeats 6400000 in
set_option maxRecDepth 100000 in
theorem head_any (w : World) (hT : Tab w) :
    Calls Tryz.prog 9 #[] w fun e w' => e = .returned (.bool true) ∧ Below w.heap.size w w' := by
  obtain ⟨i0, hi, hz0, hz1, hz2⟩ := info_parts info_deb
  have HO := Lib.hid fun W => owe_all exFrm W
  rw [ex_owe] at HO
  have HPA := Lib.hid fun W => payments_any W
  have HS1 := Lib.hid fun dv pv W hd hp => settle_all dv pv exWant exPays 200 W hd hp
  rw [ex_settle] at HS1
  have HS2 := Lib.hid fun dv pv W hd hp => settle_all dv pv exWant exPays 388 W hd hp
  rw [ex_settle2] at HS2
  have HPD := Lib.hid fun pv W hp => paid_any exFrm pv exPays 388 W hp
  rw [ex_paid] at HPD
  have HB0 := Lib.hid (below_alloc w (.cells (fcells exFrm) 25))
  unfold fv fcells exFrm at HO HPD
  unfold fcells exFrm at HB0
  dsimp only at HO HPD HB0
  go_enter Tryz.func9, Tryz.ntmps9
  go_wp2_with fail
  refine (HO.out _).mono ?_
  rintro e W1 ⟨⟨v1, rfl, hd1⟩, hb1⟩
  have hf1 := kept_new hb1
  have HF1 := Lib.hid hf1
  have HD1 := Lib.hid hd1
  have HB1 := Lib.hid (below_trans HB0.out hb1)
  clear hd1 hb1 hf1
  go_wp2_with fail
  refine (HPA.out _).mono ?_
  rintro e W2 ⟨⟨v2, rfl, hp2⟩, hb2⟩
  have hw2 : DL W2 (.slice (some ⟨W1.heap.size, 0, none⟩) 3 3) exWant := SC.row (k := 6) (t := 47) (xs := exWant.map dcells) (by intro x hx; simp [exWant] at hx; rcases hx with rfl | rfl | rfl <;> rfl) (kept_new hb2) (by simp [exWant, maxLen])
  have hb12 : Below W1.heap.size W1 W2 := below_trans (below_alloc W1 _) hb2
  have HB12 := Lib.hid hb12
  have HR2 := Lib.hid (kept_new hb2)
  have HW2 := Lib.hid hw2
  have HP2 := Lib.hid hp2
  clear hw2 hp2 hb12 hb2
  go_wp2_with fail
  refine (HS1.out _ v2 _ HW2.out HP2.out).mono ?_
  rintro e W3 ⟨⟨v3, rfl, hil3⟩, hb3⟩
  have HIL3 := Lib.hid hil3
  have HW3 := Lib.hid (HW2.out.below hb3)
  have HB13 := Lib.hid (below_trans HB12.out hb3)
  have HB23 := Lib.hid hb3
  clear hil3 hb3
  go_wp2_with fail
  refine (HPA.out _).mono ?_
  rintro e W4 ⟨⟨v4, rfl, hp4⟩, hb4⟩
  have HP4 := Lib.hid hp4
  have HB34 := Lib.hid hb4
  clear hp4 hb4
  go_wp2_with fail
  refine (HS2.out _ v4 _ (HW3.out.below HB34.out) HP4.out).mono ?_
  rintro e W5 ⟨⟨v5, rfl, hil5⟩, hb5⟩
  have HIL5 := Lib.hid hil5
  have HB35 := Lib.hid (below_trans HB34.out hb5)
  clear hil5 hb5
  have HB15 := Lib.hid (below_trans HB13.out HB35.out)
  have HF5 := Lib.hid ((HB15.out.block _ (lt_of_block HF1.out)).trans HF1.out)
  have HS : Hid (∀ {W}, Below W5.heap.size W5 W → W.cell? ⟨w.heap.size, 0, none⟩ = some (.int .i64 100) ∧ W.cell? ⟨w.heap.size, 1, none⟩ = some (.int .i64 1) ∧ W.cell? ⟨w.heap.size, 2, none⟩ = some (.int .i64 2) ∧ W.cell? ⟨w.heap.size, 3, none⟩ = some (.int .i64 0) ∧ W.cell? ⟨w.heap.size, 4, none⟩ = some (.int .i64 3) ∧
      W.cell? ⟨w.heap.size, 5, none⟩ = some (.int .i64 0) ∧ W.cell? ⟨w.heap.size, 6, none⟩ = some (.int .i64 0) ∧ W.cell? ⟨w.heap.size, 7, none⟩ = some (.int .i64 0) ∧ W.cell? ⟨w.heap.size, 8, none⟩ = some (.int .i64 0)) := fun {W} h => by
    have hf := (h.block _ (lt_of_block HF5.out)).trans HF5.out
    have hl := fun j => cell_of_row W w.heap.size j _ _ (0, 0) hf
    exact ⟨hl 0, hl 1, hl 2, hl 3, hl 4, hl 5, hl 6, hl 7, hl 8⟩
  have hg := Below.refl W5.heap.size W5
  obtain ⟨s0, s1, s2, s3, s4, s5, s6, s7, s8⟩ := HS.out hg
  go_upto_region 6 with (fail)
  go_region_held3 (fun w' => w'.cell? ⟨w.heap.size, 0, none⟩ = some (.int .i64 100) ∧ w'.cell? ⟨w.heap.size, 1, none⟩ = some (.int .i64 1) ∧ w'.cell? ⟨w.heap.size, 2, none⟩ = some (.int .i64 2) ∧ w'.cell? ⟨w.heap.size, 3, none⟩ = some (.int .i64 0) ∧ w'.cell? ⟨w.heap.size, 4, none⟩ = some (.int .i64 3) ∧
      w'.cell? ⟨w.heap.size, 5, none⟩ = some (.int .i64 0) ∧ w'.cell? ⟨w.heap.size, 6, none⟩ = some (.int .i64 0) ∧ w'.cell? ⟨w.heap.size, 7, none⟩ = some (.int .i64 0) ∧ w'.cell? ⟨w.heap.size, 8, none⟩ = some (.int .i64 0))
    (first | with_reducible exact HS.out hg | with_reducible exact HS.out hg.drew)
    (first
      | (go_at_call 26
         refine (HPA.out _).mono ?_
         rintro e W6 ⟨⟨v6, rfl, hp6⟩, hb⟩
         first
           | have hg := below_trans hg hb
           | have hg := below_trans hg.drew hb)
      | (go_at_call 15
         with_reducible refine (HPD.out v6 _ ?_).mono ?_
         (first | with_reducible exact hp6 | with_reducible exact (hp6.below (below_drewN (Below.refl _ _) 1)))
         rintro e W7 ⟨rfl, hb⟩
         first
           | have hg := below_trans hg hb
           | have hg := below_trans hg.drew hb))
  have HB27 := Lib.hid (below_trans (below_trans HB23.out HB35.out) hg)
  have HB17 := Lib.hid (below_trans HB12.out HB27.out)
  have hr7 := (HB27.out.block _ (lt_of_block HR2.out)).trans HR2.out
  have HW7 := Lib.hid ((HW3.out.below HB35.out).below hg)
  have HIL37 := Lib.hid ((HIL3.out.below HB35.out).below hg)
  have HIL57 := Lib.hid (HIL5.out.below hg)
  have HD17 := Lib.hid (HD1.out.below HB17.out)
  have hr8 := ((below_alloc W7 (.cells #[.int .i64 1, .int .i64 1, .int .i64 (-1), .int .i64 0, .int .i64 196, .int .i64 0] 47)).block _ (lt_of_block hr7)).trans hr7
  have hn8 := kept_new (Below.refl _ (W7.alloc (.cells #[.int .i64 1, .int .i64 1, .int .i64 (-1), .int .i64 0, .int .i64 196, .int .i64 0] 47)))
  have hA : Hid (∀ b, some (⟨W1.heap.size, 0, none⟩ : Addr) = some b → ∀ j u, (exWant.map dcells).flatten[j]? = some u → (W7.alloc (.cells #[.int .i64 1, .int .i64 1, .int .i64 (-1), .int .i64 0, .int .i64 196, .int .i64 0] 47)).cell? (b.add j) = some u) := fun b hb j u hj => by
    cases hb
    rw [add_lit, cell_of_row _ _ j _ _ (0, 0) hr8, List.getElem?_toArray]; exact hj
  have hN : Hid (∀ j u, (dcells exNew)[j]? = some u → (W7.alloc (.cells #[.int .i64 1, .int .i64 1, .int .i64 (-1), .int .i64 0, .int .i64 196, .int .i64 0] 47)).cell? ((⟨W7.heap.size, 0, none⟩ : Addr).add j) = some u) := fun j u hj => by
    rw [add_lit, cell_of_row _ _ j _ _ (0, 0) hn8, List.getElem?_toArray]; exact hj
  have HGG := Lib.hid hg
  clear hr7 hr8 hn8 hg s0 s1 s2 s3 s4 s5 s6 s7 s8
  go_wp2_with (at_builtin; go_must (refine wpList_append_grows _ rfl _ _ 26 rfl 47 i0 _ 6 48 Tryz.underlying26 hi hz0 hz1 hz2 rfl (by decide) (some ⟨W1.heap.size, 0, none⟩) 3 3 (exWant.map dcells).flatten rfl (fun h => by cases h) rfl hA.out ⟨W7.heap.size, 0, none⟩ 1 1 (dcells exNew) rfl rfl hN.out (by decide) (by decide) (by unfold maxLen; decide) (by decide) ?_); intro v8 W8 hown hgr)
  have hb78 := grown_below (below_alloc W7 (.cells #[.int .i64 1, .int .i64 1, .int .i64 (-1), .int .i64 0, .int .i64 196, .int .i64 0] 47)) (Nat.le_refl _) hgr
  have hm8 : DL W8 v8 exMore := SC.of_own (k := 6) (xs := exMore.map dcells) (by intro x hx; simp [exMore, exWant, exNew] at hx; rcases hx with rfl | rfl | rfl | rfl <;> rfl) rfl hown
  have HM8 := Lib.hid hm8
  have HB78 := Lib.hid hb78
  clear hown hgr hm8 hb78
  go_wp2_with fail
  refine (HPA.out _).mono ?_
  rintro e W9 ⟨⟨v9, rfl, hp9⟩, hb9⟩
  have HP9 := Lib.hid hp9
  have HB79 := Lib.hid (below_trans HB78.out hb9)
  have HM9 := Lib.hid (HM8.out.below hb9)
  clear hp9 hb9
  have HB19 := Lib.hid (below_trans HB1.out (below_trans HB17.out HB79.out))
  go_wp2_with fail
  have HSP := Lib.hid (split_all v8 v9 exMore exPays 388 3 W9 (hT.below HB19.out) HM9.out HP9.out)
  rw [ex_split] at HSP
  refine HSP.out.mono ?_
  rintro e W10 ⟨⟨v10, rfl, hrl10⟩, hb10⟩
  have HRL := Lib.hid hrl10
  have HB10 := Lib.hid (below_trans HB19.out hb10)
  have HB70 := Lib.hid (below_trans HB79.out hb10)
  clear hrl10 hb10
  have HOF1 := Lib.hid fun W hTW => of_any 1 2 W hTW (by decide) (by decide) (by decide) (by decide) (by decide)
  rw [show Nt.rs (Nt.low (decide ((1 : Int) < 0) != decide ((2 : Int) < 0)) (1 : Int).natAbs (2 : Int).natAbs) = Nt.rs (mkRat 1 2) from rfl] at HOF1
  have HOF2 := Lib.hid fun W hTW => of_any 0 1 W hTW (by decide) (by decide) (by decide) (by decide) (by decide)
  rw [show Nt.rs (Nt.low (decide ((0 : Int) < 0) != decide ((1 : Int) < 0)) (0 : Int).natAbs (1 : Int).natAbs) = Nt.rs 0 by rw [show (0 : Int).natAbs = 0 from rfl, Nt.low_zero]] at HOF2
  have HOF3 := Lib.hid fun W hTW => of_any 5 2 W hTW (by decide) (by decide) (by decide) (by decide) (by decide)
  rw [show Nt.rs (Nt.low (decide ((5 : Int) < 0) != decide ((2 : Int) < 0)) (5 : Int).natAbs (2 : Int).natAbs) = Nt.rs (mkRat 5 2) from rfl] at HOF3
  generalize Nt.rs (mkRat 1 2) = y1 at *
  generalize Nt.rs 0 = y2 at *
  generalize Nt.rs (mkRat 5 2) = y3 at *
  obtain ⟨a1, a2, a3⟩ := y1
  obtain ⟨b1, b2, b3⟩ := y2
  obtain ⟨c1, c2, c3⟩ := y3
  unfold rout rv at HOF1 HOF2 HOF3
  dsimp only at HOF1 HOF2 HOF3
  go_wp2_with fail
  refine (HOF1.out _ (hT.below HB10.out)).mono ?_
  rintro e W11 ⟨rfl, hb11⟩
  have hb11' := below_trans hb11 (below_alloc W11 (.cells #[.bool a1, .string a2, .string a3] 57))
  have hT11 := hT.below (below_trans HB10.out hb11')
  have HB71 := Lib.hid (below_trans HB70.out hb11')
  have HRL11 := Lib.hid (RL.below HRL.out hb11')
  have HT11 := Lib.hid hT11
  have HB11 := Lib.hid (below_trans HB10.out hb11')
  clear hb11 hb11' hT11
  go_wp2_with fail
  refine (HOF2.out _ HT11.out).mono ?_
  rintro e W12 ⟨rfl, hb12⟩
  have hx11 := kept_new hb12
  have hb12' := below_trans hb12 (below_alloc W12 (.cells #[.bool b1, .string b2, .string b3] 57))
  have HX12 := Lib.hid (((below_alloc W12 (.cells #[.bool b1, .string b2, .string b3] 57)).block _ (lt_of_block hx11)).trans hx11)
  have HB72 := Lib.hid (below_trans HB71.out hb12')
  have HRL12 := Lib.hid (RL.below HRL11.out hb12')
  have HT12 := Lib.hid (HT11.out.below hb12')
  have HB12' := Lib.hid (below_trans HB11.out hb12')
  clear hb12 hb12' hx11
  go_wp2_with fail
  refine (HOF3.out _ HT12.out).mono ?_
  rintro e W13 ⟨rfl, hb13⟩
  have hx12 := kept_new hb13
  have hb13' := below_trans hb13 (below_alloc W13 (.cells #[.bool c1, .string c2, .string c3] 57))
  have HY13 := Lib.hid (((below_alloc W13 (.cells #[.bool c1, .string c2, .string c3] 57)).block _ (lt_of_block hx12)).trans hx12)
  have HX13 := Lib.hid ((hb13'.block _ (lt_of_block HX12.out)).trans HX12.out)
  have HB73 := Lib.hid (below_trans HB72.out hb13')
  have HRL13 := Lib.hid (RL.below HRL12.out hb13')
  have HB13' := Lib.hid (below_trans HB12'.out hb13')
  clear hb13 hb13' hx12
  go_wp2_with fail
  have HDB := Lib.hid (debts_any v1 (.slice (some ⟨W1.heap.size, 0, none⟩) 3 3) exWant exWant _ (HD17.out.below HB73.out) (HW7.out.below HB73.out) (by decide) (by decide))
  rw [decide_eq_true rfl] at HDB
  refine HDB.out.mono ?_
  rintro e W14 ⟨rfl, hb14⟩
  have hz13 := kept_new hb14
  have HEQ1 := Lib.hid fun W yv ha hb => equal_any v3 yv [3, -1, 2] [3, -1, 2] W ha hb (by decide) (by decide)
  rw [decide_eq_true rfl] at HEQ1
  have HEQ2 := Lib.hid fun W yv ha hb => equal_any v5 yv [3, 1, 2] [3, 1, 2] W ha hb (by decide) (by decide)
  rw [decide_eq_true rfl] at HEQ2
  have HZ := Lib.hid hz13
  have HY := Lib.hid ((hb14.block _ (lt_of_block HY13.out)).trans HY13.out)
  have HX := Lib.hid ((hb14.block _ (lt_of_block HX13.out)).trans HX13.out)
  have HRLa := Lib.hid (RL.below HRL13.out hb14)
  have HB7a := Lib.hid (below_trans HB73.out hb14)
  have HBa := Lib.hid (below_trans HB13'.out hb14)
  clear hb14 hz13
  have hba := below_alloc W14 (.cells #[.int .i64 3, .int .i64 (-1), .int .i64 2] 3)
  have HI1 := Lib.hid (IL.row (xs := [3, -1, 2]) (kept_new (Below.refl _ (W14.alloc (.cells #[.int .i64 3, .int .i64 (-1), .int .i64 2] 3)))) (by unfold maxLen; decide))
  have HBA := Lib.hid hba
  clear hba
  go_wp2_with fail
  refine (HEQ1.out _ _ (HIL37.out.below (below_trans HB7a.out HBA.out)) HI1.out).mono ?_
  rintro e W15 ⟨rfl, hb15⟩
  have HB15' := Lib.hid (below_trans HBA.out hb15)
  clear hb15
  have hbb := below_alloc W15 (.cells #[.int .i64 3, .int .i64 1, .int .i64 2] 3)
  have HI2 := Lib.hid (IL.row (xs := [3, 1, 2]) (kept_new (Below.refl _ (W15.alloc (.cells #[.int .i64 3, .int .i64 1, .int .i64 2] 3)))) (by unfold maxLen; decide))
  have HBB := Lib.hid hbb
  clear hbb
  go_wp2_with fail
  refine (HEQ2.out _ _ (HIL57.out.below (below_trans (below_trans HB7a.out HB15'.out) HBB.out)) HI2.out).mono ?_
  rintro e W16 ⟨rfl, hb16⟩
  have hbz := below_trans HB15'.out (below_trans HBB.out hb16)
  obtain ⟨⟨x0, x1, x2⟩, -⟩ := cells3 ((hbz.block _ (lt_of_block HX.out)).trans HX.out)
  obtain ⟨⟨x3, x4, x5⟩, -⟩ := cells3 ((hbz.block _ (lt_of_block HY.out)).trans HY.out)
  obtain ⟨⟨x6, x7, x8⟩, -⟩ := cells3 ((hbz.block _ (lt_of_block HZ.out)).trans HZ.out)
  have HBz := Lib.hid hbz
  clear hbz hb16
  have HRb := Lib.hid (SC.row (k := 3) (xs := [rcells (a1, a2, a3), rcells (b1, b2, b3), rcells (c1, c2, c3)]) (by intro x hx; simp at hx; rcases hx with rfl | rfl | rfl <;> rfl) (kept_new (Below.refl _ (W16.alloc (.cells #[.bool a1, .string a2, .string a3, .bool b1, .string b2, .string b3, .bool c1, .string c2, .string c3] 57)))) (by simp [maxLen]))
  have hbc := below_alloc W16 (.cells #[.bool a1, .string a2, .string a3, .bool b1, .string b2, .string b3, .bool c1, .string c2, .string c3] 57)
  have HRA := Lib.hid (rats_any v10 (.slice (some ⟨W16.heap.size, 0, none⟩) 3 3) [(a1, a2, a3), (b1, b2, b3), (c1, c2, c3)] [(a1, a2, a3), (b1, b2, b3), (c1, c2, c3)] _ (RL.below HRLa.out (below_trans HBz.out hbc)) HRb.out (by simp) (by simp))
  rw [decide_eq_true rfl] at HRA
  have HBC := Lib.hid hbc
  clear hbc
  go_wp2_with fail
  refine HRA.out.mono ?_
  rintro e W17 ⟨rfl, hb17⟩
  have HBF := Lib.hid (below_trans HBa.out (below_trans HBz.out (below_trans HBC.out hb17)))
  clear hb17
  go_wp2
  go_ret
  exact ⟨rfl, HBF.out⟩
end Go.Proofs.YtcphclpekllcoaaGreatDoor
