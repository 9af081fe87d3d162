/- Walks: package observatoryref18: Split. -/
import Derived.Test.YtcphclpekllcoaaGreatDoorRm
import Derived.Test.YtcphclpekllcoaaGreatDoorMA
import Derived.Test.YtcphclpekllcoaaGreatDoorAp
import Derived.Deep.RegionLaw
namespace Go.Proofs.YtcphclpekllcoaaGreatDoor
open Go.RowKit Go.Sort Go.Deep

theorem infoRat3 : (Tryz.prog.info? 57).map (fun i => (i.zero, i.size, i.bytes)) = some (some (.agg #[.bool false, .string ⟨#[]⟩, .string ⟨#[]⟩]), 3, 40) := by kernel_rfl
theorem rat_parts3 : ∃ i, Tryz.prog.info? 57 = some i ∧ i.zero = some (.agg #[.bool false, .string ⟨#[]⟩, .string ⟨#[]⟩]) ∧ i.size = 3 ∧ i.bytes = 40 := by
  obtain ⟨i, hi, h⟩ := Option.map_eq_some_iff.1 infoRat3
  simp only [Prod.mk.injEq] at h
  exact ⟨i, hi, h.1, h.2.1, h.2.2⟩
/-- A row of numbers that the call owns. -/
def OW (W : World) (B g cap : Nat) (qs : List Nt.RS) : Prop := W.ownsRow B 57 3 (.slice (some ⟨g, 0, none⟩) qs.length cap) qs.length (qs.map rcells).flatten
theorem rlen {qs : List Nt.RS} : ∀ y ∈ qs.map rcells, y.length = 3 := by intro y hy; obtain ⟨z, _, rfl⟩ := List.mem_map.1 hy; rfl
theorem rone {qs : List Nt.RS} : ∀ y ∈ qs.map rcells, ∀ x ∈ y, x.oneCell' = true := by
  intro y hy x hx
  obtain ⟨z, _, rfl⟩ := List.mem_map.1 hy
  simp [rcells] at hx
  rcases hx with rfl | rfl | rfl <;> rfl
theorem OW.at {W : World} {B g cap i : Nat} {qs : List Nt.RS} {x : Nt.RS} (h : OW W B g cap qs) (hx : qs[i]? = some x) :
    (W.cell? ⟨g, i * 3, none⟩ = some (.bool x.1) ∧ W.cell? ⟨g, i * 3 + 1, none⟩ = some (.string x.2.1) ∧ W.cell? ⟨g, i * 3 + 2, none⟩ = some (.string x.2.2)) ∧ ∀ j, W.frozen? ⟨g, j, none⟩ = false := by
  have hi := (List.getElem?_eq_some_iff.1 hx).1
  have hr : (qs.map rcells)[i]? = some (rcells x) := by rw [List.getElem?_map, hx]; rfl
  refine ⟨⟨?_, ?_, ?_⟩, fun j => World.ownsRow.frozenAt h j⟩
  · rw [World.ownsRow.cellAt h _ (by omega)]; exact flat_at _ rlen i 0 _ _ hr rfl
  · rw [World.ownsRow.cellAt h _ (by omega)]; exact flat_at _ rlen i 1 _ _ hr rfl
  · rw [World.ownsRow.cellAt h _ (by omega)]; exact flat_at _ rlen i 2 _ _ hr rfl
theorem OW.below {W W' : World} {B g cap : Nat} {qs : List Nt.RS} (h : OW W B g cap qs) (hb : Below W.heap.size W W') : OW W' B g cap qs := ownsRow_below h hb
theorem OW.lt {W : World} {B g cap : Nat} {qs : List Nt.RS} (h : OW W B g cap qs) : B ≤ g ∧ g < W.heap.size := World.ownsRow.lt h g rfl
theorem OW.other {W : World} {B g cap : Nat} {qs : List Nt.RS} (h : OW W B g cap qs) {a : Addr} (hne : a.block ≠ g) (u : Value) : OW (W.setCell a u) B g cap qs :=
  ownsRow_setCell_other h (fun e => hne (Option.some.inj e).symm) u
theorem OW.set {W : World} {B g cap i : Nat} {qs : List Nt.RS} {x : Nt.RS} (h : OW W B g cap qs) (hx : qs[i]? = some x) (y : Nt.RS) :
    OW (((W.setCell ⟨g, i * 3, none⟩ (.bool y.1)).setCell ⟨g, i * 3 + 1, none⟩ (.string y.2.1)).setCell ⟨g, i * 3 + 2, none⟩ (.string y.2.2)) B g cap (qs.set i y) := by
  have h1 := (World.ownsRow.stored (World.ownsRow.stored (World.ownsRow.stored h (i * 3) (.bool y.1)).1 (i * 3 + 1) (.string y.2.1)).1 (i * 3 + 2) (.string y.2.2)).1
  have e := flat_set qs i x y hx
  simp only [List.setIfInBounds_toArray, Array.mk.injEq] at e
  unfold OW
  rw [List.length_set, ← e]
  exact h1

theorem RL.of_ow {W : World} {B g cap n : Nat} {qs : List Nt.RS} (h : OW W B g cap qs) (hn : qs.length = n) : RL W (.slice (some ⟨g, 0, none⟩) n cap) qs := by
  subst hn
  have h' := h
  obtain ⟨-, ⟨h1, -⟩ | ⟨g', cap', cur, e, -, -, h2, h3, -⟩⟩ := h
  · cases h1
  · simp at e
    obtain ⟨rfl, rfl⟩ := e
    refine ⟨some ⟨g, 0, none⟩, cap, by rw [List.length_map], by rw [List.length_map]; exact h2, h3, .inr ⟨_, rfl, fun i j x y hx hy => ?_⟩⟩
    have hf := flat_at _ rlen i j x y hx hy
    have hlt := (List.getElem?_eq_some_iff.1 hx).1
    have hxl := rlen x (List.mem_of_getElem? hx)
    have hjl := (List.getElem?_eq_some_iff.1 hy).1
    rw [List.length_map] at hlt
    rw [Lib.add_plain, Nat.zero_add, World.ownsRow.cellAt h' _ (by omega)]
    exact hf

/-- Which programmes share: a row of bools. -/
def BR (W : World) (g m : Nat) (P : Nat → Bool) : Prop := ∃ cur : Array Value, W.heap[g]? = some (.cells cur 4) ∧ cur.size = m ∧ ∀ j, j < m → cur[j]? = some (.bool (P j))
theorem BR.below {W W' : World} {g m : Nat} {P : Nat → Bool} (h : BR W g m P) (hb : Below W.heap.size W W') : BR W' g m P := by
  obtain ⟨cur, h1, h2, h3⟩ := h
  exact ⟨cur, (hb.block g (lt_of_block h1)).trans h1, h2, h3⟩
theorem BR.lt {W : World} {g m : Nat} {P : Nat → Bool} (h : BR W g m P) : g < W.heap.size := by obtain ⟨cur, h1, -⟩ := h; exact lt_of_block h1
theorem BR.other {W : World} {g m : Nat} {P : Nat → Bool} (h : BR W g m P) {a : Addr} (hne : g ≠ a.block) (u : Value) : BR (W.setCell a u) g m P := by
  obtain ⟨cur, h1, h2, h3⟩ := h
  exact ⟨cur, (Below.heap_setCell _ _ _ _ hne).trans h1, h2, h3⟩
theorem BR.at {W : World} {g m : Nat} {P : Nat → Bool} (h : BR W g m P) {j : Nat} (hj : j < m) : W.cell? ⟨g, j, none⟩ = some (.bool (P j)) ∧ W.frozen? ⟨g, j, none⟩ = false := by
  obtain ⟨cur, h1, h2, h3⟩ := h
  exact ⟨by rw [cell_of_row W g j cur _ (0, 0) h1]; exact h3 j hj, by simp [World.frozen?, h1]⟩
theorem BR.set {W : World} {g m : Nat} {P Q : Nat → Bool} (h : BR W g m P) {j : Nat} (hj : j < m) (hQ : ∀ k, Q k = (P k || decide (j = k))) : BR (W.setCell ⟨g, j, none⟩ (.bool true)) g m Q := by
  obtain ⟨cur, h1, h2, h3⟩ := h
  refine ⟨_, row_setCell h1, by simp [h2], fun k hk => ?_⟩
  rw [hQ k]
  by_cases e : j = k
  · subst e
    rw [Array.getElem?_setIfInBounds_self, if_pos (by omega), decide_eq_true rfl, Bool.or_true]
  · rw [Array.getElem?_setIfInBounds_ne e, h3 k hk, decide_eq_false e, Bool.or_false]
theorem info_boolR : (Tryz.prog.info? 4).map (fun i => (i.zero, i.size, i.bytes)) = some (some (.bool false), 1, 1) := by kernel_rfl
theorem br_new (W : World) (m : Nat) : BR (W.alloc (.cells (madeCells #[.bool false] m) 4)) W.heap.size m fun _ => false :=
  ⟨_, kept_new (Below.refl _ _), by simp [madeCells], fun j hj => by simp [madeCells, hj, Nat.mod_one]⟩

theorem splitNo {ds : List Nt.Deb} {ps : List Nt.Pay} {t n : Int} (h : Nt.splitOk ds ps t n = false) : Nt.split ds ps t n = ([], 1) := by unfold Nt.split; rw [h]; rfl

set_option maxHeartbeats 1600000 in
set_option maxRecDepth 100000 in
theorem r18split_bad (dv pv : Value) (ds : List Nt.Deb) (ps : List Nt.Pay) (t n : Int) (w : World) (hd : DL w dv ds) (hp : PL w pv ps) (hok : (Nt.allOk ds ps t && Nt.win n 1 64) = false) :
    Calls Tryz.prog 18 #[dv, pv, .int .i64 t, .int .i64 n] w fun e w' => e = .returned (.tuple #[.slice none 0 0, .int .i64 1]) ∧ Below w.heap.size w w' := by
  obtain ⟨da, dc, rfl⟩ := hd.len
  obtain ⟨pa, pc, rfl⟩ := hp.len
  have HS := Lib.hid (r18settle_all _ _ ds ps t w hd hp)
  have HW := Lib.hid fun W => r18within_any n 1 64 W
  unfold settleR at HS
  cases ha : Nt.allOk ds ps t with
  | false =>
    rw [ha] at HS
    simp only [Bool.false_eq_true, if_false] at HS
    clear hd hp hok ha
    go_enter Tryz.func18, Tryz.ntmps18
    go_wp2_with fail
    refine HS.out.mono ?_
    rintro e W1 ⟨⟨v, rfl, hv⟩, hb1⟩
    obtain ⟨a, c, rfl⟩ := hv.len
    clear hv
    go_wp2
    go_ret2
    exact ⟨rfl, hb1⟩
  | true =>
    rw [ha] at HS hok
    rw [Bool.true_and] at hok
    rw [hok] at HW
    simp only [if_true] at HS
    clear hd hp hok ha
    go_enter Tryz.func18, Tryz.ntmps18
    go_wp2_with fail
    refine HS.out.mono ?_
    rintro e W1 ⟨⟨v, rfl, hv⟩, hb1⟩
    obtain ⟨a, c, rfl⟩ := hv.len
    clear hv
    go_wp2_with fail
    refine (HW.out _).mono ?_
    rintro e W2 ⟨rfl, rfl⟩
    go_wp2
    go_ret2
    exact ⟨rfl, hb1⟩

set_option maxHeartbeats 12800000 in
set_option maxRecDepth 100000 in
theorem r18split_go (dv pv : Value) (ds : List Nt.Deb) (ps : List Nt.Pay) (t : Int) (q : Nat) (w : World) (hd : DL w dv ds) (hp : PL w pv ps) (hok : Nt.allOk ds ps t = true) (hq1 : 1 ≤ q) (hq2 : q ≤ 64) :
    Calls Tryz.prog 18 #[dv, pv, .int .i64 t, .int .i64 q] w fun e w' => (∃ v, e = .returned (.tuple #[v, .int .i64 (Nt.split ds ps t q).2]) ∧ RL w' v (Nt.split ds ps t q).1) ∧ Below w.heap.size w w' := by
  have hall := hok
  unfold Nt.allOk at hall
  simp only [Bool.and_eq_true, decide_eq_true_eq] at hall
  obtain ⟨⟨⟨⟨hn1, hm1⟩, -⟩, ha1⟩, -⟩ := hall
  have HPR : Hid (∀ d ∈ ds, 0 ≤ d.pr) := fun d hd => by
    have := List.all_eq_true.1 ha1 d hd
    unfold Nt.debOk Nt.win at this
    simp only [Bool.and_eq_true, decide_eq_true_eq] at this
    exact this.1.1.1.2.1
  have HSPL : Hid (Nt.splitOk ds ps t q = (ds.all fun d => decide (d.pr < q))) := by
    show _ = _
    unfold Nt.splitOk Nt.win
    rw [hok, decide_eq_true (show (1 : Int) ≤ (q : Int) by omega), decide_eq_true (show (q : Int) ≤ 64 by omega)]; rfl
  obtain ⟨da, dc, rfl⟩ := hd.len
  obtain ⟨pa, pc, rfl⟩ := hp.len
  have HS := Lib.hid (r18settle_all _ _ ds ps t w hd hp)
  rw [show settleR ds ps t = (Nt.settle ds ps t, 0) by unfold settleR; rw [hok]; rfl] at HS
  have HW := Lib.hid fun W => r18within_any (q : Int) 1 64 W
  rw [show Nt.win (q : Int) 1 64 = true by unfold Nt.win; rw [decide_eq_true (show (1 : Int) ≤ (q : Int) by omega), decide_eq_true (show (q : Int) ≤ 64 by omega)]; rfl] at HW
  have HXL : Hid ((Nt.settle ds ps t).length = ds.length) := by show _ = _; unfold Nt.settle; rw [List.length_map]
  have HXA : Hid (∀ i d, ds[i]? = some d → (Nt.settle ds ps t)[i]? = some (Nt.settle1 ps t d)) := fun i d h => by unfold Nt.settle; rw [List.getElem?_map, h]; rfl
  generalize Nt.settle ds ps t = xs at *
  obtain ⟨R, hR⟩ : ∃ R, Nt.split ds ps t q = R := ⟨_, rfl⟩
  rw [hR]
  have HR := Lib.hid hR
  have HD := Lib.hid hd
  have HP := Lib.hid hp
  obtain ⟨n, hn⟩ : ∃ n, ds.length = n := ⟨_, rfl⟩
  obtain ⟨m, hm⟩ : ∃ m, ps.length = m := ⟨_, rfl⟩
  rw [hn] at hn1 HD HXL HS ⊢
  rw [hm] at hm1 HP HS ⊢
  have HN := Lib.hid hn
  have HM := Lib.hid hm
  clear hd hp hok ha1 hR hn hm
  go_enter Tryz.func18, Tryz.ntmps18
  go_wp2_with fail
  refine HS.out.mono ?_
  rintro e W1 ⟨⟨v1, rfl, hi1⟩, hb1⟩
  obtain ⟨aa, ac, rfl⟩ := hi1.len
  have HI1 := Lib.hid hi1
  rw [HXL.out] at HI1 ⊢
  have HB1 := Lib.hid hb1
  clear hi1 hb1
  go_wp2_with fail
  refine (HW.out _).mono ?_
  rintro e W2 ⟨rfl, rfl⟩
  go_wp2_with fail
  go_loop [12] (fun i => ∃ k : Nat, i = .int .i64 k ∧ k ≤ n ∧ ∀ d ∈ ds.take k, d.pr < (q : Int)) (fun i => n - (intOf i).toNat)
  case atStart => exact ⟨0, rfl, Nat.zero_le _, by simp⟩
  case round =>
    obtain ⟨k, rfl, hk, hlo⟩ := hrel
    by_cases hlt : k < n
    · obtain ⟨d, hd⟩ : ∃ d, ds[k]? = some d := ⟨_, List.getElem?_eq_getElem (by rw [HN.out]; exact hlt)⟩
      obtain ⟨p, rfl, -, e0, e1, e2, e3, e4, e5⟩ := DL.at HD.out hd
      have f5 := below_cell HB1.out e5
      have k0 : (0 : Int) ≤ (k : Int) := Int.natCast_nonneg _
      have k1 : (k : Int) < (n : Int) := by omega
      clear e0 e1 e2 e3 e4 e5
      by_cases hpr : d.pr < (q : Int)
      · have HLO : Hid (∀ d ∈ ds.take (k + 1), d.pr < (q : Int)) := fun x hx => by
          have e : ds.take (k + 1) = ds.take k ++ [d] := by rw [List.take_add_one, hd]; rfl
          rw [e] at hx
          rcases List.mem_append.1 hx with hx | hx
          · exact hlo x hx
          · simp at hx; subst hx; exact hpr
        have b1 : decide (d.pr ≥ (q : Int)) = false := decide_eq_false (by omega)
        generalize d.pr = pr at *
        clear hlo hd hpr
        go_wp2
        go_round
        case rel => exact ⟨k + 1, rfl, hlt, HLO.out⟩
        case measure => simp [intOf]; omega
      · have HRR : Hid (R = ([], 1)) := by
          show _ = _
          rw [← HR.out]
          refine splitNo ?_
          rw [HSPL.out]
          exact all_no hd (decide_eq_false hpr)
        have b1 : decide (d.pr ≥ (q : Int)) = true := decide_eq_true (by omega)
        generalize d.pr = pr at *
        clear hlo hd hpr
        go_wp2
        go_ret2
        exact ⟨⟨_, by rw [HRR.out]; rfl, by rw [HRR.out]; exact rl_nil _⟩, HB1.out⟩
    · obtain rfl : n = k := by omega
      have hlo' : ∀ d ∈ ds, d.pr < (q : Int) := by rwa [List.take_of_length_le (by rw [HN.out]; exact Nat.le_refl _)] at hlo
      have HRR : Hid (R = (Nt.stt q (Nt.splitR ds ps t), 0)) := by
        show _ = _
        rw [← HR.out]
        unfold Nt.split
        rw [HSPL.out, List.all_eq_true.2 fun d hd => decide_eq_true (hlo' d hd)]
        rfl
      have HIN : Hid (∀ d ∈ ds, 0 ≤ d.pr ∧ d.pr < (q : Int)) := fun d hd => ⟨HPR.out d hd, hlo' d hd⟩
      clear hlo hlo' hlt hk
      have HOF := Lib.hid fun W => r4Of_any 0 1 W (by omega) (by omega) (by omega)
      rw [show mkRat ((0 : Nat) : Int) 1 = 0 from rfl] at HOF
      obtain ⟨⟨z1, z2, z3⟩, hzz⟩ : ∃ zz, Nt.rs 0 = zz := ⟨_, rfl⟩
      rw [hzz] at HOF
      unfold rout rv at HOF
      dsimp only at HOF
      have HZZ := Lib.hid hzz
      obtain ⟨i3, hi3, hz3, hs3, hb3⟩ := rat_parts3
      clear hzz
      go_wp2_with fail
      go_loopw [13, 14, 15, 16] (fun v i _ _ wr => ∃ k : Nat, i = .int .i64 k ∧ k ≤ q ∧ wr.ownsRow W1.heap.size 57 3 v ((List.replicate k (z1, z2, z3)).map rcells).length ((List.replicate k (z1, z2, z3)).map rcells).flatten ∧ Below W1.heap.size W1 wr) (fun _ i _ _ _ => q - (intOf i).toNat)
      case atStart => exact ⟨0, rfl, Nat.zero_le _, World.ownsRow_nil _ _ _ _, Below.refl _ _⟩
      case round =>
        obtain ⟨k, rfl, hk, hown, hB⟩ := hrel
        by_cases hlt : k < q
        · have HOW := Lib.hid hown
          have HB2 := Lib.hid hB
          clear hown hB
          go_wp2_with fail
          refine (HOF.out _).mono ?_
          rintro e W4 ⟨rfl, hb4⟩
          have hB5 := below_trans (below_trans HB2.out hb4) (below_alloc W4 (.cells #[.bool z1, .string z2, .string z3] 57))
          have hB6 := below_trans hB5 (below_alloc _ (.cells #[.bool z1, .string z2, .string z3] 57))
          have hown5 := ((ownsRow_below HOW.out hb4).alloc (.cells #[.bool z1, .string z2, .string z3] 57)).alloc (.cells #[.bool z1, .string z2, .string z3] 57)
          have hsc : SC 3 ((W4.alloc (.cells #[.bool z1, .string z2, .string z3] 57)).alloc (.cells #[.bool z1, .string z2, .string z3] 57)) (.slice (some ⟨W4.heap.size + 1, 0, none⟩) 1 1) ([(z1, z2, z3)].map rcells) := by
            have := SC.row (k := 3) (t := 57) (W := (W4.alloc (.cells #[.bool z1, .string z2, .string z3] 57)).alloc (.cells #[.bool z1, .string z2, .string z3] 57)) (xs := [(z1, z2, z3)].map rcells) rlen (kept_new (Below.refl _ _)) (by simp [maxLen])
            simp only [World.size_alloc] at this
            exact this
          have hsz := hB6.size
          have HB6 := Lib.hid hB6
          clear hb4 hB5 hB6
          go_wp2_with (at_builtin; go_must (refine wpList_append_rows (k := 3) (bytes := 40) rfl _ _ rfl W1.heap.size Tryz.underlying38 hi3 hz3 hs3 hb3 rfl (by decide) (by decide) _ _ _ _ rfl rfl hown5 hsc rlen rone hsz (by simp; omega) ?_); intro v' w1 hown' hgrow)
          have HOW2 := Lib.hid hown'
          have HB7 := Lib.hid (HB6.out.trans hgrow)
          clear hown5 hsc hown' hgrow hsz
          go_wp2
          go_roundw
          case rel => exact ⟨k + 1, rfl, hlt, by
            have := HOW2.out
            rw [← List.map_append, show List.replicate k (z1, z2, z3) ++ [(z1, z2, z3)] = List.replicate (k + 1) (z1, z2, z3) from List.replicate_succ'.symm] at this
            exact this, HB7.out⟩
          case measure => simp [intOf]; omega
        · obtain rfl : q = k := by omega
          obtain ⟨g, cap, rfl⟩ : ∃ g cap, u13 = .slice (some ⟨g, 0, none⟩) q cap := by
            have hown' := hown
            obtain ⟨-, ⟨-, h0⟩ | ⟨g, cap, cur, rfl, -⟩⟩ := hown
            · simp at h0; omega
            · exact ⟨g, cap, by simp⟩
          have HO0 : Hid (OW wr W1.heap.size g cap (Nt.stt q (Nt.oS ds ps t 0))) := by
            show OW _ _ _ _ _
            rw [Nt.stt_zero, HZZ.out]
            unfold OW
            simpa using hown
          obtain ⟨wo, rfl⟩ : ∃ wo : World, wo = wr := ⟨wr, rfl⟩
          have HBo := Lib.hid hB
          have HQL : Hid (∀ F, (Nt.stt q F).length = q) := fun F => Nt.stt_length q F
          have hmk := fun W => run_make_row' (P := Tryz.prog) 54 4 (.bool false) 1 Tryz.underlying54 info_boolR rfl .i64 .i64 q (by omega) (by omega) W
          clear hown hB hk hlt
          go_wp2_with fail
          go_loopw [17, 18, 19, 20, 21, 22, 23] (fun kv _ _ _ _ _ _ wr => ∃ K : Nat, kv = .int .i64 K ∧ K ≤ m ∧ OW wr W1.heap.size g cap (Nt.stt q (Nt.oS ds ps t K)) ∧ Below W1.heap.size W1 wr) (fun kv _ _ _ _ _ _ _ => m - (intOf kv).toNat)
          case atStart => exact ⟨0, rfl, Nat.zero_le _, HO0.out, HBo.out⟩
          case round =>
            obtain ⟨K, rfl, hK, hO, hB⟩ := hrel
            by_cases hlt : K < m
            · obtain ⟨wq, rfl⟩ : ∃ wq : World, wq = wr := ⟨wr, rfl⟩
              have hgl := hO.lt
              have HOK := Lib.hid hO
              have HBK := Lib.hid hB
              have K0 : (0 : Int) ≤ (K : Int) := Int.natCast_nonneg _
              clear hO hB hK
              go_wp2_with fail
              go_loopw [19, 20] (fun c i wr => ∃ j : Nat, i = .int .i64 j ∧ j ≤ n ∧ c = .int .i64 ((Nt.shr ds ps t K j).length : Nat) ∧ BR wr wq.heap.size q (fun x => decide ((x : Int) ∈ Nt.shr ds ps t K j)) ∧ OW wr W1.heap.size g cap (Nt.stt q (Nt.oS ds ps t K)) ∧ Below W1.heap.size W1 wr) (fun _ i _ => n - (intOf i).toNat)
              case atStart => exact ⟨0, rfl, Nat.zero_le _, by rw [Nt.shr_zero]; rfl, by
                have e : (fun x : Nat => decide ((x : Int) ∈ Nt.shr ds ps t K 0)) = fun _ => false := by funext x; rw [Nt.shr_zero]; simp
                rw [e]; exact br_new wq q, HOK.out.below (below_alloc _ _), HBK.out.alloc HBK.out.size _⟩
              case round =>
                obtain ⟨j, rfl, hj, rfl, hR, hO, hB⟩ := hrel
                by_cases hltj : j < n
                · obtain ⟨d, hd⟩ : ∃ d, ds[j]? = some d := ⟨_, List.getElem?_eq_getElem (by rw [HN.out]; exact hltj)⟩
                  have hx := HXA.out j d hd
                  obtain ⟨ga, rfl, -, c0⟩ := IL.at HI1.out hx
                  obtain ⟨p, rfl, -, e0, e1, e2, e3, e4, e5⟩ := DL.at HD.out hd
                  have d0 := below_cell hB c0
                  have d5 := below_cell (below_trans HB1.out hB) e5
                  have hin := HIN.out d (List.mem_of_getElem? hd)
                  obtain ⟨r, hr⟩ := Int.eq_ofNat_of_zero_le hin.1
                  have hrq : r < q := by have := hin.2; omega
                  obtain ⟨u0, u1⟩ := hR.at hrq
                  have hlen := Nt.shr_len (ps := ps) (t := t) (k := (K : Int)) HIN.out j
                  have j0 : (0 : Int) ≤ (j : Int) := Int.natCast_nonneg _
                  have j1 : (j : Int) < (n : Int) := by omega
                  have r0 : (0 : Int) ≤ (r : Int) := Int.natCast_nonneg _
                  have r1 : (r : Int) < (q : Int) := by omega
                  rw [hr] at d5
                  have HBB := Lib.hid hB
                  have HRR2 := Lib.hid hR
                  have HOO := Lib.hid hO
                  have HNE : Hid (g ≠ wq.heap.size) := by have := hgl.2; exact Nat.ne_of_lt this
                  clear c0 e0 e1 e2 e3 e4 e5 hx hin hB hR hO
                  by_cases hs : Nt.settle1 ps t d = (K : Int)
                  · have b1 : (Nt.settle1 ps t d == (K : Int)) = true := by simpa using hs
                    by_cases hm2 : d.pr ∈ Nt.shr ds ps t K j
                    · obtain ⟨h1, h2⟩ := Nt.shr_same hd (fun _ => hm2)
                      have HL := Lib.hid h1
                      have HE : Hid ((fun x : Nat => decide ((x : Int) ∈ Nt.shr ds ps t K (j + 1))) = fun x : Nat => decide ((x : Int) ∈ Nt.shr ds ps t K j)) := by
                        show _ = _; funext x; exact decide_eq_decide.2 (h2 x)
                      rw [decide_eq_true (by rw [← hr]; exact hm2)] at u0
                      clear h1 h2 hd hs hm2 hr
                      generalize Nt.settle1 ps t d = s1 at *
                      generalize (Nt.shr ds ps t K j).length = c at *
                      go_wp2
                      go_roundw
                      case rel => exact ⟨j + 1, rfl, hltj, by rw [HL.out], by rw [HE.out]; exact HRR2.out, HOO.out, HBB.out⟩
                      case measure => simp [intOf]; omega
                    · obtain ⟨h1, h2⟩ := Nt.shr_new hd hs hm2
                      have HL := Lib.hid h1
                      have HE : Hid (∀ x : Nat, decide ((x : Int) ∈ Nt.shr ds ps t K (j + 1)) = (decide ((x : Int) ∈ Nt.shr ds ps t K j) || decide (r = x))) := fun x => by
                        rw [Bool.eq_iff_iff]
                        simp only [Bool.or_eq_true, decide_eq_true_eq]
                        rw [h2 x, hr]
                        constructor
                        · rintro (h | h)
                          · exact .inl h
                          · right; omega
                        · rintro (h | h)
                          · exact .inl h
                          · right; omega
                      rw [decide_eq_false (by rw [← hr]; exact hm2)] at u0
                      clear h1 h2 hd hs hm2 hr
                      generalize Nt.settle1 ps t d = s1 at *
                      generalize (Nt.shr ds ps t K j).length = c at *
                      go_wp2
                      go_roundw
                      case rel => exact ⟨j + 1, rfl, hltj, by rw [HL.out]; rfl, HRR2.out.set hrq HE.out, HOO.out.other (a := ⟨wq.heap.size, r, none⟩) (fun e => HNE.out e.symm) _, HBB.out.setCell (p := ⟨wq.heap.size, r, none⟩) (Nat.le_of_lt (Nat.lt_of_le_of_lt hgl.1 hgl.2)) _⟩
                      case measure => simp [intOf]; omega
                  · have b1 : (Nt.settle1 ps t d == (K : Int)) = false := by simpa using hs
                    obtain ⟨h1, h2⟩ := Nt.shr_same (k := (K : Int)) (ps := ps) (t := t) hd (fun h => absurd h hs)
                    have HL := Lib.hid h1
                    have HE : Hid ((fun x : Nat => decide ((x : Int) ∈ Nt.shr ds ps t K (j + 1))) = fun x : Nat => decide ((x : Int) ∈ Nt.shr ds ps t K j)) := by
                      show _ = _; funext x; exact decide_eq_decide.2 (h2 x)
                    clear h1 h2 hd hs hr u0 u1
                    generalize Nt.settle1 ps t d = s1 at *
                    generalize (Nt.shr ds ps t K j).length = c at *
                    go_wp2
                    go_roundw
                    case rel => exact ⟨j + 1, rfl, hltj, by rw [HL.out], by rw [HE.out]; exact HRR2.out, HOO.out, HBB.out⟩
                    case measure => simp [intOf]; omega
                · obtain rfl : n = j := by omega
                  have hend : Nt.shr ds ps t K n = Nt.progs ds ps t K := by rw [← HN.out]; exact Nt.shr_end ds ps t K
                  have hlen := Nt.shr_len (ps := ps) (t := t) (k := (K : Int)) HIN.out n
                  rw [hend] at hR hlen ⊢
                  clear hend hltj hj
                  have hLp : Hid (∀ p : Nat, Nt.part (Nt.progs ds ps t K) (p : Int) = if (p : Int) ∈ Nt.progs ds ps t K then mkRat 1 (Nt.progs ds ps t K).length else 0) := fun p => by unfold Nt.part; rfl
                  have HES : Hid (∀ p : Nat, ¬ (p : Int) ∈ Nt.progs ds ps t K → Nt.stt q (Nt.oP ds ps t K (p + 1)) = Nt.stt q (Nt.oP ds ps t K p)) := fun p h => Nt.oP_same h
                  have HEE : Hid (∀ p : Nat, (Nt.progs ds ps t K).length = 0 → Nt.stt q (Nt.oP ds ps t K p) = Nt.stt q (Nt.oS ds ps t (K + 1))) := fun p h => Nt.oP_empty (List.length_eq_zero_iff.1 h)
                  have HEA : Hid (∀ p : Nat, (p : Int) ∈ Nt.progs ds ps t K → Nt.rAdd (Nt.rs (Nt.oS ds ps t K (p : Int))) (Nt.rs (mkRat 1 (Nt.progs ds ps t K).length)) = (Nt.rs (Nt.oS ds ps t (K + 1) (p : Int)), 0)) := fun p h => by
                    have hov1 := Nt.oS_over (ps := ps) (t := t) hq2 HIN.out K (p : Int)
                    have hpos : 0 < (Nt.progs ds ps t K).length := List.length_pos_of_mem h
                    have hov2 : Nt.Over (mkRat 1 (Nt.progs ds ps t K).length) 1 := Nt.Over.share hpos (by omega)
                    rw [Nt.rAdd_over hov1 hov2 (by omega) (by omega), Nt.oS_succ, Nt.part_in h]
                  have HSZ : Hid (∀ p : Nat, (Nt.rs (Nt.oS ds ps t K (p : Int))).2.1.size ≤ 9223372036854775807 ∧ (Nt.rs (Nt.oS ds ps t K (p : Int))).2.2.size ≤ 9223372036854775807) := fun p => over_sizes (Nt.oS_over (ps := ps) (t := t) hq2 HIN.out K (p : Int)) (by omega)
                  have HSZ2 : Hid (0 < (Nt.progs ds ps t K).length → (Nt.rs (mkRat 1 (Nt.progs ds ps t K).length)).2.1.size ≤ 9223372036854775807 ∧ (Nt.rs (mkRat 1 (Nt.progs ds ps t K).length)).2.2.size ≤ 9223372036854775807) := fun h => over_sizes (Nt.Over.share h (by omega)) (by omega)
                  have HAT : Hid (∀ p : Nat, p < q → (Nt.stt q (Nt.oP ds ps t K p))[p]? = some (Nt.rs (Nt.oS ds ps t K (p : Int)))) := fun p h => Nt.oP_at h
                  have HOF2 := Lib.hid fun W h0 => r4Of_any 1 (Nt.progs ds ps t K).length W (by omega) (by omega) h0
                  have HRN := Lib.hid hR
                  have HON := Lib.hid hO
                  have HBN := Lib.hid hB
                  generalize Nt.progs ds ps t K = L at *
                  clear hR hO hB
                  obtain ⟨we, rfl⟩ : ∃ we : World, we = wr := ⟨wr, rfl⟩
                  go_wp2_with fail
                  go_loopw [21, 22, 23] (fun pv _ _ wr => ∃ p : Nat, pv = .int .i64 p ∧ p ≤ q ∧ BR wr wq.heap.size q (fun x => decide ((x : Int) ∈ L)) ∧ OW wr W1.heap.size g cap (Nt.stt q (Nt.oP ds ps t K p)) ∧ Below W1.heap.size W1 wr) (fun pv _ _ _ => q - (intOf pv).toNat)
                  case atStart => exact ⟨0, rfl, Nat.zero_le _, HRN.out, by rw [Nt.oP_zero]; exact HON.out, HBN.out⟩
                  case round =>
                    obtain ⟨p, rfl, hpq, hR, hO, hB⟩ := hrel
                    have p0 : (0 : Int) ≤ (p : Int) := Int.natCast_nonneg _
                    by_cases hlt2 : p < q
                    · have p1 : (p : Int) < (q : Int) := by omega
                      by_cases hc0 : 0 < L.length
                      · have c0 : (0 : Int) < (L.length : Int) := by omega
                        obtain ⟨u0, u1⟩ := hR.at hlt2
                        by_cases hm : (p : Int) ∈ L
                        · rw [decide_eq_true hm] at u0
                          have HOF3 := Lib.hid fun W => HOF2.out W (by omega)
                          have hadd := HEA.out p hm
                          have hat := HAT.out p hlt2
                          have hs1 := HSZ.out p
                          have hs2 := HSZ2.out hc0
                          have HNW : Hid (Nt.stt q (Nt.oP ds ps t K (p + 1)) = (Nt.stt q (Nt.oP ds ps t K p)).set p (Nt.rs (Nt.oS ds ps t (K + 1) (p : Int)))) := Nt.oP_new
                          obtain ⟨⟨c1, c2, c3⟩, hc⟩ : ∃ c, Nt.rs (mkRat 1 L.length) = c := ⟨_, rfl⟩
                          obtain ⟨⟨x1, x2, x3⟩, hx⟩ : ∃ x, Nt.rs (Nt.oS ds ps t K (p : Int)) = x := ⟨_, rfl⟩
                          obtain ⟨⟨y1, y2, y3⟩, hy⟩ : ∃ y, Nt.rs (Nt.oS ds ps t (K + 1) (p : Int)) = y := ⟨_, rfl⟩
                          have hcc : Nt.rs (mkRat ((1 : Nat) : Int) L.length) = (c1, c2, c3) := hc
                          rw [hcc] at HOF3
                          rw [hc, hx, hy] at hadd
                          rw [hx] at hat hs1
                          rw [hc] at hs2
                          rw [hy] at HNW
                          have HA := Lib.hid fun W => r4Add_any (x1, x2, x3) (c1, c2, c3) W hs1.1 hs1.2 hs2.1 hs2.2
                          rw [hadd] at HA
                          unfold rout rv at HA HOF3
                          dsimp only at HA HOF3
                          have HAT2 := Lib.hid hat
                          have HR3 := Lib.hid hR
                          have HO3 := Lib.hid hO
                          have HB3 := Lib.hid hB
                          clear hadd hat hs1 hs2 hc hcc hx hy hR hO hB hm
                          go_wp2_with fail
                          refine (HOF3.out _).mono ?_
                          rintro e W5 ⟨rfl, hb5⟩
                          have hb6 := below_trans hb5 (below_alloc W5 (.cells #[.bool c1, .string c2, .string c3] 57))
                          have HB6 := Lib.hid hb6
                          have hpt := cells3 (kept_new (Below.refl _ (W5.alloc (.cells #[.bool c1, .string c2, .string c3] 57))))
                          obtain ⟨⟨t0, t1, t2⟩, -⟩ := hpt
                          clear hb5 hb6
                          go_upto_region 31 with (fail)
                          have hsz5 : W5.heap.size < (W5.alloc (.cells #[.bool c1, .string c2, .string c3] 57)).heap.size := by simp
                          generalize W5.alloc (.cells #[.bool c1, .string c2, .string c3] 57) = Wb at *
                          have HSS : Hid (∀ {W}, Below Wb.heap.size Wb W → W.cell? ⟨g, p * 3, none⟩ = some (.bool x1) ∧ W.cell? ⟨g, p * 3 + 1, none⟩ = some (.string x2) ∧ W.cell? ⟨g, p * 3 + 2, none⟩ = some (.string x3) ∧
                              W.cell? ⟨W5.heap.size, 0, none⟩ = some (.bool c1) ∧ W.cell? ⟨W5.heap.size, 1, none⟩ = some (.string c2) ∧ W.cell? ⟨W5.heap.size, 2, none⟩ = some (.string c3)) := fun h => by
                            obtain ⟨⟨e0, e1, e2⟩, -⟩ := (HO3.out.below (below_trans HB6.out h)).at HAT2.out
                            exact ⟨e0, e1, e2, below_cell h t0, below_cell h t1, below_cell h t2⟩
                          have HF : Hid (∀ {W}, Below Wb.heap.size Wb W → ∀ j, W.frozen? ⟨g, j, none⟩ = false) := fun h j => ((HO3.out.below (below_trans HB6.out h)).at HAT2.out).2 j
                          have hg := Below.refl Wb.heap.size Wb
                          clear t0 t1 t2
                          obtain ⟨t0, t1, t2, t3, t4, t5⟩ := HSS.out hg
                          go_region_law (first
                            | (go_simp
                               go_at_call 38
                               refine (HA.out _).mono ?_
                               rintro e W' ⟨rfl, hb⟩
                               first
                                 | have hg := below_trans hg hb
                                 | have hg := below_trans hg.drew hb
                               obtain ⟨v0, v1, v2, v3, v4, v5⟩ := HSS.out hg
                               have w0 := HF.out hg (p * 3)
                               have w1 := HF.out hg (p * 3 + 1)
                               have w2 := HF.out hg (p * 3 + 2)))
                          all_goals
                            have hbw := below_trans HB6.out hg
                            have HO4 := Lib.hid ((HO3.out.below hbw).set HAT2.out (y1, y2, y3))
                            have hne : wq.heap.size ≠ g := Nat.ne_of_gt hgl.2
                            have HR4 := Lib.hid ((((HR3.out.below hbw).other (a := ⟨g, p * 3, none⟩) hne (.bool y1)).other (a := ⟨g, p * 3 + 1, none⟩) hne (.string y2)).other (a := ⟨g, p * 3 + 2, none⟩) hne (.string y3))
                            have HB4 := Lib.hid ((((below_trans HB3.out hbw).setCell (p := ⟨g, p * 3, none⟩) hgl.1 (.bool y1)).setCell (p := ⟨g, p * 3 + 1, none⟩) hgl.1 (.string y2)).setCell (p := ⟨g, p * 3 + 2, none⟩) hgl.1 (.string y3))
                            clear hbw hg hb v0 v1 v2 v3 v4 v5 w0 w1 w2 t0 t1 t2 t3 t4 t5 u0 u1
                            go_wp2
                            go_roundw
                            case rel => exact ⟨p + 1, rfl, hlt2, HR4.out, by rw [HNW.out]; exact HO4.out, HB4.out⟩
                            case measure => simp [intOf]; omega
                        · rw [decide_eq_false hm] at u0
                          have HSM := Lib.hid (HES.out p hm)
                          have HR3 := Lib.hid hR
                          have HO3 := Lib.hid hO
                          have HB3 := Lib.hid hB
                          clear hm hR hO hB
                          go_wp2
                          go_roundw
                          case rel => exact ⟨p + 1, rfl, hlt2, HR3.out, by rw [HSM.out]; exact HO3.out, HB3.out⟩
                          case measure => simp [intOf]; omega
                      · have HEND := Lib.hid (HEE.out p (by omega))
                        have c0 : ¬ (0 : Int) < (L.length : Int) := by omega
                        have HO3 := Lib.hid hO
                        have HB3 := Lib.hid hB
                        clear hR hO hB hc0
                        go_wp2
                        go_roundw
                        case rel => exact ⟨K + 1, rfl, hlt, by rw [← HEND.out]; exact HO3.out, HB3.out⟩
                        case measure => simp [intOf]; omega
                    · obtain rfl : q = p := by omega
                      have HEND : Hid (Nt.stt q (Nt.oP ds ps t K q) = Nt.stt q (Nt.oS ds ps t (K + 1))) := Nt.oP_all ds ps t K
                      have HO3 := Lib.hid hO
                      have HB3 := Lib.hid hB
                      clear hR hO hB
                      go_wp2
                      go_roundw
                      case rel => exact ⟨K + 1, rfl, hlt, by rw [← HEND.out]; exact HO3.out, HB3.out⟩
                      case measure => simp [intOf]; omega
            · obtain rfl : K = m := by omega
              have HE : Hid (Nt.oS ds ps t K = Nt.splitR ds ps t) := by
                show _ = _
                funext x
                rw [← HM.out]; exact Nt.oS_end ds ps t x
              have HRL : Hid (RL wr (.slice (some ⟨g, 0, none⟩) q cap) (Nt.stt q (Nt.splitR ds ps t))) := by
                show RL _ _ _
                rw [HE.out] at hO
                exact RL.of_ow hO (Nt.stt_length q _)
              have HB3 := Lib.hid (below_trans HB1.out hB)
              clear hO hB
              go_wp2
              go_ret2
              exact ⟨⟨_, by rw [HRR.out]; rfl, by rw [HRR.out]; exact HRL.out⟩, HB3.out⟩
theorem r18split_all (dv pv : Value) (ds : List Nt.Deb) (ps : List Nt.Pay) (t n : Int) (w : World) (hd : DL w dv ds) (hp : PL w pv ps) :
    Calls Tryz.prog 18 #[dv, pv, .int .i64 t, .int .i64 n] w fun e w' => (∃ v, e = .returned (.tuple #[v, .int .i64 (Nt.split ds ps t n).2]) ∧ RL w' v (Nt.split ds ps t n).1) ∧ Below w.heap.size w w' := by
  cases hok : Nt.allOk ds ps t && Nt.win n 1 64 with
  | false =>
    have e : Nt.split ds ps t n = ([], 1) := splitNo (by unfold Nt.splitOk; rw [hok]; rfl)
    rw [e]
    exact (r18split_bad dv pv ds ps t n w hd hp hok).mono fun _ _ ⟨h1, h2⟩ => ⟨⟨_, h1, rl_nil _⟩, h2⟩
  | true =>
    rw [Bool.and_eq_true] at hok
    obtain ⟨h1, h2⟩ := hok
    unfold Nt.win at h2
    simp only [Bool.and_eq_true, decide_eq_true_eq] at h2
    obtain ⟨q, rfl⟩ := Int.eq_ofNat_of_zero_le (show 0 ≤ n by omega)
    exact r18split_go dv pv ds ps t q w hd hp h1 (by omega) (by omega)
end Go.Proofs.YtcphclpekllcoaaGreatDoor
