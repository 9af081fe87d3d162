/- Walks: debt.Settle. -/
import Derived.Test.YtcphclpekllcoaaGreatDoorGrp
import Derived.Maps.AppendAt
import Derived.Lib.SmallJoins
import Derived.Deep.OwnRows
namespace Go.Proofs.YtcphclpekllcoaaGreatDoor
open Go.RowKit

def clsOf (p : Nt.Pay) : Cls := (p.k, p.t, p.f)
def clsD (d : Nt.Deb) : Cls := (d.k, d.t, d.f)
/-- The payments of a class among the first k. -/
def cidx (ps : List Nt.Pay) (c : Cls) (k : Nat) : List Nat := (List.range k).filter fun j => decide ((ps[j]?).map clsOf = some c)

theorem cidx_step {ps : List Nt.Pay} {k : Nat} {p : Nt.Pay} (hp : ps[k]? = some p) :
    (fun d => if d = clsOf p then cidx ps (clsOf p) k ++ [k] else cidx ps d k) = fun d => cidx ps d (k + 1) := by
  funext d
  unfold cidx
  rw [List.range_succ, List.filter_append]
  by_cases e : d = clsOf p
  · subst e; rw [if_pos rfl]; simp [hp]
  · rw [if_neg e]
    have : ¬ clsOf p = d := fun h => e h.symm
    simp [hp, this]

theorem zero_ints (W : World) : (zeroValue 33).run Tryz.prog W = .ok (.slice none 0 0) W := by kernel_rfl

def IL (w : World) (v : Value) (xs : List Int) : Prop :=
  ∃ a c, v = .slice a xs.length c ∧ xs.length ≤ c ∧ c ≤ maxLen ∧ ((a = none ∧ xs = [] ∧ c = 0) ∨ ∃ g, a = some ⟨g, 0, none⟩ ∧ ∀ (i : Nat) (x : Int), xs[i]? = some x → w.cell? ⟨g, i, none⟩ = some (.int .i64 x))

theorem setB_block (W : World) (M : Nat) (o : Obj) {k : Nat} (h : k ≠ M) : (setB W M o).heap[k]? = W.heap[k]? := by
  show (W.heap.setIfInBounds M o)[k]? = W.heap[k]?
  rw [Array.getElem?_setIfInBounds_ne (fun e => h e.symm)]
theorem setB_size (W : World) (M : Nat) (o : Obj) : (setB W M o).heap.size = W.heap.size := by
  show (W.heap.setIfInBounds M o).size = _
  simp
theorem below_setB {B : Nat} {a W : World} (h : Below B a W) {M : Nat} (hM : B ≤ M) (o : Obj) : Below B a (setB W M o) :=
  ⟨h.os, h.tape, h.output, by rw [setB_size]; exact h.size, fun k hk => (setB_block W M o (by omega)).trans (h.block k hk)⟩

theorem newk {W : World} {x : Value} {t : TypeId} {M : Nat} (hM : M < W.heap.size) (o : Obj) : ∀ (j : Nat) (u : Value), [x][j]? = some u → (setB (W.alloc (.cells #[x] t)) M o).cell? ((⟨W.heap.size, 0, none⟩ : Addr).add j) = some u := fun j u hj => by
  rw [← cell_one_new W x t j u hj]
  exact World.cell?_of_block (setB_block _ _ _ (by
    match j, hj with
    | 0, _ => exact Nat.ne_of_gt hM))

theorem settle_step {W1 Wc w1 : World} {L1 : List (Cls × Value)} {q k : Nat} {v v' : Value} {c : Cls} {ps : List Nt.Pay} (HGe : Hid (Groups Wc W1.heap.size L1 (fun c => cidx ps c k) ∧ pos c L1 0 = some (q, v) ∧ Below W1.heap.size W1 Wc))
    (hown : Wc.ownsRow (W1.heap.size + 1) 3 1 v (cidx ps c k).length (ints (cidx ps c k))) (hgrow : Wc.grownBy w1 v.ownBlock)
    (hown' : w1.ownsRow (W1.heap.size + 1) 3 1 v' ((cidx ps c k).length + 1) (ints (cidx ps c k) ++ [.int .i64 k])) (hloc : v'.ownBlock = v.ownBlock ∨ v'.ownBlock = some Wc.heap.size)
    (HSTEP : Hid ((fun d => if d = c then cidx ps c k ++ [k] else cidx ps d k) = fun d => cidx ps d (k + 1))) :
    ∃ W5, (Instr.entryStore 68 (.map (some W1.heap.size)) (.int .i64 (q : Nat)) v').run Tryz.prog w1 = .ok () W5 ∧ Hid (Below W1.heap.size W1 W5) ∧ Hid (Groups W5 W1.heap.size (setv L1 q v') (fun c => cidx ps c (k + 1))) := by
  obtain ⟨hG, hpos, hb⟩ := HGe
  obtain ⟨hmp, hql, hG5⟩ := hG.store hpos k hgrow hown' hloc
  refine ⟨_, run_entryStore (P := Tryz.prog) (kv := cv) 68 w1 W1.heap.size L1 q hql v' hmp, ?_, ?_⟩
  · refine below_setB (hb.grown hgrow (Nat.le_of_lt hG.lt) (fun j hj => ?_)) (Nat.le_refl _) _
    exact Nat.le_of_succ_le (hown.lt j hj).1
  · have h := hG5
    have e : (fun d => if d = c then (fun c => cidx ps c k) c ++ [k] else (fun c => cidx ps c k) d) = fun d => cidx ps d (k + 1) := HSTEP
    rw [e] at h
    exact h

theorem madeCells_size (n : Nat) : (madeCells #[.int .i64 0] n).size = n := by simp [madeCells]

theorem got_own {W : World} {M : Nat} {L : List (Cls × Value)} {idx : Cls → List Nat} (h : Groups W M L idx) (c : Cls) : LB W (got c nilS L) (idx c) := by
  unfold got
  cases hp : pos c L 0 with
  | none => rw [h.rest c hp]; exact LB.of_own (World.ownsRow_nil W 0 3 1)
  | some x =>
    obtain ⟨_, hat⟩ := pos_at c L 0 x.1 x.2 hp
    exact LB.of_own (h.owns x.1 c x.2 hat)

theorem settle1_idx (ps : List Nt.Pay) (t : Int) (d : Nt.Deb) : Nt.bst d ps t (cidx ps (clsD d) ps.length) (cidx ps (clsD d) ps.length).length = Nt.settle1 ps t d := by
  unfold Nt.bst Nt.settle1 cidx
  rw [List.take_length]
  refine Nt.foldl_filter d ps t _ (fun k p hk hf => ?_) _ _
  rw [hk] at hf
  have hne : ¬ clsOf p = clsD d := by simpa using hf
  cases hfit : Nt.fit d p t with
  | false => rfl
  | true =>
    exfalso
    apply hne
    simp only [Nt.fit, Bool.and_eq_true, decide_eq_true_eq] at hfit
    obtain ⟨⟨⟨h1, h2⟩, h3⟩, _⟩ := hfit
    simp [clsOf, clsD, h1, h2, h3]

theorem cidx_at {ps : List Nt.Pay} {c : Cls} {n q k : Nat} (h : (cidx ps c n)[q]? = some k) : k < n ∧ (ps[k]?).map clsOf = some c := by
  have := List.mem_of_getElem? h
  unfold cidx at this
  simpa using this

def OutI (wo W : World) (ds : List Nt.Deb) (ps : List Nt.Pay) (t : Int) (i : Nat) : Prop :=
  ∃ cur : Array Value, W.heap[wo.heap.size]? = some (.cells cur 3) ∧ cur.size = ds.length ∧ ∀ (j : Nat) (d : Nt.Deb), j < i → ds[j]? = some d → cur[j]? = some (.int .i64 (Nt.settle1 ps t d))

theorem fit_cls {d : Nt.Deb} {p : Nt.Pay} {t : Int} (h : clsOf p = (d.k, d.t, d.f)) : Nt.fit d p t = Nt.win p.at_ d.fr (min d.un t) := by
  unfold clsOf at h
  simp only [Prod.mk.injEq] at h
  unfold Nt.fit
  rw [decide_eq_true h.1.symm, decide_eq_true h.2.1.symm, decide_eq_true h.2.2.symm]; rfl
theorem out_cell {W : World} {N i : Nat} {cur : Array Value} {v : Value} (hi : i < cur.size) (h : W.heap[N]? = some (.cells (cur.setIfInBounds i v) 3)) :
    W.cell? ⟨N, i, none⟩ = some v ∧ W.frozen? ⟨N, i, none⟩ = false :=
  ⟨by rw [cell_of_row W N i _ 3 (0, 0) h]; simp [hi], by simp [World.frozen?, h]⟩
theorem row_set2 {W : World} {N i : Nat} {cur : Array Value} {u v : Value} (h : W.heap[N]? = some (.cells (cur.setIfInBounds i u) 3)) :
    (W.setCell ⟨N, i, none⟩ v).heap[N]? = some (.cells (cur.setIfInBounds i v) 3) := by
  have := row_setCell (i := i) (u := v) h
  rwa [Array.setIfInBounds_setIfInBounds] at this
theorem out_next {wo W : World} {ds : List Nt.Deb} {ps : List Nt.Pay} {t : Int} {i : Nat} {cur : Array Value} {d : Nt.Deb} {b : Int} (hb : b = Nt.settle1 ps t d) (h1 : cur.size = ds.length)
    (h2 : ∀ (j : Nat) (d : Nt.Deb), j < i → ds[j]? = some d → cur[j]? = some (.int .i64 (Nt.settle1 ps t d))) (hd : ds[i]? = some d) (h : W.heap[wo.heap.size]? = some (.cells (cur.setIfInBounds i (.int .i64 b)) 3)) : OutI wo W ds ps t (i + 1) := by
  refine ⟨_, h, by simp [h1], fun j e hj he => ?_⟩
  have hi : i < ds.length := (List.getElem?_eq_some_iff.1 hd).1
  by_cases hji : i = j
  · subst hji
    rw [hd] at he
    obtain rfl := Option.some.inj he
    rw [Array.getElem?_setIfInBounds_self, if_pos (by omega), hb]
  · rw [Array.getElem?_setIfInBounds_ne hji]
    exact h2 j e (by omega) he
theorem out_done {wo W : World} {ds : List Nt.Deb} {ps : List Nt.Pay} {t : Int} {cur : Array Value} (h : W.heap[wo.heap.size]? = some (.cells cur 3)) (_h1 : cur.size = ds.length)
    (h2 : ∀ (j : Nat) (d : Nt.Deb), j < ds.length → ds[j]? = some d → cur[j]? = some (.int .i64 (Nt.settle1 ps t d))) (hm : ds.length ≤ maxLen) : IL W (.slice (some ⟨wo.heap.size, 0, none⟩) ds.length ds.length) (Nt.settle ds ps t) := by
  have hl : (Nt.settle ds ps t).length = ds.length := by simp [Nt.settle]
  refine ⟨some ⟨wo.heap.size, 0, none⟩, ds.length, by rw [hl], by omega, hm, .inr ⟨_, rfl, fun i x hx => ?_⟩⟩
  unfold Nt.settle at hx
  rw [List.getElem?_map] at hx
  cases hd : ds[i]? with
  | none => rw [hd] at hx; cases hx
  | some d =>
    rw [hd] at hx
    obtain rfl := Option.some.inj hx
    rw [cell_of_row W _ i cur 3 (0, 0) h]
    exact h2 i d (List.getElem?_eq_some_iff.1 hd).1 hd
theorem copy_kept {W W' : World} {o : Obj} {N i : Nat} {v : Value} (h : (W.alloc o).heap[W.heap.size]? = some o) (hne : ¬ W.heap.size = N) (hK : Kp (· = N) ((W.alloc o).setCell ⟨N, i, none⟩ v) W') : W'.heap[W.heap.size]? = some o := by
  have h1 : ((W.alloc o).setCell ⟨N, i, none⟩ v).heap[W.heap.size]? = some o := (Below.heap_setCell _ _ _ _ hne).trans h
  exact (hK.block _ (lt_of_block h1) hne).trans h1

set_option maxHeartbeats 3200000 in
set_option maxRecDepth 100000 in
theorem settle_any (dv pv : Value) (ds : List Nt.Deb) (ps : List Nt.Pay) (t : Int) (w : World) (hd : DL w dv ds) (hp : PL w pv ps) (hok : Nt.allOk ds ps t = true) :
    Calls Tryz.prog 13 #[dv, pv, .int .i64 t] w fun e w' => (∃ v, e = .returned (.tuple #[v, .int .i64 0]) ∧ IL w' v (Nt.settle ds ps t)) ∧ Below w.heap.size w w' := by
  have HV := Lib.hid (dvalid_any dv pv ds ps t w hd hp)
  rw [hok] at HV
  have hmm := @run_makeMap Tryz.prog
  obtain ⟨i0, hi, hz0, hz1, hz2⟩ := info_parts info_int
  obtain ⟨l1, l2⟩ : ds.length ≤ 1000 ∧ ps.length ≤ 1000 := by unfold Nt.allOk at hok; simp only [Bool.and_eq_true, decide_eq_true_eq] at hok; exact ⟨hok.1.1.1.1, hok.1.1.1.2⟩
  have HOK := Lib.hid hok
  clear hok
  obtain ⟨da, dc, rfl, d1, d2, d3⟩ := hd
  have HD : Hid (DL w (.slice da (ds.map dcells).length dc) ds) := ⟨da, dc, rfl, d1, d2, d3⟩
  obtain ⟨pa, pc, rfl, p1, p2, p3⟩ := hp
  have HP : Hid (PL w (.slice pa (ps.map pcells).length pc) ps) := ⟨pa, pc, rfl, p1, p2, p3⟩
  clear d1 d2 d3 p1 p2 p3
  rw [List.length_map] at HD HP HV ⊢
  rw [List.length_map] at HV ⊢
  go_enter Tryz.func13, Tryz.ntmps13
  go_wp2_with fail
  refine HV.out.mono ?_
  rintro e W1 ⟨rfl, hb1⟩
  have HB1 := Lib.hid hb1
  clear hb1
  go_wp2_with fail
  go_loopw [26] (fun i wr => ∃ k : Nat, i = .int .i64 k ∧ k ≤ ps.length ∧ Below W1.heap.size W1 wr ∧ ∃ L, Groups wr W1.heap.size L (fun c => cidx ps c k)) (fun i _ => ps.length - (intOf i).toNat)
  case atStart => exact ⟨0, rfl, Nat.zero_le _, below_alloc _ _, [], Groups.start (kept_new (Below.refl _ _))⟩
  case round =>
    obtain ⟨k, rfl, hk, hB, L, hG⟩ := hrel
    by_cases hlt : k < ps.length
    · obtain ⟨d, hd⟩ : ∃ d, ps[k]? = some d := ⟨_, List.getElem?_eq_getElem hlt⟩
      obtain ⟨p, rfl, _, e0, e1, e2, e3⟩ := PL.at HP.out hd
      have f0 := below_cell hB (below_cell HB1.out e0)
      have f1 := below_cell hB (below_cell HB1.out e1)
      have f2 := below_cell hB (below_cell HB1.out e2)
      have f3 := below_cell hB (below_cell HB1.out e3)
      clear e0 e1 e2 e3
      have HSTEP := Lib.hid (cidx_step hd)
      obtain ⟨dk, dt, df, dat⟩ := d
      dsimp only at f0 f1 f2 f3
      have hBa := Go.Joins.below_alloc3 wr (.cells #[.int .i64 dk, .int .i64 dt, .int .i64 df, .int .i64 dat] 49) (.cells #[.int .i64 dk, .int .i64 dt, .int .i64 df] 65) (.cells #[.int .i64 k] 3)
      have hG3 := hG.below hBa
      have hBA := Lib.hid (below_trans hB hBa)
      have hme := run_mapEntry keyCls Tryz.underlying68 nilS _ zero_ints W1.heap.size L (dk, dt, df) hG3.mp
      obtain ⟨hGe, hpos⟩ := hG3.entry (dk, dt, df)
      obtain ⟨_, hat⟩ := pos_at _ _ _ _ _ hpos
      have hown := hGe.owns _ _ _ hat
      have hs2 : ((wr.alloc (.cells #[.int .i64 dk, .int .i64 dt, .int .i64 df, .int .i64 dat] 49)).alloc (.cells #[.int .i64 dk, .int .i64 dt, .int .i64 df] 65)).heap.size = wr.heap.size + 1 + 1 := by simp
      have hnk := newk (W := (wr.alloc (.cells #[.int .i64 dk, .int .i64 dt, .int .i64 df, .int .i64 dat] 49)).alloc (.cells #[.int .i64 dk, .int .i64 dt, .int .i64 df] 65)) (x := .int .i64 k) (t := 3) (M := W1.heap.size)
        (by have := hG.lt; rw [hs2]; omega) (.map (ents cv 0 (ins (dk, dt, df) nilS L)).toArray (ins (dk, dt, df) nilS L).length)
      rw [hs2] at hnk
      have hbB := below_setB hBA.out (Nat.le_refl _) (.map (ents cv 0 (ins (dk, dt, df) nilS L)).toArray (ins (dk, dt, df) nilS L).length)
      have hms : W1.heap.size + 1 ≤ (setB (((wr.alloc (.cells #[.int .i64 dk, .int .i64 dt, .int .i64 df, .int .i64 dat] 49)).alloc (.cells #[.int .i64 dk, .int .i64 dt, .int .i64 df] 65)).alloc (.cells #[.int .i64 k] 3)) W1.heap.size (.map (ents cv 0 (ins (dk, dt, df) nilS L)).toArray (ins (dk, dt, df) nilS L).length)).heap.size := hGe.lt
      have hme' : (Instr.mapEntry 68 (.map (some W1.heap.size)) (.agg #[.int .i64 dk, .int .i64 dt, .int .i64 df])).run Tryz.prog _ = _ := hme
      generalize hWc : setB (((wr.alloc (.cells #[.int .i64 dk, .int .i64 dt, .int .i64 df, .int .i64 dat] 49)).alloc (.cells #[.int .i64 dk, .int .i64 dt, .int .i64 df] 65)).alloc (.cells #[.int .i64 k] 3)) W1.heap.size (.map (ents cv 0 (ins (dk, dt, df) nilS L)).toArray (ins (dk, dt, df) nilS L).length) = Wc at hme' hGe hnk hown hbB hms
      generalize hL1 : ins (dk, dt, df) nilS L = L1 at hGe hpos
      generalize hq : plc (dk, dt, df) L = q at hpos hme'
      generalize hv : got (dk, dt, df) nilS L = v at hpos hme' hown
      have hlen : (cidx ps (dk, dt, df) k).length ≤ 1000 := Nat.le_trans (List.length_filter_le _ _) (by rw [List.length_range]; omega)
      have HGe := Lib.hid (And.intro hGe (And.intro hpos hbB))
      have HB' := Lib.hid hB
      clear hme hWc hL1 hq hv hGe hpos hat hG hG3 hBa hs2 hB hbB hd
      go_wp2_with (at_builtin; go_must (refine wpList_append_own_at _ rfl _ _ 33 rfl (W1.heap.size + 1) 3 i0 (.int .i64 0) 1 8 Tryz.underlying33 hi hz0 hz1 hz2 rfl (by decide) v _ _ rfl hown ⟨wr.heap.size + 1 + 1, 0, none⟩ 1 1 [.int .i64 k] rfl rfl hnk (by intro u hu; simp at hu; subst hu; rfl) (by unfold maxLen; omega) (by omega) hms ?_); intro v' w1 hown' hgrow hnil hloc)
      obtain ⟨W5, hes, hB5, hG5'⟩ := settle_step HGe hown hgrow hown' hloc HSTEP
      clear hown hown' hgrow hnil hloc hnk hme' HGe HSTEP
      rw [hes]
      clear hes
      simp only [Result.andThen_ok]
      go_wp2
      go_roundw
      case rel => exact ⟨k + 1, rfl, hlt, hB5.out, _, hG5'.out⟩
      case measure => simp [intOf]; omega
    · obtain rfl : k = ps.length := by omega
      obtain ⟨wo, rfl⟩ : ∃ wo : World, wo = wr := ⟨wr, rfl⟩
      have HG := Lib.hid hG
      have HBo := Lib.hid hB
      clear hG hB hlt hk
      have hmk := fun W => run_make_row' (P := Tryz.prog) 33 3 (.int .i64 0) 8 Tryz.underlying33 info_int rfl .i64 .i64 ds.length (by omega) (by omega) W
      go_wp2
      go_loopw [52] (fun i wr => ∃ k : Nat, i = .int .i64 k ∧ k ≤ ds.length ∧ Below wo.heap.size wo wr ∧ OutI wo wr ds ps t k) (fun i _ => ds.length - (intOf i).toNat)
      case atStart => exact ⟨0, rfl, Nat.zero_le _, below_alloc _ _, _, kept_new (Below.refl _ _), madeCells_size _, fun j d h => absurd h (Nat.not_lt_zero j)⟩
      case round =>
        obtain ⟨i, rfl, hil, hB2, cur, hrow, hcs, hcur⟩ := hrel
        obtain ⟨wq, rfl⟩ : ∃ wq : World, wq = wr := ⟨wr, rfl⟩
        by_cases hlt : i < ds.length
        · obtain ⟨d, hd⟩ : ∃ d, ds[i]? = some d := ⟨_, List.getElem?_eq_getElem hlt⟩
          obtain ⟨p, rfl, _, e0, e1, e2, e3, e4, e5⟩ := DL.at HD.out hd
          have HB3 := Lib.hid (below_trans (below_trans HB1.out HBo.out) hB2)
          have f0 := below_cell HB3.out e0
          have f1 := below_cell HB3.out e1
          have f2 := below_cell HB3.out e2
          have f3 := below_cell HB3.out e3
          have f4 := below_cell HB3.out e4
          have f5 := below_cell HB3.out e5
          clear e0 e1 e2 e3 e4 e5
          obtain ⟨dk, dt, df, dfr, dun, dpr⟩ := d
          dsimp only at f0 f1 f2 f3 f4 f5
          have hA : (wq.alloc (.cells #[.int .i64 dk, .int .i64 dt, .int .i64 df, .int .i64 dfr, .int .i64 dun, .int .i64 dpr] 47)).heap[wo.heap.size]? = some (.cells cur 3) := ((below_alloc wq _).block _ (lt_of_block hrow)).trans hrow
          have hC := kept_new (Below.refl _ (wq.alloc (.cells #[.int .i64 dk, .int .i64 dt, .int .i64 df, .int .i64 dfr, .int .i64 dun, .int .i64 dpr] 47)))
          have hBn := (hB2.alloc hB2.size (.cells #[.int .i64 dk, .int .i64 dt, .int .i64 df, .int .i64 dfr, .int .i64 dun, .int .i64 dpr] 47)).setCell (p := ⟨wo.heap.size, i, none⟩) (Nat.le_refl _) (.int .i64 (-1))
          have hcw : ∃ x, (wq.alloc (.cells #[.int .i64 dk, .int .i64 dt, .int .i64 df, .int .i64 dfr, .int .i64 dun, .int .i64 dpr] 47)).cell? ⟨wo.heap.size, i, none⟩ = some x := by
            refine ⟨cur[i]'(by omega), ?_⟩
            rw [cell_of_row _ _ i cur 3 (0, 0) hA]; simp
          obtain ⟨x, hcw⟩ := hcw
          have hfw : (wq.alloc (.cells #[.int .i64 dk, .int .i64 dt, .int .i64 df, .int .i64 dfr, .int .i64 dun, .int .i64 dpr] 47)).frozen? ⟨wo.heap.size, i, none⟩ = false := by simp [World.frozen?, hA]
          have hlk := run_lookup (kv := cv) keyCls Tryz.underlying68 nilS _ (zero_ints _) W1.heap.size L (dk, dt, df) (HG.out.below hBn).mp
          have hlk' : (Instr.lookup 68 (.map (some W1.heap.size)) (.agg #[.int .i64 dk, .int .i64 dt, .int .i64 df]) false).run Tryz.prog _ = _ := hlk
          have hLB := got_own HG.out (dk, dt, df)
          have hfin := settle1_idx ps t ⟨dk, dt, df, dfr, dun, dpr⟩
          have hxs := fun q k => cidx_at (ps := ps) (c := (dk, dt, df)) (n := ps.length) (q := q) (k := k)
          have hx1000 : (cidx ps (dk, dt, df) ps.length).length ≤ 1000 := Nat.le_trans (List.length_filter_le _ _) (by rw [List.length_range]; omega)
          have hfin' : Nt.bst ⟨dk, dt, df, dfr, dun, dpr⟩ ps t (cidx ps (dk, dt, df) ps.length) (cidx ps (dk, dt, df) ps.length).length = _ := hfin
          obtain ⟨va, vc, hv, g1, g2, g3⟩ := hLB
          rw [hv] at hlk'
          have HLB : Hid (LB wo (.slice va (cidx ps (dk, dt, df) ps.length).length vc) (cidx ps (dk, dt, df) ps.length)) := ⟨va, vc, rfl, g1, g2, g3⟩
          clear hfin hv g1 g2 g3 hlk
          generalize cidx ps (dk, dt, df) ps.length = xs at hxs hx1000 hfin' hlk' HLB
          have HXS := Lib.hid hxs
          have HFIN := Lib.hid hfin'
          have HBn := Lib.hid hBn
          have HA := Lib.hid hA
          have HC := Lib.hid hC
          have HROW := Lib.hid (And.intro hrow (And.intro hcs hcur))
          have HDI := Lib.hid hd
          have HB2 := Lib.hid hB2
          have hNC : wq.heap.size ≠ wo.heap.size := by have := lt_of_block hrow; omega
          have hn1 : ¬ wq.heap.size = wo.heap.size := hNC
          have hn2 : ¬ wo.heap.size = wq.heap.size := fun e => hNC e.symm
          have hicur : i < cur.size := by omega
          clear hxs hfin' hBn hA hC hrow hcs hcur hd hB2 hNC
          go_wp2
          go_loopw [70] (fun s wr => ∃ q : Nat, s = .int .i64 q ∧ q ≤ xs.length ∧ Kp (· = wo.heap.size) ((wq.alloc (.cells #[.int .i64 dk, .int .i64 dt, .int .i64 df, .int .i64 dfr, .int .i64 dun, .int .i64 dpr] 47)).setCell ⟨wo.heap.size, i, none⟩ (.int .i64 (-1))) wr ∧
            wr.heap[wo.heap.size]? = some (.cells (cur.setIfInBounds i (.int .i64 (Nt.bst ⟨dk, dt, df, dfr, dun, dpr⟩ ps t xs q))) 3)) (fun s _ => xs.length - (intOf s).toNat)
          case atStart => exact ⟨0, rfl, Nat.zero_le _, Kp.refl _ _, row_setCell HA.out⟩
          case round =>
            obtain ⟨q, rfl, hq, hK, hrowi⟩ := hrel
            have hBi : Below wo.heap.size wo wr := HBn.out.trans (hK.below (fun _ e => Nat.le_of_eq e.symm) HBn.out.size)
            by_cases hql : q < xs.length
            · obtain ⟨k, hxk⟩ : ∃ k, xs[q]? = some k := ⟨_, List.getElem?_eq_getElem hql⟩
              obtain ⟨hkn, hkc⟩ := HXS.out q k hxk
              obtain ⟨pay, hpk⟩ : ∃ pay, ps[k]? = some pay := ⟨_, List.getElem?_eq_getElem hkn⟩
              obtain ⟨g, rfl, _, v1⟩ := LB.at HLB.out hql
              rw [hxk] at v1
              have v2 := below_cell hBi v1
              obtain ⟨pp, rfl, _, a0, a1, a2, a3⟩ := PL.at HP.out hpk
              have HB4 := Lib.hid (below_trans (below_trans HB1.out HBo.out) hBi)
              have b3 := below_cell HB4.out a3
              rw [Option.getD_some] at v2
              have hcls : clsOf pay = (dk, dt, df) := by rw [hpk] at hkc; simpa using hkc
              have hfit := fit_cls (d := ⟨dk, dt, df, dfr, dun, dpr⟩) (t := t) hcls
              have hbs := Nt.bst_succ (d := ⟨dk, dt, df, dfr, dun, dpr⟩) (ps := ps) (t := t) hxk
              have hform := Nt.bst_form ⟨dk, dt, df, dfr, dun, dpr⟩ ps t xs q
              obtain ⟨oc, ocf⟩ := out_cell hicur hrowi
              have hCi := copy_kept HC.out hn1 hK
              obtain ⟨-, -, -, k3, k4, -⟩ := cells6 hCi
              generalize Nt.bst ⟨dk, dt, df, dfr, dun, dpr⟩ ps t xs q = b at hbs hform oc hrowi
              obtain ⟨pk, pt, pf, pat⟩ := pay
              dsimp only at b3 hfit
              have HW := Lib.hid fun W => within_any pat dfr (min dun t) W
              have hK' := Lib.hid hK
              have HRI := Lib.hid hrowi
              have HBS := Lib.hid hbs
              have HPK := Lib.hid hpk
              have HFIT := Lib.hid hfit
              clear hK hrowi hbs hpk hfit hcls hkc hxk a0 a1 a2 a3 v1 hBi hCi
              cases hw : Nt.win pat dfr (min dun t) with
              | false =>
                rw [hw] at HW
                have HNB : Hid (Nt.bst ⟨dk, dt, df, dfr, dun, dpr⟩ ps t xs (q + 1) = b) := HBS.out.trans (Nt.better_no HPK.out (fun h => by rw [HFIT.out, hw] at h; cases h.1))
                clear hw hform
                go_wp2_with fail
                refine (HW.out _).mono ?_
                rintro e W7 ⟨rfl, rfl⟩
                go_wp2
                go_roundw
                case rel => exact ⟨q + 1, rfl, hql, hK'.out, by rw [HNB.out]; exact HRI.out⟩
                case measure => simp [intOf]; omega
              | true =>
                rw [hw] at HW
                have HF : Hid (Nt.fit ⟨dk, dt, df, dfr, dun, dpr⟩ ⟨pk, pt, pf, pat⟩ t = true) := HFIT.out.trans hw
                clear hw
                by_cases hb : b < 0
                · have HYB : Hid (Nt.bst ⟨dk, dt, df, dfr, dun, dpr⟩ ps t xs (q + 1) = (k : Int)) := HBS.out.trans (Nt.better_yes HPK.out HF.out (.inl hb))
                  clear hform
                  go_wp2_with fail
                  refine (HW.out _).mono ?_
                  rintro e W7 ⟨rfl, rfl⟩
                  go_wp2
                  go_roundw
                  case rel => exact ⟨q + 1, rfl, hql, hK'.out.setCell (p := ⟨wo.heap.size, i, none⟩) rfl _, by rw [HYB.out]; exact row_set2 HRI.out⟩
                  case measure => simp [intOf]; omega
                · obtain ⟨j, hj, rfl⟩ := hform.resolve_left (fun e => hb (by rw [e]; decide))
                  obtain ⟨pj, hpj⟩ : ∃ pj, ps[j]? = some pj := ⟨_, List.getElem?_eq_getElem hj⟩
                  obtain ⟨_, r1, _, a0, a1, a2, a3⟩ := PL.at HP.out hpj
                  obtain rfl := Option.some.inj r1
                  have b4 := below_cell HB4.out a3
                  clear a0 a1 a2 a3 hform
                  by_cases hlt2 : pat < pj.at_
                  · have HYB : Hid (Nt.bst ⟨dk, dt, df, dfr, dun, dpr⟩ ps t xs (q + 1) = (k : Int)) := HBS.out.trans (Nt.better_yes HPK.out HF.out (.inr (fun x hx => by rw [Int.toNat_natCast, hpj] at hx; obtain rfl := Option.some.inj hx; exact hlt2)))
                    clear hpj
                    go_wp2_with fail
                    refine (HW.out _).mono ?_
                    rintro e W7 ⟨rfl, rfl⟩
                    go_wp2
                    go_roundw
                    case rel => exact ⟨q + 1, rfl, hql, hK'.out.setCell (p := ⟨wo.heap.size, i, none⟩) rfl _, by rw [HYB.out]; exact row_set2 HRI.out⟩
                    case measure => simp [intOf]; omega
                  · have HNB : Hid (Nt.bst ⟨dk, dt, df, dfr, dun, dpr⟩ ps t xs (q + 1) = (j : Int)) := HBS.out.trans (Nt.better_no HPK.out (fun h => h.2.elim hb (fun h => hlt2 (h pj (by rw [Int.toNat_natCast]; exact hpj)))))
                    clear hpj
                    go_wp2_with fail
                    refine (HW.out _).mono ?_
                    rintro e W7 ⟨rfl, rfl⟩
                    go_wp2
                    go_roundw
                    case rel => exact ⟨q + 1, rfl, hql, hK'.out, by rw [HNB.out]; exact HRI.out⟩
                    case measure => simp [intOf]; omega
            · obtain rfl : q = xs.length := by omega
              have HROWI := Lib.hid hrowi
              have HBI := Lib.hid hBi
              clear hrowi hBi hK hql hq
              go_wp2
              go_roundw
              case rel => exact ⟨i + 1, rfl, hlt, HBI.out, out_next HFIN.out HROW.out.2.1 HROW.out.2.2 HDI.out HROWI.out⟩
              case measure => simp [intOf]; omega
        · obtain rfl : i = ds.length := by omega
          have HROW := Lib.hid (out_done (t := t) hrow hcs hcur)
          have HB5 := Lib.hid (below_trans (below_trans HB1.out HBo.out) hB2)
          clear hrow hcs hcur hB2
          go_wp2
          go_ret2
          exact ⟨⟨_, rfl, HROW.out (by unfold maxLen; omega)⟩, HB5.out⟩
end Go.Proofs.YtcphclpekllcoaaGreatDoor
