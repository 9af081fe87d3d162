/- Walks: debt.Split. -/
import Derived.Test.YtcphclpekllcoaaGreatDoorSh
namespace Go.Proofs.YtcphclpekllcoaaGreatDoor
open Go.RowKit

/-- The sharers of the first i debts. -/
def ShI (W : World) (M : Nat) (ds : List Nt.Deb) (ps : List Nt.Pay) (t : Int) (i : Nat) : Prop := ∃ A, ShM W M A ∧ Nt.Shares (ds.take i) ps t (flat A)

theorem take_at {α : Type} {l : List α} {i : Nat} {x : α} (h : l[i]? = some x) : l.take (i + 1) = l.take i ++ [x] := by rw [List.take_add_one, h]; rfl

theorem ShI.skip {W' : World} {M : Nat} {ds : List Nt.Deb} {ps : List Nt.Pay} {t : Int} {i : Nat} {A : ShA} {d : Nt.Deb} {s : Int} (hM : ShM W' M A) (hS : Nt.Shares (ds.take i) ps t (flat A)) (hd : ds[i]? = some d) (hs : Nt.settle1 ps t d = s) (h0 : s < 0) : ShI W' M ds ps t (i + 1) :=
  ⟨A, hM, by rw [take_at hd]; exact hS.skip (by omega)⟩
theorem ShI.old {W' : World} {M : Nat} {ds : List Nt.Deb} {ps : List Nt.Pay} {t : Int} {i j b : Nat} {l : List Int} {A : ShA} {d : Nt.Deb} {s : Int} (hA : A[j]? = some (s, b, l)) (hM : ShM W' M (A.set j (s, b, Nt.addp l d.pr))) (hS : Nt.Shares (ds.take i) ps t (flat A)) (hd : ds[i]? = some d) (hs : Nt.settle1 ps t d = s) : ShI W' M ds ps t (i + 1) := by
  subst hs
  refine ⟨_, hM, ?_⟩
  rw [take_at hd, flat_setA]
  exact hS.old (l := l) (by unfold flat; rw [List.getElem?_map, hA]; rfl)
theorem ShI.new {W' : World} {M : Nat} {ds : List Nt.Deb} {ps : List Nt.Pay} {t : Int} {i b : Nat} {A : ShA} {d : Nt.Deb} {s : Int} (hA : pos s (A.map ent) 0 = none) (hM : ShM W' M ((A ++ [(s, b, [])]).set A.length (s, b, Nt.addp [] d.pr))) (hS : Nt.Shares (ds.take i) ps t (flat A)) (hd : ds[i]? = some d) (hs : Nt.settle1 ps t d = s) (h0 : ¬ s < 0) : ShI W' M ds ps t (i + 1) := by
  subst hs
  refine ⟨_, hM, ?_⟩
  have e : flat ((A ++ [(Nt.settle1 ps t d, b, [])]).set A.length (Nt.settle1 ps t d, b, Nt.addp [] d.pr)) = flat A ++ [(Nt.settle1 ps t d, [d.pr])] := by
    rw [flat_setA]
    simp [flat, Nt.addp]
  rw [take_at hd, e]
  refine hS.new (by omega) fun x hx => ?_
  obtain ⟨y, hy, rfl⟩ := List.mem_map.1 hx
  exact pos_ent_none hA y hy
theorem all_take {ds : List Nt.Deb} {i : Nat} {d : Nt.Deb} {n : Int} (h : ∀ d ∈ ds.take i, d.pr < n) (hd : ds[i]? = some d) (hp : d.pr < n) : ∀ d ∈ ds.take (i + 1), d.pr < n := by
  intro e he
  rw [take_at hd] at he
  rcases List.mem_append.1 he with he | he
  · exact h e he
  · rw [List.mem_singleton] at he; subst he; exact hp
theorem kp_below {a w w' : World} {B b : Nat} (h : Below B a w) (hk : Kp (· = b) w w') (hb : B ≤ b) (h0 : B ≤ a.heap.size) : Below B a w' := h.trans (hk.below (fun _ e => e ▸ hb) (Nat.le_trans h0 h.size))
theorem split_no {ds : List Nt.Deb} {ps : List Nt.Pay} {t n : Int} {d : Nt.Deb} {i : Nat} (h : Nt.splitOk ds ps t n = ds.all fun d => decide (d.pr < n)) (hd : ds[i]? = some d) (hp : ¬ d.pr < n) : Nt.split ds ps t n = ([], 1) := by
  have : Nt.splitOk ds ps t n = false := by
    rw [h, List.all_eq_false]
    exact ⟨d, List.mem_of_getElem? hd, by simpa using hp⟩
  unfold Nt.split
  rw [this]; rfl
theorem info_rat : (Tryz.prog.info? 57).map (fun i => (i.zero, i.size, i.bytes)) = some (some (.agg #[.bool false, .string ByteArray.empty, .string ByteArray.empty]), 3, 40) := by kernel_rfl
def rz : Nt.RS := (false, ByteArray.empty, ByteArray.empty)
theorem rats_made (n : Nat) : madeCells (.agg #[.bool false, .string ByteArray.empty, .string ByteArray.empty] : Value).cells (n * 3) = (List.replicate n (rcells rz)).flatten.toArray := by
  have hz : (.agg #[.bool false, .string ByteArray.empty, .string ByteArray.empty] : Value).cells = #[.bool false, .string ByteArray.empty, .string ByteArray.empty] := by simp [Value.cells]
  rw [hz]
  apply Array.ext'
  refine List.ext_getElem? fun i => ?_
  have hl : ∀ y ∈ List.replicate n (rcells rz), y.length = 3 := by intro y hy; rw [(List.mem_replicate.1 hy).2]; rfl
  by_cases h : i < n * 3
  · have h1 : (List.replicate n (rcells rz))[i / 3]? = some (rcells rz) := by rw [List.getElem?_replicate, if_pos (by omega)]
    have h2 : ∃ y, (rcells rz)[i % 3]? = some y ∧ [Value.bool false, .string ByteArray.empty, .string ByteArray.empty][i % 3]?.getD default = y := by
      have : i % 3 = 0 ∨ i % 3 = 1 ∨ i % 3 = 2 := by omega
      rcases this with e | e | e <;> rw [e] <;> exact ⟨_, rfl, rfl⟩
    obtain ⟨y, hy1, hy2⟩ := h2
    have h3 := flat_at _ hl (i / 3) (i % 3) _ _ h1 hy1
    rw [show i / 3 * 3 + i % 3 = i by omega] at h3
    rw [List.toList_toArray, h3]
    simp [madeCells, h]
    exact hy2
  · rw [List.getElem?_eq_none (by simp [madeCells]; omega), List.getElem?_eq_none]
    have : (List.replicate n (rcells rz)).flatten.length = n * 3 := by simp [rcells]
    rw [List.toList_toArray, this]; omega
theorem run_make_rats (n : Nat) (h : n ≤ 64) (W : World) : (Instr.makeSlice 38 (.int .i64 (n : Int)) (.int .i64 (n : Int))).run Tryz.prog W = .ok (.slice (some ⟨W.heap.size, 0, none⟩) n n) (W.alloc (.cells (List.replicate n (rcells rz)).flatten.toArray 57)) := by
  obtain ⟨i, hi, hzz⟩ := Option.map_eq_some_iff.1 info_rat
  simp only [Prod.mk.injEq] at hzz
  obtain ⟨hz, hs, hb⟩ := hzz
  have hr := run_make (P := Tryz.prog) W 38 57 i _ Tryz.underlying38 hi hz .i64 .i64 n n (by omega) (Int.le_refl _) (by rw [hb]; omega) (by omega)
  simp only [Int.toNat_natCast, hs, rats_made] at hr
  exact hr
theorem sums_start (wo : World) (m : Nat) : Sums ((wo.alloc (.cells (List.replicate m (rcells rz)).flatten.toArray 57)).alloc (.cells #[.slice (some ⟨wo.heap.size, 0, none⟩) m m] 38)) (wo.heap.size + 1) wo.heap.size (List.replicate m rz) := by
  refine ⟨?_, ?_, by omega⟩
  · rw [List.length_replicate]
    have h := heap_alloc_new (wo.alloc (.cells (List.replicate m (rcells rz)).flatten.toArray 57)) (.cells #[.slice (some ⟨wo.heap.size, 0, none⟩) m m] 38)
    rwa [show (wo.alloc (.cells (List.replicate m (rcells rz)).flatten.toArray 57)).heap.size = wo.heap.size + 1 by simp] at h
  · rw [List.map_replicate]
    exact (heap_alloc_old _ _ (World.size_alloc' wo _)).trans (heap_alloc_new wo _)
theorem Sums.frozen {W : World} {v g : Nat} {qs : List Nt.RS} (h : Sums W v g qs) (j : Nat) : W.frozen? ⟨g, j, none⟩ = false := by
  have := h.2.1
  simp [World.frozen?, this]
/-- The state of the loop over the payments: s have come, and the sums are F. -/
structure Lp (wo W : World) (M r v g m : Nat) (A : ShA) (s : List Nat) (F : Int → Rat) : Prop where
  it : It W r M A.length s
  nd : s.Nodup
  lt : ∀ i ∈ s, i < A.length
  below : Below wo.heap.size wo W
  sums : Sums W v g (Nt.stt m F)
theorem Sums.kp {W W' : World} {v g k : Nat} {qs : List Nt.RS} (h : Sums W v g qs) (hk : Kp (· = k) W W') (h1 : v ≠ k) (h2 : g ≠ k) : Sums W' v g qs :=
  ⟨(hk.block v (lt_of_block h.1) h1).trans h.1, (hk.block g (lt_of_block h.2.1) h2).trans h.2.1, h.2.2⟩
theorem Lp.kp {wo W W' : World} {M r v g m k : Nat} {A : ShA} {s : List Nat} {F : Int → Rat} (h : Lp wo W M r v g m A s F) (hk : Kp (· = k) W W') (h1 : r ≠ k) (h2 : v ≠ k) (h3 : g ≠ k) (h4 : wo.heap.size ≤ k) : Lp wo W' M r v g m A s F :=
  ⟨h.it.kp hk h1, h.nd, h.lt, kp_below h.below hk h4 (Nat.le_refl _), h.sums.kp hk h2 h3⟩
theorem Lp.bel {wo W W' : World} {M r v g m : Nat} {A : ShA} {s : List Nat} {F : Int → Rat} (h : Lp wo W M r v g m A s F) (hb : Below W.heap.size W W') : Lp wo W' M r v g m A s F :=
  ⟨(hb.block r (lt_of_block h.it)).trans h.it, h.nd, h.lt, below_trans h.below hb, h.sums.below hb⟩
theorem Lp.next {wo W W' : World} {M r v g m i : Nat} {A : ShA} {s : List Nat} {F : Int → Rat} (h : Lp wo W M r v g m A s F) (hk : Kp (· = r) W W') (hi : It W' r M A.length (s ++ [i])) (hs : i ∉ s) (hl : i < A.length) (h2 : v ≠ r) (h3 : g ≠ r) (h4 : wo.heap.size ≤ r) : Lp wo W' M r v g m A (s ++ [i]) F :=
  ⟨hi, List.nodup_append.2 ⟨h.nd, by simp, fun a ha b hb e => hs (by simp at hb; rw [← hb, ← e]; exact ha)⟩, fun j hj => by
    rcases List.mem_append.1 hj with hj | hj
    · exact h.lt j hj
    · rw [List.mem_singleton] at hj; omega, kp_below h.below hk h4 (Nat.le_refl _), h.sums.kp hk h2 h3⟩
def itSz (W : World) (r : Nat) : Nat := match W.heap[r]? with | some (.mapIter _ _ s _) => s.size | _ => 0
theorem It.sz {W : World} {r b n : Nat} {s : List Nat} (h : It W r b n s) : itSz W r = s.length := by unfold itSz; rw [h]; simp
theorem nodup_len {s : List Nat} {n : Nat} (hn : s.Nodup) (hl : ∀ i ∈ s, i < n) : s.length ≤ n := by
  have := hn.length_le_of_subset (l₂ := List.range n) (fun i hi => List.mem_range.2 (hl i hi))
  simpa using this
theorem run_len_mp (W : World) (b : Nat) (l : List Int) (h : MP W ik b (inn l)) : (Builtin.len_ #[72] 3 #[.map (some b)]).run Tryz.prog W = .ok (.int .i64 (l.length : Nat)) W := by
  have e : (ents ik 0 (inn l)).toArray.size = l.length := by simp [ents_length, inn]
  unfold MP at h
  simp [Builtin.len_, run_underlying Tryz.underlying72, MapKept.run_getObj_map h, goInt, ents_length, inn]
theorem sums_zero {W : World} {v g m : Nat} {qs : List Nt.RS} {y : Nt.RS} {B : List (Int × List Int)} (h : Sums W v g qs) (hl : qs.length = m) (hq : ∀ j, j < m → qs[j]? = some y) (hy : y = Nt.rs 0) : Sums W v g (Nt.stt m (Nt.F1 B [])) := by
  have e : qs = Nt.stt m (Nt.F1 B []) := by
    refine List.ext_getElem? fun j => ?_
    by_cases hj : j < m
    · rw [hq j hj, Nt.stt_at _ hj, hy]; rfl
    · rw [List.getElem?_eq_none (by omega), List.getElem?_eq_none (by rw [Nt.stt_length]; omega)]
  rwa [← e]
theorem sums_end {W : World} {v g m : Nat} {F : Int → Rat} (h : Sums W v g (Nt.stt m F)) (hm : m ≤ 64) : RL W (.slice (some ⟨g, 0, none⟩) m m) (Nt.stt m F) := by
  have := SC.row (k := 3) (xs := (Nt.stt m F).map rcells) (by intro x hx; obtain ⟨z, _, rfl⟩ := List.mem_map.1 hx; rfl) h.2.1 (by rw [List.length_map, Nt.stt_length]; unfold maxLen; omega)
  rw [List.length_map, Nt.stt_length] at this
  exact this
theorem split_yes {ds : List Nt.Deb} {ps : List Nt.Pay} {t : Int} {m : Nat} {A : ShA} {F : Int → Rat} (h : Nt.splitOk ds ps t (m : Int) = true) (hS : Nt.Shares ds ps t (flat A)) (hF : ∀ p, F p = Nt.rsum ((flat A).map fun x => Nt.part x.2 p)) : Nt.split ds ps t (m : Int) = (Nt.stt m F, 0) := by
  unfold Nt.split
  rw [h, if_pos rfl, Int.toNat_natCast]
  congr 1
  exact Nt.stt_congr fun p => by rw [hF p, hS.sum p]
theorem over_sizes {q : Rat} {b : Nat} (h : Nt.Over q b) (hb : b ≤ 1000) : (Nt.rs q).2.1.size ≤ 9223372036854775807 ∧ (Nt.rs q).2.2.size ≤ 9223372036854775807 := by
  have hf := h.fit hb
  simp only [Nt.fitR, Bool.and_eq_true, decide_eq_true_eq] at hf
  unfold Nt.rs
  dsimp only
  rw [Nt.nat2s_size, Nt.nat2s_size]
  omega
theorem rl_nil (W : World) : RL W (.slice none 0 0) [] := ⟨none, 0, rfl, Nat.le_refl _, by unfold maxLen; omega, .inl ⟨rfl, rfl, rfl⟩⟩

set_option maxHeartbeats 6400000 in
set_option maxRecDepth 100000 in
theorem split_any (dv pv : Value) (ds : List Nt.Deb) (ps : List Nt.Pay) (t n : Int) (w : World) (hT : Tab w) (hd : DL w dv ds) (hp : PL w pv ps) (hok : Nt.allOk ds ps t = true) (hw : Nt.win n 1 64 = true) :
    Calls Tryz.prog 17 #[dv, pv, .int .i64 t, .int .i64 n] w fun e w' => (∃ v, e = .returned (.tuple #[v, .int .i64 (Nt.split ds ps t n).2]) ∧ RL w' v (Nt.split ds ps t n).1) ∧ Below w.heap.size w w' := by
  have HS := Lib.hid (settle_any dv pv ds ps t w hd hp hok)
  have HWI := Lib.hid fun W => within_any n 1 64 W
  rw [hw] at HWI
  have hmm := @run_makeMap Tryz.prog
  have heq := fun W r => run_eql_map_nil (P := Tryz.prog) W 72 _ _ r Tryz.underlying72
  obtain ⟨l1, l2⟩ : ds.length ≤ 1000 ∧ ps.length ≤ 1000 := by unfold Nt.allOk at hok; simp only [Bool.and_eq_true, decide_eq_true_eq] at hok; exact ⟨hok.1.1.1.1, hok.1.1.1.2⟩
  obtain ⟨n1, n2⟩ : 1 ≤ n ∧ n ≤ 64 := by unfold Nt.win at hw; simpa using hw
  have HP0 : Hid (∀ d ∈ ds, 0 ≤ d.pr) := fun d hd => by
    unfold Nt.allOk at hok
    simp only [Bool.and_eq_true, List.all_eq_true] at hok
    have h := hok.1.2 d hd
    unfold Nt.debOk Nt.win at h
    simp only [Bool.and_eq_true, decide_eq_true_eq] at h
    exact h.1.1.1.2.1
  have HALL : Hid (Nt.splitOk ds ps t n = ds.all fun d => decide (d.pr < n)) := by show _ = _; unfold Nt.splitOk; rw [hok, hw]; rfl
  clear hok hw
  obtain ⟨da, dc, rfl, d1, d2, d3⟩ := hd
  have HD : Hid (DL w (.slice da (ds.map dcells).length dc) ds) := ⟨da, dc, rfl, d1, d2, d3⟩
  clear d1 d2 d3 hp
  rw [List.length_map] at HD HS ⊢
  go_enter Tryz.func17, Tryz.ntmps17
  go_wp2_with fail
  refine HS.out.mono ?_
  rintro e W1 ⟨⟨sv, rfl, hsv⟩, hb1⟩
  have HB1 := Lib.hid hb1
  obtain ⟨sa, sc, rfl, s1, s2, s3⟩ := hsv
  have HIL : Hid (IL W1 (.slice sa (Nt.settle ds ps t).length sc) (Nt.settle ds ps t)) := ⟨sa, sc, rfl, s1, s2, s3⟩
  have hsl : (Nt.settle ds ps t).length = ds.length := by simp [Nt.settle]
  rw [hsl] at HIL ⊢
  clear hb1 s1 s2 s3 hsl
  go_wp2_with fail
  refine (HWI.out _).mono ?_
  rintro e W2 ⟨rfl, rfl⟩
  go_wp2_with fail
  go_loopw [41] (fun i wr => ∃ k : Nat, i = .int .i64 k ∧ k ≤ ds.length ∧ Below W1.heap.size W1 wr ∧ ShI wr W1.heap.size ds ps t k ∧ ∀ d ∈ ds.take k, d.pr < n) (fun i _ => ds.length - (intOf i).toNat)
  case atStart => exact ⟨0, rfl, Nat.zero_le _, below_alloc _ _, ⟨[], ShM.start (kept_new (Below.refl _ _)), Nt.Shares.nil _ _⟩, by simp⟩
  case round =>
    obtain ⟨i, rfl, hi, hB, ⟨A, hM, hSh⟩, hall⟩ := hrel
    by_cases hlt : i < ds.length
    · obtain ⟨d, hd⟩ : ∃ d, ds[i]? = some d := ⟨_, List.getElem?_eq_getElem hlt⟩
      obtain ⟨p, rfl, _, e0, e1, e2, e3, e4, e5⟩ := DL.at HD.out hd
      have HB3 := Lib.hid (below_trans HB1.out hB)
      have f0 := below_cell HB3.out e0
      have f1 := below_cell HB3.out e1
      have f2 := below_cell HB3.out e2
      have f3 := below_cell HB3.out e3
      have f4 := below_cell HB3.out e4
      have f5 := below_cell HB3.out e5
      have hsx : (Nt.settle ds ps t)[i]? = some (Nt.settle1 ps t d) := by unfold Nt.settle; rw [List.getElem?_map, hd]; rfl
      obtain ⟨g, hga, -, c0⟩ := IL.at HIL.out hsx
      have c1 := below_cell (hB.alloc hB.size (.cells (dcells d).toArray 47)) c0
      have hform := Nt.settle1_form ps t d
      have htk := take_at hd
      have HTK := Lib.hid htk
      have HALLT := Lib.hid hall
      have HSH := Lib.hid hSh
      have HDI := Lib.hid hd
      have HST : Hid (∀ s : Int, s = Nt.settle1 ps t d → Nt.settle1 ps t d = s) := fun _ e => e.symm
      obtain ⟨s, hs⟩ : ∃ s, Nt.settle1 ps t d = s := ⟨_, rfl⟩
      have HSS := Lib.hid hs
      rw [hs] at c1 hform
      obtain ⟨dk, dt, df, dfr, dun, dpr⟩ := d
      dsimp only at f0 f1 f2 f3 f4 f5
      unfold dcells at c1
      dsimp only at c1
      clear e0 e1 e2 e3 e4 e5 c0 htk hall hSh hd hs hsx HST
      subst hga
      have hBn := hB.alloc hB.size (.cells #[.int .i64 dk, .int .i64 dt, .int .i64 df, .int .i64 dfr, .int .i64 dun, .int .i64 dpr] 47)
      have hMn := hM.below (below_alloc wr (.cells #[.int .i64 dk, .int .i64 dt, .int .i64 df, .int .i64 dfr, .int .i64 dun, .int .i64 dpr] 47))
      have hne : wr.heap.size ≠ W1.heap.size := by have := hM.lt; omega
      have HBN := Lib.hid hBn
      have HMN := Lib.hid hMn
      clear hBn hMn hM hB
      by_cases hpr : dpr < n
      · by_cases hs0 : s < 0
        · go_wp2
          go_roundw
          case rel => exact ⟨i + 1, rfl, hlt, HBN.out, ShI.skip HMN.out HSH.out HDI.out HSS.out hs0, all_take HALLT.out HDI.out hpr⟩
          case measure => simp [intOf]; omega
        · obtain ⟨b, hb⟩ : ∃ b, b = pos s (A.map ent) 0 := ⟨_, rfl⟩
          cases b with
          | none =>
            have hlk := HMN.out.lookup s
            rw [got_none hb.symm] at hlk
            obtain ⟨W3, hmn, hM3, hK3⟩ := HMN.out.new hb.symm
            have hsz : (wr.alloc (.cells #[.int .i64 dk, .int .i64 dt, .int .i64 df, .int .i64 dfr, .int .i64 dun, .int .i64 dpr] 47)).heap.size = wr.heap.size + 1 := by simp
            rw [hsz] at hmn hM3
            have hlk2 := hM3.lookup s
            rw [got_some (pos_snoc hb.symm)] at hlk2
            obtain ⟨W4, hmu, hM4, hK4⟩ := hM3.add (j := A.length) (k := s) (b := wr.heap.size + 1) (l := []) (by rw [List.getElem?_append_right (Nat.le_refl _), Nat.sub_self]; rfl) dpr
            have hk3 : W3.cell? ⟨wr.heap.size, 5, none⟩ = some (.int .i64 dpr) := by
              have hc := (kept_new (Below.refl _ (wr.alloc (.cells #[.int .i64 dk, .int .i64 dt, .int .i64 df, .int .i64 dfr, .int .i64 dun, .int .i64 dpr] 47))))
              have hMl := HMN.out.lt
              exact kp_cell hK3 (cells6 hc).2.2.2.2.2 hne
            have hsz1 : W1.heap.size ≤ wr.heap.size + 1 := by have := HMN.out.lt; simp at this; omega
            have HPOS := Lib.hid hb.symm
            have HM4 := Lib.hid hM4
            have HK3 := Lib.hid hK3
            have HK4 := Lib.hid hK4
            clear hb hM3 hM4 hK3 hK4 hsz
            go_wp2
            go_roundw
            case rel => exact ⟨i + 1, rfl, hlt, kp_below (kp_below HBN.out HK3.out (Nat.le_refl _) (Nat.le_refl _)) HK4.out hsz1 (Nat.le_refl _), ShI.new HPOS.out HM4.out HSH.out HDI.out HSS.out hs0, all_take HALLT.out HDI.out hpr⟩
            case measure => simp [intOf]; omega
          | some x =>
            obtain ⟨j, v⟩ := x
            have hlk := HMN.out.lookup s
            rw [got_some hb.symm] at hlk
            obtain ⟨bb, l, hAj, rfl⟩ := pos_ent hb.symm
            have HAJ := Lib.hid hAj
            clear hb hAj
            obtain ⟨W3, hmu, hM3, hK3⟩ := HMN.out.add HAJ.out dpr
            have HM3 := Lib.hid hM3
            have HK3 := Lib.hid hK3
            have hbb : W1.heap.size ≤ bb := Nat.le_of_lt (HMN.out.above _ (List.mem_of_getElem? HAJ.out))
            clear hM3 hK3
            go_wp2
            go_roundw
            case rel => exact ⟨i + 1, rfl, hlt, kp_below HBN.out HK3.out hbb (Nat.le_refl _), ShI.old HAJ.out HM3.out HSH.out HDI.out HSS.out, all_take HALLT.out HDI.out hpr⟩
            case measure => simp [intOf]; omega
      · go_wp2
        go_ret2
        rw [split_no HALL.out HDI.out (by show ¬ dpr < n; omega)]
        exact ⟨⟨_, rfl, rl_nil _⟩, below_trans HB1.out HBN.out⟩
    · obtain rfl : i = ds.length := by omega
      rw [List.take_length] at hSh hall
      obtain ⟨wo, rfl⟩ : ∃ wo : World, wo = wr := ⟨wr, rfl⟩
      obtain ⟨m, rfl⟩ := Int.eq_ofNat_of_zero_le (show 0 ≤ n by omega)
      have hmk := run_make_rats m (by omega) wo
      have HM := Lib.hid hM
      have HSH := Lib.hid hSh
      have HBo := Lib.hid hB
      have HALLT : Hid (∀ d ∈ ds, 0 ≤ d.pr ∧ d.pr < (m : Int)) := fun d hd => ⟨HP0.out d hd, hall d hd⟩
      have HALL0 : Hid (Nt.splitOk ds ps t (m : Int) = true) := by show _ = _; rw [HALL.out, List.all_eq_true]; exact fun d hd => decide_eq_true (hall d hd)
      clear hM hSh hall hB hlt
      have HOF := Lib.hid fun W hTW => of_any 0 1 W hTW (by decide) (by decide) (by decide) (by decide) (by decide)
      obtain ⟨y, hy⟩ : ∃ y, y = Nt.rs (Nt.low (decide ((0 : Int) < 0) != decide ((1 : Int) < 0)) (0 : Int).natAbs (1 : Int).natAbs) := ⟨_, rfl⟩
      rw [← hy] at HOF
      have HY := Lib.hid hy
      clear hy
      obtain ⟨y1, y2, y3⟩ := y
      unfold rout rv at HOF
      dsimp only at HOF
      have HTo : Hid (Tab wo) := (hT.below HB1.out).below HBo.out
      have HS0 := Lib.hid (sums_start wo m)
      go_wp2
      go_loopw [74] (fun i wr => ∃ (k : Nat) (qs : List Nt.RS), i = .int .i64 k ∧ k ≤ m ∧ Below wo.heap.size wo wr ∧ Sums wr (wo.heap.size + 1) wo.heap.size qs ∧ qs.length = m ∧ ∀ j, j < k → qs[j]? = some (y1, y2, y3)) (fun i _ => m - (intOf i).toNat)
      case atStart => exact ⟨0, _, rfl, Nat.zero_le _, (below_alloc wo _).alloc (below_alloc wo (.cells (List.replicate m (rcells rz)).flatten.toArray 57)).size _, HS0.out, List.length_replicate, fun j hj => absurd hj (Nat.not_lt_zero j)⟩
      case round =>
        obtain ⟨k, qs, rfl, hk, hB, hsu, hql, hqs⟩ := hrel
        by_cases hlt : k < m
        · obtain ⟨x, hx⟩ : ∃ x, qs[k]? = some x := ⟨_, List.getElem?_eq_getElem (by omega)⟩
          have k0 := cell_of_one hsu.1
          rw [hql] at k0
          have HSU := Lib.hid hsu
          have HX := Lib.hid hx
          have HQ := Lib.hid hqs
          have HQL := Lib.hid hql
          have HB := Lib.hid hB
          obtain ⟨k1, k2, k3⟩ := hsu.at hx
          have HS : Hid (∀ {W}, Below wr.heap.size wr W → W.cell? ⟨wo.heap.size + 1, 0, none⟩ = some (.slice (some ⟨wo.heap.size, 0, none⟩) m m) ∧ W.cell? ⟨wo.heap.size, k * 3, none⟩ = some (.bool x.1) ∧ W.cell? ⟨wo.heap.size, k * 3 + 1, none⟩ = some (.string x.2.1) ∧ W.cell? ⟨wo.heap.size, k * 3 + 2, none⟩ = some (.string x.2.2)) := fun h => ⟨below_cell h k0, below_cell h k1, below_cell h k2, below_cell h k3⟩
          have HTT : Hid (∀ {W}, Below wr.heap.size wr W → Tab W) := fun h => (HTo.out.below HB.out).below h
          have HF : Hid (∀ {W}, Below wr.heap.size wr W → ∀ j, W.frozen? ⟨wo.heap.size, j, none⟩ = false) := fun h j => (HSU.out.below h).frozen j
          have hg := Below.refl wr.heap.size wr
          have hg1 : wo.heap.size + 1 < wr.heap.size := lt_of_block hsu.1
          have h0 : (0 : Int) ≤ (k : Int) := Int.natCast_nonneg _
          have h1 : (k : Int) < (m : Int) := by omega
          clear hsu hx hqs hql hB k0 k1 k2 k3
          obtain ⟨t0, t1, t2, t3⟩ := HS.out hg
          go_upto_region 21 with (fail)
          go_region_law (first
            | (go_simp
               go_at_call 23
               refine (HOF.out _ (HTT.out ((by first | with_reducible exact hg | with_reducible exact hg.drew : Below _ _ _)))).mono ?_
               rintro e W' ⟨rfl, hb⟩
               first
                 | have hg := below_trans hg hb
                 | have hg := below_trans hg.drew hb
               obtain ⟨u0, u1, u2, u3⟩ := HS.out hg
               have z0 := HF.out hg (k * 3)
               have z1 := HF.out hg (k * 3 + 1)
               have z2 := HF.out hg (k * 3 + 2)))
          all_goals
            go_wp2
            go_roundw
            case rel =>
              refine ⟨k + 1, qs.set k (y1, y2, y3), rfl, hlt, (((HB.out.trans (hg.mono HB.out.size)).setCell (p := ⟨wo.heap.size, k * 3, none⟩) (Nat.le_refl _) _).setCell (p := ⟨wo.heap.size, k * 3 + 1, none⟩) (Nat.le_refl _) _).setCell (p := ⟨wo.heap.size, k * 3 + 2, none⟩) (Nat.le_refl _) _, (HSU.out.below hg).set HX.out (y1, y2, y3), by rw [List.length_set]; exact HQL.out, fun j hj => ?_⟩
              rw [List.getElem?_set]
              by_cases e : k = j
              · rw [if_pos e, if_pos (by rw [HQL.out]; exact hlt)]
              · rw [if_neg e]; exact HQ.out j (by omega)
            case measure => simp [intOf]; omega
        · obtain rfl : k = m := by omega
          obtain ⟨wp, rfl⟩ : ∃ wp : World, wp = wr := ⟨wr, rfl⟩
          have HSU := Lib.hid (sums_zero (B := flat A) hsu hql hqs (HY.out.trans (by rw [show (0 : Int).natAbs = 0 from rfl, Nt.low_zero])))
          have HB := Lib.hid hB
          have HMP := Lib.hid ((HM.out.below ((hB.mono (Nat.le_refl _)))).mp)
          obtain ⟨hrg, hit⟩ := It.start (P := Tryz.prog) (t := 71) Tryz.underlying71 HMP.out
          rw [List.length_map] at hrg hit
          have hg1 : wo.heap.size + 1 < wp.heap.size := lt_of_block hsu.1
          have HIT := Lib.hid hit
          clear hsu hql hqs hB hit hlt hk
          go_wp2
          go_loopw [20] (fun _ wr => ∃ s, Lp wo wr W1.heap.size wp.heap.size (wo.heap.size + 1) wo.heap.size k A s (Nt.F1 (flat A) s)) (fun _ wr => A.length - itSz wr wp.heap.size)
          case atStart => exact ⟨[], HIT.out, by simp, by simp, HB.out.alloc HB.out.size _, HSU.out.below (below_alloc _ _)⟩
          case round =>
            obtain ⟨s, hlp⟩ := hrel
            obtain ⟨wq, rfl⟩ : ∃ wq : World, wq = wr := ⟨wr, rfl⟩
            have hmpq := (HM.out.below hlp.below).mp
            have hitq := hlp.it
            rw [show A.length = (A.map ent).length by rw [List.length_map]] at hitq
            have hMlt := HM.out.lt
            rcases run_next_mp (P := Tryz.prog) 0 hitq hmpq (by omega) with ⟨hall, hnx⟩ | ⟨i, c, vv, W5, hAi, hns, hnx, hen, hk5, hit5⟩
            · have k0 := cell_of_one hlp.sums.1
              rw [Nt.stt_length] at k0
              have HLP := Lib.hid hlp
              have HALL := Lib.hid hall
              clear hlp hall hmpq hitq
              go_wp2
              go_wp2
              go_ret2
              rw [split_yes HALL0.out HSH.out (fun p => Nt.F1_end HLP.out.nd (fun i => ⟨fun h => by have := HLP.out.lt i h; simpa [flat] using this, fun h => HALL.out i (by simpa [flat] using h)⟩) p)]
              exact ⟨⟨_, rfl, sums_end HLP.out.sums (by omega)⟩, below_trans HB1.out (below_trans HBo.out HLP.out.below)⟩
            · obtain ⟨b, l, rfl, hAj⟩ : ∃ b l, vv = .map (some b) ∧ A[i]? = some (c, b, l) := by
                rw [List.getElem?_map] at hAi
                cases hx : A[i]? with
                | none => rw [hx] at hAi; cases hAi
                | some x =>
                  rw [hx] at hAi
                  obtain ⟨x1, x2, x3⟩ := x
                  have h := Option.some.inj hAi
                  simp only [ent, Prod.mk.injEq] at h
                  obtain ⟨rfl, rfl⟩ := h
                  exact ⟨x2, x3, rfl, rfl⟩
              have hmem := List.mem_of_getElem? hAj
              have hil : i < A.length := (List.getElem?_eq_some_iff.1 hAj).1
              have hble := HM.out.lt' hmem
              rw [List.length_map] at hit5
              have hlp5 := hlp.next hk5 hit5 hns hil (by omega) (by omega) (by omega)
              have hmb : MP W5 ik b (inn l) := (HM.out.below hlp5.below).inner _ hmem
              have hlen := run_len_mp W5 b l hmb
              obtain ⟨q0, q1, q2⟩ := HSH.out.few (m := k) (by omega) HALLT.out (x := (c, l)) (List.mem_map.2 ⟨_, hmem, rfl⟩)
              have hnd := HSH.out.nd (c, l) (List.mem_map.2 ⟨_, hmem, rfl⟩)
              dsimp only at q0 q1 q2 hnd hble
              have HAJ := Lib.hid hAj
              have HLP := Lib.hid hlp
              have HLP5 := Lib.hid hlp5
              have HTW : Hid (Tab W5) := HTo.out.below hlp5.below
              have HOF2 := Lib.hid fun W hTW => of_any 1 (l.length : Int) W hTW (by decide) (by decide) (by omega) (by omega) (by omega)
              obtain ⟨y, hy⟩ : ∃ y, y = Nt.rs (Nt.low (decide ((1 : Int) < 0) != decide ((l.length : Int) < 0)) (1 : Int).natAbs (l.length : Int).natAbs) := ⟨_, rfl⟩
              rw [← hy] at HOF2
              have HY2 : Hid (y = Nt.rs (mkRat 1 l.length)) := by
                show _ = _
                rw [hy, show decide ((l.length : Int) < 0) = false by simp]; rfl
              have HQ2 := Lib.hid q2
              have HND := Lib.hid hnd
              clear hy q2 hnd hlp hlp5 hmpq hitq hAj hAi hmem hk5 hit5 hns
              obtain ⟨c1, c2, c3⟩ := y
              unfold rout rv at HOF2
              dsimp only at HOF2
              go_wp2_with fail
              refine (HOF2.out _ HTW.out).mono ?_
              rintro e W6 ⟨rfl, hb6⟩
              have hsz6 := hb6.size
              have hlp6 := (HLP5.out.bel hb6).bel (below_alloc W6 (.cells #[.bool c1, .string c2, .string c3] 57))
              have hmb6 : MP (W6.alloc (.cells #[.bool c1, .string c2, .string c3] 57)) ik b (inn l) := (HM.out.below hlp6.below).inner _ (List.mem_of_getElem? HAJ.out)
              obtain ⟨hrg2, hit2⟩ := It.start (P := Tryz.prog) (t := 72) Tryz.underlying72 hmb6
              have hrp : wp.heap.size < W5.heap.size := lt_of_block HLP5.out.it
              have hsz : (W6.alloc (.cells #[.bool c1, .string c2, .string c3] 57)).heap.size = W6.heap.size + 1 := by simp
              rw [hsz] at hrg2 hit2
              rw [show (inn l).length = l.length by simp [inn]] at hrg2 hit2
              have hlp7 := hlp6.bel (below_alloc _ (.mapIter (some b) l.length #[] l.length))
              have hcb := kept_new ((below_alloc (W6.alloc (.cells #[.bool c1, .string c2, .string c3] 57)) (.mapIter (some b) l.length #[] l.length)).mono (Nat.le_refl _))
              have HLP7 := Lib.hid hlp7
              have HIT2 := Lib.hid hit2
              have HCB := Lib.hid hcb
              clear hb6 hlp6 hmb6 hit2 hsz hlp7 hcb
              go_wp2
              go_loopw [23] (fun _ wr => ∃ s2, Lp wo wr W1.heap.size wp.heap.size (wo.heap.size + 1) wo.heap.size k A (s ++ [i]) (Nt.F2 (flat A) s l s2) ∧ It wr (W6.heap.size + 1) b l.length s2 ∧ s2.Nodup ∧ (∀ j ∈ s2, j < l.length) ∧
                wr.heap[W6.heap.size]? = some (.cells #[.bool c1, .string c2, .string c3] 57)) (fun _ wr => l.length - itSz wr (W6.heap.size + 1))
              case atStart => exact ⟨[], by rw [show Nt.F2 (flat A) s l [] = Nt.F1 (flat A) s from funext fun p => Nt.F2_start _ _ _ p]; exact HLP7.out, HIT2.out, by simp, by simp, HCB.out⟩
              case round =>
                obtain ⟨s2, hlq, hit4, hnd4, hlt4, hcb4⟩ := hrel
                have hmb4 := (HM.out.below hlq.below).inner _ (List.mem_of_getElem? HAJ.out)
                have hit4' := hit4
                rw [show l.length = (inn l).length by simp [inn]] at hit4'
                rcases run_next_mp (P := Tryz.prog) 0 hit4' hmb4 (by show b ≠ _; omega) with ⟨hall4, hnx4⟩ | ⟨j, q, vv, W7, hAj4, hns4, hnx4, hen4, hk7, hit7⟩
                · have HLQ := Lib.hid hlq
                  have HE : Hid (∀ p, Nt.F2 (flat A) s l s2 p = Nt.F1 (flat A) (s ++ [i]) p) := fun p => Nt.F2_end (by unfold Nt.lst flat; rw [List.getElem?_map, HAJ.out]; rfl) (fun j hj => hall4 j (by simpa [inn] using hj)) p
                  clear hlq hall4 hit4 hit4' hnd4 hlt4 hcb4 hmb4
                  go_wp2
                  go_roundw
                  case rel => exact ⟨s ++ [i], by rw [← show Nt.F2 (flat A) s l s2 = Nt.F1 (flat A) (s ++ [i]) from funext HE.out]; exact HLQ.out⟩
                  case measure =>
                    have e1 := HLQ.out.it.sz
                    have e2 := HLP.out.it.sz
                    have e3 := nodup_len HLQ.out.nd HLQ.out.lt
                    rw [List.length_append] at e1 e3
                    simp only [List.length_cons, List.length_nil] at e1 e3
                    rw [e1, e2]; omega
                · obtain ⟨rfl, hlj⟩ : vv = .bool true ∧ l[j]? = some q := by
                    unfold inn at hAj4
                    rw [List.getElem?_map] at hAj4
                    cases hx : l[j]? with
                    | none => rw [hx] at hAj4; cases hAj4
                    | some x =>
                      rw [hx] at hAj4
                      have h := Option.some.inj hAj4
                      simp only [Prod.mk.injEq] at h
                      obtain ⟨rfl, rfl⟩ := h
                      exact ⟨rfl, rfl⟩
                  obtain ⟨b0, b1⟩ := HQ2.out q (List.mem_of_getElem? hlj)
                  obtain ⟨p, rfl⟩ := Int.eq_ofNat_of_zero_le b0
                  have hcb7 := (hk7.block _ (lt_of_block hcb4) (by omega)).trans hcb4
                  obtain ⟨⟨p0, p1, p2⟩, -⟩ := cells3 hcb7
                  have hlq7 := hlq.kp hk7 (by omega) (by omega) (by omega) (by omega)
                  have hsl : s.length ≤ 1000 := by
                    have e3 := nodup_len HLP.out.nd HLP.out.lt
                    have e4 := HSH.out.len
                    simp [flat] at e4
                    omega
                  have hov : Nt.Over (Nt.F1 (flat A) s (p : Int)) s.length := Nt.F1_over (fun x hx => ⟨(HSH.out.few (by omega) HALLT.out hx).1, (HSH.out.few (by omega) HALLT.out hx).2.1⟩) (fun i hi => by have := HLP.out.lt i hi; simpa [flat] using this) _
                  have hnew : Nt.F2 (flat A) s l s2 (p : Int) = Nt.F1 (flat A) s (p : Int) := Nt.F2_new HND.out hns4 hlj
                  have hx : (Nt.stt k (Nt.F2 (flat A) s l s2))[p]? = some (Nt.rs (Nt.F1 (flat A) s (p : Int))) := by rw [Nt.stt_at _ (by omega), hnew]
                  have hov2 : Nt.Over (mkRat 1 l.length) 1 := Nt.Over.share q0 q1
                  have hsz1 := over_sizes hov hsl
                  have hsz2 := over_sizes hov2 (by decide)
                  rw [← HY2.out] at hsz2
                  have HCH := Lib.hid (charge_any (wo.heap.size + 1) wo.heap.size p (Nt.stt k (Nt.F2 (flat A) s l s2)) _ (c1, c2, c3) W7 ((HTo.out.below hlq7.below)) hlq7.sums hx hsz1.1 hsz1.2 hsz2.1 hsz2.2)
                  have hstep : (Nt.stt k (Nt.F2 (flat A) s l s2)).set p (Nt.rAdd (Nt.rs (Nt.F1 (flat A) s (p : Int))) (c1, c2, c3)).1 = Nt.stt k (Nt.F2 (flat A) s l (s2 ++ [j])) := by
                    rw [HY2.out, Nt.rAdd_over hov hov2 hsl (by decide), Nt.stt_set]
                    exact Nt.stt_congr fun x => by rw [Nt.F2_step hlj x]
                  rw [hstep] at HCH
                  unfold rv at HCH
                  dsimp only at HCH
                  have HLQ := Lib.hid hlq
                  have HLQ7 := Lib.hid hlq7
                  have HIT4 := Lib.hid hit4
                  have HIT7 := Lib.hid hit7
                  have HK7 := Lib.hid hk7
                  have HNS := Lib.hid hns4
                  have HND4 := Lib.hid hnd4
                  have HLT4 := Lib.hid hlt4
                  have HCB7 := Lib.hid hcb7
                  have HJL : Hid (j < l.length) := (List.getElem?_eq_some_iff.1 hlj).1
                  have n3 : wo.heap.size ≠ wp.heap.size := by omega
                  have n4 : wo.heap.size ≠ W6.heap.size + 1 := by omega
                  have n5 : wo.heap.size ≠ W6.heap.size := by omega
                  clear hlq hlq7 hit4 hit4' hit7 hk7 hns4 hnd4 hlt4 hcb4 hcb7 hmb4 hAj4 hlj hov hnew hx hov2 hstep hsz1 hsz2
                  go_wp2_with fail
                  refine HCH.out.mono ?_
                  rintro e W8 ⟨rfl, hs8, hk8⟩
                  have HS8 := Lib.hid hs8
                  have HK8 := Lib.hid hk8
                  clear hs8 hk8
                  go_wp2
                  go_roundw
                  case rel =>
                    refine ⟨s2 ++ [j], ⟨HLQ7.out.it.kp HK8.out (Ne.symm n3), HLQ7.out.nd, HLQ7.out.lt, kp_below HLQ7.out.below HK8.out (Nat.le_refl _) (Nat.le_refl _), HS8.out⟩, ?_, ?_, ?_, ?_⟩
                    · have h7 : It W7 (W6.heap.size + 1) b l.length (s2 ++ [j]) := by
                        have := HIT7.out
                        rwa [show (inn l).length = l.length by simp [inn]] at this
                      exact h7.kp HK8.out (Ne.symm n4)
                    · exact List.nodup_append.2 ⟨HND4.out, by simp, fun a ha b hb e => HNS.out (by simp at hb; rw [← hb, ← e]; exact ha)⟩
                    · intro a ha
                      rcases List.mem_append.1 ha with ha | ha
                      · exact HLT4.out a ha
                      · rw [List.mem_singleton] at ha; rw [ha]; exact HJL.out
                    · exact (HK8.out.block _ (lt_of_block HCB7.out) (Ne.symm n5)).trans HCB7.out
                  case measure =>
                    have h7 : It W7 (W6.heap.size + 1) b l.length (s2 ++ [j]) := by
                      have := HIT7.out
                      rwa [show (inn l).length = l.length by simp [inn]] at this
                    have e1 := (h7.kp HK8.out (Ne.symm n4)).sz
                    have e2 := HIT4.out.sz
                    have e3 := nodup_len (s := s2 ++ [j]) (n := l.length) (List.nodup_append.2 ⟨HND4.out, by simp, fun a ha b hb e => HNS.out (by simp at hb; rw [← hb, ← e]; exact ha)⟩) (fun a ha => by
                      rcases List.mem_append.1 ha with ha | ha
                      · exact HLT4.out a ha
                      · rw [List.mem_singleton] at ha; rw [ha]; exact HJL.out)
                    rw [List.length_append] at e1 e3
                    simp only [List.length_cons, List.length_nil] at e1 e3
                    rw [e1, e2]; omega
end Go.Proofs.YtcphclpekllcoaaGreatDoor
