/- Walks: the law DebtLater. -/
import Derived.Test.YtcphclpekllcoaaGreatDoorF1
import Derived.Test.YtcphclpekllcoaaGreatDoorAp
import Derived.Test.YtcphclpekllcoaaGreatDoorOrd
import Derived.Deep.RegionLaw
namespace Go.Proofs.YtcphclpekllcoaaGreatDoor
open Go.RowKit

section
variable {e t : TypeId} {i : TypeInfo} {z : Value} {k bytes : Nat}
theorem run_append_rows' (w : World) (B : Nat) (ty : TypeId) (ht : Tryz.prog.underlying t = some (.slice e)) (hi : Tryz.prog.info? e = some i) (hz : i.zero = some z) (hsz : i.size = k) (hby : i.bytes = bytes) (hzs : z.cells.size = k) (hk : 0 < k) (hbb : bytes ≤ 1000)
    (v u : Value) (xs ys : List (List Value)) (hv : w.ownsRow B e k v xs.length xs.flatten) (hu : SC k w u ys) (hl : ∀ y ∈ ys, y.length = k) (hone : ∀ y ∈ ys, ∀ x ∈ y, x.oneCell' = true) (hB : B ≤ w.heap.size) (hn : xs.length + ys.length ≤ 4000000) :
    ∃ v' w', (Builtin.append_ #[t, t] ty #[v, u]).run Tryz.prog w = .ok v' w' ∧ w'.ownsRow B e k v' (xs ++ ys).length (xs ++ ys).flatten ∧ Below B w w' ∧ (∀ b, b < w.heap.size → v.ownBlock ≠ some b → w'.heap[b]? = w.heap[b]?) := by
  obtain ⟨a, c, rfl, h1, h2, h3⟩ := hu
  rcases h3 with ⟨rfl, rfl, rfl⟩ | ⟨p, rfl, h3⟩
  · refine ⟨v, w, ?_, by simpa using hv, Below.refl _ _, fun _ _ _ => rfl⟩
    exact run_append_owned_none (P := Tryz.prog) (w := w) B t ty e i k ht hi v _ _ hv
  · obtain ⟨v', w', hr, h4, h5, _⟩ := run_append_own (P := Tryz.prog) w B t ty e i z k bytes ht hi hz hsz hby hzs hk v xs.length xs.flatten hv p ys.length c ys.flatten
      (by
        clear h1 h2 h3 hn
        induction ys with
        | nil => simp
        | cons y ys ih => rw [List.flatten_cons, List.length_append, hl y (by simp), ih (fun z hz => hl z (List.mem_cons_of_mem _ hz)) (fun z hz => hone z (List.mem_cons_of_mem _ hz)), List.length_cons, Nat.succ_mul]; omega)
      (fun j x hj => by
        obtain ⟨y, hy, hyx⟩ := flat_back hk hl hj
        have := h3 (j / k) (j % k) y x hy hyx
        rwa [show j / k * k + j % k = j from by rw [Nat.mul_comm]; exact Nat.div_add_mod j k] at this)
      (fun x hx => by
        obtain ⟨y, hy, hxy⟩ := List.mem_flatten.1 hx
        exact hone y hy x hxy) (by unfold maxLen; omega) (Nat.le_trans (Nat.mul_le_mul hn hbb) (by decide)) hB
    refine ⟨v', w', hr, ?_, (Below.refl _ w).grown h5 hB (fun k hk => (hv.lt k hk).1), fun b hb hne => h5.block b hb (Ne.symm hne)⟩
    rw [List.length_append, List.flatten_append]
    exact h4
theorem own_empty {W : World} {B N : Nat} {e : TypeId} {k : Nat} (h : W.heap[N]? = some (.cells #[] e (0, 0))) (hB : B ≤ N) : W.ownsRow B e k (.slice (some ⟨N, 0, none⟩) 0 0) ([] : List (List Value)).length ([] : List (List Value)).flatten :=
  ⟨by simp, .inr ⟨N, 0, #[], rfl, hB, h, Nat.le_refl _, by unfold maxLen; omega, by simp, by simp⟩⟩
theorem step_append_rows {w : World} {ops : Array Oper} {o : Oper} {a : Act} {K : Act → World → Prop} {Q : Exit → Act → World → Prop} {E : Prop} (hgd : o.guard = none) (s x : Operand)
    (ho : o.op = .call { callee := .builtin .append, args := #[s, x], argTypes := #[t, t] })
    (B : Nat) (ht : Tryz.prog.underlying t = some (.slice e)) (hi : Tryz.prog.info? e = some i) (hz : i.zero = some z) (hsz : i.size = k) (hby : i.bytes = bytes) (hzs : z.cells.size = k) (hk : 0 < k) (hbb : bytes ≤ 1000)
    (v u : Value) (xs ys : List (List Value)) (hs : a.eval s = v) (hx : a.eval x = u) (hv : w.ownsRow B e k v xs.length xs.flatten) (hu : SC k w u ys) (hl : ∀ y ∈ ys, y.length = k) (hone : ∀ y ∈ ys, ∀ x ∈ y, x.oneCell' = true) (hB : B ≤ w.heap.size) (hn : xs.length + ys.length ≤ 4000000)
    (h : ∀ v' w', w'.ownsRow B e k v' (xs ++ ys).length (xs ++ ys).flatten → Below B w w' → (∀ b, b < w.heap.size → v.ownBlock ≠ some b → w'.heap[b]? = w.heap[b]?) → K (a.put o.dst v') w') :
    if Region.wanted o (yielded ops a.tmps) = true then Oper.wp Tryz.prog o a w K Q else E := by
  have hw : Region.wanted o (yielded ops a.tmps) = true := by simp [Region.wanted, hgd]
  rw [if_pos hw]
  obtain ⟨v', w', hr, h2, h3, h4⟩ := run_append_rows' w B o.type ht hi hz hsz hby hzs hk hbb v u xs ys hv hu hl hone hB hn
  unfold Oper.wp execOp
  simp only [ho, resolve, invoke, builtin, Sem.run_bind, Sem.run_pure, Result.andThen_ok, List.map_toArray, List.map_cons, List.map_nil, hs, hx, hr]
  exact h v' w' h2 h3 h4
end

set_option maxHeartbeats 12800000 in
set_option maxRecDepth 100000 in
theorem later_law (dv : Value) (ds : List Nt.Deb) (pv : Value) (ps : List Nt.Pay) (f : Nt.Pay) (one two : Int) (w : World) (hT : Tab w) (hd : DL w dv ds) (hp : PL w pv ps) :
    Calls Tryz.prog 5 #[dv, pv, pv4 f, .int .i64 one, .int .i64 two] w fun e w' => e = .returned (.bool true) ∧ Below w.heap.size w w' := by
  obtain ⟨pa, pc, rfl⟩ := hp.len
  obtain ⟨da, dc, rfl⟩ := hd.len
  have HH := Lib.hid fun W hTW => head_any W hTW
  have HP := Lib.hid hp
  have HD := Lib.hid hd
  have HB0 := Lib.hid (below_alloc w (.cells (pcells f).toArray 49))
  have HK := Lib.hid fun W (h : Below (w.alloc (.cells (pcells f).toArray 49)).heap.size (w.alloc (.cells (pcells f).toArray 49)) W) => kept_new h
  have HFP : Hid (pcells f = [.int .i64 f.k, .int .i64 f.t, .int .i64 f.f, .int .i64 f.at_]) := rfl
  clear hp hd
  unfold pv4 at *
  unfold pcells at HB0 HK ⊢
  by_cases hl : 12 < ds.length
  · go_enter Tryz.func5, Tryz.ntmps5
    go_wp2_with fail
    refine (HH.out _ (hT.below HB0.out)).mono ?_
    rintro e W1 ⟨rfl, hb1⟩
    have HB1 := Lib.hid (below_trans HB0.out hb1)
    clear hb1
    go_wp2
    go_ret
    exact ⟨rfl, HB1.out⟩
  have b0 : decide (12 < ds.length) = false := decide_eq_false hl
  by_cases hl2 : 12 < ps.length
  · go_enter Tryz.func5, Tryz.ntmps5
    go_wp2_with fail
    refine (HH.out _ (hT.below HB0.out)).mono ?_
    rintro e W1 ⟨rfl, hb1⟩
    have HB1 := Lib.hid (below_trans HB0.out hb1)
    clear hb1
    go_wp2
    go_ret
    exact ⟨rfl, HB1.out⟩
  have b1 : decide (12 < ps.length) = false := decide_eq_false hl2
  have HS1 := Lib.hid fun W hd hp => settle_all (.slice da ds.length dc) (.slice pa ps.length pc) ds ps (min one two) W hd hp
  have HS2 := Lib.hid fun W hd hp => settle_all (.slice da ds.length dc) (.slice pa ps.length pc) ds ps (max one two) W hd hp
  have HS3 := Lib.hid fun pv W hd hp => settle_all (.slice da ds.length dc) pv ds (ps ++ [f]) (max one two) W hd hp
  cases ha1 : Nt.allOk ds ps (min one two) with
  | false =>
    rw [show settleR ds ps (min one two) = ([], 1) by unfold settleR; rw [ha1]; rfl] at HS1
    generalize settleR ds ps (max one two) = B at HS2
    obtain ⟨bl, be⟩ := B
    dsimp only at HS1 HS2
    clear ha1 HS3
    go_enter Tryz.func5, Tryz.ntmps5
    go_wp2_with fail
    refine (HH.out _ (hT.below HB0.out)).mono ?_
    rintro e W1 ⟨rfl, hb1⟩
    have HB1 := Lib.hid (below_trans HB0.out hb1)
    clear hb1
    go_wp2_with fail
    refine (HS1.out _ (HD.out.below HB1.out) (HP.out.below HB1.out)).mono ?_
    rintro e W2 ⟨⟨v2, rfl, hi2⟩, hb2⟩
    have HB2 := Lib.hid (below_trans HB1.out hb2)
    clear hi2 hb2
    go_wp2_with fail
    refine (HS2.out _ (HD.out.below HB2.out) (HP.out.below HB2.out)).mono ?_
    rintro e W3 ⟨⟨v3, rfl, hi3⟩, hb3⟩
    have HB3 := Lib.hid (below_trans HB2.out hb3)
    clear hi3 hb3
    go_wp2
    go_ret
    exact ⟨rfl, HB3.out⟩
  | true =>
    rw [show settleR ds ps (min one two) = (Nt.settle ds ps (min one two), 0) by unfold settleR; rw [ha1]; rfl] at HS1
    clear ha1
    have HAL : Hid ((Nt.settle ds ps (min one two)).length = ds.length) := by show _ = _; unfold Nt.settle; rw [List.length_map]
    cases ha2 : Nt.allOk ds ps (max one two) with
    | false =>
      rw [show settleR ds ps (max one two) = ([], 1) by unfold settleR; rw [ha2]; rfl] at HS2
      clear ha2 HS3
      generalize Nt.settle ds ps (min one two) = al at *
      go_enter Tryz.func5, Tryz.ntmps5
      go_wp2_with fail
      refine (HH.out _ (hT.below HB0.out)).mono ?_
      rintro e W1 ⟨rfl, hb1⟩
      have HB1 := Lib.hid (below_trans HB0.out hb1)
      clear hb1
      go_wp2_with fail
      refine (HS1.out _ (HD.out.below HB1.out) (HP.out.below HB1.out)).mono ?_
      rintro e W2 ⟨⟨v2, rfl, hi2⟩, hb2⟩
      have HB2 := Lib.hid (below_trans HB1.out hb2)
      clear hi2 hb2
      go_wp2_with fail
      refine (HS2.out _ (HD.out.below HB2.out) (HP.out.below HB2.out)).mono ?_
      rintro e W3 ⟨⟨v3, rfl, hi3⟩, hb3⟩
      have HB3 := Lib.hid (below_trans HB2.out hb3)
      clear hi3 hb3
      go_wp2
      go_ret
      exact ⟨rfl, HB3.out⟩
    | true =>
      rw [show settleR ds ps (max one two) = (Nt.settle ds ps (max one two), 0) by unfold settleR; rw [ha2]; rfl] at HS2
      clear ha2
      have HBL : Hid ((Nt.settle ds ps (max one two)).length = ds.length) := by show _ = _; unfold Nt.settle; rw [List.length_map]
      have HXA : Hid (∀ i d, ds[i]? = some d → (Nt.settle ds ps (min one two))[i]? = some (Nt.settle1 ps (min one two) d) ∧ (Nt.settle ds ps (max one two))[i]? = some (Nt.settle1 ps (max one two) d) ∧ (Nt.settle ds (ps ++ [f]) (max one two))[i]? = some (Nt.settle1 (ps ++ [f]) (max one two) d)) := fun i d h => by
        unfold Nt.settle; rw [List.getElem?_map, List.getElem?_map, List.getElem?_map, h]; exact ⟨rfl, rfl, rfl⟩
      have HCR : Hid (settleR ds (ps ++ [f]) (max one two) = if Nt.allOk ds (ps ++ [f]) (max one two) then (Nt.settle ds (ps ++ [f]) (max one two), 0) else ([], 1)) := rfl
      have HCL : Hid ((Nt.settle ds (ps ++ [f]) (max one two)).length = ds.length) := by show _ = _; unfold Nt.settle; rw [List.length_map]
      generalize Nt.settle ds ps (min one two) = al at *
      generalize Nt.settle ds ps (max one two) = bl at *
      generalize Nt.settle ds (ps ++ [f]) (max one two) = cl at *
      generalize settleR ds (ps ++ [f]) (max one two) = C at *
      obtain ⟨cr, ce⟩ := C
      dsimp only at HS1 HS2 HS3
      obtain ⟨i0, hi, hz0, hz1, hz2⟩ := info_parts info_pay
      obtain ⟨n, hn⟩ : ∃ n, ds.length = n := ⟨_, rfl⟩
      obtain ⟨m, hm⟩ : ∃ m, ps.length = m := ⟨_, rfl⟩
      rw [hn] at HAL HBL HCL HD b0 hl HS1 HS2 HS3 ⊢
      rw [hm] at HP b1 hl2 HS1 HS2 ⊢
      have HN := Lib.hid hn
      have HM := Lib.hid hm
      clear hn hm
      go_enter Tryz.func5, Tryz.ntmps5
      go_wp2_with fail
      refine (HH.out _ (hT.below HB0.out)).mono ?_
      rintro e W1 ⟨rfl, hb1⟩
      have HF1 := Lib.hid (HK.out _ hb1)
      have HB1 := Lib.hid (below_trans HB0.out hb1)
      clear hb1
      go_wp2_with fail
      refine (HS1.out _ (HD.out.below HB1.out) (HP.out.below HB1.out)).mono ?_
      rintro e W2 ⟨⟨v2, rfl, hi2⟩, hb2⟩
      have HI2 := Lib.hid hi2
      have HB12 := Lib.hid hb2
      have HB2 := Lib.hid (below_trans HB1.out hb2)
      obtain ⟨aa, ac, rfl⟩ := hi2.len
      rw [HAL.out] at HI2 ⊢
      clear hi2 hb2
      go_wp2_with fail
      refine (HS2.out _ (HD.out.below HB2.out) (HP.out.below HB2.out)).mono ?_
      rintro e W3 ⟨⟨v3, rfl, hi3⟩, hb3⟩
      have HI3 := Lib.hid hi3
      have HI23 := Lib.hid (HI2.out.below hb3)
      have HB13 := Lib.hid (below_trans HB12.out hb3)
      have HB3 := Lib.hid (below_trans HB2.out hb3)
      obtain ⟨ba, bc, rfl⟩ := hi3.len
      rw [HBL.out] at HI3 ⊢
      clear hi3 hb3
      have hf3 := (HB13.out.block _ (lt_of_block HF1.out)).trans HF1.out
      have HF3 := Lib.hid hf3
      clear hf3
      go_upto_region 8 with (fail)
      go_cut [16, 17] (fun s t wx => IL wx s cr ∧ t = .int .i64 ce ∧ Below W3.heap.size W3 wx)
      case first =>
        obtain ⟨c0, c1, c2, c3⟩ := cells4 HF3.out
        have HP3 := Lib.hid (HP.out.below HB3.out)
        have HD3 := Lib.hid (HD.out.below HB3.out)
        have HC0 : Hid (∀ {W}, Below W3.heap.size W3 W → W.cell? ⟨w.heap.size, 0, none⟩ = some (.int .i64 f.k) ∧ W.cell? ⟨w.heap.size, 1, none⟩ = some (.int .i64 f.t) ∧ W.cell? ⟨w.heap.size, 2, none⟩ = some (.int .i64 f.f) ∧ W.cell? ⟨w.heap.size, 3, none⟩ = some (.int .i64 f.at_)) := fun h => ⟨below_cell h c0, below_cell h c1, below_cell h c2, below_cell h c3⟩
        have e1 := below_alloc W3 (.cells #[] 49)
        have e2 := below2 W3 (.cells #[] 49) (.cells #[.int .i64 f.k, .int .i64 f.t, .int .i64 f.f, .int .i64 f.at_] 49)
        have e3 := below2 W3 (.cells #[.int .i64 f.k, .int .i64 f.t, .int .i64 f.f, .int .i64 f.at_] 49) (.cells #[] 49)
        have e4 := below_alloc W3 (.cells #[.int .i64 f.k, .int .i64 f.t, .int .i64 f.f, .int .i64 f.at_] 49)
        obtain ⟨r0, r1, r2, r3⟩ := HC0.out e1
        have HE1 := Lib.hid e1
        have HE4 := Lib.hid e4
        have HE2 := Lib.hid e2
        have HE3 := Lib.hid e3
        have HO1 := Lib.hid (own_empty (W := (W3.alloc (.cells #[] 49)).drew) (B := W3.heap.size) (k := 4) (heap_alloc_new W3 _) (Nat.le_refl _))
        have HO2 := Lib.hid (own_empty (W := ((W3.alloc (.cells #[] 49)).alloc (.cells #[.int .i64 f.k, .int .i64 f.t, .int .i64 f.f, .int .i64 f.at_] 49)).drew) (B := W3.heap.size) (k := 4) (heapR2 W3 _ _).1 (Nat.le_refl _))
        have HO3 := Lib.hid (own_empty (W := ((W3.alloc (.cells #[.int .i64 f.k, .int .i64 f.t, .int .i64 f.f, .int .i64 f.at_] 49)).alloc (.cells #[] 49)).drew) (B := W3.heap.size) (k := 4) (heapR2 W3 _ _).2 (by omega))
        have HNP : Hid (([] : List (List Value)).length + (ps.map pcells).length ≤ 4000000) := by show _ ≤ _; rw [List.length_map, HM.out]; simp; omega
        have HNP2 : Hid ((([] : List (List Value)) ++ ps.map pcells).length + ([[.int .i64 f.k, .int .i64 f.t, .int .i64 f.f, .int .i64 f.at_]] : List (List Value)).length ≤ 4000000) := by show _ ≤ _; rw [List.length_append, List.length_map, HM.out]; simp; omega
        have HQ1 := Lib.hid (show SC 4 _ (.slice pa m pc) (ps.map pcells) from HP3.out.below HE1.out.drew)
        have HQ2 := Lib.hid (show SC 4 _ (.slice pa m pc) (ps.map pcells) from HP3.out.below HE2.out.drew)
        have HQ3 := Lib.hid (show SC 4 _ (.slice pa m pc) (ps.map pcells) from HP3.out.below HE3.out.drew)
        clear e1 e2 e3 e4
        go_wp2_with fail
        go_region_held3 (fun w' => w'.cell? ⟨w.heap.size, 0, none⟩ = some (.int .i64 f.k) ∧ w'.cell? ⟨w.heap.size, 1, none⟩ = some (.int .i64 f.t) ∧ w'.cell? ⟨w.heap.size, 2, none⟩ = some (.int .i64 f.f) ∧ w'.cell? ⟨w.heap.size, 3, none⟩ = some (.int .i64 f.at_))
          (first | with_reducible exact HC0.out (Below.refl _ _) | with_reducible exact HC0.out (Below.refl _ _).drew | with_reducible exact HC0.out HE1.out | with_reducible exact HC0.out HE1.out.drew | with_reducible exact HC0.out HE2.out.drew | with_reducible exact HC0.out HE3.out.drew | with_reducible exact HC0.out HE4.out.drew | with_reducible exact HC0.out hbx | exact HC0.out (hbx.alloc hbx.size _) | with_reducible exact HC0.out hb37 | with_reducible exact HC0.out hb38)
          (first
          | (refine step_append_rows (k := 4) (bytes := 32) rfl (.tmp 78) (.tmp 79) rfl W3.heap.size Tryz.underlying27 hi hz0 hz1 hz2 rfl (by decide) (by decide) _ (.slice pa m pc) [] (ps.map pcells) rfl rfl ?_ ?_ pay_len pay_one ?_ ?_ ?_
             go_must (change World.ownsRow _ _ _ _ (Value.slice _ _ _) _ _)
             go_must ((first | (with_reducible exact HO1.out) | (with_reducible exact HO2.out) | (with_reducible exact HO3.out)))
             go_must (change SC 4 _ (Value.slice _ _ _) _)
             go_must ((first | (with_reducible exact HQ1.out) | (with_reducible exact HQ2.out) | (with_reducible exact HQ3.out)))
             go_must ((first | (exact HNP.out) | (exact HE1.out.size) | (exact HE2.out.size) | (exact HE3.out.size)))
             go_must ((first | (exact HNP.out) | (exact HE1.out.size) | (exact HE2.out.size) | (exact HE3.out.size)))
             intro v6 W6 hv6 hb6 hk6
             have hbx : Below W3.heap.size W3 W6 := (by first | exact HE1.out.drew.trans hb6 | exact HE2.out.drew.trans hb6 | exact HE3.out.drew.trans hb6)
             first
               | have hR := Lib.hid ((hk6 (W3.heap.size + 1) (by simp) (fun h => absurd (Option.some.inj h : W3.heap.size = W3.heap.size + 1) (by omega))).trans (heapR2 W3 (.cells #[] 49) (.cells #[.int .i64 f.k, .int .i64 f.t, .int .i64 f.f, .int .i64 f.at_] 49)).2)
               | have hR := Lib.hid ((hk6 W3.heap.size (by simp; omega) (fun h => absurd (Option.some.inj h : W3.heap.size + 1 = W3.heap.size) (by omega))).trans (heapR2 W3 (.cells #[.int .i64 f.k, .int .i64 f.t, .int .i64 f.f, .int .i64 f.at_] 49) (.cells #[] 49)).1)
               | skip
             first
               | have hS6 := Lib.hid (sc_one (k := 4) (y := [.int .i64 f.k, .int .i64 f.t, .int .i64 f.f, .int .i64 f.at_]) rfl hR.out)
               | have hS6 := Lib.hid (sc_one (k := 4) (y := [.int .i64 f.k, .int .i64 f.t, .int .i64 f.f, .int .i64 f.at_]) rfl (kept_new (Below.refl _ (W6.alloc (.cells #[.int .i64 f.k, .int .i64 f.t, .int .i64 f.f, .int .i64 f.at_] 49)))))
             have hv6' := Lib.hid (hv6.alloc (.cells #[.int .i64 f.k, .int .i64 f.t, .int .i64 f.f, .int .i64 f.at_] 49))
             have HV6 := Lib.hid hv6
             clear hv6
             obtain ⟨g0, g1, g2, g3⟩ := HC0.out hbx
             clear hk6)
          | (refine step_append_rows (k := 4) (bytes := 32) rfl (.tmp 80) (.tmp 82) rfl W3.heap.size Tryz.underlying27 hi hz0 hz1 hz2 rfl (by decide) (by decide) v6 _ ([] ++ ps.map pcells) [[.int .i64 f.k, .int .i64 f.t, .int .i64 f.f, .int .i64 f.at_]] rfl rfl ?_ ?_ (pay_len (ds := [f])) (pay_one (ds := [f])) ?_ ?_ ?_
             go_must (change World.ownsRow _ _ _ _ v6 _ _)
             go_must ((first | (with_reducible exact HV6.out) | (with_reducible exact hv6'.out)))
             go_must (change SC 4 _ (Value.slice _ _ _) _)
             go_must (with_reducible exact hS6.out)
             go_must ((first | (with_reducible exact HNP2.out) | (with_reducible exact hbx.size) | (exact (hbx.alloc hbx.size (.cells #[.int .i64 f.k, .int .i64 f.t, .int .i64 f.f, .int .i64 f.at_] 49)).size)))
             go_must ((first | (with_reducible exact HNP2.out) | (with_reducible exact hbx.size) | (exact (hbx.alloc hbx.size (.cells #[.int .i64 f.k, .int .i64 f.t, .int .i64 f.f, .int .i64 f.at_] 49)).size)))
             intro v7 W7 hv7 hb7 hk7
             have hb37 : Below W3.heap.size W3 W7 := (by first | exact hbx.trans hb7 | exact (hbx.alloc hbx.size (.cells #[.int .i64 f.k, .int .i64 f.t, .int .i64 f.f, .int .i64 f.at_] 49)).trans hb7)
             have hp7 : PL W7 v7 (ps ++ [f]) := SC.of_own (k := 4) (xs := (ps ++ [f]).map pcells) pay_len rfl (by rw [List.map_append]; exact hv7)
             clear hk7)
          | (go_at_call 13
             refine (HS3.out v7 _ (HD3.out.below hb37) hp7).mono ?_
             rintro e W8 ⟨⟨v8, rfl, hi8⟩, hb8⟩
             have hb38 := below_trans hb37 hb8))
        all_goals
          have HBL8 := Lib.hid hb38
          have HI8 := Lib.hid hi8
          go_wp2_with fail
          go_meet
          case rel => exact ⟨HI8.out, rfl, HBL8.out⟩
      case rest =>
        obtain ⟨hic, rfl, hbc⟩ := hcut
        obtain ⟨ca, cc, rfl⟩ := hic.len
        have HIc := Lib.hid hic
        have HIa := Lib.hid (HI23.out.below hbc)
        have HIb := Lib.hid (HI3.out.below hbc)
        have HBc := Lib.hid hbc
        have HF4 := Lib.hid ((hbc.block _ (lt_of_block HF3.out)).trans HF3.out)
        clear hic hbc
        cases hall : Nt.allOk ds (ps ++ [f]) (max one two) with
        | false =>
          obtain ⟨rfl, rfl⟩ : cr = [] ∧ ce = 1 := by have := HCR.out; rw [hall] at this; exact Prod.mk.inj this
          clear hall
          go_wp2_with fail
          go_loopw [18] (fun i wr => ∃ k : Nat, i = .int .i64 k ∧ k ≤ n ∧ Below wc.heap.size wc wr) (fun i _ => n - (intOf i).toNat)
          case atStart => exact ⟨0, rfl, Nat.zero_le _, Below.refl _ _⟩
          case round =>
            obtain ⟨k, rfl, hk, hB⟩ := hrel
            by_cases hlt : k < n
            · obtain ⟨d, hd⟩ : ∃ d, ds[k]? = some d := ⟨_, List.getElem?_eq_getElem (by rw [HN.out]; exact hlt)⟩
              obtain ⟨x1, x2, x3⟩ := HXA.out k d hd
              obtain ⟨g1, rfl, -, c1⟩ := IL.at HIa.out x1
              obtain ⟨g2, rfl, -, c2⟩ := IL.at HIb.out x2
              have d1 := below_cell hB c1
              have d2 := below_cell hB c2
              have hla := Nt.settle1_later (ps := ps) (d := d) (show min one two ≤ max one two by omega)
              have hrg := Nt.settle1_range ps (max one two) d
              have h0 : (0 : Int) ≤ (k : Int) := Int.natCast_nonneg _
              have h1 : (k : Int) < (n : Int) := by omega
              have HBk := Lib.hid hB
              generalize Nt.settle1 ps (min one two) d = a at *
              generalize Nt.settle1 ps (max one two) d = b at *
              clear x3
              clear c1 c2 x1 x2 hd hB
              by_cases ha : 0 ≤ a
              · obtain rfl := hla ha
                clear hla hrg
                go_wp2_with fail
                go_quiet (fail)
                go_wp2
                go_roundw
                case rel => exact ⟨k + 1, rfl, hlt, below_drewN HBk.out _⟩
                case measure => (simp [intOf] <;> omega)
              · have b2 : decide (a ≥ 0) = false := decide_eq_false ha
                clear hla hrg ha
                go_wp2_with fail
                go_quiet (fail)
                go_wp2
                go_roundw
                case rel => exact ⟨k + 1, rfl, hlt, below_drewN HBk.out _⟩
                case measure => (simp [intOf] <;> omega)
            · obtain rfl : k = n := by omega
              have HBk := Lib.hid (below_trans HB3.out (below_trans HBc.out hB))
              clear hB hlt hk
              go_wp2
              go_ret
              exact ⟨rfl, HBk.out⟩
        | true =>
          obtain ⟨rfl, rfl⟩ : cr = cl ∧ ce = 0 := by have := HCR.out; rw [hall] at this; exact Prod.mk.inj this
          rw [HCL.out] at HIc ⊢
          clear hall
          go_wp2_with fail
          go_loopw [18] (fun i wr => ∃ k : Nat, i = .int .i64 k ∧ k ≤ n ∧ Below wc.heap.size wc wr) (fun i _ => n - (intOf i).toNat)
          case atStart => exact ⟨0, rfl, Nat.zero_le _, Below.refl _ _⟩
          case round =>
            obtain ⟨k, rfl, hk, hB⟩ := hrel
            by_cases hlt : k < n
            · obtain ⟨d, hd⟩ : ∃ d, ds[k]? = some d := ⟨_, List.getElem?_eq_getElem (by rw [HN.out]; exact hlt)⟩
              obtain ⟨x1, x2, x3⟩ := HXA.out k d hd
              obtain ⟨g1, rfl, -, c1⟩ := IL.at HIa.out x1
              obtain ⟨g2, rfl, -, c2⟩ := IL.at HIb.out x2
              obtain ⟨g3, rfl, -, c3⟩ := IL.at HIc.out x3
              have d3 := below_cell hB c3
              have d1 := below_cell hB c1
              have d2 := below_cell hB c2
              have hla := Nt.settle1_later (ps := ps) (d := d) (show min one two ≤ max one two by omega)
              have hrg := Nt.settle1_range ps (max one two) d
              have hmo := fun i p => Nt.settle1_more (ps := ps) (d := d) (t := max one two) f (i := i) (p := p)
              have h0 : (0 : Int) ≤ (k : Int) := Int.natCast_nonneg _
              have h1 : (k : Int) < (n : Int) := by omega
              have HBk := Lib.hid hB
              generalize Nt.settle1 ps (min one two) d = a at *
              generalize Nt.settle1 ps (max one two) d = b at *
              generalize Nt.settle1 (ps ++ [f]) (max one two) d = c at *
              clear c3 x3
              clear c1 c2 x1 x2 hd hB
              obtain ⟨-, -, -, q3⟩ := cells4 ((HBk.out.block _ (lt_of_block HF4.out)).trans HF4.out)
              by_cases ha : 0 ≤ a
              · obtain rfl := hla ha
                have HB0' := ha
                clear ha
                obtain ⟨i, p, hbi, hpi⟩ := hrg HB0'
                subst hbi
                have hmo' := hmo i p rfl hpi
                have him : i < m := by rw [← HM.out]; exact (List.getElem?_eq_some_iff.1 hpi).1
                obtain ⟨pp, rfl, -, a0, a1, a2, a3⟩ := PL.at HP.out hpi
                have y3 := below_cell (below_trans HB3.out (below_trans HBc.out HBk.out)) a3
                have i0' : (0 : Int) ≤ (i : Int) := Int.natCast_nonneg _
                have i1' : (i : Int) < (m : Int) := by omega
                have b3 : decide (m ≤ i) = false := decide_eq_false (by omega)
                have b4 : decide ((i : Int) < 0) = false := decide_eq_false (by omega)
                rw [HM.out] at hmo'
                clear a0 a1 a2 a3 hpi hrg hmo hla
                rcases hmo' with rfl | ⟨rfl, hlt3⟩
                · go_wp2_with fail
                  go_quiet (fail)
                  go_wp2_with fail
                  go_quiet (fail)
                  go_wp2
                  go_roundw
                  case rel => exact ⟨k + 1, rfl, hlt, below_drewN HBk.out _⟩
                  case measure => (simp [intOf] <;> omega)
                · have b5 : ((m : Int) != (i : Int)) = true := by rw [bne_iff_ne]; omega
                  have b6 : decide (f.at_ ≥ p.at_) = false := decide_eq_false (by omega)
                  have b7 : ((m : Int) == (i : Int)) = false := by rw [beq_eq_false_iff_ne]; omega
                  clear hlt3
                  go_wp2_with fail
                  go_quiet (fail)
                  go_wp2_with fail
                  go_quiet (fail)
                  go_wp2
                  go_roundw
                  case rel => exact ⟨k + 1, rfl, hlt, below_drewN HBk.out _⟩
                  case measure => (simp [intOf] <;> omega)
              · have b2 : decide (a ≥ 0) = false := decide_eq_false ha
                clear ha
                by_cases hb : b < 0
                · clear hrg hmo hla
                  go_wp2_with fail
                  go_quiet (fail)
                  go_wp2
                  go_roundw
                  case rel => exact ⟨k + 1, rfl, hlt, below_drewN HBk.out _⟩
                  case measure => (simp [intOf] <;> omega)
                · have HB0' : 0 ≤ b := by omega
                  clear hb
                  obtain ⟨i, p, hbi, hpi⟩ := hrg HB0'
                  subst hbi
                  have hmo' := hmo i p rfl hpi
                  have him : i < m := by rw [← HM.out]; exact (List.getElem?_eq_some_iff.1 hpi).1
                  obtain ⟨pp, rfl, -, a0, a1, a2, a3⟩ := PL.at HP.out hpi
                  have y3 := below_cell (below_trans HB3.out (below_trans HBc.out HBk.out)) a3
                  have i0' : (0 : Int) ≤ (i : Int) := Int.natCast_nonneg _
                  have i1' : (i : Int) < (m : Int) := by omega
                  have b3 : decide (m ≤ i) = false := decide_eq_false (by omega)
                  have b4 : decide ((i : Int) < 0) = false := decide_eq_false (by omega)
                  rw [HM.out] at hmo'
                  clear a0 a1 a2 a3 hpi hrg hmo hla
                  rcases hmo' with rfl | ⟨rfl, hlt3⟩
                  · go_wp2_with fail
                    go_quiet (fail)
                    go_wp2_with fail
                    go_quiet (fail)
                    go_wp2
                    go_roundw
                    case rel => exact ⟨k + 1, rfl, hlt, below_drewN HBk.out _⟩
                    case measure => (simp [intOf] <;> omega)
                  · have b5 : ((m : Int) != (i : Int)) = true := by rw [bne_iff_ne]; omega
                    have b6 : decide (f.at_ ≥ p.at_) = false := decide_eq_false (by omega)
                    have b7 : ((m : Int) == (i : Int)) = false := by rw [beq_eq_false_iff_ne]; omega
                    clear hlt3
                    go_wp2_with fail
                    go_quiet (fail)
                    go_wp2_with fail
                    go_quiet (fail)
                    go_wp2
                    go_roundw
                    case rel => exact ⟨k + 1, rfl, hlt, below_drewN HBk.out _⟩
                    case measure => (simp [intOf] <;> omega)
            · obtain rfl : k = n := by omega
              have HBk := Lib.hid (below_trans HB3.out (below_trans HBc.out hB))
              clear hB hlt hk
              go_wp2
              go_ret
              exact ⟨rfl, HBk.out⟩
end Go.Proofs.YtcphclpekllcoaaGreatDoor
