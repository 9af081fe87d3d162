/- Walks: package observatoryref18: Settle. -/
import Derived.Test.YtcphclpekllcoaaGreatDoorRk
namespace Go.Proofs.YtcphclpekllcoaaGreatDoor
open Go.RowKit Go.Sort Go.Deep

theorem IL.of_own {W : World} {B : Nat} {v : Value} {xs : List Int} (h : W.ownsRow B 3 1 v xs.length (xs.map fun (x : Int) => Value.int .i64 x)) : IL W v xs := by
  have h' := h
  obtain ⟨-, ⟨rfl, h0⟩ | ⟨g, cap, cur, rfl, -, -, h2, h3, -⟩⟩ := h
  · obtain rfl := List.length_eq_zero_iff.1 h0
    exact il_nil W
  · refine ⟨some ⟨g, 0, none⟩, cap, rfl, h2, h3, .inr ⟨g, rfl, fun i x hx => ?_⟩⟩
    have hlt := (List.getElem?_eq_some_iff.1 hx).1
    rw [h'.cellAt i (by omega), List.getElem?_map, hx]; rfl

theorem ownsRow_below {W W' : World} {B : Nat} {e : TypeId} {s : Nat} {v : Value} {n : Nat} {xs : List Value} (h : W.ownsRow B e s v n xs) (hb : Below W.heap.size W W') : W'.ownsRow B e s v n xs :=
  h.kept (row := none) ⟨hb.os, hb.tape, hb.output, hb.size, fun k hk _ => hb.block k hk⟩ (Classical.em _)

/-- What the search has found among the first k payments. -/
def fnd (d : Nt.Deb) (ps : List Nt.Pay) (t : Int) (k : Nat) : Int := Nt.bst d ps t (List.range ps.length) k
theorem fnd_succ {d : Nt.Deb} {ps : List Nt.Pay} {t : Int} {k : Nat} (h : k < ps.length) : fnd d ps t (k + 1) = Nt.better d ps t (fnd d ps t k) k := Nt.bst_succ (by rw [List.getElem?_range h])
theorem fnd_end (d : Nt.Deb) (ps : List Nt.Pay) (t : Int) : fnd d ps t ps.length = Nt.settle1 ps t d := by
  unfold fnd Nt.bst Nt.settle1
  rw [List.take_of_length_le (by simp)]

theorem settle_take {ds : List Nt.Deb} {ps : List Nt.Pay} {t : Int} {k : Nat} {d : Nt.Deb} (h : ds[k]? = some d) : Nt.settle (ds.take (k + 1)) ps t = Nt.settle (ds.take k) ps t ++ [Nt.settle1 ps t d] := by
  unfold Nt.settle
  rw [List.take_add_one, h]
  simp

set_option maxHeartbeats 6400000 in
set_option maxRecDepth 100000 in
theorem r18settle_ok (dv pv : Value) (ds : List Nt.Deb) (ps : List Nt.Pay) (t : Int) (w : World) (hd : DL w dv ds) (hp : PL w pv ps) (hok : Nt.allOk ds ps t = true) :
    Calls Tryz.prog 14 #[dv, pv, .int .i64 t] w fun e w' => (∃ v, e = .returned (.tuple #[v, .int .i64 0]) ∧ IL w' v (Nt.settle ds ps t)) ∧ Below w.heap.size w w' := by
  obtain ⟨da, dc, rfl⟩ := hd.len
  obtain ⟨pa, pc, rfl⟩ := hp.len
  have HV1 := Lib.hid (r18debts_any _ ds w hd)
  have HV2 := Lib.hid fun W hp => r18pays_any (.slice pa ps.length pc) ps W hp
  have HV3 := Lib.hid fun W => r9is_any t W
  unfold Nt.allOk at hok
  simp only [Bool.and_eq_true, decide_eq_true_eq] at hok
  obtain ⟨⟨⟨⟨hn1, hm1⟩, ht⟩, ha1⟩, ha2⟩ := hok
  rw [decide_eq_true hn1, ha1] at HV1
  rw [decide_eq_true hm1, ha2] at HV2
  rw [ht] at HV3
  have HD := Lib.hid hd
  have HP := Lib.hid hp
  obtain ⟨n, hn⟩ : ∃ n, ds.length = n := ⟨_, rfl⟩
  obtain ⟨m, hm⟩ : ∃ m, ps.length = m := ⟨_, rfl⟩
  rw [hn] at hn1 HD HV1 ⊢
  rw [hm] at hm1 HP HV2 ⊢
  have HN := Lib.hid hn
  have HM := Lib.hid hm
  obtain ⟨i0, hi, hz0, hz1, hz2⟩ := info_parts info_i64
  clear ha1 ha2 ht hd hp hn hm
  go_enter Tryz.func14, Tryz.ntmps14
  go_wp2_with fail
  refine HV1.out.mono ?_
  rintro e W1 ⟨rfl, hb1⟩
  go_wp2_with fail
  refine (HV2.out _ (HP.out.below hb1)).mono ?_
  rintro e W2 ⟨rfl, hb2⟩
  have HB2 := Lib.hid (below_trans hb1 hb2)
  clear hb1 hb2
  go_wp2_with fail
  refine (HV3.out _).mono ?_
  rintro e W3 ⟨rfl, rfl⟩
  go_wp2_with fail
  go_loopw [8, 9, 10, 11] (fun v i _ _ wr => ∃ k : Nat, i = .int .i64 k ∧ k ≤ n ∧ wr.ownsRow W2.heap.size 3 1 v k ((Nt.settle (ds.take k) ps t).map fun (x : Int) => Value.int .i64 x) ∧ Below W2.heap.size W2 wr) (fun _ i _ _ _ => n - (intOf i).toNat)
  case atStart => exact ⟨0, rfl, Nat.zero_le _, World.ownsRow_nil _ _ _ _, Below.refl _ _⟩
  case round =>
    obtain ⟨k, rfl, hk, hown, hB⟩ := hrel
    by_cases hlt : k < n
    · obtain ⟨d, hd⟩ : ∃ d, ds[k]? = some d := ⟨_, List.getElem?_eq_getElem (by rw [HN.out]; exact hlt)⟩
      obtain ⟨p, rfl, -, e0, e1, e2, e3, e4, e5⟩ := DL.at HD.out hd
      obtain ⟨wq, rfl⟩ : ∃ wq : World, wq = wr := ⟨wr, rfl⟩
      have HST := Lib.hid (settle_take (ps := ps) (t := t) hd)
      have HE := Lib.hid (fnd_end d ps t)
      have HBB := Lib.hid (below_trans HB2.out hB)
      have HOWN := Lib.hid hown
      have HBW := Lib.hid hB
      have HFI := Lib.hid fun q W => r18fits_any d q t W
      have HDC : Hid (∀ {W}, Below wq.heap.size wq W → W.cell? (p.add (k * 6)) = some (.int .i64 d.k) ∧ W.cell? ⟨(p.add (k * 6)).block, (p.add (k * 6)).off + 1, none⟩ = some (.int .i64 d.t) ∧ W.cell? ⟨(p.add (k * 6)).block, (p.add (k * 6)).off + 2, none⟩ = some (.int .i64 d.f) ∧ W.cell? ⟨(p.add (k * 6)).block, (p.add (k * 6)).off + 3, none⟩ = some (.int .i64 d.fr) ∧ W.cell? ⟨(p.add (k * 6)).block, (p.add (k * 6)).off + 4, none⟩ = some (.int .i64 d.un) ∧ W.cell? ⟨(p.add (k * 6)).block, (p.add (k * 6)).off + 5, none⟩ = some (.int .i64 d.pr)) := fun h => by
        have h2 := below_trans HBB.out h
        exact ⟨below_cell h2 e0, below_cell h2 e1, below_cell h2 e2, below_cell h2 e3, below_cell h2 e4, below_cell h2 e5⟩
      obtain ⟨dk, dt, df, dfr, dun, dpr⟩ := d
      dsimp only at HDC
      have k0 : (0 : Int) ≤ (k : Int) := Int.natCast_nonneg _
      have k1 : (k : Int) < (n : Int) := by omega
      clear e0 e1 e2 e3 e4 e5 hd hown hB
      generalize hD : (⟨dk, dt, df, dfr, dun, dpr⟩ : Nt.Deb) = D at *
      go_wp2_with fail
      go_loopw [10, 11] (fun b i wr => ∃ j : Nat, i = .int .i64 j ∧ j ≤ m ∧ b = .int .i64 (fnd D ps t j) ∧ Below wq.heap.size wq wr) (fun _ i _ => m - (intOf i).toNat)
      case atStart => exact ⟨0, rfl, Nat.zero_le _, rfl, Below.refl _ _⟩
      case round =>
        obtain ⟨j, rfl, hj, rfl, hB2⟩ := hrel
        by_cases hltj : j < m
        · obtain ⟨q, hq⟩ : ∃ q, ps[j]? = some q := ⟨_, List.getElem?_eq_getElem (by rw [HM.out]; exact hltj)⟩
          obtain ⟨pp, rfl, -, a0, a1, a2, a3⟩ := PL.at HP.out hq
          have hbw := below_trans HBB.out hB2
          have z0 := below_cell hbw a0
          have z1 := below_cell hbw a1
          have z2 := below_cell hbw a2
          have z3 := below_cell hbw a3
          obtain ⟨y0, y1, y2, y3, y4, y5⟩ := HDC.out hB2
          have hsucc := fnd_succ (d := D) (ps := ps) (t := t) (k := j) (by rw [HM.out]; exact hltj)
          have hform := Nt.bst_form D ps t (List.range ps.length) j
          have hform' : fnd D ps t j = -1 ∨ ∃ i : Nat, i < ps.length ∧ fnd D ps t j = (i : Int) := hform
          have HF := Lib.hid fun W => HFI.out q W
          have HBN := Lib.hid hB2
          have j0 : (0 : Int) ≤ (j : Int) := Int.natCast_nonneg _
          have j1 : (j : Int) < (m : Int) := by omega
          generalize fnd D ps t j = b at hsucc hform' ⊢
          have hcase : (Nt.fit D q t = false ∧ Nt.better D ps t b j = b) ∨ (Nt.fit D q t = true ∧ b < 0 ∧ Nt.better D ps t b j = (j : Int)) ∨
              (Nt.fit D q t = true ∧ ∃ (i : Nat) (r : Nt.Pay), b = (i : Int) ∧ i < m ∧ ps[i]? = some r ∧ ((q.at_ < r.at_ ∧ Nt.better D ps t b j = (j : Int)) ∨ (¬ q.at_ < r.at_ ∧ Nt.better D ps t b j = b))) := by
            cases hf : Nt.fit D q t with
            | false => exact .inl ⟨rfl, Nt.better_no hq (fun h => by rw [hf] at h; cases h.1)⟩
            | true =>
              right
              by_cases hb : b < 0
              · exact .inl ⟨rfl, hb, Nt.better_yes hq hf (.inl hb)⟩
              · obtain ⟨i, hi, rfl⟩ := hform'.resolve_left (fun e => hb (by rw [e]; decide))
                obtain ⟨r, hr⟩ : ∃ r, ps[i]? = some r := ⟨_, List.getElem?_eq_getElem hi⟩
                refine .inr ⟨rfl, i, r, rfl, by have := HM.out; omega, hr, ?_⟩
                by_cases hlt : q.at_ < r.at_
                · exact .inl ⟨hlt, Nt.better_yes hq hf (.inr fun x hx => by rw [Int.toNat_natCast, hr] at hx; obtain rfl := Option.some.inj hx; exact hlt)⟩
                · exact .inr ⟨hlt, Nt.better_no hq (fun h => h.2.elim (fun h => hb h) (fun h => hlt (h r (by rw [Int.toNat_natCast]; exact hr))))⟩
          clear hform hform' a0 a1 a2 a3 hbw hB2
          have HQ := Lib.hid hq
          clear hq
          obtain ⟨qk, qt, qf, qat⟩ := q
          subst hD
          unfold dv6 pv4 dcells pcells at HF
          dsimp only at HF z0 z1 z2 z3 hcase
          generalize hD : (⟨dk, dt, df, dfr, dun, dpr⟩ : Nt.Deb) = D at *
          rcases hcase with ⟨hf, hb⟩ | ⟨hf, hneg, hb⟩ | ⟨hf, i, r, rfl, him, hr, ⟨hlt2, hb⟩ | ⟨hlt2, hb⟩⟩
          · rw [hf] at HF
            have HSU := Lib.hid (hsucc.trans hb)
            clear hf hb hsucc
            go_upto_region 11 with (fail)
            have k_y0 := fun d os => Go.cell_regrown (w := wr) y0 d os
            have k_y1 := fun d os => Go.cell_regrown (w := wr) y1 d os
            have k_y2 := fun d os => Go.cell_regrown (w := wr) y2 d os
            have k_y3 := fun d os => Go.cell_regrown (w := wr) y3 d os
            have k_y4 := fun d os => Go.cell_regrown (w := wr) y4 d os
            have k_y5 := fun d os => Go.cell_regrown (w := wr) y5 d os
            have k_z0 := fun d os => Go.cell_regrown (w := wr) z0 d os
            have k_z1 := fun d os => Go.cell_regrown (w := wr) z1 d os
            have k_z2 := fun d os => Go.cell_regrown (w := wr) z2 d os
            have k_z3 := fun d os => Go.cell_regrown (w := wr) z3 d os
            refine wp_region_quiet_below (by kernel_rfl) (by kernel_rfl) ?_
            repeat (first | go_big_quiet_step ((go_at_call 35; exact Calls.regrown_of (HF.out _))) | quiet_step ((go_at_call 35; exact Calls.regrown_of (HF.out _))))
            refine wpQuiet_nil ?_
            intro _ hw'
            obtain ⟨⟨dq, osq⟩, hw''⟩ := hw'
            subst hw''
            have hg := Go.below_regrown wr dq osq
            generalize Go.Sort.grow (Go.redrawn wr dq) osq = W' at hg ⊢
            clear k_y0 k_y1 k_y2 k_y3 k_y4 k_y5 k_z0 k_z1 k_z2 k_z3 y0 y1 y2 y3 y4 y5 z0 z1 z2 z3
            have HBG := Lib.hid (below_trans HBN.out hg)
            clear hg
            go_wp2
            go_roundw
            case rel => exact ⟨j + 1, rfl, hltj, by rw [HSU.out], HBG.out⟩
            case measure => simp [intOf]; omega
          · rw [hf] at HF
            have HSU := Lib.hid (hsucc.trans hb)
            clear hf hb hsucc
            go_upto_region 11 with (fail)
            have k_y0 := fun d os => Go.cell_regrown (w := wr) y0 d os
            have k_y1 := fun d os => Go.cell_regrown (w := wr) y1 d os
            have k_y2 := fun d os => Go.cell_regrown (w := wr) y2 d os
            have k_y3 := fun d os => Go.cell_regrown (w := wr) y3 d os
            have k_y4 := fun d os => Go.cell_regrown (w := wr) y4 d os
            have k_y5 := fun d os => Go.cell_regrown (w := wr) y5 d os
            have k_z0 := fun d os => Go.cell_regrown (w := wr) z0 d os
            have k_z1 := fun d os => Go.cell_regrown (w := wr) z1 d os
            have k_z2 := fun d os => Go.cell_regrown (w := wr) z2 d os
            have k_z3 := fun d os => Go.cell_regrown (w := wr) z3 d os
            refine wp_region_quiet_below (by kernel_rfl) (by kernel_rfl) ?_
            repeat (first | go_big_quiet_step ((go_at_call 35; exact Calls.regrown_of (HF.out _))) | quiet_step ((go_at_call 35; exact Calls.regrown_of (HF.out _))))
            refine wpQuiet_nil ?_
            intro _ hw'
            obtain ⟨⟨dq, osq⟩, hw''⟩ := hw'
            subst hw''
            have hg := Go.below_regrown wr dq osq
            generalize Go.Sort.grow (Go.redrawn wr dq) osq = W' at hg ⊢
            clear k_y0 k_y1 k_y2 k_y3 k_y4 k_y5 k_z0 k_z1 k_z2 k_z3 y0 y1 y2 y3 y4 y5 z0 z1 z2 z3
            have HBG := Lib.hid (below_trans HBN.out hg)
            clear hg
            go_wp2
            go_roundw
            case rel => exact ⟨j + 1, rfl, hltj, by rw [HSU.out], HBG.out⟩
            case measure => simp [intOf]; omega
          · rw [hf] at HF
            have HSU := Lib.hid (hsucc.trans hb)
            obtain ⟨_, r1, -, a0, a1, a2, a3⟩ := PL.at HP.out hr
            obtain rfl := Option.some.inj r1
            have u3 := below_cell (below_trans HBB.out HBN.out) a3
            have i0 : (0 : Int) ≤ (i : Int) := Int.natCast_nonneg _
            have i1 : (i : Int) < (m : Int) := by omega
            have bneg : decide ((i : Int) < 0) = false := decide_eq_false (by omega)
            have bq := decide_eq_true hlt2
            generalize r.at_ = rat at *
            clear hf hb hsucc a0 a1 a2 a3 hr hlt2
            go_upto_region 11 with (fail)
            have k_y0 := fun d os => Go.cell_regrown (w := wr) y0 d os
            have k_y1 := fun d os => Go.cell_regrown (w := wr) y1 d os
            have k_y2 := fun d os => Go.cell_regrown (w := wr) y2 d os
            have k_y3 := fun d os => Go.cell_regrown (w := wr) y3 d os
            have k_y4 := fun d os => Go.cell_regrown (w := wr) y4 d os
            have k_y5 := fun d os => Go.cell_regrown (w := wr) y5 d os
            have k_z0 := fun d os => Go.cell_regrown (w := wr) z0 d os
            have k_z1 := fun d os => Go.cell_regrown (w := wr) z1 d os
            have k_z2 := fun d os => Go.cell_regrown (w := wr) z2 d os
            have k_z3 := fun d os => Go.cell_regrown (w := wr) z3 d os
            have k_u3 := fun d os => Go.cell_regrown (w := wr) u3 d os
            refine wp_region_quiet_below (by kernel_rfl) (by kernel_rfl) ?_
            repeat (first | go_big_quiet_step ((go_at_call 35; exact Calls.regrown_of (HF.out _))) | quiet_step ((go_at_call 35; exact Calls.regrown_of (HF.out _))))
            refine wpQuiet_nil ?_
            intro _ hw'
            obtain ⟨⟨dq, osq⟩, hw''⟩ := hw'
            subst hw''
            have hg := Go.below_regrown wr dq osq
            generalize Go.Sort.grow (Go.redrawn wr dq) osq = W' at hg ⊢
            clear k_y0 k_y1 k_y2 k_y3 k_y4 k_y5 k_z0 k_z1 k_z2 k_z3 y0 y1 y2 y3 y4 y5 z0 z1 z2 z3 k_u3 u3
            have HBG := Lib.hid (below_trans HBN.out hg)
            clear hg
            go_wp2
            go_roundw
            case rel => exact ⟨j + 1, rfl, hltj, by rw [HSU.out], HBG.out⟩
            case measure => simp [intOf]; omega
          · rw [hf] at HF
            have HSU := Lib.hid (hsucc.trans hb)
            obtain ⟨_, r1, -, a0, a1, a2, a3⟩ := PL.at HP.out hr
            obtain rfl := Option.some.inj r1
            have u3 := below_cell (below_trans HBB.out HBN.out) a3
            have i0 : (0 : Int) ≤ (i : Int) := Int.natCast_nonneg _
            have i1 : (i : Int) < (m : Int) := by omega
            have bneg : decide ((i : Int) < 0) = false := decide_eq_false (by omega)
            have bq := decide_eq_false hlt2
            generalize r.at_ = rat at *
            clear hf hb hsucc a0 a1 a2 a3 hr hlt2
            go_upto_region 11 with (fail)
            have k_y0 := fun d os => Go.cell_regrown (w := wr) y0 d os
            have k_y1 := fun d os => Go.cell_regrown (w := wr) y1 d os
            have k_y2 := fun d os => Go.cell_regrown (w := wr) y2 d os
            have k_y3 := fun d os => Go.cell_regrown (w := wr) y3 d os
            have k_y4 := fun d os => Go.cell_regrown (w := wr) y4 d os
            have k_y5 := fun d os => Go.cell_regrown (w := wr) y5 d os
            have k_z0 := fun d os => Go.cell_regrown (w := wr) z0 d os
            have k_z1 := fun d os => Go.cell_regrown (w := wr) z1 d os
            have k_z2 := fun d os => Go.cell_regrown (w := wr) z2 d os
            have k_z3 := fun d os => Go.cell_regrown (w := wr) z3 d os
            have k_u3 := fun d os => Go.cell_regrown (w := wr) u3 d os
            refine wp_region_quiet_below (by kernel_rfl) (by kernel_rfl) ?_
            repeat (first | go_big_quiet_step ((go_at_call 35; exact Calls.regrown_of (HF.out _))) | quiet_step ((go_at_call 35; exact Calls.regrown_of (HF.out _))))
            refine wpQuiet_nil ?_
            intro _ hw'
            obtain ⟨⟨dq, osq⟩, hw''⟩ := hw'
            subst hw''
            have hg := Go.below_regrown wr dq osq
            generalize Go.Sort.grow (Go.redrawn wr dq) osq = W' at hg ⊢
            clear k_y0 k_y1 k_y2 k_y3 k_y4 k_y5 k_z0 k_z1 k_z2 k_z3 y0 y1 y2 y3 y4 y5 z0 z1 z2 z3 k_u3 u3
            have HBG := Lib.hid (below_trans HBN.out hg)
            clear hg
            go_wp2
            go_roundw
            case rel => exact ⟨j + 1, rfl, hltj, by rw [HSU.out], HBG.out⟩
            case measure => simp [intOf]; omega
        · obtain rfl : j = m := by omega
          rw [show fnd D ps t j = Nt.settle1 ps t D by rw [← HM.out]; exact HE.out]
          have hown2 := (ownsRow_below HOWN.out hB2).alloc (.cells #[.int .i64 (Nt.settle1 ps t D)] 3)
          have hlast : ∀ x ∈ [Value.int .i64 (Nt.settle1 ps t D)], x.oneCell' = true := by intro u hu; simp at hu; subst hu; rfl
          have hBn := Lib.hid (below_trans HBW.out hB2)
          have HST2 : Hid (((Nt.settle (ds.take k) ps t).map fun (x : Int) => Value.int .i64 x) ++ [.int .i64 (Nt.settle1 ps t D)] = (Nt.settle (ds.take (k + 1)) ps t).map fun (x : Int) => Value.int .i64 x) := by
            show _ = _
            rw [HST.out]; simp
          generalize Nt.settle1 ps t D = s1 at *
          have hc8 : ∀ j v, ([Value.int .i64 s1] : List Value)[j]? = some v → (wr.alloc (.cells #[.int .i64 s1] 3)).cell? ((⟨wr.heap.size, 0, none⟩ : Addr).add j) = some v := by
            intro j v hj
            cases j with
            | zero => simp at hj; subst hj; exact World.cell?_alloc_new _ _ _ _
            | succ j => simp at hj
          have hsz8 : W2.heap.size ≤ wr.heap.size := hBn.out.size
          clear hB2 hltj hj
          go_wp2_with (at_builtin; go_must (refine wpList_append_own _ rfl _ _ 33 rfl W2.heap.size 3 i0 (.int .i64 0) 1 8 Tryz.underlying33 hi hz0 hz1 hz2 rfl (by decide) _ _ _ rfl hown2 ⟨wr.heap.size, 0, none⟩ 1 1 [.int .i64 s1] rfl rfl hc8 hlast (by unfold maxLen; omega) (by omega) (by simp; omega) ?_); intro v' w1 hown' hgrow _)
          have HOW2 := Lib.hid hown'
          have HBG := Lib.hid ((hBn.out.alloc hBn.out.size (.cells #[.int .i64 s1] 3)).grown hgrow (Nat.le_trans hBn.out.size (by simp)) (fun k e => (hown2.lt k e).1))
          clear hown2 hown' hgrow hc8 hlast
          go_wp2
          go_roundw
          case rel => exact ⟨k + 1, rfl, hlt, by
            have := HOW2.out
            rw [HST2.out] at this
            exact this, HBG.out⟩
          case measure => simp [intOf]; omega
    · obtain rfl : k = n := by omega
      have he : ds.take k = ds := List.take_of_length_le (by rw [HN.out]; omega)
      rw [he] at hown
      have hlen : (Nt.settle ds ps t).length = k := by unfold Nt.settle; rw [List.length_map]; exact HN.out
      have HIL := Lib.hid (IL.of_own (by rw [hlen]; exact hown))
      have HB := Lib.hid (below_trans HB2.out hB)
      clear hown hB he hlen
      go_wp2
      go_ret2
      exact ⟨⟨_, rfl, HIL.out⟩, HB.out⟩
end Go.Proofs.YtcphclpekllcoaaGreatDoor
