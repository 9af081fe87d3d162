/- Walks: appending limbs; reading a number; products. -/
import Derived.Test.YtcphclpekllcoaaGreatDoorWc
import Derived.Laws.AppendOwnNone
import Derived.Deep.AppendLies
import Derived.Deep.DeepCutAuto
import Derived.Deep.CutRange
import Derived.Deep.RegionWith
import Derived.Deep.RegionLaw
import Derived.Deep.DeepMust
namespace Go.Proofs.YtcphclpekllcoaaGreatDoor
open Go.RowKit

theorem add_lit (g j : Nat) : (⟨g, 0, none⟩ : Addr).add j = ⟨g, j, none⟩ := by unfold Addr.add; split <;> simp_all

def ints (xs : List Nat) : List Value := xs.map fun (x : Nat) => Value.int .i64 (x : Int)
theorem ints_at (xs : List Nat) (i : Nat) (h : i < xs.length) : (ints xs)[i]? = some (.int .i64 ((xs[i]?.getD 0 : Nat) : Int)) := by
  simp [ints, List.getElem?_eq_getElem h]

/-- A row of one's own is a list of limbs. -/
theorem LB.of_own {w : World} {B : Nat} {v : Value} {xs : List Nat} (h : w.ownsRow B 3 1 v xs.length (ints xs)) : LB w v xs := by
  have h0 := h
  obtain ⟨h1, h2⟩ := h
  rcases h2 with ⟨rfl, h2⟩ | ⟨g, cap, cur, rfl, hb, hg, hn, hm, hc, ht⟩
  · have : xs = [] := List.length_eq_zero_iff.1 h2
    subst this
    exact ⟨none, 0, rfl, Nat.le_refl _, by unfold maxLen; omega, .inl ⟨rfl, rfl, rfl⟩⟩
  · refine ⟨some ⟨g, 0, none⟩, cap, rfl, hn, hm, .inr ⟨g, rfl, fun i hi => ?_⟩⟩
    have := h0.cells (g := g) rfl i _ (ints_at xs i hi)
    rwa [add_lit] at this

theorem info_int : (Tryz.prog.info? 3).map (fun i => (i.zero, i.size, i.bytes)) = some (some (.int .i64 0), 1, 8) := by kernel_rfl

/-- What append does to a row of one's own limbs. -/
theorem run_append_lb (w : World) (B : Nat) (v u : Value) (xs ys : List Nat) (ty : TypeId) (hv : w.ownsRow B 3 1 v xs.length (ints xs)) (hu : LB w u ys) (hB : B ≤ w.heap.size)
    (hn : xs.length + ys.length ≤ 4000000) :
    ∃ v' w', (Builtin.append_ #[96, 96] ty #[v, u]).run Tryz.prog w = .ok v' w' ∧ w'.ownsRow B 3 1 v' (xs ++ ys).length (ints (xs ++ ys)) ∧ Below B w w' := by
  obtain ⟨i0, hi, hz0, hz1, hz2⟩ := info_parts info_int
  obtain ⟨a, c, rfl, h1, h2, h3⟩ := hu
  rcases h3 with ⟨rfl, rfl, rfl⟩ | ⟨g, rfl, h3⟩
  · refine ⟨v, w, ?_, by simpa using hv, Below.refl _ _⟩
    exact run_append_owned_none (P := Tryz.prog) (w := w) B 96 ty 3 i0 1 Tryz.underlying96 hi v _ _ hv
  · obtain ⟨v', w', hr, h4, h5, _⟩ := run_append_own (P := Tryz.prog) w B 96 ty 3 i0 (.int .i64 0) 1 8 Tryz.underlying96 hi hz0 hz1 hz2 rfl (by decide) v xs.length (ints xs) hv
      ⟨g, 0, none⟩ ys.length c (ints ys) (by simp [ints]) (fun j x hj => by
        have hj' : j < ys.length := by
          have := (List.getElem?_eq_some_iff.1 hj).1
          simpa [ints] using this
        rw [ints_at ys j hj'] at hj
        simp only [Option.some.injEq] at hj
        subst hj
        rw [add_lit]
        exact h3 j hj') (fun x hx => by
        simp only [ints, List.mem_map] at hx
        obtain ⟨y, _, rfl⟩ := hx
        rfl) (by unfold maxLen; omega) (by omega) hB
    refine ⟨v', w', hr, ?_, (Below.refl _ w).grown h5 hB (fun k hk => (hv.lt k hk).1)⟩
    rw [List.length_append]
    simpa [ints] using h4

theorem wp_append_lb {w : World} {o : Oper} {a : Act} {K : Act → World → Prop} {Q : Exit → Act → World → Prop} (s x : Operand)
    (ho : o.op = .call { callee := .builtin .append, args := #[s, x], argTypes := #[96, 96] })
    (B : Nat) (v u : Value) (xs ys : List Nat) (hs : a.eval s = v) (hx : a.eval x = u) (hv : w.ownsRow B 3 1 v xs.length (ints xs)) (hu : LB w u ys) (hB : B ≤ w.heap.size) (hn : xs.length + ys.length ≤ 4000000)
    (h : ∀ v' w', w'.ownsRow B 3 1 v' (xs ++ ys).length (ints (xs ++ ys)) → Below B w w' → K (a.put o.dst v') w') : o.wp Tryz.prog a w K Q := by
  obtain ⟨v', w', hr, h2, h3⟩ := run_append_lb w B v u xs ys o.type hv hu hB hn
  unfold Oper.wp execOp
  simp only [ho, resolve, invoke, builtin, Sem.run_bind, Sem.run_pure, Result.andThen_ok, List.map_toArray, List.map_cons, List.map_nil, hs, hx, hr]
  exact h v' w' h2 h3

theorem wpList_append_lb {w : World} {ops : Array Oper} {rest : List Oper} {o : Oper} {a : Act} {Q : Exit → Act → World → Prop} (hgd : o.guard = none) (s x : Operand)
    (ho : o.op = .call { callee := .builtin .append, args := #[s, x], argTypes := #[96, 96] })
    (B : Nat) (v u : Value) (xs ys : List Nat) (hs : a.eval s = v) (hx : a.eval x = u) (hv : w.ownsRow B 3 1 v xs.length (ints xs)) (hu : LB w u ys) (hB : B ≤ w.heap.size) (hn : xs.length + ys.length ≤ 4000000)
    (h : ∀ v' w', w'.ownsRow B 3 1 v' (xs ++ ys).length (ints (xs ++ ys)) → Below B w w' → wpList Tryz.prog ops Q rest (a.put o.dst v') w') : wpList Tryz.prog ops Q (o :: rest) a w :=
  wpList_plain hgd fun _ hK => wp_append_lb s x ho B v u xs ys hs hx hv hu hB hn fun v' w' h1 h2 => hK _ _ (h v' w' h1 h2)

theorem step_append_lb {w : World} {ops : Array Oper} {o : Oper} {a : Act} {K : Act → World → Prop} {Q : Exit → Act → World → Prop} {E : Prop} (hgd : o.guard = none) (s x : Operand)
    (ho : o.op = .call { callee := .builtin .append, args := #[s, x], argTypes := #[96, 96] })
    (B : Nat) (v u : Value) (xs ys : List Nat) (hs : a.eval s = v) (hx : a.eval x = u) (hv : w.ownsRow B 3 1 v xs.length (ints xs)) (hu : LB w u ys) (hB : B ≤ w.heap.size) (hn : xs.length + ys.length ≤ 4000000)
    (h : ∀ v' w', w'.ownsRow B 3 1 v' (xs ++ ys).length (ints (xs ++ ys)) → Below B w w' → K (a.put o.dst v') w') :
    if Region.wanted o (yielded ops a.tmps) = true then Oper.wp Tryz.prog o a w K Q else E := by
  have hw : Region.wanted o (yielded ops a.tmps) = true := by simp [Region.wanted, hgd]
  rw [if_pos hw]
  exact wp_append_lb s x ho B v u xs ys hs hx hv hu hB hn h

theorem lval_take_succ (l : List Nat) (k : Nat) (h : k < l.length) : Nt.lval (l.take (k + 1)) = Nt.lval (l.take k) + 1000000000 ^ k * (l[k]?.getD 0) := by
  rw [List.take_succ_eq_append_getElem h, Nt.lval_append, List.length_take, Nat.min_eq_left (by omega)]
  simp [Nt.lval, List.getElem?_eq_getElem h]

theorem part_val (k a : Nat) : Nt.lval (List.replicate k 0 ++ Nt.limbs a) = 1000000000 ^ k * a := by
  rw [Nt.lval_append, Nt.lval_replicate, List.length_replicate, Nt.lval_limbs]; omega

theorem part_lt (k a : Nat) : ∀ d ∈ List.replicate k 0 ++ Nt.limbs a, d < 1000000000 := by
  intro d hd
  rcases List.mem_append.1 hd with h | h
  · rw [(List.mem_replicate.1 h).2]; decide
  · exact Nt.limbs_lt a d h

theorem Zs_own (w : World) (B0 B k : Nat) (hB : B0 ≤ B) (h : w.heap[B]? = some (.cells (Zs k) 3 (0, 0))) (hk : k ≤ 1000000) : w.ownsRow B0 3 1 (.slice (some ⟨B, 0, none⟩) k k) (List.replicate k 0).length (ints (List.replicate k 0)) := by
  refine ⟨by simp [ints], .inr ⟨B, k, Zs k, by simp, hB, h, by simp, by unfold maxLen; omega, by rw [Zs_size]; omega, ?_⟩⟩
  simp only [List.length_replicate, Nat.mul_one, ints, List.map_replicate]
  refine List.ext_getElem? fun i => ?_
  rw [List.getElem?_take]
  split
  · rename_i hi
    rw [Array.getElem?_toList, Zs_at k i hi, List.getElem?_replicate, if_pos hi]; rfl
  · rename_i hi
    rw [List.getElem?_replicate, if_neg hi]

theorem limbs_len_mul (a b : Nat) : (Nt.limbs (a * b)).length ≤ (Nt.limbs a).length + (Nt.limbs b).length := by
  rw [Nt.limbs_len_le, Nat.pow_add]
  have h1 := (Nt.limbs_len_le a _).1 (Nat.le_refl _)
  have h2 := (Nt.limbs_len_le b _).1 (Nat.le_refl _)
  exact Nat.mul_lt_mul_of_lt_of_lt h1 h2

set_option maxRecDepth 100000 in
theorem mul_any (v u : Value) (m n : Nat) (w : World) (h : LB w v (Nt.limbs m)) (h' : LB w u (Nt.limbs n)) (hl : (Nt.limbs m).length ≤ 400000) (hl' : (Nt.limbs n).length ≤ 400000) :
    Calls Tryz.prog 83 #[v, u] w fun e w' => ∃ v', e = .returned v' ∧ LB w' v' (Nt.limbs (m * n)) ∧ Below w.heap.size w w' := by
  have G := Lib.hid h
  have G' := Lib.hid h'
  obtain ⟨a, c, rfl, _, _, _⟩ := h
  obtain ⟨a', c', rfl, _, _, _⟩ := h'
  go_enter Tryz.func83, Tryz.ntmps83
  go_wp2
  go_loopw [5, 10] (fun o i wr => ∃ k : Nat, k ≤ (Nt.limbs n).length ∧ i = .int .i64 k ∧ LB wr o (Nt.limbs (m * Nt.lval ((Nt.limbs n).take k))) ∧ Below w.heap.size w wr) (fun _ i _ => (Nt.limbs n).length - (intOf i).toNat)
  case atStart => exact ⟨0, Nat.zero_le _, rfl, ⟨none, 0, by simp [Nt.lval, Nt.limbs_zero], by simp [Nt.lval, Nt.limbs_zero], by unfold maxLen; omega, .inl ⟨rfl, by simp [Nt.lval, Nt.limbs_zero], rfl⟩⟩, Below.refl _ _⟩
  case round =>
    obtain ⟨k, hk, rfl, ho, hB⟩ := hrel
    by_cases hlt : k < (Nt.limbs n).length
    · obtain ⟨b, rfl, _, c1⟩ := LB.at (G'.out) hlt
      have hc1 := below_cell hB c1
      clear c1
      have hDlt : (Nt.limbs n)[k]?.getD 0 < 1000000000 := by have := Nt.limbs_getD_lt n k; rwa [List.getD_eq_getElem?_getD] at this
      have hsucc := lval_take_succ (Nt.limbs n) k hlt
      generalize (Nt.limbs n)[k]?.getD 0 = D at hc1 hDlt hsucc
      have HSU := Lib.hid hsucc
      clear hsucc
      have hmk := run_mk k (by omega)
      have mul_len : (Nt.limbs (D * m)).length ≤ 1 + (Nt.limbs m).length := by
        have h1 := limbs_len_mul D m
        have h2 : (Nt.limbs D).length ≤ 1 := by rw [Nt.limbs_len_le]; simpa using hDlt
        omega
      have HO := Lib.hid ho
      clear ho
      go_upto_region 5 with (fail)
      go_cut [7] (fun p wx => LB wx p (List.replicate k 0 ++ Nt.limbs (D * m)) ∧ Below wr.heap.size wr wx)
      case first =>
        have HC : Hid (∀ W, Below wr.heap.size wr W → Calls Tryz.prog 90 #[.slice a (Nt.limbs m).length c, .int .i64 (D : Int)] W fun e w' => ∃ v', e = .returned v' ∧ LB w' v' (Nt.limbs (D * Nt.lval (Nt.limbs m))) ∧ Fresh W.heap.size v' ∧ Below W.heap.size W w') := fun W hW =>
          times_any _ _ _ W ((G.out.below hB).below hW) (Nt.limbs_lt m) hDlt (by omega)
        rw [Nt.lval_limbs] at HC
        have hc2 := fun o => below_cell ((Below.refl _ wr).alloc (Nat.le_refl _) o) hc1
        have own_a : ∀ W1, Below (wr.alloc (.cells (Zs k) 3)).drew.heap.size (wr.alloc (.cells (Zs k) 3)).drew W1 →
            W1.ownsRow wr.heap.size 3 1 (.slice (some ⟨wr.heap.size, 0, none⟩) k k) (List.replicate k 0).length (ints (List.replicate k 0)) := fun W1 hb =>
          Zs_own W1 _ _ k (Nat.le_refl _) ((hb.block _ (by simp)).trans (heap_alloc_new wr _)) (by omega)
        have own_b : ∀ W1 : World, wr.heap.size ≤ W1.heap.size → (W1.alloc (.cells (Zs k) 3)).ownsRow wr.heap.size 3 1 (.slice (some ⟨W1.heap.size, 0, none⟩) k k) (List.replicate k 0).length (ints (List.replicate k 0)) := fun W1 hs =>
          Zs_own _ _ _ k hs (heap_alloc_new W1 _) (by omega)
        go_wp2_with fail
        go_region_law (first
          | (refine step_append_lb rfl (.tmp 14) (.tmp 20) rfl wr.heap.size _ _ (List.replicate k 0) (Nt.limbs (D * m)) rfl rfl ?_ ?_ ?_ ?_ ?_
             go_must (change World.ownsRow _ _ _ _ (Value.slice _ _ _) _ _)
             go_must ((first | (with_reducible exact own_a _ hb1) | (with_reducible exact own_b _ hs1)))
             go_must (change LB _ v1 _)
             go_must ((first | (with_reducible exact hv1) | (with_reducible exact hv1.below ((Below.refl _ _).alloc (Nat.le_refl _) _))))
             go_must ((first | (with_reducible exact hs1) | (simp; omega)))
             go_must ((simp only [List.length_replicate]; omega))
             intro v2 W2 ho2 hb2)
          | (go_simp
             go_at_call 90
             refine (HC.out _ ?_).mono ?_
             (first | (with_reducible exact ((Below.refl _ wr).alloc (Nat.le_refl _) _).drew) | (with_reducible exact (Below.refl _ wr).drew) | go_goals)
             rintro e W1 ⟨v1, rfl, hv1, _, hb1⟩
             have hs1 : wr.heap.size ≤ W1.heap.size := by have := hb1.size; simp at this; omega))
        all_goals
          go_wp2_with fail
          go_meet
          case rel =>
            first
              | (with_reducible exact ⟨LB.of_own ho2, (below_trans ((Below.refl _ wr).alloc (Nat.le_refl _) _).drew hb1).trans hb2⟩)
              | (with_reducible exact ⟨LB.of_own ho2, ((below_trans (Below.refl _ wr).drew hb1).alloc hs1 _).trans hb2⟩)
      case rest =>
        obtain ⟨hp, hbp⟩ := hcut
        have HA := Lib.hid (add_any _ _ _ _ wc (HO.out.below (hbp.mono (Nat.le_refl _))) hp (Nt.limbs_lt _) (part_lt k (D * m)) (by
          have h1 := limbs_len_mul m (Nt.lval ((Nt.limbs n).take k))
          have h2 : (Nt.limbs (Nt.lval ((Nt.limbs n).take k))).length ≤ k := by
            rw [Nt.limbs_len_le]
            have := Nt.lval_lt ((Nt.limbs n).take k) (fun d hd => Nt.limbs_lt n d (List.mem_of_mem_take hd))
            rwa [List.length_take, Nat.min_eq_left hk] at this
          omega) (by simp only [List.length_append, List.length_replicate]; omega))
        rw [Nt.lval_limbs, part_val] at HA
        have e : m * Nt.lval ((Nt.limbs n).take k) + 1000000000 ^ k * (D * m) = m * Nt.lval ((Nt.limbs n).take (k + 1)) := by
          rw [HSU.out, Nat.mul_add, Nat.mul_comm D m, Nat.mul_left_comm]
        rw [e] at HA
        clear e hp
        go_wp2_with fail
        refine HA.out.mono ?_
        rintro e W1 ⟨v1, rfl, hv1, _, hb1⟩
        go_wp2
        go_roundw
        case rel => exact ⟨k + 1, by omega, by go_num, hv1, below_trans hB (below_trans hbp hb1)⟩
        case measure => simp [intOf]; omega
    · obtain rfl : k = (Nt.limbs n).length := by omega
      have HT := Lib.hid (trimmed_any _ _ wr ho (Nt.limbs_lt _) (by
        rw [List.take_length, Nt.lval_limbs]; have := limbs_len_mul m n; omega))
      rw [List.take_length, Nt.lval_limbs, Nt.lval_limbs] at HT
      clear ho
      go_wp2_with fail
      refine HT.out.mono ?_
      rintro e W1 ⟨v1, rfl, hv1, _, rfl⟩
      go_wp2
      go_ret
      exact ⟨_, rfl, hv1, hB⟩
end Go.Proofs.YtcphclpekllcoaaGreatDoor
