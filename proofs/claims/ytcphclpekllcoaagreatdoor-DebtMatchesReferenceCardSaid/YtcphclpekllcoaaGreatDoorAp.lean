/- Laws: append to a row of structs that the call owns. -/
import Derived.Test.YtcphclpekllcoaaGreatDoorHd
import Derived.Laws.AppendOwnNone
namespace Go.Proofs.YtcphclpekllcoaaGreatDoor
open Go.RowKit

theorem flat_back {k : Nat} (hk : 0 < k) {ys : List (List Value)} (hl : ∀ y ∈ ys, y.length = k) {j : Nat} {u : Value} (h : ys.flatten[j]? = some u) : ∃ x, ys[j / k]? = some x ∧ x[j % k]? = some u := by
  have hlen : ys.flatten.length = ys.length * k := by
    clear h
    induction ys with
    | nil => simp
    | cons y ys ih => rw [List.flatten_cons, List.length_append, hl y (by simp), ih (fun z hz => hl z (List.mem_cons_of_mem _ hz)), List.length_cons, Nat.succ_mul]; omega
  have hj : j < ys.length * k := by rw [← hlen]; exact (List.getElem?_eq_some_iff.1 h).1
  have hi : j / k < ys.length := Nat.div_lt_of_lt_mul (by rw [Nat.mul_comm]; exact hj)
  obtain ⟨x, hx⟩ : ∃ x, ys[j / k]? = some x := ⟨_, List.getElem?_eq_getElem hi⟩
  have hxl := hl x (List.mem_of_getElem? hx)
  have hr : j % k < x.length := by rw [hxl]; exact Nat.mod_lt _ hk
  have h2 := flat_at ys hl (j / k) (j % k) x _ hx (List.getElem?_eq_getElem hr)
  rw [show j / k * k + j % k = j from by rw [Nat.mul_comm]; exact Nat.div_add_mod j k, h] at h2
  exact ⟨x, hx, by rw [List.getElem?_eq_getElem hr]; exact h2.symm⟩

section
variable {e t : TypeId} {i : TypeInfo} {z : Value} {k bytes : Nat}
theorem run_append_rows (w : World) (B : Nat) (ty : TypeId) (ht : Tryz.prog.underlying t = some (.slice e)) (hi : Tryz.prog.info? e = some i) (hz : i.zero = some z) (hsz : i.size = k) (hby : i.bytes = bytes) (hzs : z.cells.size = k) (hk : 0 < k) (hbb : bytes ≤ 1000)
    (v u : Value) (xs ys : List (List Value)) (hv : w.ownsRow B e k v xs.length xs.flatten) (hu : SC k w u ys) (hl : ∀ y ∈ ys, y.length = k) (hone : ∀ y ∈ ys, ∀ x ∈ y, x.oneCell' = true) (hB : B ≤ w.heap.size) (hn : xs.length + ys.length ≤ 4000000) :
    ∃ v' w', (Builtin.append_ #[t, t] ty #[v, u]).run Tryz.prog w = .ok v' w' ∧ w'.ownsRow B e k v' (xs ++ ys).length (xs ++ ys).flatten ∧ Below B w w' := by
  obtain ⟨a, c, rfl, h1, h2, h3⟩ := hu
  rcases h3 with ⟨rfl, rfl, rfl⟩ | ⟨p, rfl, h3⟩
  · refine ⟨v, w, ?_, by simpa using hv, Below.refl _ _⟩
    exact run_append_owned_none (P := Tryz.prog) (w := w) B t ty e i k ht hi v _ _ hv
  · obtain ⟨v', w', hr, h4, h5, _⟩ := run_append_own (P := Tryz.prog) w B t ty e i z k bytes ht hi hz hsz hby hzs hk v xs.length xs.flatten hv p ys.length c ys.flatten
      (by
        clear h1 h2 h3 hn
        induction ys with
        | nil => simp
        | cons y ys ih => rw [List.flatten_cons, List.length_append, hl y (by simp), ih (fun z hz => hl z (List.mem_cons_of_mem _ hz)) (fun z hz => hone z (List.mem_cons_of_mem _ hz)), List.length_cons, Nat.succ_mul]; omega)
      (fun j x hj => by
        obtain ⟨y, hy, hyx⟩ := flat_back hk hl hj
        have := h3 (j / k) (j % k) y x hy hyx
        rwa [show j / k * k + j % k = j from by rw [Nat.mul_comm]; exact Nat.div_add_mod j k] at this)
      (fun x hx => by
        obtain ⟨y, hy, hxy⟩ := List.mem_flatten.1 hx
        exact hone y hy x hxy) (by unfold maxLen; omega) (Nat.le_trans (Nat.mul_le_mul hn hbb) (by decide)) hB
    refine ⟨v', w', hr, ?_, (Below.refl _ w).grown h5 hB (fun k hk => (hv.lt k hk).1)⟩
    rw [List.length_append, List.flatten_append]
    exact h4
theorem wpList_append_rows {w : World} {ops : Array Oper} {rest : List Oper} {o : Oper} {a : Act} {Q : Exit → Act → World → Prop} (hgd : o.guard = none) (s x : Operand)
    (ho : o.op = .call { callee := .builtin .append, args := #[s, x], argTypes := #[t, t] })
    (B : Nat) (ht : Tryz.prog.underlying t = some (.slice e)) (hi : Tryz.prog.info? e = some i) (hz : i.zero = some z) (hsz : i.size = k) (hby : i.bytes = bytes) (hzs : z.cells.size = k) (hk : 0 < k) (hbb : bytes ≤ 1000)
    (v u : Value) (xs ys : List (List Value)) (hs : a.eval s = v) (hx : a.eval x = u) (hv : w.ownsRow B e k v xs.length xs.flatten) (hu : SC k w u ys) (hl : ∀ y ∈ ys, y.length = k) (hone : ∀ y ∈ ys, ∀ x ∈ y, x.oneCell' = true) (hB : B ≤ w.heap.size) (hn : xs.length + ys.length ≤ 4000000)
    (h : ∀ v' w', w'.ownsRow B e k v' (xs ++ ys).length (xs ++ ys).flatten → Below B w w' → wpList Tryz.prog ops Q rest (a.put o.dst v') w') : wpList Tryz.prog ops Q (o :: rest) a w :=
  wpList_plain hgd fun _ hK => by
    obtain ⟨v', w', hr, h2, h3⟩ := run_append_rows w B o.type ht hi hz hsz hby hzs hk hbb v u xs ys hv hu hl hone hB hn
    unfold Oper.wp execOp
    simp only [ho, resolve, invoke, builtin, Sem.run_bind, Sem.run_pure, Result.andThen_ok, List.map_toArray, List.map_cons, List.map_nil, hs, hx, hr]
    exact hK _ _ (h v' w' h2 h3)
end
theorem deb_len {ds : List Nt.Deb} : ∀ y ∈ ds.map dcells, y.length = 6 := by intro y hy; obtain ⟨d, _, rfl⟩ := List.mem_map.1 hy; rfl
theorem deb_one {ds : List Nt.Deb} : ∀ y ∈ ds.map dcells, ∀ x ∈ y, x.oneCell' = true := by
  intro y hy x hx
  obtain ⟨d, _, rfl⟩ := List.mem_map.1 hy
  simp [dcells] at hx
  rcases hx with rfl | rfl | rfl | rfl | rfl | rfl <;> rfl
theorem pay_len {ds : List Nt.Pay} : ∀ y ∈ ds.map pcells, y.length = 4 := by intro y hy; obtain ⟨d, _, rfl⟩ := List.mem_map.1 hy; rfl
theorem pay_one {ds : List Nt.Pay} : ∀ y ∈ ds.map pcells, ∀ x ∈ y, x.oneCell' = true := by
  intro y hy x hx
  obtain ⟨d, _, rfl⟩ := List.mem_map.1 hy
  simp [pcells] at hx
  rcases hx with rfl | rfl | rfl | rfl <;> rfl
theorem info_pay : (Tryz.prog.info? 49).map (fun i => (i.zero, i.size, i.bytes)) = some (some (.agg #[.int .i64 0, .int .i64 0, .int .i64 0, .int .i64 0]), 4, 32) := by kernel_rfl
/-- A new row of one struct. -/
theorem sc_one {W : World} {g k : Nat} {t : TypeId} {y : List Value} (hk : y.length = k) (h : W.heap[g]? = some (.cells y.toArray t)) : SC k W (.slice (some ⟨g, 0, none⟩) 1 1) [y] :=
  SC.row (k := k) (t := t) (xs := [y]) (by intro x hx; rw [List.mem_singleton] at hx; subst hx; exact hk) (by simpa using h) (by simp [maxLen])
end Go.Proofs.YtcphclpekllcoaaGreatDoor
