/- The rows: what a law's arguments read as, and the last step of a law's row. -/
import Derived.Test.YtcphclpekllcoaaGreatDoorHd
import Derived.Test.YtcphclpekllcoaaGreatDoorRows
import Derived.ProofKit
import Derived.OpenShut
import Derived.Carry
import Derived.Lay
import Derived.LaidOnce
import Derived.SevenTiedAt
import Derived.Deep.Slices
import Derived.Deep.Fields
import Derived.Lib.LaidU8
namespace Go.Proofs.YtcphclpekllcoaaGreatDoor
open Go.ChangeShapes Go.WideShapes Go.ChangeAt Go.RowKit Go.Deep

theorem own : ownKnob Tryz.prog.godebug = none := by kernel_rfl
theorem outB : laidOutB Tryz.prog = true := by kernel_rfl

/-- The table of powers of ten, out of the list of the laid variables. -/
theorem tab_of_met {W : World} {l : List (String × DataW Unit)} (h : laidMet Tryz.prog l W) (hm : ("internal/strconv.uint64pow10", (Rows.laid_internal_strconv_uint64pow10 : DataW Unit)) ∈ l) : Tab W := by
  obtain ⟨g, t, cs, fuel, p, hg, hty, hvar, hd⟩ := Lib.laidMet.reads h hm
  have hg' : Tryz.prog.globalNamed "internal/strconv.uint64pow10" = some 0 := by kernel_rfl
  obtain rfl := Option.some.inj (hg'.symm.trans hg)
  have ht' : (Tryz.prog.globals[0]?).map (·.type) = some 154 := by kernel_rfl
  obtain rfl := Option.some.inj (ht'.symm.trans hty)
  unfold Tab Lib.TabIs
  rw [hvar, ← Lib.cells_of_tab (k := .u64) (zs := Lib.pow10Tab) Tryz.underlying154 Tryz.underlying91 (by kernel_rfl) (by kernel_rfl) hd]

/-- Every argument reads behind the call as ahead of it. -/
theorem trodAll_below {H : Type} {enc : TypeId × Value → H} {W W' : World} (hb : Below W.heap.size W W') : ∀ (ts : List TypeId) (vs : List Value) (ds : List (DataW H)) (p : List MemPlace), DataW.TrodAll enc Tryz.prog W 0 (fun _ => true) true ts vs ds p →
    (∀ t ∈ ts, Tryz.prog.readableRec t = true ∧ t < Tryz.prog.types.size) → (∀ x ∈ p, x.block < W.heap.size) → DataW.TrodAll enc Tryz.prog W' 0 (fun b => decide (b < W.heap.size)) true ts vs ds p
  | [], vs, ds, p, h, _, _ => by
    obtain ⟨rfl, rfl, rfl⟩ := trodAll_nil h
    exact rfl
  | t :: ts, vs, ds, p, h, ht, hp => by
    obtain ⟨v, vs', d, ds', p1, q, rfl, rfl, rfl, h1, h2⟩ := trodAll_cons h
    exact ⟨p1, q, Below.trod outB (ht t (by simp)).1 (ht t (by simp)).2 h1 hb (fun x hx => hp x (List.mem_append_left _ hx)),
      trodAll_below hb ts vs' ds' q h2 (fun u hu => ht u (List.mem_cons_of_mem _ hu)) (fun x hx => hp x (List.mem_append_right _ hx)), rfl⟩

/-- The last step of a law's row. -/
theorem post_law {H : Type} {enc : TypeId × Value → H} {f : Func} {s : ChangeSpec} {W W' : World} {args : Array Value} {ds : List (DataW H)} {before : List MemPlace} {e : Ending}
    (hW : DataW.Whole enc Tryz.prog f.params.toList s.vars false W args.toList ds [] before) (hvs : s.vars = []) (hr : f.resultTypes = #[4]) (hs : s.fn H ds = { results := [.lit (.bool true)], args := ds })
    (hread : ∀ t ∈ f.params.toList, Tryz.prog.readableRec t = true ∧ t < Tryz.prog.types.size) (he : e = .returned (.bool true)) (hb : Below W.heap.size W W') :
    ∃ v, e = .returned v ∧ s.post enc Tryz.prog f false true false false W args v W' := by
  refine ⟨_, he, ds, [], before, [], before, [], hW, ?_, ?_, ?_, ?_, fun h => by cases h⟩
  · rw [List.append_nil, hs, hr]
    exact trodAll_mk1 (shut_bool Tryz.underlying4 _)
  · rw [List.append_nil, hs]
    have hlt : ∀ x ∈ before, x.block < W.heap.size := fun x hx => hW.lt x hx
    obtain ⟨p, q, hA, hV, rfl, _, _⟩ := hW
    rw [hvs] at hV
    obtain ⟨-, rfl⟩ := trodVars_none hV
    rw [List.append_nil] at hlt ⊢
    exact trodAll_below hb _ _ _ _ hA hread hlt
  · rw [List.append_nil, hs, hvs]; rfl
  · refine World.keptBut_mono (fun x hx => ⟨hx, .inr (.inl hx)⟩) (hb.frame (· ∈ before))

section
variable {H : Type} {P : Program} {enc : TypeId × Value → H} {W : World} {it : TypeId}
/-- All fields are ints. -/
def intFields (it : TypeId) (fs : Array Field) : Bool := (List.range fs.size).all fun i => match fs[i]? with
  | some f => f.offset == i && f.type == it
  | none => false
theorem intFields_at {fs : Array Field} (h : intFields it fs = true) (i : Nat) (f : Field) (hi : fs[i]? = some f) : f.offset = i ∧ f.type = it := by
  have hlt : i < fs.size := (Array.getElem?_eq_some_iff.1 hi).1
  have := List.all_eq_true.1 h i (List.mem_range.2 hlt)
  simp only [hi, Bool.and_eq_true, beq_iff_eq] at this
  exact this
def intv : Option Value → Int
  | some (.int _ z) => z
  | _ => 0
/-- The cells of a struct of ints. -/
theorem ints_of_struct {base : Nat} {sp : Nat → Bool} {held : Bool} {fuel : Nat} {t : TypeId} {fs : Array Field} {cs : List Value} {x : DataW H × List MemPlace} (ht : P.underlying t = some (.struct fs)) (hf : intFields it fs = true) (hc : P.cellsOf t = fs.size)
    (hi : P.underlying it = some (.int .i64)) (hci : P.cellsOf it = 1) (h : DataW.trod enc P W base sp held fuel t cs = some x) : ∃ ns : List Int, cs = ns.map (fun n => Value.int .i64 n) ∧ ns.length = fs.size := by
  obtain ⟨xs, n, _, _, hlen, hxl, hg⟩ := DataW.trod_struct ht h
  have h1 : ∀ i, i < fs.size → ∃ z : Int, cs[i]? = some (.int .i64 z) := by
    intro i hlt
    obtain ⟨f, hfi⟩ : ∃ f, fs[i]? = some f := ⟨_, Array.getElem?_eq_getElem hlt⟩
    obtain ⟨o, ty⟩ := intFields_at hf i f hfi
    have hx := hg i f hfi
    have hxi : xs[i]? = some (xs[i]'(by omega)) := List.getElem?_eq_getElem (by omega)
    rw [o, ty, hxi, hci] at hx
    obtain ⟨z, hz, _⟩ := DataW.trod_int hi hx
    refine ⟨z, ?_⟩
    have := congrArg (·[0]?) hz
    simpa [List.getElem?_take, List.getElem?_drop] using this
  refine ⟨(List.range fs.size).map fun i => intv (cs[i]?), ?_, by simp⟩
  refine List.ext_getElem? fun i => ?_
  rw [List.getElem?_map, List.getElem?_map]
  by_cases hlt : i < fs.size
  · obtain ⟨z, hz⟩ := h1 i hlt
    rw [List.getElem?_range hlt, hz]
    simp [hz, intv]
  · rw [List.getElem?_eq_none (by omega), List.getElem?_eq_none (by simp; omega)]; rfl
/-- A struct of ints, by value. -/
theorem open_ints {r : Reach} {b0 base : Nat} {sp : Nat → Bool} {held : Bool} {t : TypeId} {fs : Array Field} {v : Value} {d : DataW H} {p : List MemPlace} (ht : P.underlying t = some (.struct fs)) (hf : intFields it fs = true) (hc : P.cellsOf t = fs.size)
    (hi : P.underlying it = some (.int .i64)) (hci : P.cellsOf it = 1) (hv : Value.okWide P W r b0 t v) (h : DataW.Trod enc P W base sp held t v d p) : ∃ ns : List Int, v = .agg (ns.map (fun n => Value.int .i64 n)).toArray ∧ ns.length = fs.size := by
  obtain ⟨cs, rfl, hsz⟩ := okWide_struct ht hv
  obtain ⟨fuel, h⟩ := h
  obtain ⟨ns, h1, h2⟩ := ints_of_struct ht hf hc hi hci h
  refine ⟨ns, ?_, h2⟩
  have h1' : cs.toList = ns.map (fun n => Value.int .i64 n) := h1
  rw [← h1']
/-- A slice of structs of ints. -/
theorem open_rows {r : Reach} {b0 base : Nat} {t e : TypeId} {fs : Array Field} {v : Value} {d : DataW H} {p : List MemPlace} (hs : P.underlying t = some (.slice e)) (ht : P.underlying e = some (.struct fs)) (hf : intFields it fs = true) (hc : P.cellsOf e = fs.size)
    (hi : P.underlying it = some (.int .i64)) (hci : P.cellsOf it = 1) (hv : Value.okWide P W r b0 t v) (h : DataW.Trod enc P W base (fun _ => true) true t v d p) : ∃ xs : List (List Int), SC fs.size W v (xs.map fun x => x.map fun n => Value.int .i64 n) ∧ ∀ x ∈ xs, x.length = fs.size := by
  obtain ⟨a, len, cap, rfl⟩ := okWide_slice hs hv
  obtain ⟨fuel, h⟩ := h
  rcases open_slice hs h with ⟨h1, _⟩ | ⟨a', len', cap', m, n, D, Pl, h1, _, h2, h3, h4, _, h5⟩
  · have h1' : [Value.slice a len cap] = [.slice none 0 0] := h1
    obtain ⟨rfl, rfl, rfl⟩ := by simpa using h1'
    exact ⟨[], ⟨none, 0, rfl, Nat.le_refl _, by unfold maxLen; omega, .inl ⟨rfl, rfl, rfl⟩⟩, by simp⟩
  · have h1' : [Value.slice a len cap] = [.slice (some a') len' cap'] := h1
    obtain ⟨rfl, rfl, rfl⟩ := by simpa using h1'
    have hm : m = cap := by simpa using h4
    have hx : ∀ i, i < len → ∃ ns : List Int, ns.length = fs.size ∧ ∀ j (z : Int), ns[j]? = some z → W.cell? (a'.add (i * fs.size + j)) = some (.int .i64 z) := by
      intro i hlt
      obtain ⟨cs', hcs, htr⟩ := h5 i (by omega)
      obtain ⟨ns, h6, h7⟩ := ints_of_struct ht hf hc hi hci htr
      refine ⟨ns, h7, fun j z hj => ?_⟩
      obtain ⟨_, hl, hat⟩ := World.cells?_some hcs
      have hjl : j < ns.length := (List.getElem?_eq_some_iff.1 hj).1
      rw [← Go.Deep.add_add, ← hc, hat j (by rw [hc]; omega), h6, List.getElem?_map, hj]; rfl
    let F : Nat → List Int := fun i => if h : i < len then (hx i h).choose else []
    have hF : ∀ i, i < len → (F i).length = fs.size ∧ ∀ j (z : Int), (F i)[j]? = some z → W.cell? (a'.add (i * fs.size + j)) = some (.int .i64 z) := fun i h => by
      have := (hx i h).choose_spec
      show (dite _ _ _ : List Int).length = _ ∧ ∀ j (z : Int), (dite _ _ _ : List Int)[j]? = _ → _
      rw [dif_pos h]; exact this
    refine ⟨(List.range len).map F, ⟨some a', cap, by simp, by simpa using h2, h3, .inr ⟨a', rfl, fun i j x y hx' hy => ?_⟩⟩, fun x hx' => ?_⟩
    · rw [List.map_map, List.getElem?_map] at hx'
      by_cases hi : i < len
      · rw [List.getElem?_range hi] at hx'
        obtain rfl := Option.some.inj hx'
        have hy' : ((F i).map fun n => Value.int .i64 n)[j]? = some y := hy
        rw [List.getElem?_map] at hy'
        cases hz : (F i)[j]? with
        | none => rw [hz] at hy'; cases hy'
        | some z =>
          rw [hz] at hy'
          obtain rfl := Option.some.inj hy'
          exact (hF i hi).2 j z hz
      · rw [List.getElem?_eq_none (by simp; omega)] at hx'; cases hx'
    · obtain ⟨i, hi, rfl⟩ := List.mem_map.1 hx'
      exact (hF i (List.mem_range.1 hi)).1
end
theorem frame_cells {H : Type} {enc : TypeId × Value → H} {W : World} {base : Nat} {sp : Nat → Bool} {held : Bool} {fuel : Nat} {cs : List Value} {x : DataW H × List MemPlace} (h : DataW.trod enc Tryz.prog W base sp held fuel 25 cs = some x) :
    ∃ ns : List Int, cs = ns.map (fun n => Value.int .i64 n) ∧ ns.length = 9 := by
  obtain ⟨xs, n, _, _, hlen, hxl, hg⟩ := DataW.trod_struct Tryz.underlying25 h
  have hlen : cs.length = 9 := hlen.trans (by kernel_rfl)
  have hxl : xs.length = 6 := hxl
  have hc : Tryz.prog.cellsOf 3 = 1 := by kernel_rfl
  have hc4 : Tryz.prog.cellsOf 23 = 4 := by kernel_rfl
  have one : ∀ i, i < 5 → ∃ z : Int, cs[i]? = some (.int .i64 z) := by
    intro i hi
    have hxi : xs[i]? = some (xs[i]'(by omega)) := List.getElem?_eq_getElem (by omega)
    have hx : DataW.trod enc Tryz.prog W base sp held n 3 ((cs.drop i).take 1) = some (xs[i]'(by omega)) := by
      rw [← hxi, ← hc]
      have : i = 0 ∨ i = 1 ∨ i = 2 ∨ i = 3 ∨ i = 4 := by omega
      rcases this with rfl | rfl | rfl | rfl | rfl
      · exact hg 0 _ rfl
      · exact hg 1 _ rfl
      · exact hg 2 _ rfl
      · exact hg 3 _ rfl
      · exact hg 4 _ rfl
    obtain ⟨z, hz, _⟩ := DataW.trod_int Tryz.underlying3 hx
    refine ⟨z, ?_⟩
    have := congrArg (·[0]?) hz
    simpa [List.getElem?_take, List.getElem?_drop] using this
  have hx5 : DataW.trod enc Tryz.prog W base sp held n 23 ((cs.drop 5).take 4) = some (xs[5]'(by omega)) := by
    have hxi : xs[5]? = some (xs[5]'(by omega)) := List.getElem?_eq_getElem (by omega)
    rw [← hxi, ← hc4]
    exact hg 5 _ rfl
  obtain ⟨ys, m, _, _, _, hyl, hel⟩ := DataW.trod_array Tryz.underlying23 hx5
  have four : ∀ i, i < 4 → ∃ z : Int, cs[5 + i]? = some (.int .i64 z) := by
    intro i hi
    have hx := hel i hi
    rw [hc, Nat.mul_one, List.getElem?_eq_getElem (by omega)] at hx
    obtain ⟨z, hz, _⟩ := DataW.trod_int Tryz.underlying3 hx
    refine ⟨z, ?_⟩
    have := congrArg (·[0]?) hz
    simpa [List.getElem?_take, List.getElem?_drop, hi] using this
  have all : ∀ i, i < 9 → ∃ z : Int, cs[i]? = some (.int .i64 z) := fun i hi => by
    by_cases h5 : i < 5
    · exact one i h5
    · obtain ⟨z, hz⟩ := four (i - 5) (by omega)
      rw [show 5 + (i - 5) = i by omega] at hz
      exact ⟨z, hz⟩
  refine ⟨(List.range 9).map fun i => intv (cs[i]?), ?_, by simp⟩
  refine List.ext_getElem? fun i => ?_
  rw [List.getElem?_map, List.getElem?_map]
  by_cases hlt : i < 9
  · obtain ⟨z, hz⟩ := all i hlt
    rw [List.getElem?_range hlt, hz]
    simp [hz, intv]
  · rw [List.getElem?_eq_none (by omega), List.getElem?_eq_none (by simp; omega)]; rfl
set_option maxRecDepth 100000 in
theorem open_frame {H : Type} {enc : TypeId × Value → H} {W : World} {r : Reach} {b0 base : Nat} {sp : Nat → Bool} {held : Bool} {v : Value} {d : DataW H} {p : List MemPlace} (hv : Value.okWide Tryz.prog W r b0 25 v) (h : DataW.Trod enc Tryz.prog W base sp held 25 v d p) :
    ∃ ns : List Int, v = .agg (ns.map (fun n => Value.int .i64 n)).toArray ∧ ns.length = 9 := by
  obtain ⟨cs, rfl, -⟩ := okWide_struct (P := Tryz.prog) (t := 25) Tryz.underlying25 hv
  obtain ⟨fuel, h⟩ := h
  obtain ⟨ns, h1, h2⟩ := frame_cells h
  refine ⟨ns, ?_, h2⟩
  have h1' : cs.toList = ns.map (fun n => Value.int .i64 n) := h1
  rw [← h1']
/-- Payments, debts, frames. -/
theorem pays_of {W : World} {v : Value} {xs : List (List Int)} (h : SC 4 W v (xs.map fun x => x.map fun n => Value.int .i64 n)) (hl : ∀ x ∈ xs, x.length = 4) : ∃ ps, PL W v ps := by
  have : ∃ ps : List Nt.Pay, xs.map (fun x => x.map fun n => Value.int .i64 n) = ps.map pcells := by
    clear h
    induction xs with
    | nil => exact ⟨[], rfl⟩
    | cons x xs ih =>
      obtain ⟨ps, hp⟩ := ih fun y hy => hl y (List.mem_cons_of_mem _ hy)
      match x, hl x (by simp) with
      | [a, b, c, d], _ => exact ⟨⟨a, b, c, d⟩ :: ps, by rw [List.map_cons, List.map_cons, hp]; rfl⟩
  obtain ⟨ps, hp⟩ := this
  exact ⟨ps, by unfold PL; rw [← hp]; exact h⟩
theorem debs_of {W : World} {v : Value} {xs : List (List Int)} (h : SC 6 W v (xs.map fun x => x.map fun n => Value.int .i64 n)) (hl : ∀ x ∈ xs, x.length = 6) : ∃ ds, DL W v ds := by
  have : ∃ ds : List Nt.Deb, xs.map (fun x => x.map fun n => Value.int .i64 n) = ds.map dcells := by
    clear h
    induction xs with
    | nil => exact ⟨[], rfl⟩
    | cons x xs ih =>
      obtain ⟨ps, hp⟩ := ih fun y hy => hl y (List.mem_cons_of_mem _ hy)
      match x, hl x (by simp) with
      | [a, b, c, d, e, f], _ => exact ⟨⟨a, b, c, d, e, f⟩ :: ps, by rw [List.map_cons, List.map_cons, hp]; rfl⟩
  obtain ⟨ps, hp⟩ := this
  exact ⟨ps, by unfold DL; rw [← hp]; exact h⟩
theorem frm_of {ns : List Int} (h : ns.length = 9) : ∃ fr, Value.agg (ns.map (fun n => Value.int .i64 n)).toArray = fv fr := by
  match ns, h with
  | [a, b, c, d, e, f, g, h, i], _ => exact ⟨⟨a, b, c, d, e, f, g, h, i⟩, rfl⟩
theorem pay_of {ns : List Int} (h : ns.length = 4) : ∃ p, Value.agg (ns.map (fun n => Value.int .i64 n)).toArray = pv4 p := by
  match ns, h with
  | [a, b, c, d], _ => exact ⟨⟨a, b, c, d⟩, rfl⟩
end Go.Proofs.YtcphclpekllcoaaGreatDoor
