/- Laws for maps that a call makes: any key law; entries in their order, no deletion. -/
import Derived.Test.YtcphclpekllcoaaGreatDoorDb
namespace Go.Proofs.YtcphclpekllcoaaGreatDoor
open Go.RowKit

section
variable {K : Type}
def ents (kv : K → Value) : Nat → List (K × Value) → List MapEntry
  | _, [] => []
  | n, x :: t => ⟨kv x.1, x.2, n⟩ :: ents kv (n + 1) t
def pos [DecidableEq K] (c : K) : List (K × Value) → Nat → Option (Nat × Value)
  | [], _ => none
  | x :: t, i => if c = x.1 then some (i, x.2) else pos c t (i + 1)
def ins [DecidableEq K] (c : K) (z : Value) (L : List (K × Value)) : List (K × Value) := if (pos c L 0).isSome then L else L ++ [(c, z)]
def got [DecidableEq K] (c : K) (z : Value) (L : List (K × Value)) : Value := match pos c L 0 with | some x => x.2 | none => z
def plc [DecidableEq K] (c : K) (L : List (K × Value)) : Nat := match pos c L 0 with | some x => x.1 | none => L.length
def setv (L : List (K × Value)) (i : Nat) (v : Value) : List (K × Value) := L.modify i fun x => (x.1, v)

theorem ents_length (kv : K → Value) (L : List (K × Value)) : ∀ n, (ents kv n L).length = L.length := by
  induction L with
  | nil => intro n; rfl
  | cons x t ih => intro n; simp [ents, ih]
theorem ents_at (kv : K → Value) (L : List (K × Value)) : ∀ n i : Nat, (ents kv n L)[i]? = (L[i]?).map fun x => ({ key := kv x.1, val := x.2, born := n + i } : MapEntry) := by
  induction L with
  | nil => intro n i; simp [ents]
  | cons x t ih =>
    intro n i
    cases i with
    | zero => simp [ents]
    | succ i => simp only [ents, List.getElem?_cons_succ, ih]; congr 1; funext x; rw [show n + 1 + i = n + (i + 1) by omega]
theorem ents_app (kv : K → Value) (L M : List (K × Value)) : ∀ n, ents kv n (L ++ M) = ents kv n L ++ ents kv (n + L.length) M := by
  induction L with
  | nil => intro n; simp [ents]
  | cons x t ih => intro n; simp only [List.cons_append, ents, ih, List.length_cons]; rw [show n + 1 + t.length = n + (t.length + 1) by omega]
theorem ents_setv (kv : K → Value) (L : List (K × Value)) (v : Value) : ∀ n i, (ents kv n L).modify i (fun e => { e with val := v }) = ents kv n (setv L i v) := by
  unfold setv
  induction L with
  | nil => intro n i; cases i <;> simp [ents]
  | cons x t ih =>
    intro n i
    cases i with
    | zero => simp [ents]
    | succ i => simp [ents, ih]
theorem setv_length (L : List (K × Value)) (i : Nat) (v : Value) : (setv L i v).length = L.length := by simp [setv]

theorem pos_at [DecidableEq K] (c : K) (L : List (K × Value)) : ∀ n i v, pos c L n = some (i, v) → n ≤ i ∧ L[i - n]? = some (c, v) := by
  induction L with
  | nil => intro n i v h; simp [pos] at h
  | cons x t ih =>
    intro n i v h
    unfold pos at h
    split at h
    · rename_i e
      obtain ⟨rfl, rfl⟩ := by simpa using h
      exact ⟨Nat.le_refl _, by simp [e]⟩
    · obtain ⟨h1, h2⟩ := ih _ _ _ h
      refine ⟨by omega, ?_⟩
      rw [show i - n = (i - (n + 1)) + 1 by omega, List.getElem?_cons_succ]; exact h2
theorem pos_none [DecidableEq K] (c : K) (L : List (K × Value)) : ∀ n, pos c L n = none ↔ ∀ x ∈ L, x.1 ≠ c := by
  induction L with
  | nil => intro n; simp [pos]
  | cons x t ih =>
    intro n
    unfold pos
    by_cases e : c = x.1
    · simp [e]
    · rw [if_neg e, ih]; simp [Ne.symm e]

/-- What a key type must give. -/
structure KeyL [DecidableEq K] (P : Program) (kt : TypeId) (kv : K → Value) : Prop where
  find : ∀ (W : World) (L : List (K × Value)) (c : K), (Instr.findKey kt (kv c) (ents kv 0 L)).run P W = .ok (pos c L 0) W
  check : ∀ (em : Bool) (W : World) (c : K), (Instr.checkKey em 10000 kt (kv c)).run P W = .ok () W
  same : ∀ c : K, Instr.sameBits 10000 (kv c) (kv c) = true

def setB (W : World) (r : Nat) (o : Obj) : World := { W with heap := W.heap.setIfInBounds r o }
def MP (W : World) (kv : K → Value) (r : Nat) (L : List (K × Value)) : Prop := W.heap[r]? = some (.map (ents kv 0 L).toArray L.length)

theorem MP.setB {W : World} {r : Nat} {o : Obj} (kv : K → Value) (L : List (K × Value)) (h : W.heap[r]? = some o) : MP (setB W r (.map (ents kv 0 L).toArray L.length)) kv r L := by
  show (W.heap.setIfInBounds r _)[r]? = _
  have := lt_of_block h
  simp [this]

theorem run_keyStays [DecidableEq K] {P : Program} {kt : TypeId} {kv : K → Value} (h : KeyL P kt kv) (c : K) (W : World) : (Instr.keyThatStays (kv c) (kv c)).run P W = .ok (kv c) W := by
  unfold Instr.keyThatStays
  rw [h.same c]; rfl

theorem modify_key (kv : K → Value) (L : List (K × Value)) (i : Nat) (c : K) (v : Value) (h : L[i]? = some (c, v)) : (ents kv 0 L).toArray.modify i (fun e => { e with key := kv c }) = (ents kv 0 L).toArray := by
  rw [List.modify_toArray]
  congr 1
  apply List.ext_getElem?
  intro j
  rw [List.getElem?_modify]
  by_cases e : i = j
  · subst e
    rw [ents_at, h]; simp
  · simp [e]

theorem run_mapEntry [DecidableEq K] {P : Program} {kt mt e : TypeId} {kv : K → Value} (h : KeyL P kt kv) (ht : P.underlying mt = some (.map kt e)) (z : Value) (W : World) (hz : ∀ W, (zeroValue e).run P W = .ok z W) (r : Nat) (L : List (K × Value)) (c : K) (hm : MP W kv r L) :
    (Instr.mapEntry mt (.map (some r)) (kv c)).run P W = .ok (.tuple #[got c z L, .int .i64 (plc c L : Nat)]) (setB W r (.map (ents kv 0 (ins c z L)).toArray (ins c z L).length)) := by
  have hf := h.find W L c
  unfold got plc ins
  cases hp : pos c L 0 with
  | none =>
    rw [hp] at hf
    simp [Instr.mapEntry, run_underlying ht, MapKept.run_getObj_map hm, h.check, hf, hz, MapKept.run_setObj_map _ hm, Result.andThen]
    exact ⟨rfl, by rw [ents_app, Nat.zero_add]; rfl⟩
  | some x =>
    obtain ⟨i, v⟩ := x
    rw [hp] at hf
    obtain ⟨_, hL⟩ := pos_at c L 0 i v hp
    simp only [Nat.sub_zero] at hL
    have hk : ((((ents kv 0 L).toArray[i]?).map (·.key)).getD (kv c)) = kv c := by simp [ents_at, hL]
    have hbn : ((((ents kv 0 L).toArray[i]?).map (fun x => (x.born : Int))).getD 0) = (i : Int) := by simp [ents_at, hL]
    simp only [Instr.mapEntry, Sem.run_bind, run_underlying ht, MapKept.run_getObj_map hm, h.check, hf, hk, run_keyStays h, MapKept.run_setObj_map _ hm, Result.andThen, modify_key kv L i c v hL, Sem.run_pure]
    rw [hbn]
    rfl

theorem ents_find (kv : K → Value) (L : List (K × Value)) : ∀ n i : Nat, i < L.length → (ents kv n L).findIdx? (fun e => (e.born : Int) == ((n + i : Nat) : Int)) = some i := by
  induction L with
  | nil => intro n i h; simp at h
  | cons x t ih =>
    intro n i h
    simp only [ents, List.findIdx?_cons]
    cases i with
    | zero => simp
    | succ i =>
      have e : ((n : Int) == ((n + (i + 1) : Nat) : Int)) = false := by rw [beq_eq_false_iff_ne]; omega
      rw [e, show n + (i + 1) = n + 1 + i by omega, ih (n + 1) i (by simpa using h)]
      rfl

theorem run_entryStore {P : Program} {kv : K → Value} (mt : TypeId) (W : World) (r : Nat) (L : List (K × Value)) (i : Nat) (hi : i < L.length) (v : Value) (hm : MP W kv r L) :
    (Instr.entryStore mt (.map (some r)) (.int .i64 (i : Nat)) v).run P W = .ok () (setB W r (.map (ents kv 0 (setv L i v)).toArray (setv L i v).length)) := by
  have hf := ents_find kv L 0 i hi
  rw [Nat.zero_add] at hf
  have ha : (asInt (.int .i64 (i : Nat))).run P W = .ok (i : Int) W := rfl
  simp only [Instr.entryStore, Sem.run_bind, MapKept.run_getObj_map hm, ha, Result.andThen, List.findIdx?_toArray, hf, MapKept.run_setObj_map _ hm, List.modify_toArray, ents_setv, setv_length]
  rfl

def upd [DecidableEq K] (c : K) (v : Value) (L : List (K × Value)) : List (K × Value) := match pos c L 0 with | some x => setv L x.1 v | none => L ++ [(c, v)]

theorem modify_both (kv : K → Value) (L : List (K × Value)) (i : Nat) (c : K) (u v : Value) (h : L[i]? = some (c, u)) : (ents kv 0 L).modify i (fun e => { e with key := kv c, val := v }) = ents kv 0 (setv L i v) := by
  rw [← ents_setv]
  apply List.ext_getElem?
  intro j
  rw [List.getElem?_modify, List.getElem?_modify]
  by_cases e : i = j
  · subst e
    rw [ents_at, h]; simp
  · simp [e]

theorem run_mapUpdate [DecidableEq K] {P : Program} {kt mt e : TypeId} {kv : K → Value} (h : KeyL P kt kv) (ht : P.underlying mt = some (.map kt e)) (W : World) (r : Nat) (L : List (K × Value)) (c : K) (v : Value) (hm : MP W kv r L) :
    (Instr.mapUpdate mt (.map (some r)) (kv c) v).run P W = .ok () (setB W r (.map (ents kv 0 (upd c v L)).toArray (upd c v L).length)) := by
  have hf := h.find W L c
  unfold upd
  cases hp : pos c L 0 with
  | none =>
    rw [hp] at hf
    simp [Instr.mapUpdate, run_underlying ht, MapKept.run_getObj_map hm, h.check, hf, MapKept.run_setObj_map _ hm, Result.andThen]
    rw [ents_app, Nat.zero_add]; rfl
  | some x =>
    obtain ⟨i, u⟩ := x
    rw [hp] at hf
    obtain ⟨_, hL⟩ := pos_at c L 0 i u hp
    simp only [Nat.sub_zero] at hL
    have hk : ((((ents kv 0 L).toArray[i]?).map (·.key)).getD (kv c)) = kv c := by simp [ents_at, hL]
    simp only [Instr.mapUpdate, Sem.run_bind, run_underlying ht, MapKept.run_getObj_map hm, h.check, hf, hk, run_keyStays h, MapKept.run_setObj_map _ hm, Result.andThen, List.modify_toArray, modify_both kv L i c u v hL]
    rw [setv_length]; rfl

theorem run_lookup [DecidableEq K] {P : Program} {kt mt e : TypeId} {kv : K → Value} (h : KeyL P kt kv) (ht : P.underlying mt = some (.map kt e)) (z : Value) (W : World) (hz : (zeroValue e).run P W = .ok z W) (r : Nat) (L : List (K × Value)) (c : K) (hm : MP W kv r L) :
    (Instr.lookup mt (.map (some r)) (kv c) false).run P W = .ok (got c z L) W := by
  have hf := h.find W L c
  unfold got
  cases hp : pos c L 0 with
  | none =>
    rw [hp] at hf
    simp [Instr.lookup, run_underlying ht, MapKept.run_getObj_map hm, h.check, hf, hz, Result.andThen]
  | some x =>
    obtain ⟨i, v⟩ := x
    rw [hp] at hf
    simp [Instr.lookup, run_underlying ht, MapKept.run_getObj_map hm, h.check, hf, Result.andThen]
end
end Go.Proofs.YtcphclpekllcoaaGreatDoor
