/-
  A map of ints that the call makes, as a list of keys and values, over any program.
-/
import Derived.Test.YtdcjhpihcfpamaaKit
namespace Go.XK
open Go.RowKit
open Go.ChangeMaps (setBlock)

/-- Block b is a map that holds these keys and values, in the order in which they came. -/
def MapI (w : World) (b : Nat) (l : List (Int × Value)) : Prop :=
  ∃ es clock, w.heap[b]? = some (.map es clock) ∧ es.toList.map (fun e => (e.key, e.val)) = l.map (fun x => (Value.int .i64 x.1, x.2))

theorem MapI.lt {w : World} {b : Nat} {l : List (Int × Value)} (h : MapI w b l) : b < w.heap.size := by
  obtain ⟨es, c, hb, _⟩ := h; exact (Array.getElem?_eq_some_iff.1 hb).1

theorem MapI.of_same {w w' : World} {b : Nat} {l : List (Int × Value)} (h : MapI w b l) (hs : w'.heap[b]? = w.heap[b]?) : MapI w' b l := by
  obtain ⟨es, c, hb, he⟩ := h; exact ⟨es, c, by rw [hs]; exact hb, he⟩

theorem MapI.new (w : World) : MapI (w.alloc (.map #[] 0)) w.heap.size [] := ⟨#[], 0, heap_alloc_new w _, rfl⟩

/-- What is found. -/
def lookI (l : List (Int × Value)) (k : Int) : Option Value := (l.find? fun x => x.1 == k).map (·.2)

/-- What is laid. -/
def putI (l : List (Int × Value)) (k : Int) (v : Value) : List (Int × Value) :=
  match l.findIdx? (fun x => x.1 == k) with
  | some j => l.set j (k, v)
  | none => l ++ [(k, v)]

theorem findNow_eq (k : Int) : ∀ (l : List (Int × Value)) (es : List MapEntry) (i : Nat), es.map (fun e => (e.key, e.val)) = l.map (fun x => (Value.int .i64 x.1, x.2)) →
    Instr.findNow (.int .i64) (.int .i64 k) es i = some ((l.findIdx? fun x => x.1 == k).map fun j => (i + j, (l[j]?.getD (0, undef)).2)) := by
  intro l
  induction l with
  | nil => intro es i h; simp at h; subst h; rfl
  | cons x l ih =>
    intro es i h
    cases es with
    | nil => simp at h
    | cons e es =>
      simp only [List.map_cons, List.cons.injEq, Prod.mk.injEq] at h
      obtain ⟨⟨h1, h2⟩, h3⟩ := h
      unfold Instr.findNow
      rw [h1, h2]
      simp only [Instr.sameNow, if_true]
      by_cases hk : k = x.1
      · subst hk
        simp [List.findIdx?_cons]
      · have h4 : (k == x.1) = false := by simpa using hk
        have h5 : (x.1 == k) = false := by simpa using fun e => hk e.symm
        rw [h4]
        simp only [ih es (i + 1) h3, List.findIdx?_cons, h5]
        cases l.findIdx? fun x => x.1 == k with
        | none => simp
        | some j => simp; omega

theorem run_checkInt {P : Program} {k : TypeId} (hk : P.underlying k = some (.int .i64)) (w : World) (c : Bool) (n : Int) : (Instr.checkKey c 10000 k (.int .i64 n)).run P w = .ok () w := by
  unfold Instr.checkKey
  simp [run_underlying hk, Result.andThen]

theorem run_keyStays (P : Program) (w : World) (n : Int) : (Instr.keyThatStays (.int .i64 n) (.int .i64 n)).run P w = .ok (.int .i64 n) w := by
  simp [Instr.keyThatStays, Instr.sameBits]

theorem findIdx_none {l : List (Int × Value)} {n : Int} (h : (l.findIdx? fun x => x.1 == n) = none) : lookI l n = none := by
  rw [List.findIdx?_eq_none_iff] at h
  simp only [lookI, Option.map_eq_none_iff, List.find?_eq_none]
  intro x hx; simpa using h x hx

theorem findIdx_some : ∀ {l : List (Int × Value)} {n : Int} {j : Nat}, (l.findIdx? fun x => x.1 == n) = some j → lookI l n = some (l[j]?.getD (0, undef)).2
  | [], _, _, h => by simp at h
  | x :: l, n, j, h => by
    rw [List.findIdx?_cons] at h
    by_cases hx : (x.1 == n) = true
    · rw [if_pos hx] at h; cases h
      simp [lookI, hx]
    · rw [if_neg hx] at h
      obtain ⟨i, hi, rfl⟩ := Option.map_eq_some_iff.1 h
      have h1 := findIdx_some hi
      simp only [Bool.not_eq_true] at hx
      simp only [lookI, List.find?_cons, hx] at h1 ⊢
      simpa using h1

/-- 'v, ok := m[k]'. -/
theorem run_look_ok {P : Program} {t k e : TypeId} {w : World} {b : Nat} {l : List (Int × Value)} (h : MapI w b l) (ht : P.underlying t = some (.map k e)) (hk : P.underlying k = some (.int .i64))
    {z : Value} (hz : (zeroValue e).run P w = .ok z w) (n : Int) :
    (Instr.lookup t (.map (some b)) (.int .i64 n) true).run P w = .ok (.tuple #[(lookI l n).getD z, .bool (lookI l n).isSome]) w := by
  obtain ⟨es, c, hb, he⟩ := h
  have hf := findNow_eq n l es.toList 0 he
  cases hx : l.findIdx? (fun x => x.1 == n) with
  | none =>
    rw [hx] at hf
    simp [Instr.lookup, Instr.findKey, run_underlying ht, run_underlying hk, MapKept.run_getObj_map hb, run_checkInt hk, hf, hz, Result.andThen, findIdx_none hx]
  | some j =>
    rw [hx] at hf
    simp [Instr.lookup, Instr.findKey, run_underlying ht, run_underlying hk, MapKept.run_getObj_map hb, run_checkInt hk, hf, Result.andThen, findIdx_some hx]

/-- 'm[k] = v'. -/
theorem run_put {P : Program} {t k e : TypeId} {w : World} {b : Nat} {l : List (Int × Value)} (h : MapI w b l) (ht : P.underlying t = some (.map k e)) (hk : P.underlying k = some (.int .i64)) (n : Int) (v : Value) :
    ∃ es c, (Instr.mapUpdate t (.map (some b)) (.int .i64 n) v).run P w = .ok () (setBlock w b (.map es c)) ∧ MapI (setBlock w b (.map es c)) b (putI l n v) := by
  have hlt := h.lt
  obtain ⟨es, c, hb, he⟩ := h
  have hf := findNow_eq n l es.toList 0 he
  cases hx : l.findIdx? (fun x => x.1 == n) with
  | none =>
    rw [hx] at hf
    refine ⟨es.push ⟨.int .i64 n, v, c⟩, c + 1, ?_, es.push ⟨.int .i64 n, v, c⟩, c + 1, by simp [setBlock, hlt], ?_⟩
    · simp [Instr.mapUpdate, Instr.findKey, run_underlying ht, run_underlying hk, MapKept.run_getObj_map hb, run_checkInt hk, hf, MapKept.run_setObj_map _ hb, Result.andThen, setBlock]
    · simp [putI, hx, he]
  | some j =>
    rw [hx] at hf
    have hjl : j < l.length := (List.findIdx?_eq_some_iff_getElem.1 hx).1
    have hle : es.toList.length = l.length := by simpa using congrArg List.length he
    have hkey : l[j].1 = n := by simpa using (List.findIdx?_eq_some_iff_getElem.1 hx).2.1
    have hj2 : j < es.size := by simpa [← hle] using hjl
    have hek : es[j].key = .int .i64 n := by
      have h1 := congrArg (fun q => q[j]?) he
      simp [hj2, hjl] at h1
      rw [h1.1, hkey]
    refine ⟨es.modify j (fun e => { e with key := .int .i64 n, val := v }), c, ?_, es.modify j (fun e => { e with key := .int .i64 n, val := v }), c, by simp [setBlock, hlt], ?_⟩
    · simp [Instr.mapUpdate, Instr.findKey, run_underlying ht, run_underlying hk, MapKept.run_getObj_map hb, run_checkInt hk, hf, hj2, hek, run_keyStays, MapKept.run_setObj_map _ hb, Result.andThen, setBlock]
    · rw [Array.toList_modify, Go.ChangeMaps.modify_eq_set _ _ _ _ (by simp [hj2] : es.toList[j]? = some es[j])]
      simp only [putI, hx, List.map_set, ← he]

theorem lookI_cons (x : Int × Value) (l : List (Int × Value)) (n : Int) : lookI (x :: l) n = if x.1 == n then some x.2 else lookI l n := by
  unfold lookI
  rw [List.find?_cons]
  cases x.1 == n <;> rfl

theorem lookI_append (n : Int) (v : Value) : ∀ (l : List (Int × Value)), lookI l n = none → ∀ m, lookI (l ++ [(n, v)]) m = if n = m then some v else lookI l m
  | [], _, m => by
    rw [List.nil_append, lookI_cons]
    by_cases h : n = m <;> simp [h]
  | x :: l, h0, m => by
    rw [lookI_cons] at h0
    by_cases hx : (x.1 == n) = true
    · rw [if_pos hx] at h0; simp at h0
    · rw [if_neg hx] at h0
      rw [List.cons_append, lookI_cons, lookI_cons, lookI_append n v l h0 m]
      by_cases hm : n = m
      · subst hm; rw [if_neg hx, if_pos rfl]; simp
      · rw [if_neg hm, if_neg hm]

theorem lookI_set (n : Int) (v : Value) : ∀ (l : List (Int × Value)) (j : Nat), (l.findIdx? fun x => x.1 == n) = some j → ∀ m, lookI (l.set j (n, v)) m = if n = m then some v else lookI l m
  | [], _, h, _ => by simp at h
  | x :: l, j, h, m => by
    rw [List.findIdx?_cons] at h
    by_cases hx : (x.1 == n) = true
    · rw [if_pos hx] at h; cases h
      have hx2 : x.1 = n := by simpa using hx
      rw [List.set_cons_zero, lookI_cons, lookI_cons, hx2]
      by_cases hm : n = m
      · simp [hm]
      · have : (n == m) = false := by simpa using hm
        rw [this]; simp [hm]
    · rw [if_neg hx] at h
      obtain ⟨i, hi, rfl⟩ := Option.map_eq_some_iff.1 h
      rw [List.set_cons_succ, lookI_cons, lookI_cons, lookI_set n v l i hi m]
      by_cases hm : n = m
      · subst hm; rw [if_neg hx, if_pos rfl]; simp
      · rw [if_neg hm, if_neg hm]

theorem lookI_put (l : List (Int × Value)) (n : Int) (v : Value) (m : Int) : lookI (putI l n v) m = if n = m then some v else lookI l m := by
  unfold putI
  cases hx : l.findIdx? (fun x => x.1 == n) with
  | none => exact lookI_append n v l (findIdx_none hx) m
  | some j => exact lookI_set n v l j hx m

/-- 'len(m)'. -/
theorem run_len_mapI {P : Program} {t k e : TypeId} {w : World} {b : Nat} {l : List (Int × Value)} (h : MapI w b l) (ht : P.underlying t = some (.map k e)) (ty : TypeId) :
    (Builtin.len_ #[t] ty #[.map (some b)]).run P w = .ok (.int .i64 l.length) w := by
  obtain ⟨es, c, hb, he⟩ := h
  have hle : es.size = l.length := by simpa using congrArg List.length he
  rw [← hle]
  simp [Builtin.len_, run_underlying ht, MapKept.run_getObj_map hb, goInt, Result.andThen]

/-- 'clear(m)'. -/
theorem run_clear_mapI {P : Program} {t k e : TypeId} {w : World} {b : Nat} {l : List (Int × Value)} (h : MapI w b l) (ht : P.underlying t = some (.map k e)) :
    ∃ c, (∀ ty, (Builtin.clear_ #[t] ty #[.map (some b)]).run P w = .ok (.tuple #[]) (setBlock w b (.map #[] c))) ∧ MapI (setBlock w b (.map #[] c)) b [] := by
  have hlt := h.lt
  obtain ⟨es, c, hb, he⟩ := h
  refine ⟨c, fun ty => ?_, #[], c, by simp [setBlock, hlt], rfl⟩
  simp [Builtin.clear_, run_underlying ht, MapKept.run_getObj_map hb, MapKept.run_setObj_map _ hb, Result.andThen, setBlock]

theorem setBlock_other (w : World) {b g : Nat} (o : Obj) (h : b ≠ g) : (setBlock w g o).heap[b]? = w.heap[b]? := by
  simp [setBlock, Ne.symm h]

theorem Step.setBlock {S : Nat → Prop} {own own' : Nat → Nat} {w w' : World} (h : Step S own w own' w') {g : Nat} (o : Obj) (ha : w.heap.size ≤ g ∨ S (own g)) : Step S own w own' (setBlock w' g o) :=
  ⟨h.os, h.tape, h.output, by simpa [Go.ChangeMaps.setBlock] using h.size, h.keep, fun b hb hS => by
    rw [setBlock_other _ _ (by intro e; subst e; rcases ha with k | k; exact absurd hb (by omega); exact hS k)]
    exact h.same b hb hS⟩

end Go.XK
