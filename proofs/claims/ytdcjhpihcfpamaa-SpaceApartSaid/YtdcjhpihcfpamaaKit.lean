/-
  A kit of my own, over no program: rows of cells in a world ('blk'), a ghost that says whose each block is ('own'), steps that turn only what is of some owners ('Step').
-/
import Derived.WalkKit
import Derived.WalkSpells
import Derived.WalkLawsBesides
import Derived.WalkSmall
import Derived.Lib.Hide
import Derived.Deep.Draws
namespace Go.XK
open Go.RowKit

/-- Block b is a row of just these cells; none is frozen. -/
def blk (w : World) (b : Nat) (cs : Array Value) (T : TypeId) : Prop := w.heap[b]? = some (.cells cs T (0, 0))

section
variable {w : World} {b : Nat} {cs : Array Value} {T : TypeId}

theorem blk.lt (h : blk w b cs T) : b < w.heap.size := (Array.getElem?_eq_some_iff.1 h).1

theorem blk.cell (h : blk w b cs T) (o : Nat) : w.cell? ⟨b, o, none⟩ = cs[o]? := by
  unfold blk at h; simp [World.cell?, h]

theorem blk.free (h : blk w b cs T) (o : Nat) : w.frozen? ⟨b, o, none⟩ = false := by
  unfold blk at h; simp [World.frozen?, h]

theorem blk.set (h : blk w b cs T) (o : Nat) (v : Value) : blk (w.setCell ⟨b, o, none⟩ v) b (cs.setIfInBounds o v) T := by
  unfold blk at *
  simp only [World.setCell, Array.getElem?_modify]
  simp [h]

theorem blk.set_ne (h : blk w b cs T) {a : Addr} (v : Value) (hne : a.block ≠ b) : blk (w.setCell a v) b cs T := by
  unfold blk at *
  rw [Below.heap_setCell _ _ _ _ (fun e => hne e.symm)]; exact h

theorem blk.alloc (h : blk w b cs T) (o : Obj) : blk (w.alloc o) b cs T := by
  have := h.lt
  unfold blk at *
  rw [Below.heap_alloc _ _ _ this]; exact h

theorem blk.new (w : World) (cs : Array Value) (T : TypeId) : blk (w.alloc (.cells cs T)) w.heap.size cs T := heap_alloc_new w _

theorem blk.new' (w : World) (cs : Array Value) (T : TypeId) {k : Nat} (hk : k = w.heap.size) : blk (w.alloc (.cells cs T)) k cs T := hk ▸ blk.new w cs T

theorem blk.drew (h : blk w b cs T) : blk w.drew b cs T := h
theorem blk.drewN (h : blk w b cs T) (n : Nat) : blk (w.drewN n) b cs T := h
theorem blk.of_same {w' : World} (h : blk w b cs T) (hs : w'.heap[b]? = w.heap[b]?) : blk w' b cs T := by unfold blk at *; rw [hs]; exact h
theorem blk.eq (h : blk w b cs T) {cs' : Array Value} (he : cs' = cs) : blk w b cs' T := he ▸ h
theorem blk.tag {cs' : Array Value} {T' : TypeId} (h : blk w b cs T) (h' : blk w b cs' T') : T = T' ∧ cs = cs' := by
  unfold blk at *; rw [h] at h'; simp at h'; exact ⟨h'.2, h'.1⟩
theorem blk.ne {b' : Nat} {cs' : Array Value} {T' : TypeId} (h : blk w b cs T) (h' : blk w b' cs' T') (hT : T ≠ T') : b ≠ b' := by
  intro e; subst e; exact hT (h.tag h').1
end

/-- Whose a block is, behind new blocks: all that is new is c's. -/
def ext (own : Nat → Nat) (w : World) (c : Nat) : Nat → Nat := fun b => if b < w.heap.size then own b else c

theorem ext_old {own : Nat → Nat} {w : World} {c b : Nat} (h : b < w.heap.size) : ext own w c b = own b := if_pos h
theorem ext_new {own : Nat → Nat} {w : World} {c b : Nat} (h : w.heap.size ≤ b) : ext own w c b = c := if_neg (by omega)

/-- From (w, own) to (w', own'): only blocks of owners in S have turned, and new ones came. -/
structure Step (S : Nat → Prop) (own : Nat → Nat) (w : World) (own' : Nat → Nat) (w' : World) : Prop where
  os : w'.os = w.os
  tape : w'.tape = w.tape
  output : w'.output = w.output
  size : w.heap.size ≤ w'.heap.size
  keep : ∀ b, b < w.heap.size → own' b = own b
  same : ∀ b, b < w.heap.size → ¬ S (own b) → w'.heap[b]? = w.heap[b]?

namespace Step
variable {S : Nat → Prop} {own own' own'' : Nat → Nat} {w w' w'' : World}

theorem refl (S : Nat → Prop) (own : Nat → Nat) (w : World) : Step S own w own w := ⟨rfl, rfl, rfl, Nat.le_refl _, fun _ _ => rfl, fun _ _ _ => rfl⟩

theorem trans (h : Step S own w own' w') (k : Step S own' w' own'' w'') : Step S own w own'' w'' :=
  ⟨k.os.trans h.os, k.tape.trans h.tape, k.output.trans h.output, Nat.le_trans h.size k.size,
   fun b hb => (k.keep b (Nat.lt_of_lt_of_le hb h.size)).trans (h.keep b hb),
   fun b hb hS => (k.same b (Nat.lt_of_lt_of_le hb h.size) (by rw [h.keep b hb]; exact hS)).trans (h.same b hb hS)⟩

theorem mono {S' : Nat → Prop} (h : Step S own w own' w') (hS : ∀ c, S c → S' c) : Step S' own w own' w' :=
  ⟨h.os, h.tape, h.output, h.size, h.keep, fun b hb hn => h.same b hb (fun k => hn (hS _ k))⟩

theorem drew (h : Step S own w own' w') : Step S own w own' w'.drew := ⟨h.os, h.tape, h.output, h.size, h.keep, h.same⟩
theorem drewN (h : Step S own w own' w') (n : Nat) : Step S own w own' (w'.drewN n) := ⟨h.os, h.tape, h.output, h.size, h.keep, h.same⟩

theorem setCell (h : Step S own w own' w') {a : Addr} (v : Value) (ha : w.heap.size ≤ a.block ∨ S (own a.block)) : Step S own w own' (w'.setCell a v) :=
  ⟨h.os, h.tape, h.output, by rw [World.size_setCell]; exact h.size, h.keep, fun b hb hn => by
    rw [Below.heap_setCell _ _ _ _ (by intro e; subst e; rcases ha with k | k; exact absurd hb (by omega); exact hn k)]
    exact h.same b hb hn⟩

theorem alloc (h : Step S own w own' w') (o : Obj) : Step S own w own' (w'.alloc o) :=
  ⟨h.os, h.tape, h.output, by rw [World.size_alloc]; have := h.size; omega, h.keep, fun b hb hn => by
    rw [Below.heap_alloc _ _ _ (Nat.lt_of_lt_of_le hb h.size)]; exact h.same b hb hn⟩

/-- Only what is new may be told anew. -/
theorem reown (h : Step S own w own' w') {o2 : Nat → Nat} (hk : ∀ b, b < w.heap.size → o2 b = own b) : Step S own w o2 w' :=
  ⟨h.os, h.tape, h.output, h.size, hk, h.same⟩

theorem grown {row : Option Nat} (h : Step S own w own' w') (hg : w'.grownBy w'' row) (hr : ∀ k, row = some k → w.heap.size ≤ k ∨ S (own k)) : Step S own w own' w'' :=
  ⟨hg.os.trans h.os, hg.tape.trans h.tape, hg.output.trans h.output, Nat.le_trans h.size hg.size, h.keep, fun b hb hn => by
    rw [hg.block b (Nat.lt_of_lt_of_le hb h.size) (fun e => by rcases hr b e.symm with k | k; exact absurd hb (by omega); exact hn k)]
    exact h.same b hb hn⟩

theorem below (h : Step S own w own' w') {B : Nat} (hb : Below B w' w'') (hB : w'.heap.size ≤ B) : Step S own w own' w'' :=
  ⟨hb.os.trans h.os, hb.tape.trans h.tape, hb.output.trans h.output, Nat.le_trans h.size hb.size, h.keep, fun b hlt hn => by
    rw [hb.block b (by have := h.size; omega)]; exact h.same b hlt hn⟩

/-- What is of an owner outside S is as it was. -/
theorem other (h : Step S own w own' w') {c : Nat} (hc : ¬ S c) : ∀ b, b < w.heap.size → own b = c → w'.heap[b]? = w.heap[b]? ∧ own' b = c :=
  fun b hb hc' => ⟨h.same b hb (by rw [hc']; exact hc), by rw [h.keep b hb]; exact hc'⟩
end Step

theorem Step.of_drewN {S : Nat → Prop} {own : Nat → Nat} {w w' : World} {n : Nat} (h : w' = w.drewN n) : Step S own w own w' := h ▸ (Step.refl S own w).drewN n
theorem blk.of_drewN {w w' : World} {b : Nat} {cs : Array Value} {T : TypeId} {n : Nat} (hb : blk w b cs T) (h : w' = w.drewN n) : blk w' b cs T := h ▸ hb

/-- A slice's own block, if any, is c's. -/
def Owned (own : Nat → Nat) (c : Nat) (v : Value) : Prop := ∀ k, v.ownBlock = some k → own k = c

theorem Owned.nil (own : Nat → Nat) (c : Nat) : Owned own c (.slice none 0 0) := fun k hk => by simp [Value.ownBlock] at hk

/-- A row that a value owns, if its block has not turned. -/
theorem row_same {w w' : World} {e : TypeId} {size : Nat} {v : Value} {n : Nat} {xs : List Value} (h : w.ownsRow 0 e size v n xs)
    (hs : ∀ k, v.ownBlock = some k → w'.heap[k]? = w.heap[k]?) : w'.ownsRow 0 e size v n xs := by
  refine ⟨h.1, ?_⟩
  rcases h.2 with k | ⟨g, cap, cur, rfl, hb, hg, r⟩
  · exact .inl k
  · exact .inr ⟨g, cap, cur, rfl, hb, by rw [hs g rfl]; exact hg, r⟩

theorem row_lt {w : World} {e : TypeId} {size : Nat} {v : Value} {n : Nat} {xs : List Value} (h : w.ownsRow 0 e size v n xs) : ∀ k, v.ownBlock = some k → k < w.heap.size :=
  fun k hk => (h.lt k hk).2

/-- A row that is not empty: its value and its block. -/
theorem row_open {w : World} {e : TypeId} {size : Nat} {v : Value} {n : Nat} {xs : List Value} (h : w.ownsRow 0 e size v n xs) (hn : 0 < n) :
    ∃ g cap cur, v = .slice (some ⟨g, 0, none⟩) n cap ∧ blk w g cur e ∧ n ≤ cap ∧ cap ≤ maxLen ∧ cur.size = cap * size ∧ cur.toList.take (n * size) = xs := by
  rcases h.2 with ⟨_, k⟩ | ⟨g, cap, cur, hv, _, hg, r⟩
  · omega
  · exact ⟨g, cap, cur, hv, hg, r⟩

/-- A row's block is none of another element type. -/
theorem row_ne {w : World} {e : TypeId} {size : Nat} {v : Value} {n : Nat} {xs : List Value} (h : w.ownsRow 0 e size v n xs) {b : Nat} {cs : Array Value} {T : TypeId}
    (hb : blk w b cs T) (hT : e ≠ T) : v.ownBlock ≠ some b := by
  intro k
  rcases h.2 with ⟨rfl, _⟩ | ⟨g, cap, cur, rfl, _, hg, _⟩
  · simp [Value.ownBlock] at k
  · simp [Value.ownBlock] at k; subst k
    exact blk.ne (cs := cur) hg hb hT rfl

theorem rows_ne {w : World} {e e' : TypeId} {size size' : Nat} {v v' : Value} {n n' : Nat} {xs xs' : List Value} (h : w.ownsRow 0 e size v n xs) (h' : w.ownsRow 0 e' size' v' n' xs') (hT : e ≠ e') :
    v.ownBlock = none ∨ v.ownBlock ≠ v'.ownBlock := by
  rcases h'.2 with ⟨rfl, _⟩ | ⟨g, cap, cur, rfl, _, hg, _⟩
  · cases hv : v.ownBlock <;> simp [Value.ownBlock]
  · exact .inr (row_ne h (cs := cur) hg hT)

/-- append onto an owned row: what comes is in the row's own block or in a new one. -/
theorem run_append_x {P : Program} (w : World) (t ty e : TypeId) (i : TypeInfo) (z : Value) (size bytes : Nat) (ht : P.underlying t = some (.slice e)) (hi : P.info? e = some i) (hz : i.zero = some z)
    (hsize : i.size = size) (hby : i.bytes = bytes) (hzs : z.cells.size = size) (hsz : 0 < size)
    (v : Value) (n : Nat) (xs : List Value) (hown : w.ownsRow 0 e size v n xs)
    (a : Addr) (m c : Nat) (news : List Value) (hl : news.length = m * size) (hnews : ∀ j u, news[j]? = some u → w.cell? (a.add j) = some u) (h1 : ∀ u ∈ news, u.oneCell' = true)
    (h63 : n + m ≤ maxLen) (hbytes : (n + m) * bytes ≤ 140737488355328) :
    ∃ v' w', (Builtin.append_ #[t, t] ty #[v, .slice (some a) m c]).run P w = .ok v' w' ∧ w'.ownsRow 0 e size v' (n + m) (xs ++ news) ∧ w.grownBy w' v.ownBlock ∧
      (v' = .slice none 0 0 ↔ v = .slice none 0 0 ∧ m = 0) ∧ (∀ k, v'.ownBlock = some k → v.ownBlock = some k ∨ w.heap.size ≤ k) := by
  obtain ⟨v', w', hr, h2, h3, h4⟩ := run_append_own (P := P) w 0 t ty e i z size bytes ht hi hz hsize hby hzs hsz v n xs hown a m c news hl hnews h1 h63 hbytes (Nat.zero_le _)
  refine ⟨v', w', hr, h2, h3, h4, ?_⟩
  intro k hk
  rcases hown.2 with ⟨rfl, rfl⟩ | ⟨g, cap, cur, rfl, hbg, hg, hnc, hcm, hcs, htake⟩
  · obtain rfl : xs = [] := List.eq_nil_of_length_eq_zero (by simpa using hown.1)
    obtain ⟨v2, w2, hr2, h22, -⟩ := run_append_own (P := P) w w.heap.size t ty e i z size bytes ht hi hz hsize hby hzs hsz _ _ _ (World.ownsRow_nil w w.heap.size e size) a m c news hl hnews h1 h63 hbytes (Nat.le_refl _)
    rw [hr] at hr2
    simp only [Result.ok.injEq] at hr2
    obtain ⟨rfl, rfl⟩ := hr2
    exact .inr (h22.lt k hk).1
  · subst hsize
    by_cases hroom : n + m ≤ cap
    · have hfit : n * i.size + news.length ≤ cur.size := by rw [hl, hcs, ← Nat.add_mul]; exact Nat.mul_le_mul_right _ hroom
      have hr2 := run_append_room (P := P) w t ty e i ht hi g n cap cur hg a m c news hl hnews h1 hroom hfit
      rw [hr] at hr2
      simp only [Result.ok.injEq] at hr2
      obtain ⟨rfl, rfl⟩ := hr2
      exact .inl (by simpa [Value.ownBlock] using hk)
    · have holds : ∀ j u, xs[j]? = some u → w.cell? ((⟨g, 0, none⟩ : Addr).add j) = some u := hown.cells (g := g) rfl
      subst hby
      have hr2 := run_append_grow (P := P) w t ty e i z ht hi hz ⟨g, 0, none⟩ n cap xs hown.1 holds a m c news hl hnews (by omega) (by simp only [maxLen] at h63; omega) (growslice_fits (by omega) hbytes)
      rw [hr] at hr2
      simp only [Result.ok.injEq] at hr2
      obtain ⟨rfl, rfl⟩ := hr2
      simp only [Value.ownBlock, Option.some.injEq] at hk
      exact .inr (by omega)

theorem wpList_append_x {P : Program} {w : World} {ops : Array Oper} {rest : List Oper} {o : Oper} {a : Act} {Q : Exit → Act → World → Prop} (hgd : o.guard = none) (s x : Operand) (t : TypeId)
    (ho : o.op = .call { callee := .builtin .append, args := #[s, x], argTypes := #[t, t] })
    (e : TypeId) (i : TypeInfo) (z : Value) (size bytes : Nat) (ht : P.underlying t = some (.slice e)) (hi : P.info? e = some i) (hz : i.zero = some z)
    (hsize : i.size = size) (hby : i.bytes = bytes) (hzs : z.cells.size = size) (hsz : 0 < size)
    (v : Value) (n : Nat) (xs : List Value) (hs : a.eval s = v) (hown : w.ownsRow 0 e size v n xs)
    (ad : Addr) (m c : Nat) (news : List Value) (hx : a.eval x = .slice (some ad) m c) (hl : news.length = m * size) (hnews : ∀ j u, news[j]? = some u → w.cell? (ad.add j) = some u) (h1 : ∀ u ∈ news, u.oneCell' = true)
    (h63 : n + m ≤ maxLen) (hbytes : (n + m) * bytes ≤ 140737488355328)
    (h : ∀ (a' : Option Addr) (c' : Nat) (w' : World), w'.ownsRow 0 e size (.slice a' (n + m) c') (n + m) (xs ++ news) → w.grownBy w' v.ownBlock →
      (∀ k, (Value.slice a' (n + m) c').ownBlock = some k → v.ownBlock = some k ∨ w.heap.size ≤ k) → wpList P ops Q rest (a.put o.dst (.slice a' (n + m) c')) w') : wpList P ops Q (o :: rest) a w := by
  refine wpList_plain hgd fun K hK => ?_
  obtain ⟨v', w', hr, h2, h3, h4, h5⟩ := run_append_x (P := P) w t o.type e i z size bytes ht hi hz hsize hby hzs hsz v n xs hown ad m c news hl hnews h1 h63 hbytes
  have hv : ∃ a' c', v' = .slice a' (n + m) c' := by
    rcases h2.2 with ⟨rfl, k⟩ | ⟨g, cap, cur, rfl, _⟩
    · exact ⟨none, 0, by rw [k]⟩
    · exact ⟨_, _, rfl⟩
  obtain ⟨a', c', rfl⟩ := hv
  unfold Oper.wp execOp
  simp only [ho, resolve, invoke, builtin, Sem.run_bind, Sem.run_pure, Result.andThen_ok, List.map_toArray, List.map_cons, List.map_nil, hs, hx, hr]
  exact hK _ _ (h a' c' w' h2 h3 h5)

/-- The same as one step of a region that draws its order. -/
theorem step_append_x {P : Program} {ops : Array Oper} {o : Oper} {a : Act} {w : World} {K : Act → World → Prop} {Q : Exit → Act → World → Prop} {E : Prop} (hgd : o.guard = none) (s x : Operand) (t : TypeId)
    (ho : o.op = .call { callee := .builtin .append, args := #[s, x], argTypes := #[t, t] })
    (e : TypeId) (i : TypeInfo) (z : Value) (size bytes : Nat) (ht : P.underlying t = some (.slice e)) (hi : P.info? e = some i) (hz : i.zero = some z)
    (hsize : i.size = size) (hby : i.bytes = bytes) (hzs : z.cells.size = size) (hsz : 0 < size)
    (v : Value) (n : Nat) (xs : List Value) (hs : a.eval s = v) (hown : w.ownsRow 0 e size v n xs)
    (ad : Addr) (m c : Nat) (news : List Value) (hx : a.eval x = .slice (some ad) m c) (hl : news.length = m * size) (hnews : ∀ j u, news[j]? = some u → w.cell? (ad.add j) = some u) (h1 : ∀ u ∈ news, u.oneCell' = true)
    (h63 : n + m ≤ maxLen) (hbytes : (n + m) * bytes ≤ 140737488355328)
    (h : ∀ (a' : Option Addr) (c' : Nat) (w' : World), w'.ownsRow 0 e size (.slice a' (n + m) c') (n + m) (xs ++ news) → w.grownBy w' v.ownBlock →
      (∀ k, (Value.slice a' (n + m) c').ownBlock = some k → v.ownBlock = some k ∨ w.heap.size ≤ k) → K (a.put o.dst (.slice a' (n + m) c')) w') :
    if Region.wanted o (yielded ops a.tmps) = true then Oper.wp P o a w K Q else E := by
  rw [if_pos (by simp [Region.wanted, hgd])]
  obtain ⟨v', w', hr, h2, h3, h4, h5⟩ := run_append_x (P := P) w t o.type e i z size bytes ht hi hz hsize hby hzs hsz v n xs hown ad m c news hl hnews h1 h63 hbytes
  have hv : ∃ a' c', v' = .slice a' (n + m) c' := by
    rcases h2.2 with ⟨rfl, k⟩ | ⟨g, cap, cur, rfl, _⟩
    · exact ⟨none, 0, by rw [k]⟩
    · exact ⟨_, _, rfl⟩
  obtain ⟨a', c', rfl⟩ := hv
  unfold Oper.wp execOp
  simp only [ho, resolve, invoke, builtin, Sem.run_bind, Sem.run_pure, Result.andThen_ok, List.map_toArray, List.map_cons, List.map_nil, hs, hx, hr]
  exact h a' c' w' h2 h3 h5

theorem new_cells (w : World) (l : List Value) (T : TypeId) (k : Nat) (hk : k = w.heap.size) : ∀ j u, l[j]? = some u → (w.alloc (.cells l.toArray T)).cell? ((⟨k, 0, none⟩ : Addr).add j) = some u := by
  intro j u hu
  subst hk
  have : (⟨w.heap.size, 0, none⟩ : Addr).add j = ⟨w.heap.size, j, none⟩ := by unfold Addr.add; split <;> simp_all
  rw [this, (blk.new w l.toArray T).cell]
  simpa using hu

theorem blk.grown {w w' : World} {b : Nat} {cs : Array Value} {T : TypeId} (h : blk w b cs T) {row : Option Nat} (hg : w.grownBy w' row) (hne : row ≠ some b) : blk w' b cs T :=
  h.of_same (hg.block b h.lt (fun e => hne e.symm))

theorem Owned.ext {own : Nat → Nat} {w : World} {c : Nat} {v : Value} (h : Owned own c v) : Owned (ext own w c) c v := by
  intro k hk
  unfold XK.ext
  split
  · exact h k hk
  · rfl

theorem Owned.fresh {own : Nat → Nat} {w : World} {c : Nat} {v v' : Value} (h : Owned own c v) (hf : ∀ k, v'.ownBlock = some k → v.ownBlock = some k ∨ w.heap.size ≤ k) : Owned (XK.ext own w c) c v' := by
  intro k hk
  unfold XK.ext
  split
  · rename_i hlt
    rcases hf k hk with e | e
    · exact h k e
    · omega
  · rfl

theorem row_zero {w : World} {base : Nat} {e : TypeId} {size : Nat} {v : Value} {n : Nat} {xs : List Value} (h : w.ownsRow base e size v n xs) : w.ownsRow 0 e size v n xs := by
  refine ⟨h.1, ?_⟩
  rcases h.2 with k | ⟨g, cap, cur, hv, hb, r⟩
  · exact .inl k
  · exact .inr ⟨g, cap, cur, hv, Nat.zero_le _, r⟩

theorem blk.below {w w' : World} {b B : Nat} {cs : Array Value} {T : TypeId} (h : blk w b cs T) (hB : Below B w w') (hb : b < B) : blk w' b cs T := h.of_same (hB.block b hb)

theorem row_below {w w' : World} {B : Nat} {e : TypeId} {size : Nat} {v : Value} {n : Nat} {xs : List Value} (h : w.ownsRow 0 e size v n xs) (hB : Below B w w') (hb : w.heap.size ≤ B) : w'.ownsRow 0 e size v n xs :=
  row_same h fun k hk => hB.block k (Nat.lt_of_lt_of_le (row_lt h k hk) hb)

theorem blk.setRow {w : World} {b : Nat} {cs : Array Value} {T : TypeId} (h : blk w b cs T) (cs' : Array Value) : blk (w.setRow b cs') b cs' T := setRow_heap w b cs cs' T (0, 0) h
theorem blk.setRow_ne {w : World} {b g : Nat} {cs cs' : Array Value} {T : TypeId} (h : blk w b cs T) (hg : b ≠ g) : blk (w.setRow g cs') b cs T := h.of_same (setRow_other w g b cs' hg)
theorem below_setRow {B : Nat} {a w : World} (h : Below B a w) {g : Nat} (hg : B ≤ g) (cs : Array Value) : Below B a (w.setRow g cs) :=
  h.trans ⟨rfl, rfl, rfl, by simp, fun k hk => setRow_other w g k cs (by omega)⟩
theorem Step.setRow {S : Nat → Prop} {own own' : Nat → Nat} {w w' : World} (h : Step S own w own' w') {g : Nat} (cs : Array Value) (ha : w.heap.size ≤ g ∨ S (own g)) : Step S own w own' (w'.setRow g cs) :=
  ⟨h.os, h.tape, h.output, by rw [setRow_size]; exact h.size, h.keep, fun b hb hn => by
    rw [setRow_other _ _ _ _ (by intro e; subst e; rcases ha with k | k; exact absurd hb (by omega); exact hn k)]
    exact h.same b hb hn⟩

theorem str_eq (a b : ByteArray) : (a.toList == b.toList) = decide (a = b) := by
  rw [Bool.eq_iff_iff, beq_iff_eq, decide_eq_true_eq]
  constructor
  · intro h
    apply ByteArray.ext
    apply Array.toList_inj.1
    rw [← ByteArray.toList_eq, ← ByteArray.toList_eq]
    exact h
  · rintro rfl; rfl

theorem getD_at {α : Type} (l : List α) (i : Nat) (d : α) (h : i < l.length) : l.getD i d = l[i] := by
  rw [List.getD_eq_getElem?_getD, List.getElem?_eq_getElem h]; rfl

end Go.XK
