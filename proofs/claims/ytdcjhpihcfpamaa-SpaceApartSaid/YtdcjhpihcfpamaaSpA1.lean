/-
  The law SpaceApart, plainly: what is in use, what is free.
-/
import Derived.Test.YtdcjhpihcfpamaaSpH
namespace Go.XK
open Go.RowKit

/-- In use: all below a number. -/
def uu (a : Nat) : Nat → Bool := fun j => decide (j < a)

theorem freeL_uu : ∀ a, a < 40 → freeL 76 (uu a) = List.range' a (76 - a) := by decide
theorem take_range' (a n k : Nat) (h : n ≤ k) : (List.range' a k).take n = List.range' a n := by
  have e : List.range' a k = List.range' a n ++ List.range' (a + n) (k - n) := by
    rw [List.range'_append_1]
    congr 1
    omega
  rw [e]
  exact List.take_left' (List.length_range' ..)
theorem takeU_uu (a n j : Nat) : takeU (uu a) (List.range' a n) j = uu (a + n) j := by
  unfold takeU uu
  rw [Bool.eq_iff_iff]
  simp only [Bool.or_eq_true, decide_eq_true_eq, List.mem_range'_1]
  omega

theorem freeU_range (B : Nat) : ∀ (n lo : Nat) (U : Nat → Bool), 2 ≤ lo → lo + n ≤ B → (∀ j, lo ≤ j → j < lo + n → U j = true) →
    ∃ U', freeU 2 B U ((List.range' lo n).map fun (x : Nat) => (x : Int)) = some U' ∧ ∀ j, U' j = (U j && !decide (lo ≤ j ∧ j < lo + n))
  | 0, lo, U, _, _, _ => ⟨U, rfl, fun j => by rw [decide_eq_false (by omega)]; simp⟩
  | n + 1, lo, U, h1, h2, hU => by
    obtain ⟨U', h3, h4⟩ := freeU_range B n (lo + 1) (dropU U lo) (by omega) (by omega) (fun j hj1 hj2 => by
      unfold dropU
      rw [decide_eq_false (by omega), hU j (by omega) (by omega)]; rfl)
    refine ⟨U', ?_, fun j => ?_⟩
    · rw [List.range'_succ, List.map_cons, freeU, if_pos ⟨by omega, by omega, by omega, by rw [Int.toNat_natCast]; exact hU lo (Nat.le_refl _) (by omega)⟩, Int.toNat_natCast]
      exact h3
    · rw [h4]
      unfold dropU
      by_cases hj : j = lo
      · subst hj
        rw [decide_eq_true rfl, decide_eq_true (show j ≤ j ∧ j < j + (n + 1) by omega)]; simp
      · rw [decide_eq_false hj]
        by_cases hk : lo ≤ j ∧ j < lo + (n + 1)
        · rw [decide_eq_true hk, decide_eq_true (show lo + 1 ≤ j ∧ j < lo + 1 + n by omega)]; simp
        · rw [decide_eq_false hk, decide_eq_false (show ¬ (lo + 1 ≤ j ∧ j < lo + 1 + n) by omega)]; simp

theorem freeL_congr {B : Nat} {U U' : Nat → Bool} (h : ∀ j, j < B → U j = U' j) : freeL B U = freeL B U' := by
  unfold freeL
  apply List.filter_congr
  intro j hj
  rw [h j (List.mem_range.1 hj)]

/-- What the blocks hold that are none of the bitmap's. -/
def vApart (F : ByteArray) (k : Nat) : Nat → ByteArray := fun j => if j ≠ 1 ∧ j < 9 ∧ j < k then F else zeros

theorem vApart_in {F : ByteArray} {k : Nat} (h1 : k ≠ 1) (h2 : k < 9) (j : Nat) : vApart F (k + 1) j = if k = j then F else vApart F k j := by
  unfold vApart
  by_cases hj : k = j
  · subst hj; rw [if_pos ⟨h1, h2, by omega⟩, if_pos rfl]
  · rw [if_neg hj]
    by_cases hc : j ≠ 1 ∧ j < 9 ∧ j < k
    · rw [if_pos hc, if_pos ⟨hc.1, hc.2.1, by omega⟩]
    · rw [if_neg hc, if_neg (by rintro ⟨a, b, c⟩; exact hc ⟨a, b, by omega⟩)]
theorem vApart_out {F : ByteArray} {k : Nat} (h : k = 1 ∨ 9 ≤ k) (j : Nat) : vApart F (k + 1) j = vApart F k j := by
  unfold vApart
  by_cases hc : j ≠ 1 ∧ j < 9 ∧ j < k
  · rw [if_pos hc, if_pos ⟨hc.1, hc.2.1, by omega⟩]
  · rw [if_neg hc, if_neg (by rintro ⟨a, b, c⟩; exact hc ⟨a, b, by omega⟩)]

end Go.XK
namespace Go.Proofs.Ytdcjhpihcfpamaa
open Go.RowKit Go.XK

section
variable {w0 w w' : World} {own : Nat → Nat} {pt pl ps f B : Nat} {T : Tx} {L : Lg} {D : Dsk} {U : Nat → Bool} {V : Nat → ByteArray}

/-- A law's state: blocks from b0 on are nobody's. -/
structure LawB (b0 : Nat) (w0 w : World) (own : Nat → Nat) (pt pl ps f B : Nat) (T : Tx) (L : Lg) (D : Dsk) (U : Nat → Bool) (V : Nat → ByteArray) : Prop where
  l : LawS w0 w own pt pl ps f B T L D U V
  p : ps < b0
  o : ∀ b, b0 ≤ b → own b = 4
  z : b0 ≤ w.heap.size

variable {b0 : Nat}

theorem LawB.to {T' : Tx} {U' : Nat → Bool} {V' : Nat → ByteArray} (h : LawB b0 w0 w own pt pl ps f B T L D U V) (hl : LawS w0 w' own pt pl ps f B T' L D U' V') (hz : w.heap.size ≤ w'.heap.size) : LawB b0 w0 w' own pt pl ps f B T' L D U' V' :=
  ⟨hl, h.p, h.o, Nat.le_trans h.z hz⟩
theorem LawB.drewN (h : LawB b0 w0 w own pt pl ps f B T L D U V) (n : Nat) : LawB b0 w0 (w.drewN n) own pt pl ps f B T L D U V := h.to (h.l.drewN rfl) (Nat.le_refl _)
theorem LawB.drew (h : LawB b0 w0 w own pt pl ps f B T L D U V) : LawB b0 w0 w.drew own pt pl ps f B T L D U V := h.drewN 1
theorem LawB.alloc (h : LawB b0 w0 w own pt pl ps f B T L D U V) (o : Obj) : LawB b0 w0 (w.alloc o) own pt pl ps f B T L D U V := h.to (h.l.alloc o) (by simp)
theorem LawB.grown (h : LawB b0 w0 w own pt pl ps f B T L D U V) {row : Option Nat} (hg : w.grownBy w' row) (hr : ∀ k, row = some k → b0 ≤ k) : LawB b0 w0 w' own pt pl ps f B T L D U V :=
  h.to (h.l.frame ((Step.refl _ own w).grown hg (fun k hk => .inr (h.o k (hr k hk)))) (hg.block ps h.l.s.sp.cells.lt (fun e => by have := hr ps e.symm; have := h.p; omega))) hg.size
theorem LawB.setCell (h : LawB b0 w0 w own pt pl ps f B T L D U V) {a : Addr} (v : Value) (ha : b0 ≤ a.block) : LawB b0 w0 (w.setCell a v) own pt pl ps f B T L D U V :=
  h.to (h.l.frame ((Step.refl _ own w).setCell v (.inr (h.o a.block ha))) (Below.heap_setCell _ _ _ _ (fun e => by have := h.p; omega))) (by rw [World.size_setCell]; exact Nat.le_refl _)
theorem LawB.congr {U' : Nat → Bool} {V' : Nat → ByteArray} (h : LawB b0 w0 w own pt pl ps f B T L D U V) (hU : ∀ n, n < B → U' n = U n) (hV : ∀ n, n < B → V' n = V n) : LawB b0 w0 w own pt pl ps f B T L D U' V' :=
  ⟨h.l.congr hU hV, h.p, h.o, h.z⟩

/-- A row of nobody's, behind a step of the space's. -/
theorem LawB.row {S : Nat → Prop} (h : LawB b0 w0 w own pt pl ps f B T L D U V) {base : Nat} {e : TypeId} {v : Value} {n : Nat} {xs : List Value} (hr : w.ownsRow base e 1 v n xs) (hb : b0 ≤ base) (hS : Step S own w own w') (h4 : ¬ S 4) : w'.ownsRow base e 1 v n xs :=
  row_step hr hS (fun b hb2 => by rw [h.o b (Nat.le_trans hb hb2)]; exact h4)

def BAlloc (b0 : Nat) (w0 w : World) (own : Nat → Nat) (pt pl ps f : Nat) (L : Lg) (D : Dsk) (a : Nat) (V : Nat → ByteArray) (n : Nat) (e : Ending) (w' : World) : Prop :=
  ∃ T' g cv, e = .returned (.tuple #[.slice (some ⟨g, 0, none⟩) n cv, .int .i64 0]) ∧ LawB b0 w0 w' own pt pl ps f 76 T' L D (uu (a + n)) V ∧ Step (fun c => c = 2 ∨ c = 1) own w own w' ∧
    w'.ownsRow w.heap.size 3 1 (.slice (some ⟨g, 0, none⟩) n cv) n (intCells (List.range' a n)) ∧ n ≤ cv

theorem b_Alloc {a : Nat} (h : LawB b0 w0 w own pt pl ps f 76 T L D (uu a) V) (n : Nat) (hn : 0 < n) (ha : a < 40) (hn2 : n < 30) :
    Calls Try.prog 11 #[.pointer (some ⟨ps, 0, none⟩), .int .i64 n] w (BAlloc b0 w0 w own pt pl ps f L D a V n) := by
  have hfl := freeL_uu a ha
  have htk : (freeL 76 (uu a)).take n = List.range' a n := by rw [hfl]; exact take_range' a n _ (by omega)
  refine (law_Alloc h.l n (by rw [hfl, List.length_range']; omega)).mono ?_
  rintro e w' ⟨T', av, cv, he, hl, hS, hr⟩
  rw [htk] at hl hr
  obtain ⟨g, cap, cur, hv, -, hc, -⟩ := row_open (row_zero hr) hn
  cases hv
  exact ⟨T', g, cv, he, (h.to hl hS.size).congr (fun j _ => (takeU_uu a n j).symm) (fun _ _ => rfl), hS, hr, hc⟩

end

theorem intCells_one (l : List Nat) : ∀ u ∈ intCells l, u.oneCell' = true := by
  intro u hu
  simp only [intCells, List.mem_map] at hu
  obtain ⟨b, _, rfl⟩ := hu
  rfl
theorem row_grown {w w' : World} {base : Nat} {e : TypeId} {v : Value} {n : Nat} {xs : List Value} {row : Option Nat} (hr : w.ownsRow base e 1 v n xs) (hg : w.grownBy w' row) (hne : ∀ k, v.ownBlock = some k → row ≠ some k) : w'.ownsRow base e 1 v n xs :=
  row_same_b hr fun k _ hv => hg.block k (hr.lt k hv).2 (fun e => hne k hv e.symm)

def fullCells (x : UInt8) : List Value := byteCells (List.replicate 512 x)

/-- What the law knows of its space, and of its 512 bytes. -/
def ApI (b0 : Nat) (w1 : World) (own : Nat → Nat) (pt pl ps : Nat) (L : Lg) (D : Dsk) (F : ByteArray) (x : UInt8) (gf cf a k : Nat) (wr : World) : Prop :=
  ∃ T, LawB b0 w1 wr own pt pl ps 1 76 T L D (uu a) (vApart F k) ∧ wr.ownsRow b0 5 1 (.slice (some ⟨gf, 0, none⟩) 512 cf) 512 (fullCells x)


/-- The five rows of the law: full, x, y, a, b. -/
structure Rows5 (w : World) (b0 : Nat) (x : UInt8) (gf cf gx nx cx gy ny cy : Nat) (xs ys : List Nat) (va : Value) (na : Nat) (La : List Value) (vb : Value) (nb : Nat) (Lb : List Value) : Prop where
  f : w.ownsRow b0 5 1 (.slice (some ⟨gf, 0, none⟩) 512 cf) 512 (fullCells x)
  x : w.ownsRow b0 3 1 (.slice (some ⟨gx, 0, none⟩) nx cx) nx (intCells xs)
  y : w.ownsRow b0 3 1 (.slice (some ⟨gy, 0, none⟩) ny cy) ny (intCells ys)
  a : w.ownsRow b0 3 1 va na La
  b : w.ownsRow b0 3 1 vb nb Lb
  ax : va.ownBlock ≠ some gx
  ay : va.ownBlock ≠ some gy
  bx : vb.ownBlock ≠ some gx
  by_ : vb.ownBlock ≠ some gy
  ab : ∀ k, va.ownBlock = some k → vb.ownBlock ≠ some k

section
variable {w w' : World} {b0 : Nat} {x : UInt8} {gf cf gx nx cx gy ny cy : Nat} {xs ys : List Nat} {va : Value} {na : Nat} {La : List Value} {vb : Value} {nb : Nat} {Lb : List Value}

theorem Rows5.swap (h : Rows5 w b0 x gf cf gx nx cx gy ny cy xs ys va na La vb nb Lb) : Rows5 w b0 x gf cf gy ny cy gx nx cx ys xs vb nb Lb va na La :=
  ⟨h.f, h.y, h.x, h.b, h.a, h.by_, h.bx, h.ay, h.ax, fun k hk e => h.ab k e hk⟩

/-- Blocks from b0 on are as they were. -/
theorem Rows5.same (h : Rows5 w b0 x gf cf gx nx cx gy ny cy xs ys va na La vb nb Lb) (hs : ∀ k, b0 ≤ k → k < w.heap.size → w'.heap[k]? = w.heap[k]?) : Rows5 w' b0 x gf cf gx nx cx gy ny cy xs ys va na La vb nb Lb :=
  ⟨row_same_b h.f fun k h1 h2 => hs k h1 (h.f.lt k h2).2, row_same_b h.x fun k h1 h2 => hs k h1 (h.x.lt k h2).2, row_same_b h.y fun k h1 h2 => hs k h1 (h.y.lt k h2).2, row_same_b h.a fun k h1 h2 => hs k h1 (h.a.lt k h2).2,
   row_same_b h.b fun k h1 h2 => hs k h1 (h.b.lt k h2).2, h.ax, h.ay, h.bx, h.by_, h.ab⟩

theorem Rows5.drewN (h : Rows5 w b0 x gf cf gx nx cx gy ny cy xs ys va na La vb nb Lb) (n : Nat) : Rows5 (w.drewN n) b0 x gf cf gx nx cx gy ny cy xs ys va na La vb nb Lb := h.same fun _ _ _ => rfl
theorem Rows5.alloc (h : Rows5 w b0 x gf cf gx nx cx gy ny cy xs ys va na La vb nb Lb) (o : Obj) : Rows5 (w.alloc o) b0 x gf cf gx nx cx gy ny cy xs ys va na La vb nb Lb := h.same fun k _ hk => Below.heap_alloc _ _ _ hk
theorem Rows5.step {S : Nat → Prop} {own : Nat → Nat} (h : Rows5 w b0 x gf cf gx nx cx gy ny cy xs ys va na La vb nb Lb) (hS : Step S own w own w') (h4 : ¬ S 4) (ho : ∀ k, b0 ≤ k → own k = 4) : Rows5 w' b0 x gf cf gx nx cx gy ny cy xs ys va na La vb nb Lb :=
  h.same fun k h1 h2 => hS.same k h2 (by rw [ho k h1]; exact h4)

/-- A cell of a's turned. -/
theorem Rows5.setA {ga ca : Nat} (h : Rows5 w b0 x gf cf gx nx cx gy ny cy xs ys (.slice (some ⟨ga, 0, none⟩) na ca) na La vb nb Lb) (i : Nat) (v : Value) :
    Rows5 (w.setCell ⟨ga, i, none⟩ v) b0 x gf cf gx nx cx gy ny cy xs ys (.slice (some ⟨ga, 0, none⟩) na ca) na (La.set i v) vb nb Lb := by
  have hga : b0 ≤ ga := (h.a.lt ga rfl).1
  have key : ∀ k, k ≠ ga → (w.setCell ⟨ga, i, none⟩ v).heap[k]? = w.heap[k]? := fun k hk => Below.heap_setCell _ _ _ _ hk
  refine ⟨row_same_b h.f fun k _ h2 => key k (fun e => ?_), row_same_b h.x fun k _ h2 => key k (fun e => ?_), row_same_b h.y fun k _ h2 => key k (fun e => ?_), (h.a.stored i v).1, row_same_b h.b fun k _ h2 => key k (fun e => ?_), h.ax, h.ay, h.bx, h.by_, h.ab⟩
  · obtain ⟨g, cap, cur, hv, _, hg, _⟩ : ∃ g cap cur, Value.slice (some ⟨ga, 0, none⟩) na ca = .slice (some ⟨g, 0, none⟩) na cap ∧ b0 ≤ g ∧ blk w g cur 3 ∧ True := by
      rcases h.a.2 with ⟨q, _⟩ | ⟨g, cap, cur, q, hb, hg, _⟩
      · cases q
      · exact ⟨g, cap, cur, q, hb, hg, trivial⟩
    cases hv
    exact row_ne (row_zero h.f) hg (by decide) (e ▸ h2)
  · subst e
    exact h.ax h2.symm
  · subst e
    exact h.ay h2.symm
  · subst e
    exact h.ab k rfl h2

/-- a grown. -/
theorem Rows5.appA (h : Rows5 w b0 x gf cf gx nx cx gy ny cy xs ys va na La vb nb Lb) {va' : Value} {na' : Nat} {La' : List Value} (hr : w'.ownsRow 0 3 1 va' na' La') (hg : w.grownBy w' va.ownBlock)
    (hf : ∀ k, va'.ownBlock = some k → va.ownBlock = some k ∨ w.heap.size ≤ k) (hb0 : b0 ≤ w.heap.size) :
    Rows5 w' b0 x gf cf gx nx cx gy ny cy xs ys va' na' La' vb nb Lb := by
  have hx := (h.x.lt gx rfl).2
  have hy := (h.y.lt gy rfl).2
  refine ⟨row_grown h.f hg (fun k hk e => ?_), row_grown h.x hg (fun k hk e => ?_), row_grown h.y hg (fun k hk e => ?_), row_raise hr (fun k hk => ?_), row_grown h.b hg (fun k hk e => h.ab k e hk), fun e => ?_, fun e => ?_, h.bx, h.by_, fun k hk e => ?_⟩
  · rcases rows_ne (row_zero h.f) (row_zero h.a) (by decide) with q | q
    · rw [q] at hk; cases hk
    · exact q (hk.trans e.symm)
  · simp only [Value.ownBlock, Option.some.injEq] at hk
    subst hk
    exact h.ax e
  · simp only [Value.ownBlock, Option.some.injEq] at hk
    subst hk
    exact h.ay e
  · rcases hf k hk with q | q
    · exact (h.a.lt k q).1
    · omega
  · rcases hf gx e with q | q
    · exact h.ax q
    · omega
  · rcases hf gy e with q | q
    · exact h.ay q
    · omega
  · rcases hf k hk with q | q
    · exact h.ab k q e
    · have := (h.b.lt k e).2; omega

theorem rep_set {α : Type} (l : List α) (a : α) (k : Nat) (h : k < l.length) : (List.replicate k a ++ l.drop k).set k a = List.replicate (k + 1) a ++ l.drop (k + 1) := by
  apply List.ext_getElem?
  intro i
  rw [List.getElem?_set, List.getElem?_append, List.getElem?_append, List.length_replicate, List.length_replicate, List.getElem?_replicate, List.getElem?_replicate, List.getElem?_drop, List.getElem?_drop]
  simp only [List.length_append, List.length_replicate, List.length_drop]
  by_cases h1 : k = i
  · subst h1
    rw [if_pos rfl, if_pos (by omega), if_pos (by omega), if_pos (by omega)]
  · rw [if_neg h1]
    by_cases h2 : i < k
    · rw [if_pos h2, if_pos h2, if_pos (by omega), if_pos (by omega)]
    · rw [if_neg h2, if_neg (by omega)]
      congr 1
      omega

end
end Go.Proofs.Ytdcjhpihcfpamaa
