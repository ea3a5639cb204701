/-
  A space by what it says: which blocks are in use (U), and what the others hold (V).
-/
import Derived.Test.YtdcjhpihcfpamaaSpP
namespace Go.XK
open Go.RowKit

def freeL (B : Nat) (U : Nat → Bool) : List Nat := (List.range B).filter fun j => !U j

def takeU (U : Nat → Bool) (l : List Nat) : Nat → Bool := fun j => decide (j ∈ l) || U j
def dropU (U : Nat → Bool) (x : Nat) : Nat → Bool := fun j => !decide (j = x) && U j

/-- Blocks given back, one behind the other: none: one may not be. -/
def freeU (k B : Nat) (U : Nat → Bool) : List Int → Option (Nat → Bool)
  | [] => some U
  | x :: l => if 0 ≤ x ∧ x < B ∧ (k : Int) ≤ x ∧ U x.toNat = true then freeU k B (dropU U x.toNat) l else none

end Go.XK
namespace Go.Proofs.Ytdcjhpihcfpamaa
open Go.RowKit Go.XK

structure SpS (w : World) (own : Nat → Nat) (ct cl cd pt pl ps f : Nat) (T : Tx) (L : Lg) (D : Dsk) (U : Nat → Bool) (V : Nat → ByteArray) : Prop where
  tl : TL w own ct cl cd pt pl T L D
  sp : SpR w ps pt f
  ov : T.over = false
  fit : f + nbOf (blocksOf L D) ≤ blocksOf L D
  use : ∀ n, n < blocksOf L D → usedB f (nbOf (blocksOf L D)) (bitsTo T L D f (nbOf (blocksOf L D))) n = U n
  vw : ∀ j, j < blocksOf L D → ¬ (f ≤ j ∧ j < f + nbOf (blocksOf L D)) → view T L D j = V j
  o1 : own ps ≠ cl
  o2 : own ps ≠ ct
  fr : Fresh own w.heap.size ct cl cd

section
variable {w w' : World} {own : Nat → Nat} {ct cl cd pt pl ps f : Nat} {T : Tx} {L : Lg} {D : Dsk} {U : Nat → Bool} {V : Nat → ByteArray}

theorem SpS.frame (h : SpS w own ct cl cd pt pl ps f T L D U V) (hz : w.heap.size ≤ w'.heap.size) (hs : ∀ b, b < w.heap.size → (own b = ct ∨ own b = cl ∨ own b = cd ∨ b = ps) → w'.heap[b]? = w.heap[b]?) : SpS w' own ct cl cd pt pl ps f T L D U V :=
  ⟨h.tl.frame fun b hb hc => ⟨hs b hb (by rcases hc with q | q | q; exact .inl q; exact .inr (.inl q); exact .inr (.inr (.inl q))), rfl⟩, h.sp.of_same (hs ps h.sp.cells.lt (.inr (.inr (.inr rfl)))), h.ov, h.fit, h.use, h.vw, h.o1, h.o2, h.fr.mono hz⟩

theorem SpS.below (h : SpS w own ct cl cd pt pl ps f T L D U V) {B : Nat} (hB : Below B w w') (hz : w.heap.size ≤ B) : SpS w' own ct cl cd pt pl ps f T L D U V :=
  h.frame hB.size fun b hb _ => hB.block b (Nat.lt_of_lt_of_le hb hz)

theorem SpS.of_drewN {n : Nat} (h : SpS w own ct cl cd pt pl ps f T L D U V) (hw : w' = w.drewN n) : SpS w' own ct cl cd pt pl ps f T L D U V := by
  subst hw; exact h.frame (Nat.le_refl _) fun _ _ _ => rfl

theorem SpS.congr {U' : Nat → Bool} {V' : Nat → ByteArray} (h : SpS w own ct cl cd pt pl ps f T L D U V) (hU : ∀ n, n < blocksOf L D → U' n = U n) (hV : ∀ n, n < blocksOf L D → ¬ (f ≤ n ∧ n < f + nbOf (blocksOf L D)) → V' n = V n) : SpS w own ct cl cd pt pl ps f T L D U' V' :=
  ⟨h.tl, h.sp, h.ov, h.fit, fun n hn => (h.use n hn).trans (hU n hn).symm, fun n hn hf => (h.vw n hn hf).trans (hV n hn hf).symm, h.o1, h.o2, h.fr⟩

theorem SpS.freeNums_eq (h : SpS w own ct cl cd pt pl ps f T L D U V) : freeNums f (nbOf (blocksOf L D)) (bitsTo T L D f (nbOf (blocksOf L D))) (blocksOf L D) = freeL (blocksOf L D) U := by
  unfold freeNums freeL
  apply List.filter_congr
  intro j hj
  rw [h.use j (List.mem_range.1 hj)]

/-- Another bitmap laid. -/
theorem SpS.laid (h : SpS w own ct cl cd pt pl ps f T L D U V) {m : List UInt8} (hm : m.length = nbOf (blocksOf L D) * 512) {U' : Nat → Bool} (hU : ∀ n, n < blocksOf L D → usedB f (nbOf (blocksOf L D)) m n = U' n)
    (ht : TL w' own ct cl cd pt pl (layTo T L D f (bitsTo T L D f (nbOf (blocksOf L D))) m (nbOf (blocksOf L D))) L D) (hs : SpR w' ps pt f) (hz : w.heap.size ≤ w'.heap.size) :
    SpS w' own ct cl cd pt pl ps f (layTo T L D f (bitsTo T L D f (nbOf (blocksOf L D))) m (nbOf (blocksOf L D))) L D U' V :=
  ⟨ht, hs, by rw [layTo_over]; exact h.ov, h.fit, fun n hn => by rw [bitsTo_layTo h.tl h.ov h.fit hm]; exact hU n hn, fun j hj hjf => by
    rw [view_layTo h.tl h.ov h.fit hm _ (Nat.le_refl _), if_neg hjf]; exact h.vw j hj hjf, h.o1, h.o2, h.fr.mono hz⟩

def AllocS (w : World) (own : Nat → Nat) (ct cl cd pt pl ps f : Nat) (L : Lg) (D : Dsk) (U : Nat → Bool) (V : Nat → ByteArray) (n : Nat) (e : Ending) (w' : World) : Prop :=
  Step (fun c => c = cl ∨ c = ct) own w own w' ∧ ∃ T',
    (((freeL (blocksOf L D) U).length < n ∧ e = .returned (.tuple #[.slice none 0 0, .int .i64 40]) ∧ SpS w' own ct cl cd pt pl ps f T' L D U V) ∨
     (n ≤ (freeL (blocksOf L D) U).length ∧ SpS w' own ct cl cd pt pl ps f T' L D (takeU U ((freeL (blocksOf L D) U).take n)) V ∧
      ∃ av cv, e = .returned (.tuple #[.slice av n cv, .int .i64 0]) ∧ w'.ownsRow w.heap.size 3 1 (.slice av n cv) n (intCells ((freeL (blocksOf L D) U).take n))))

theorem sp_Alloc (h : SpS w own ct cl cd pt pl ps f T L D U V) (n : Nat) :
    Calls Try.prog 11 #[.pointer (some ⟨ps, 0, none⟩), .int .i64 n] w (AllocS w own ct cl cd pt pl ps f L D U V n) := by
  refine (space_Alloc_ok h.tl h.sp h.ov n h.o1 h.o2 h.fr h.fit).mono ?_
  rintro e w' ⟨hS, hs, hq⟩
  refine ⟨hS, ?_⟩
  rw [h.ov, if_neg (by decide), if_neg (by omega)] at hq
  simp only [Int.toNat_natCast, h.freeNums_eq] at hq
  by_cases hn : (freeL (blocksOf L D) U).length < n
  · rw [if_pos (by rw [List.length_take]; omega)] at hq
    exact ⟨T, .inl ⟨hn, hq.1, ⟨hq.2, hs, h.ov, h.fit, h.use, h.vw, h.o1, h.o2, h.fr.mono hS.size⟩⟩⟩
  · have hl : ((freeL (blocksOf L D) U).take n).length = n := by rw [List.length_take]; omega
    rw [if_neg (by omega), hl] at hq
    obtain ⟨ht, av, cv, he, hr⟩ := hq
    have hbl := bitsTo_length h.tl h.ov (nbOf (blocksOf L D)) h.fit
    have hnb := nb_le h.tl.ld
    refine ⟨_, .inr ⟨by omega, h.laid (by rw [setBits_length]; exact hbl) (fun j hj => ?_) ht hs hS.size, av, cv, he, hr⟩⟩
    have hlt : ∀ k ∈ (freeL (blocksOf L D) U).take n, k / 8 < (bitsTo T L D f (nbOf (blocksOf L D))).length := by
      intro k hk
      have h1 := List.mem_of_mem_take hk
      simp only [freeL, List.mem_filter, List.mem_range] at h1
      rw [hbl]
      unfold nbOf
      omega
    have hu := h.use j hj
    unfold usedB at hu ⊢
    rw [setBits_bitAt _ _ hlt]
    unfold takeU
    rw [← hu]
    cases decide (j < f + nbOf (blocksOf L D)) <;> cases decide (j ∈ List.take n (freeL (blocksOf L D) U)) <;> rfl

def LeftS (w : World) (own : Nat → Nat) (ct cl cd pt pl ps f : Nat) (T : Tx) (L : Lg) (D : Dsk) (U : Nat → Bool) (V : Nat → ByteArray) (v : Value) (e : Ending) (w' : World) : Prop :=
  e = .returned v ∧ SpS w' own ct cl cd pt pl ps f T L D U V ∧ Step (· = cl) own w own w'

theorem sp_Left (h : SpS w own ct cl cd pt pl ps f T L D U V) :
    Calls Try.prog 16 #[.pointer (some ⟨ps, 0, none⟩)] w (LeftS w own ct cl cd pt pl ps f T L D U V (.int .i64 (freeL (blocksOf L D) U).length)) := by
  refine (space_Left h.tl h.sp h.o1 h.fr h.fit).mono ?_
  rintro e w' ⟨he, ht, hS, hs⟩
  refine ⟨?_, ⟨ht, hs, h.ov, h.fit, h.use, h.vw, h.o1, h.o2, h.fr.mono hS.size⟩, hS⟩
  rw [he]
  unfold leftP
  rw [h.ov, if_neg (by decide), h.freeNums_eq]

def usedU (B : Nat) (U : Nat → Bool) (n : Int) : Bool := decide (0 ≤ n ∧ n < B) && U n.toNat

theorem sp_Used (h : SpS w own ct cl cd pt pl ps f T L D U V) (n : Int) :
    Calls Try.prog 13 #[.pointer (some ⟨ps, 0, none⟩), .int .i64 n] w (LeftS w own ct cl cd pt pl ps f T L D U V (.bool (usedU (blocksOf L D) U n))) := by
  refine (space_Used h.tl h.sp n h.o1 h.fr h.fit).mono ?_
  rintro e w' ⟨he, ht, hS, hs⟩
  refine ⟨?_, ⟨ht, hs, h.ov, h.fit, h.use, h.vw, h.o1, h.o2, h.fr.mono hS.size⟩, hS⟩
  rw [he]
  unfold usedP usedU
  rw [h.ov]
  by_cases hn : 0 ≤ n ∧ n < blocksOf L D
  · rw [h.use n.toNat (by omega)]; rfl
  · rw [decide_eq_false hn]; rfl

theorem free_rel {f nb B : Nat} (hB : B ≤ 8 * (nb * 512)) : ∀ (l : List Int) (m : List UInt8) (U : Nat → Bool), m.length = nb * 512 → (∀ n, n < B → usedB f nb m n = U n) →
    (freeTo f nb B m l = none ∧ freeU (f + nb) B U l = none) ∨ ∃ m' U', freeTo f nb B m l = some m' ∧ freeU (f + nb) B U l = some U' ∧ m'.length = nb * 512 ∧ ∀ n, n < B → usedB f nb m' n = U' n
  | [], m, U, hm, hU => .inr ⟨m, U, rfl, rfl, hm, hU⟩
  | x :: l, m, U, hm, hU => by
    have e : freeTo f nb B m (x :: l) = (freeStep f nb B m x).bind fun m => freeTo f nb B m l := by
      simp only [freeTo, List.foldl_cons, Option.bind_some]
      cases freeStep f nb B m x with
      | none => exact foldl_none f nb B l
      | some m1 => rfl
    by_cases hx : 0 ≤ x ∧ x < B ∧ ((f + nb : Nat) : Int) ≤ x ∧ U x.toNat = true
    · obtain ⟨h1, h2, h3, h4⟩ := hx
      have hu := hU x.toNat (by omega)
      have hb : bitAt m x.toNat = true := by
        rw [h4] at hu
        unfold usedB at hu
        rw [decide_eq_false (by omega), Bool.false_or] at hu
        exact hu
      have hs : freeStep f nb B m x = some (clearBit m x.toNat) := by unfold freeStep; rw [if_pos ⟨h1, h2, h3, hb⟩]
      have hlen : x.toNat / 8 < m.length := by rw [hm]; omega
      have ih := free_rel hB l (clearBit m x.toNat) (dropU U x.toNat) (by rw [clearBit_length]; exact hm) (fun n hn => by
        have := hU n hn
        unfold usedB at this ⊢
        rw [clearBit_bitAt hlen]
        unfold dropU
        rw [← this]
        by_cases hnx : n = x.toNat
        · rw [decide_eq_true hnx, decide_eq_false (by omega)]; rfl
        · rw [decide_eq_false hnx]; rfl)
      have e2 : freeU (f + nb) B U (x :: l) = freeU (f + nb) B (dropU U x.toNat) l := by
        rw [freeU, if_pos ⟨h1, h2, h3, h4⟩]
      rw [e, hs, Option.bind_some, e2]
      exact ih
    · have hs : freeStep f nb B m x = none := by
        unfold freeStep
        rw [if_neg]
        rintro ⟨h1, h2, h3, h4⟩
        refine hx ⟨h1, h2, h3, ?_⟩
        rw [← hU x.toNat (by omega)]
        unfold usedB
        rw [h4, Bool.or_true]
      have e2 : freeU (f + nb) B U (x :: l) = none := by rw [freeU, if_neg hx]
      exact .inl ⟨by rw [e, hs]; rfl, e2⟩

def FreeS (w : World) (own : Nat → Nat) (ct cl cd pt pl ps f : Nat) (L : Lg) (D : Dsk) (U : Nat → Bool) (V : Nat → ByteArray) (l : List Int) (e : Ending) (w' : World) : Prop :=
  Step (fun c => c = cl ∨ c = ct) own w own w' ∧ ∃ T',
    ((freeU (f + nbOf (blocksOf L D)) (blocksOf L D) U l = none ∧ e = .returned (.int .i64 1) ∧ SpS w' own ct cl cd pt pl ps f T' L D U V) ∨
     ∃ U', freeU (f + nbOf (blocksOf L D)) (blocksOf L D) U l = some U' ∧ e = .returned (.int .i64 0) ∧ SpS w' own ct cl cd pt pl ps f T' L D U' V)

theorem sp_Free (h : SpS w own ct cl cd pt pl ps f T L D U V) (av : Option Addr) (len cap : Nat) (l : List Int) (hl : l.length = len) (hlm : len ≤ 9223372036854775807) (hcap : len ≤ cap) (hA : ArgI w own ct cl av l) :
    Calls Try.prog 15 #[.pointer (some ⟨ps, 0, none⟩), .slice av len cap] w (FreeS w own ct cl cd pt pl ps f L D U V l) := by
  refine (space_Free h.tl h.sp h.ov h.o1 h.o2 h.fr h.fit av len cap l hl hlm hcap hA).mono ?_
  rintro e w' ⟨he, ht, hS, hs⟩
  refine ⟨hS, ?_⟩
  have hnb := nb_le h.tl.ld
  have hbl := bitsTo_length h.tl h.ov (nbOf (blocksOf L D)) h.fit
  rcases free_rel (f := f) (nb := nbOf (blocksOf L D)) (B := blocksOf L D) (by unfold nbOf; omega) l (bitsTo T L D f (nbOf (blocksOf L D))) U hbl h.use with ⟨h1, h2⟩ | ⟨m', U', h1, h2, h3, h4⟩
  · rw [freeP_none h.ov h1] at he ht
    exact ⟨T, .inl ⟨h2, he, ht, hs, h.ov, h.fit, h.use, h.vw, h.o1, h.o2, h.fr.mono hS.size⟩⟩
  · rw [freeP_some h.ov h1] at he ht
    exact ⟨_, .inr ⟨U', h2, he, h.laid h3 h4 ht hs hS.size⟩⟩

end
end Go.Proofs.Ytdcjhpihcfpamaa
