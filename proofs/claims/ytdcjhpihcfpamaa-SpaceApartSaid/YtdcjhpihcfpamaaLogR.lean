/-
  The log as plain data, and what its methods do to it and to its disk.
-/
import Derived.Test.YtdcjhpihcfpamaaLogS
namespace Go.XK
open Go.RowKit

structure Lg where
  pd : Nat
  size : Nat
  dead : Bool

/-- A log in memory. -/
structure LogR (w : World) (own : Nat → Nat) (c p : Nat) (L : Lg) : Prop where
  mine : own p = c
  sizeLe : L.size ≤ 8192
  cells : blk w p #[.pointer (some ⟨L.pd, 0, none⟩), .int .i64 L.size, .bool L.dead] 78

theorem LogR.lt {w : World} {own : Nat → Nat} {c p : Nat} {L : Lg} (h : LogR w own c p L) : p < w.heap.size := h.cells.lt

theorem LogR.drewN {w : World} {own : Nat → Nat} {c p : Nat} {L : Lg} (h : LogR w own c p L) (n : Nat) : LogR (w.drewN n) own c p L := ⟨h.mine, h.sizeLe, h.cells⟩

theorem LogR.frame {w w' : World} {own own' : Nat → Nat} {c p : Nat} {L : Lg} (h : LogR w own c p L)
    (hs : ∀ b, b < w.heap.size → own b = c → w'.heap[b]? = w.heap[b]? ∧ own' b = c) : LogR w' own' c p L :=
  ⟨(hs p h.lt h.mine).2, h.sizeLe, h.cells.of_same (hs p h.lt h.mine).1⟩

/-- Writes: a block's number and a text. -/
def flatA (l : List (Int × ByteArray)) : List Value := l.flatMap fun x => [.int .i64 x.1, .string x.2]

theorem flatA_snoc (l : List (Int × ByteArray)) (n : Int) (t : ByteArray) : flatA (l ++ [(n, t)]) = flatA l ++ [.int .i64 n, .string t] := by simp [flatA]

theorem flatA_get (l : List (Int × ByteArray)) : ∀ k (h : k < l.length), (flatA l)[k * 2]? = some (.int .i64 l[k].1) ∧ (flatA l)[k * 2 + 1]? = some (.string l[k].2) := by
  induction l with
  | nil => intro k h; simp at h
  | cons x l ih =>
    intro k h
    cases k with
    | zero => simp [flatA]
    | succ k =>
      have := ih k (by simpa using h)
      simpa [flatA, Nat.add_mul] using this

theorem flatA_length (l : List (Int × ByteArray)) : (flatA l).length = l.length * 2 := by
  induction l with
  | nil => rfl
  | cons x l ih => simp [flatA] at *; omega

/-- lay: sectors one behind the other, and a flush; stopping where the disk doesn't say 0. -/
def layAll (D : Dsk) : List (Int × ByteArray) → Dsk × Int
  | [] => D.flush
  | x :: l => if (D.write x.1 x.2).2 = 0 then layAll (D.write x.1 x.2).1 l else D.write x.1 x.2

theorem write_code (D : Dsk) (n : Int) (t : ByteArray) : (D.write n t).2 = 0 ∨ (D.write n t).2 = 1 ∨ (D.write n t).2 = 9 := by
  unfold Dsk.write; split; simp; split; split <;> simp; simp
theorem flush_code (D : Dsk) : D.flush.2 = 0 ∨ D.flush.2 = 9 := by
  unfold Dsk.flush; split; simp; split <;> simp
theorem write_pend (D : Dsk) (n : Int) (t : ByteArray) : (D.write n t).1.pend.length ≤ D.pend.length + 1 := by
  unfold Dsk.write; split; simp; split; split; simp [Dsk.falls_pend]; simp; simp

theorem layAll_len (D : Dsk) (l : List (Int × ByteArray)) : (layAll D l).1.seen.length = D.seen.length := by
  induction l generalizing D with
  | nil => exact Dsk.flush_len
  | cons x l ih =>
    unfold layAll; split
    · rw [ih, Dsk.write_len]
    · exact Dsk.write_len _ _
theorem layAll_pend (D : Dsk) (l : List (Int × ByteArray)) : (layAll D l).1.pend.length ≤ D.pend.length + l.length := by
  induction l generalizing D with
  | nil =>
    show D.flush.1.pend.length ≤ _
    unfold Dsk.flush; split; simp; split; simp [Dsk.falls_pend]; simp
  | cons x l ih =>
    have h := write_pend D x.1 x.2
    unfold layAll; split
    · have := ih (D.write x.1 x.2).1; simp; omega
    · simp; omega

def Lg.met (L : Lg) (e : Int) : Lg := { L with dead := L.dead || e == 9 }
theorem Lg.met_ok {L : Lg} {e : Int} (h : e ≠ 9) : L.met e = L := by cases L; simp [Lg.met, h]

/-- A log and its disk. -/
structure LD (w : World) (own : Nat → Nat) (cl cd p : Nat) (L : Lg) (D : Dsk) : Prop where
  log : LogR w own cl p L
  disk : DiskR w own cd L.pd D
  ne : cl ≠ cd
  least : 4 ≤ L.size
  lt : L.size < D.seen.length

theorem LD.frame {w w' : World} {own own' : Nat → Nat} {cl cd p : Nat} {L : Lg} {D : Dsk} (h : LD w own cl cd p L D)
    (hs : ∀ b, b < w.heap.size → (own b = cl ∨ own b = cd) → w'.heap[b]? = w.heap[b]? ∧ own' b = own b) : LD w' own' cl cd p L D :=
  ⟨h.log.frame fun b hb hc => ⟨(hs b hb (.inl hc)).1, ((hs b hb (.inl hc)).2).trans hc⟩, h.disk.frame fun b hb hc => ⟨(hs b hb (.inr hc)).1, ((hs b hb (.inr hc)).2).trans hc⟩, h.ne, h.least, h.lt⟩

theorem LD.step {S : Nat → Prop} {w w' : World} {own own' : Nat → Nat} {cl cd p : Nat} {L : Lg} {D : Dsk} (h : LD w own cl cd p L D) (hs : Step S own w own' w') (h1 : ¬ S cl) (h2 : ¬ S cd) : LD w' own' cl cd p L D :=
  h.frame fun b hb hc => ⟨hs.same b hb (by rcases hc with e | e <;> rw [e]; exact h1; exact h2), hs.keep b hb⟩

/-- How many blocks. -/
def blocksOf (L : Lg) (D : Dsk) : Nat := D.seen.length - L.size

/-- Read. -/
def readLog (L : Lg) (D : Dsk) (n : Int) : ByteArray × Int :=
  if L.dead || D.off then (ByteArray.empty, 9) else if 0 ≤ n ∧ n < blocksOf L D then (D.get (L.size + n), 0) else (ByteArray.empty, 1)
def readL (L : Lg) (D : Dsk) : Lg := { L with dead := L.dead || D.off }

theorem readL_live {L : Lg} {D : Dsk} (h1 : L.dead = false) (h2 : D.off = false) : readL L D = L := by
  cases L; simp only at h1; subst h1; simp [readL, h2]

theorem LD.drewN {w : World} {own : Nat → Nat} {cl cd p : Nat} {L : Lg} {D : Dsk} (h : LD w own cl cd p L D) (n : Nat) : LD (w.drewN n) own cl cd p L D := ⟨h.log.drewN n, h.disk.drewN n, h.ne, h.least, h.lt⟩

theorem LD.of_drewN {w w' : World} {own : Nat → Nat} {cl cd p : Nat} {L : Lg} {D : Dsk} {n : Nat} (h : LD w own cl cd p L D) (hw : w' = w.drewN n) : LD w' own cl cd p L D := hw ▸ h.drewN n

/-- home. -/
def homeP (L : Lg) (D : Dsk) (l : List (Int × ByteArray)) : Dsk × Int :=
  let r := layAll D (l.map fun x => ((L.size : Int) + x.1, x.2))
  if r.2 = 0 then layAll r.1 [(1, zeros)] else r

/-- homes: what lies in the log: none: a place is no block. -/
def placeAt (D : Dsk) (n i : Nat) : Int := wrap64 (numS ((D.get ((2 : Int) + n + (i / 128 : Nat))).extract (i % 128 * 4) (i % 128 * 4 + 4)))

theorem placeAt_is (D : Dsk) (n i : Nat) : wrap64 ((numS ((D.get ((2 : Int) + n + (i / 128 : Nat))).extract (i % 128 * 4) (i % 128 * 4 + 4)) : Nat) : Int) = placeAt D n i := by unfold placeAt; rfl

def homesTo (L : Lg) (D : Dsk) (n : Nat) : Nat → Option (List (Int × ByteArray))
  | 0 => some []
  | k + 1 => (homesTo L D n k).bind fun l => if (blocksOf L D : Int) ≤ placeAt D n k then none else some (l ++ [(placeAt D n k, D.get ((2 : Int) + k))])

theorem homesTo_succ {L : Lg} {D : Dsk} {n k : Nat} {l : List (Int × ByteArray)} (h : homesTo L D n k = some l) :
    homesTo L D n (k + 1) = if (blocksOf L D : Int) ≤ placeAt D n k then none else some (l ++ [(placeAt D n k, D.get ((2 : Int) + k))]) := by
  rw [homesTo, h, Option.bind_some]

theorem homesTo_length (L : Lg) (D : Dsk) (n : Nat) : ∀ k l, homesTo L D n k = some l → l.length = k := by
  intro k
  induction k with
  | zero => intro l h; simp [homesTo] at h; subst h; rfl
  | succ k ih =>
    intro l h
    simp only [homesTo, Option.bind_eq_some_iff] at h
    obtain ⟨l', h', h⟩ := h
    split at h
    · simp at h
    · simp at h; subst h; simp [ih l' h']

theorem homesTo_none (L : Lg) (D : Dsk) (n k : Nat) (h : homesTo L D n k = none) : ∀ m, k ≤ m → homesTo L D n m = none := by
  intro m hm
  induction m with
  | zero => exact (show k = 0 by omega) ▸ h
  | succ m ih =>
    rcases Nat.lt_or_ge m k with h' | h'
    · exact (show k = m + 1 by omega) ▸ h
    · simp [homesTo, ih h']

theorem num_bound {l : List UInt8} {k : Nat} (h : l.length ≤ k) : num l < 256 ^ k := Nat.lt_of_lt_of_le (num_lt l) (Nat.pow_le_pow_right (by decide) h)

theorem placeAt_bounds (D : Dsk) (n i : Nat) : 0 ≤ placeAt D n i ∧ placeAt D n i < 4294967296 := by
  unfold placeAt numS
  have hl : ((D.get ((2 : Int) + n + (i / 128 : Nat))).extract (i % 128 * 4) (i % 128 * 4 + 4)).data.toList.length ≤ 4 := by
    rw [ByteArray.data_extract, Array.length_toList, Array.size_extract]; omega
  have := num_bound hl
  unfold wrap64
  omega

/-- recover, of a log that lives on a disk that is on. -/
def recoverP (L : Lg) (D : Dsk) : Dsk × Int :=
  if noteIs commitMark (D.get 1) then
    (if (L.size : Int) < noteN (D.get 1) ∨ (L.size : Int) < 2 + sectorsN (noteN (D.get 1)).toNat then (D, 42)
     else match homesTo L D (noteN (D.get 1)).toNat (noteN (D.get 1)).toNat with
      | none => (D, 42)
      | some l => homeP L D l)
  else (D, 0)

theorem recoverP_no {L : Lg} {D : Dsk} (h : noteIs commitMark (D.get 1) = false) : recoverP L D = (D, 0) := by
  unfold recoverP; rw [h]; rfl
theorem recoverP_big {L : Lg} {D : Dsk} (h : noteIs commitMark (D.get 1) = true) (hb : (L.size : Int) < noteN (D.get 1) ∨ (L.size : Int) < 2 + sectorsN (noteN (D.get 1)).toNat) : recoverP L D = (D, 42) := by
  unfold recoverP; rw [h, if_pos rfl, if_pos hb]
theorem recoverP_none {L : Lg} {D : Dsk} (h : noteIs commitMark (D.get 1) = true) (hb : ¬ ((L.size : Int) < noteN (D.get 1) ∨ (L.size : Int) < 2 + sectorsN (noteN (D.get 1)).toNat))
    (hn : homesTo L D (noteN (D.get 1)).toNat (noteN (D.get 1)).toNat = none) : recoverP L D = (D, 42) := by
  unfold recoverP; rw [h, if_pos rfl, if_neg hb, hn]
theorem recoverP_some {L : Lg} {D : Dsk} {l : List (Int × ByteArray)} (h : noteIs commitMark (D.get 1) = true) (hb : ¬ ((L.size : Int) < noteN (D.get 1) ∨ (L.size : Int) < 2 + sectorsN (noteN (D.get 1)).toNat))
    (hn : homesTo L D (noteN (D.get 1)).toNat (noteN (D.get 1)).toNat = some l) : recoverP L D = homeP L D l := by
  unfold recoverP; rw [h, if_pos rfl, if_neg hb, hn]

theorem homeP_len (L : Lg) (D : Dsk) (l : List (Int × ByteArray)) : (homeP L D l).1.seen.length = D.seen.length := by
  unfold homeP; simp only; split
  · rw [layAll_len, layAll_len]
  · rw [layAll_len]
theorem recoverP_len (L : Lg) (D : Dsk) : (recoverP L D).1.seen.length = D.seen.length := by
  unfold recoverP; split
  · split
    · rfl
    · split
      · rfl
      · exact homeP_len _ _ _
  · rfl

theorem homesTo_bounds (L : Lg) (D : Dsk) (n : Nat) : ∀ k l, homesTo L D n k = some l → ∀ x ∈ l, 0 ≤ x.1 ∧ x.1 < blocksOf L D := by
  intro k
  induction k with
  | zero => intro l h; simp [homesTo] at h; subst h; simp
  | succ k ih =>
    intro l h
    cases hk : homesTo L D n k with
    | none => rw [homesTo, hk] at h; simp at h
    | some l' =>
      rw [homesTo_succ hk] at h
      by_cases hc : (blocksOf L D : Int) ≤ placeAt D n k
      · rw [if_pos hc] at h; simp at h
      · rw [if_neg hc] at h
        simp only [Option.some.injEq] at h
        subst h
        intro x hx
        simp only [List.mem_append, List.mem_singleton] at hx
        rcases hx with hx | rfl
        · exact ih l' hk x hx
        · exact ⟨(placeAt_bounds D n k).1, by simpa using hc⟩

/-- Open's first part: the sector that says the size. -/
def openD (D : Dsk) (size : Nat) : Dsk × Int :=
  if D.get 0 = zeros then layAll D [(0, noted sizeMark size)]
  else if noteIs sizeMark (D.get 0) = true then (if noteN (D.get 0) = size then (D, 0) else (D, 1))
  else (D, 42)
def openP (D : Dsk) (pd size : Nat) : Dsk × Int := if (openD D size).2 = 0 then recoverP ⟨pd, size, false⟩ (openD D size).1 else openD D size

theorem openD_new {D : Dsk} {size : Nat} (h : D.get 0 = zeros) : openD D size = layAll D [(0, noted sizeMark size)] := if_pos h
theorem openD_torn {D : Dsk} {size : Nat} (h : D.get 0 ≠ zeros) (h2 : noteIs sizeMark (D.get 0) = false) : openD D size = (D, 42) := by
  unfold openD; rw [if_neg h, h2, if_neg (by decide)]
theorem openD_arg {D : Dsk} {size : Nat} (h : D.get 0 ≠ zeros) (h2 : noteIs sizeMark (D.get 0) = true) (h3 : noteN (D.get 0) ≠ size) : openD D size = (D, 1) := by
  unfold openD; rw [if_neg h, h2, if_pos rfl, if_neg h3]
theorem openD_ok {D : Dsk} {size : Nat} (h : D.get 0 ≠ zeros) (h2 : noteIs sizeMark (D.get 0) = true) (h3 : noteN (D.get 0) = size) : openD D size = (D, 0) := by
  unfold openD; rw [if_neg h, h2, if_pos rfl, if_pos h3]
theorem openP_stop {D : Dsk} {pd size : Nat} (h : (openD D size).2 ≠ 0) : openP D pd size = openD D size := if_neg h
theorem openP_go {D : Dsk} {pd size : Nat} (h : (openD D size).2 = 0) : openP D pd size = recoverP ⟨pd, size, false⟩ (openD D size).1 := if_pos h

theorem flush_on {D : Dsk} (h : D.flush.2 = 0) : D.flush.1.off = false := by
  unfold Dsk.flush at *
  split at h
  · simp at h
  · split at h
    · simp at h
    · rename_i h1 h2; rw [if_neg h1, if_neg h2]; simpa using h2
theorem layAll_on {D : Dsk} {l : List (Int × ByteArray)} (h : (layAll D l).2 = 0) : (layAll D l).1.off = false := by
  induction l generalizing D with
  | nil => exact flush_on h
  | cons x l ih =>
    unfold layAll at h ⊢
    split at h
    · rename_i h1; rw [if_pos h1]; exact ih h
    · rename_i h1; exact absurd h h1
theorem flush_clean {D : Dsk} (h : D.flush.2 = 0) : D.flush.1.pend = [] := by
  unfold Dsk.flush at *
  split at h
  · simp at h
  · split at h
    · simp at h
    · rename_i h1 h2; rw [if_neg h1, if_neg h2]
theorem layAll_clean {D : Dsk} {l : List (Int × ByteArray)} (h : (layAll D l).2 = 0) : (layAll D l).1.pend = [] := by
  induction l generalizing D with
  | nil => exact flush_clean h
  | cons x l ih =>
    unfold layAll at h ⊢
    split at h
    · rename_i h1; rw [if_pos h1]; exact ih h
    · rename_i h1; exact absurd h h1
theorem openD_len (D : Dsk) (size : Nat) : (openD D size).1.seen.length = D.seen.length := by
  unfold openD; split
  · exact layAll_len _ _
  · split
    · split <;> rfl
    · rfl
theorem openP_len (D : Dsk) (pd size : Nat) : (openP D pd size).1.seen.length = D.seen.length := by
  unfold openP; split
  · rw [recoverP_len, openD_len]
  · exact openD_len _ _

end Go.XK
