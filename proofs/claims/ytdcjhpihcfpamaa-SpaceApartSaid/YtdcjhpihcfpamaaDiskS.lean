/-
  The disk as plain data, and what its methods do to it.
-/
import Derived.Test.YtdcjhpihcfpamaaKit
namespace Go.XK

structure Dsk where
  seen : List ByteArray
  safe : List ByteArray
  pend : List (Nat × ByteArray)
  fall : Nat
  off : Bool
  op : Bool

namespace Dsk
structure ok (D : Dsk) : Prop where
  pos : 0 < D.seen.length
  most : D.seen.length ≤ 8192
  len : D.safe.length = D.seen.length
  at_ : ∀ x ∈ D.pend, x.1 < D.seen.length
  seen512 : ∀ t ∈ D.seen, t.size = 512
  safe512 : ∀ t ∈ D.safe, t.size = 512
  pend512 : ∀ x ∈ D.pend, x.2.size = 512
  fallLe : D.fall ≤ 9223372036854775807

def has (D : Dsk) (n : Int) : Bool := decide (0 ≤ n ∧ n < D.seen.length)

def get (D : Dsk) (n : Int) : ByteArray := D.seen.getD n.toNat ByteArray.empty

def read (D : Dsk) (n : Int) : ByteArray × Int := if D.off then (ByteArray.empty, 9) else if D.has n then (D.get n, 0) else (ByteArray.empty, 1)

def falls (D : Dsk) : Dsk := if D.fall = 0 then D else if D.fall = 1 then { D with fall := 0, off := true, op := true } else { D with fall := D.fall - 1 }

def write (D : Dsk) (n : Int) (t : ByteArray) : Dsk × Int :=
  if D.off then (D, 9) else if D.has n && t.size == 512 then
    (if D.falls.off then (D.falls, 9) else ({ D.falls with seen := D.seen.set n.toNat t, pend := D.pend ++ [(n.toNat, t)] }, 0))
  else (D, 1)

def lays (l : List (Nat × ByteArray)) (s : List ByteArray) : List ByteArray := l.foldl (fun s x => s.set x.1 x.2) s

def flush (D : Dsk) : Dsk × Int :=
  if D.off then (D, 9) else if D.falls.off then (D.falls, 9) else ({ D.falls with safe := lays D.pend D.safe, pend := [] }, 0)

def setFall (D : Dsk) (n : Int) : Dsk := { D with fall := n.toNat }

theorem falls_seen (D : Dsk) : D.falls.seen = D.seen := by unfold falls; split; rfl; split <;> rfl
theorem falls_safe (D : Dsk) : D.falls.safe = D.safe := by unfold falls; split; rfl; split <;> rfl
theorem falls_pend (D : Dsk) : D.falls.pend = D.pend := by unfold falls; split; rfl; split <;> rfl

theorem falls_fall (D : Dsk) : D.falls.fall ≤ D.fall := by unfold falls; split; exact Nat.le_refl _; split; exact Nat.zero_le _; exact Nat.sub_le _ _

theorem length_lays (l : List (Nat × ByteArray)) : ∀ s, (lays l s).length = s.length := by
  induction l with
  | nil => intro s; rfl
  | cons x l ih => intro s; simp only [lays, List.foldl_cons]; exact (ih _).trans (by simp)

theorem falls_ok {D : Dsk} (h : D.ok) : D.falls.ok :=
  ⟨by rw [falls_seen]; exact h.pos, by rw [falls_seen]; exact h.most, by rw [falls_seen, falls_safe]; exact h.len, by rw [falls_seen, falls_pend]; exact h.at_,
   by rw [falls_seen]; exact h.seen512, by rw [falls_safe]; exact h.safe512, by rw [falls_pend]; exact h.pend512, Nat.le_trans (falls_fall D) h.fallLe⟩

theorem write_ok {D : Dsk} (h : D.ok) (n : Int) (t : ByteArray) : (D.write n t).1.ok := by
  unfold write
  split; exact h
  split
  · rename_i hc
    split; exact falls_ok h
    simp only [has, Bool.and_eq_true, decide_eq_true_eq, beq_iff_eq] at hc
    refine ⟨by simpa [falls_seen] using h.pos, by simpa [falls_seen] using h.most, by simpa [falls_safe] using h.len, ?_, ?_, ?_, ?_, Nat.le_trans (falls_fall D) h.fallLe⟩
    · intro x hx
      simp only [List.mem_append, List.mem_singleton] at hx
      rcases hx with hx | rfl
      · simpa using h.at_ x hx
      · simp; omega
    · intro x hx
      rcases List.mem_or_eq_of_mem_set hx with k | k
      · exact h.seen512 x k
      · rw [k]; exact hc.2
    · rw [falls_safe]; exact h.safe512
    · intro x hx
      simp only [List.mem_append, List.mem_singleton] at hx
      rcases hx with hx | rfl
      · exact h.pend512 x hx
      · exact hc.2
  · exact h

theorem lays_all (P : ByteArray → Prop) (l : List (Nat × ByteArray)) (hl : ∀ x ∈ l, P x.2) : ∀ s : List ByteArray, (∀ t ∈ s, P t) → ∀ t ∈ lays l s, P t := by
  induction l with
  | nil => intro s hs; exact hs
  | cons x l ih =>
    intro s hs
    simp only [lays, List.foldl_cons]
    refine ih (fun y hy => hl y (List.mem_cons_of_mem _ hy)) (s.set x.1 x.2) ?_
    intro t ht
    rcases List.mem_or_eq_of_mem_set ht with k | k
    · exact hs t k
    · rw [k]; exact hl x List.mem_cons_self

theorem flush_ok {D : Dsk} (h : D.ok) : (D.flush).1.ok := by
  unfold flush
  split; exact h
  split; exact falls_ok h
  exact ⟨by simpa [falls_seen] using h.pos, by simpa [falls_seen] using h.most, by simpa [falls_seen, length_lays] using h.len, by simp,
    by rw [falls_seen]; exact h.seen512, lays_all _ _ h.pend512 _ h.safe512, by simp, Nat.le_trans (falls_fall D) h.fallLe⟩

theorem setFall_ok {D : Dsk} (h : D.ok) (n : Int) (hn : n ≤ 9223372036854775807) : (D.setFall n).ok := ⟨h.pos, h.most, h.len, h.at_, h.seen512, h.safe512, h.pend512, by show n.toNat ≤ _; omega⟩

theorem get_size {D : Dsk} (h : D.ok) {n : Int} (hn : D.has n = true) : (D.get n).size = 512 := by
  simp only [has, decide_eq_true_eq] at hn
  unfold get
  rw [getD_at _ _ _ (by omega)]
  exact h.seen512 _ (List.getElem_mem _)

theorem write_len {D : Dsk} (n : Int) (t : ByteArray) : (D.write n t).1.seen.length = D.seen.length := by
  unfold write; split; rfl; split; split; simp [falls_seen]; simp; rfl
theorem flush_len {D : Dsk} : D.flush.1.seen.length = D.seen.length := by
  unfold flush; split; rfl; split; simp [falls_seen]; simp [falls_seen]
end Dsk

/-- A sector of zeros. -/
def zeros : ByteArray := ⟨(List.replicate 512 0).toArray⟩
theorem zeros_size : zeros.size = 512 := by
  show (List.replicate 512 (0 : UInt8)).toArray.size = 512
  rw [List.size_toArray, List.length_replicate]

/-- A new disk. -/
def Dsk.fresh (n : Nat) : Dsk := ⟨List.replicate n zeros, List.replicate n zeros, [], 0, false, false⟩

theorem Dsk.fresh_ok {n : Nat} (h1 : 0 < n) (h2 : n ≤ 8192) : (Dsk.fresh n).ok :=
  ⟨by simpa [fresh] using h1, by simpa [fresh] using h2, by simp [fresh], by simp [fresh], fun t ht => by rw [List.eq_of_mem_replicate ht, zeros_size],
   fun t ht => by rw [List.eq_of_mem_replicate ht, zeros_size], by simp [fresh], by simp [fresh]⟩

/-- The cells of pending writes. -/
def flatW (l : List (Nat × ByteArray)) : List Value := l.flatMap fun x => [.int .i64 x.1, .string x.2]

theorem flatW_snoc (l : List (Nat × ByteArray)) (n : Nat) (t : ByteArray) : flatW (l ++ [(n, t)]) = flatW l ++ [.int .i64 n, .string t] := by simp [flatW]

theorem flatW_get (l : List (Nat × ByteArray)) : ∀ k (h : k < l.length), (flatW l)[2 * k]? = some (.int .i64 l[k].1) ∧ (flatW l)[2 * k + 1]? = some (.string l[k].2) := by
  induction l with
  | nil => intro k h; simp at h
  | cons x l ih =>
    intro k h
    cases k with
    | zero => simp [flatW]
    | succ k =>
      have := ih k (by simpa using h)
      simpa [flatW, Nat.mul_add] using this

/-- A disk in memory: its struct at block p, its three lists; all of its blocks are c's. -/
structure DiskR (w : World) (own : Nat → Nat) (c p : Nat) (D : Dsk) : Prop where
  ok : D.ok
  mine : own p = c
  ex : ∃ sv fv pv, blk w p #[sv, fv, pv, .int .i64 D.fall, .bool D.off, .bool D.op] 110 ∧
    w.ownsRow 0 9 1 sv D.seen.length (D.seen.map .string) ∧ Owned own c sv ∧
    w.ownsRow 0 9 1 fv D.safe.length (D.safe.map .string) ∧ Owned own c fv ∧
    w.ownsRow 0 144 2 pv D.pend.length (flatW D.pend) ∧ Owned own c pv ∧ sv.ownBlock ≠ fv.ownBlock

theorem DiskR.lt {w : World} {own : Nat → Nat} {c p : Nat} {D : Dsk} (h : DiskR w own c p D) : p < w.heap.size := by
  obtain ⟨_, _, _, hb, _⟩ := h.ex; exact hb.lt

theorem DiskR.drewN {w : World} {own : Nat → Nat} {c p : Nat} {D : Dsk} (h : DiskR w own c p D) (n : Nat) : DiskR (w.drewN n) own c p D := ⟨h.ok, h.mine, h.ex⟩

/-- Untouched where the blocks of its owner are. -/
theorem DiskR.frame {w w' : World} {own own' : Nat → Nat} {c p : Nat} {D : Dsk} (h : DiskR w own c p D)
    (hs : ∀ b, b < w.heap.size → own b = c → w'.heap[b]? = w.heap[b]? ∧ own' b = c) : DiskR w' own' c p D := by
  obtain ⟨sv, fv, pv, hb, h1, o1, h2, o2, h3, o3, hne⟩ := h.ex
  refine ⟨h.ok, (hs p hb.lt h.mine).2, sv, fv, pv, hb.of_same (hs p hb.lt h.mine).1, row_same h1 ?_, ?_, row_same h2 ?_, ?_, row_same h3 ?_, ?_, hne⟩
  · exact fun k hk => (hs k (row_lt h1 k hk) (o1 k hk)).1
  · exact fun k hk => (hs k (row_lt h1 k hk) (o1 k hk)).2
  · exact fun k hk => (hs k (row_lt h2 k hk) (o2 k hk)).1
  · exact fun k hk => (hs k (row_lt h2 k hk) (o2 k hk)).2
  · exact fun k hk => (hs k (row_lt h3 k hk) (o3 k hk)).1
  · exact fun k hk => (hs k (row_lt h3 k hk) (o3 k hk)).2

end Go.XK
