/-
  The space, plainly: what lies behind a lay; bits; and its contracts by 'which blocks are in use'.
-/
import Derived.Test.YtdcjhpihcfpamaaSp14
namespace Go.XK
open Go.RowKit

theorem lookT_cons (x : Int × ByteArray) (l : List (Int × ByteArray)) (n : Int) : lookT (x :: l) n = if x.1 == n then some x.2 else lookT l n := by
  unfold lookT
  rw [List.find?_cons]
  cases x.1 == n <;> rfl

theorem findIdxT_none {l : List (Int × ByteArray)} {n : Int} (h : (l.findIdx? fun x => x.1 == n) = none) : lookT l n = none := by
  rw [List.findIdx?_eq_none_iff] at h
  simp only [lookT, Option.map_eq_none_iff, List.find?_eq_none]
  intro x hx; simpa using h x hx

theorem lookT_append (n : Int) (v : ByteArray) : ∀ (l : List (Int × ByteArray)), lookT l n = none → ∀ m, lookT (l ++ [(n, v)]) m = if n = m then some v else lookT l m
  | [], _, m => by
    rw [List.nil_append, lookT_cons]
    by_cases h : n = m <;> simp [h]
  | x :: l, h0, m => by
    rw [lookT_cons] at h0
    by_cases hx : (x.1 == n) = true
    · rw [if_pos hx] at h0; simp at h0
    · rw [if_neg hx] at h0
      rw [List.cons_append, lookT_cons, lookT_cons, lookT_append n v l h0 m]
      by_cases hm : n = m
      · subst hm; rw [if_neg hx, if_pos rfl]; simp
      · rw [if_neg hm, if_neg hm]

theorem lookT_set (n : Int) (v : ByteArray) : ∀ (l : List (Int × ByteArray)) (j : Nat), (l.findIdx? fun x => x.1 == n) = some j → ∀ m, lookT (l.set j (n, v)) m = if n = m then some v else lookT l m
  | [], _, h, _ => by simp at h
  | x :: l, j, h, m => by
    rw [List.findIdx?_cons] at h
    by_cases hx : (x.1 == n) = true
    · rw [if_pos hx] at h; cases h
      have hx2 : x.1 = n := by simpa using hx
      rw [List.set_cons_zero, lookT_cons, lookT_cons, hx2]
      by_cases hm : n = m
      · simp [hm]
      · have : (n == m) = false := by simpa using hm
        rw [this]; simp [hm]
    · rw [if_neg hx] at h
      obtain ⟨i, hi, rfl⟩ := Option.map_eq_some_iff.1 h
      rw [List.set_cons_succ, lookT_cons, lookT_cons, lookT_set n v l i hi m]
      by_cases hm : n = m
      · subst hm; rw [if_neg hx, if_pos rfl]; simp
      · rw [if_neg hm, if_neg hm]

theorem lookT_put (l : List (Int × ByteArray)) (n : Int) (v : ByteArray) (m : Int) : lookT (putT l n v) m = if n = m then some v else lookT l m := by
  unfold putT
  cases hx : l.findIdx? (fun x => x.1 == n) with
  | none => exact lookT_append n v l (findIdxT_none hx) m
  | some j => exact lookT_set n v l j hx m

theorem ofBytes_data (s : ByteArray) : ofBytes s.data.toList = s := by
  apply ByteArray.ext
  show s.data.toList.toArray = s.data
  simp

theorem chunkB_append {a b : List UInt8} {n : Nat} (ha : a.length = n * 512) (hb : b.length = 512) : chunkB (a ++ b) n = b := by
  unfold chunkB
  rw [← ha, List.drop_left, List.take_of_length_le (by omega)]
theorem chunkB_left {a b : List UInt8} {n k : Nat} (ha : a.length = n * 512) (hk : k < n) : chunkB (a ++ b) k = chunkB a k := by
  unfold chunkB
  rw [List.drop_append, List.take_append, show 512 - (List.drop (k * 512) a).length = 0 by rw [List.length_drop]; omega, List.take_zero, List.append_nil]
theorem chunks_all : ∀ (n : Nat) (m : List UInt8), m.length = n * 512 → ((List.range n).flatMap fun i => chunkB m i) = m
  | 0, m, h => by simp at h; simp [h]
  | n + 1, m, h => by
    have h1 : (m.take (n * 512)).length = n * 512 := by rw [List.length_take]; omega
    have h2 : (m.drop (n * 512)).length = 512 := by rw [List.length_drop]; omega
    have e : m = m.take (n * 512) ++ m.drop (n * 512) := (List.take_append_drop _ _).symm
    have hn : chunkB m n = m.drop (n * 512) := by
      conv => lhs; rw [e]
      exact chunkB_append h1 h2
    have hl : ∀ i, i < n → chunkB m i = chunkB (m.take (n * 512)) i := fun i hi => by
      conv => lhs; rw [e]
      exact chunkB_left h1 hi
    rw [List.range_succ, List.flatMap_append]
    simp only [List.flatMap_cons, List.flatMap_nil, List.append_nil, hn]
    have h3 : ((List.range n).flatMap fun i => chunkB m i) = (List.range n).flatMap fun i => chunkB (m.take (n * 512)) i := by
      rw [List.flatMap_def, List.flatMap_def]
      congr 1
      apply List.map_congr_left
      intro i hi
      exact hl i (List.mem_range.1 hi)
    rw [h3, chunks_all n _ h1]
    exact e.symm

theorem bit255 : ∀ i, i < 8 → ∀ j, j < 8 → (255 - 2 ^ i).testBit j = decide (i ≠ j) := by decide

theorem setBit_bitAt {m : List UInt8} {k : Nat} (hk : k / 8 < m.length) (n : Nat) : bitAt (setBit m k) n = (decide (n = k) || bitAt m n) := by
  unfold bitAt setBit
  have h1 := two_pow_lt (k % 8) (Nat.mod_lt _ (by decide))
  have hb : (m.getD (k / 8) 0).toNat < 256 := UInt8.toNat_lt _
  have h2 : (m.getD (k / 8) 0).toNat ||| 2 ^ (k % 8) < 256 := Nat.or_lt_two_pow (n := 8) hb h1
  by_cases hq : n / 8 = k / 8
  · rw [List.getD_eq_getElem?_getD, hq, List.getElem?_set_self hk, Option.getD_some, UInt8.toNat_ofNat', Nat.mod_eq_of_lt h2, Nat.testBit_or, Nat.testBit_two_pow, Bool.or_comm]
    congr 1
    rw [decide_eq_decide]
    omega
  · have hd : decide (n = k) = false := decide_eq_false (by intro e; subst e; exact hq rfl)
    rw [hd, Bool.false_or, List.getD_eq_getElem?_getD, List.getElem?_set_ne (fun e => hq e.symm), List.getD_eq_getElem?_getD]

theorem clearBit_bitAt {m : List UInt8} {k : Nat} (hk : k / 8 < m.length) (n : Nat) : bitAt (clearBit m k) n = (!decide (n = k) && bitAt m n) := by
  unfold bitAt clearBit
  have hb : (m.getD (k / 8) 0).toNat < 256 := UInt8.toNat_lt _
  have h2 : (m.getD (k / 8) 0).toNat &&& (255 - 2 ^ (k % 8)) < 256 := Nat.lt_of_le_of_lt Nat.and_le_left hb
  by_cases hq : n / 8 = k / 8
  · rw [List.getD_eq_getElem?_getD, hq, List.getElem?_set_self hk, Option.getD_some, UInt8.toNat_ofNat', Nat.mod_eq_of_lt h2, Nat.testBit_and, bit255 _ (Nat.mod_lt _ (by decide)) _ (Nat.mod_lt _ (by decide)), Bool.and_comm]
    congr 1
    rw [← decide_not, decide_eq_decide]
    omega
  · have hd : decide (n = k) = false := decide_eq_false (by intro e; subst e; exact hq rfl)
    rw [hd, Bool.not_false, Bool.true_and, List.getD_eq_getElem?_getD, List.getElem?_set_ne (fun e => hq e.symm), List.getD_eq_getElem?_getD]

theorem setBits_bitAt : ∀ (l : List Nat) (m : List UInt8), (∀ k ∈ l, k / 8 < m.length) → ∀ n, bitAt (setBits m l) n = (decide (n ∈ l) || bitAt m n)
  | [], m, _, n => by simp [setBits]
  | k :: l, m, h, n => by
    rw [setBits, List.foldl_cons]
    have ih := setBits_bitAt l (setBit m k) (fun j hj => by rw [setBit_length]; exact h j (List.mem_cons_of_mem _ hj)) n
    unfold setBits at ih
    rw [ih, setBit_bitAt (h k List.mem_cons_self)]
    by_cases h1 : n = k <;> by_cases h2 : n ∈ l <;> simp [h1, h2]

end Go.XK
namespace Go.Proofs.Ytdcjhpihcfpamaa
open Go.RowKit Go.XK

section
variable {w : World} {own : Nat → Nat} {ct cl cd pt pl ps f : Nat} {T : Tx} {L : Lg} {D : Dsk}

theorem readTx_eq {T : Tx} (ho : T.over = false) (n : Int) : readTx T L D n = match lookT T.l n with
  | some s => (s, 0)
  | none => readLog L D n := by unfold readTx; rw [ho, if_neg (by decide)]; cases lookT T.l n <;> rfl

theorem view_write {n : Nat} {t : ByteArray} (ho : T.over = false) (hn : n < blocksOf L D) (ht : t.size = 512) (j : Nat) : view (writeTx T L D (n : Int) t).1 L D j = if n = j then t else view T L D j := by
  have h1 := writeTx_ok (T := T) (L := L) (D := D) (n := (n : Int)) (t := t) ho ⟨by omega, by omega, ht⟩
  have h2 : (writeTx T L D (n : Int) t).1.over = false := by rw [writeTx_over_eq]; exact ho
  unfold view
  rw [readTx_eq h2, readTx_eq ho, h1]
  show (match lookT (putT T.l n t) j with
    | some s => (s, 0)
    | none => readLog L D j).1 = _
  rw [lookT_put]
  by_cases h : n = j
  · subst h; rw [if_pos rfl, if_pos rfl]
  · rw [if_neg (by omega), if_neg h]

theorem bitsTo_chunk (h : TL w own ct cl cd pt pl T L D) (hov : T.over = false) : ∀ n k, f + n ≤ blocksOf L D → k < n → chunkB (bitsTo T L D f n) k = (view T L D (f + k)).data.toList := by
  intro n
  induction n with
  | zero => intro k _ hk; omega
  | succ n ih =>
    intro k hn hk
    have hl := bitsTo_length (f := f) h hov n (by omega)
    have h512 : (view T L D (f + n)).data.toList.length = 512 := by
      have e : (view T L D (f + n)).data.toList.length = (view T L D (f + n)).size := by rw [Array.length_toList]; rfl
      rw [e]; exact (read_in h hov (n := f + n) (by omega)).2
    rw [bitsTo_succ]
    by_cases hkn : k = n
    · subst hkn; exact chunkB_append hl h512
    · rw [chunkB_left hl (by omega)]; exact ih k (by omega) (by omega)

theorem view_layTo (h : TL w own ct cl cd pt pl T L D) (hov : T.over = false) {nb : Nat} (hf : f + nb ≤ blocksOf L D) {m : List UInt8} (hm : m.length = nb * 512) :
    ∀ k, k ≤ nb → ∀ j, view (layTo T L D f (bitsTo T L D f nb) m k) L D j = if f ≤ j ∧ j < f + k then ofBytes (chunkB m (j - f)) else view T L D j := by
  intro k
  induction k with
  | zero => intro _ j; rw [if_neg (by omega)]; rfl
  | succ k ih =>
    intro hk j
    have hc := bitsTo_chunk h hov nb k hf (by omega)
    have hcl := chunkB_length (k := k) hm (by omega)
    by_cases hs : chunkB (bitsTo T L D f nb) k = chunkB m k
    · rw [layTo_same hs, ih (by omega) j]
      by_cases hj : j = f + k
      · subst hj
        rw [if_neg (by omega), if_pos (by omega), show f + k - f = k by omega, ← hs, hc, ofBytes_data]
      · by_cases h1 : f ≤ j ∧ j < f + k
        · rw [if_pos h1, if_pos (by omega)]
        · rw [if_neg h1, if_neg (by omega)]
    · rw [layTo_new hs, show ((f : Int) + k) = ((f + k : Nat) : Int) by omega, view_write (by rw [layTo_over]; exact hov) (by omega) (by rw [ofBytes_size]; exact hcl), ih (by omega) j]
      by_cases hj : f + k = j
      · subst hj
        rw [if_pos rfl, if_pos (by omega), show f + k - f = k by omega]
      · rw [if_neg hj]
        by_cases h1 : f ≤ j ∧ j < f + k
        · rw [if_pos h1, if_pos (by omega)]
        · rw [if_neg h1, if_neg (by omega)]

theorem bitsTo_layTo (h : TL w own ct cl cd pt pl T L D) (hov : T.over = false) {nb : Nat} (hf : f + nb ≤ blocksOf L D) {m : List UInt8} (hm : m.length = nb * 512) :
    bitsTo (layTo T L D f (bitsTo T L D f nb) m nb) L D f nb = m := by
  rw [← chunks_all nb m hm]
  unfold bitsTo
  rw [List.flatMap_def, List.flatMap_def]
  congr 1
  apply List.map_congr_left
  intro i hi
  have hi' := List.mem_range.1 hi
  have hv := view_layTo h hov hf hm nb (Nat.le_refl _) (f + i)
  rw [if_pos (by omega), show f + i - f = i by omega] at hv
  have hv2 : view (layTo T L D f (List.map (fun i => (view T L D (f + i)).data.toList) (List.range nb)).flatten m nb) L D (f + i) = ofBytes (chunkB m i) := by
    have e : bitsTo T L D f nb = (List.map (fun i => (view T L D (f + i)).data.toList) (List.range nb)).flatten := by unfold bitsTo; rw [List.flatMap_def]
    rw [← e]; exact hv
  rw [chunks_all nb m hm, hv2]
  simp [ofBytes]

end
end Go.Proofs.Ytdcjhpihcfpamaa
