/-
  The transaction: Write.
-/
import Derived.Test.YtdcjhpihcfpamaaTxnR
import Derived.Lib.LazyBuf
import Derived.StillTailTactics
namespace Go.XK
open Go.RowKit

/-- Cells laid from a place on. -/
def layCells : Nat → List Value → Array Value → Array Value
  | _, [], cs => cs
  | o, v :: l, cs => layCells (o + 1) l (cs.setIfInBounds o v)

theorem layCells_get : ∀ (l : List Value) (o : Nat) (cs : Array Value), o + l.length ≤ cs.size → ∀ i, (layCells o l cs)[i]? = if o ≤ i ∧ i < o + l.length then l[i - o]? else cs[i]?
  | [], o, cs, _, i => by simp [layCells]; omega
  | v :: l, o, cs, h, i => by
    simp only [List.length_cons] at h ⊢
    rw [layCells, layCells_get l (o + 1) _ (by simpa using by omega) i, Array.getElem?_setIfInBounds]
    by_cases h1 : o = i
    · subst h1
      rw [if_neg (by omega), if_pos rfl, if_pos (by omega), if_pos (by omega), Nat.sub_self]; rfl
    · by_cases h2 : o + 1 ≤ i ∧ i < o + 1 + l.length
      · rw [if_pos h2, if_pos (by omega), show i - o = i - (o + 1) + 1 by omega, List.getElem?_cons_succ]
      · rw [if_neg h2, if_neg h1, if_neg (by omega)]

theorem layCells_all (l : List Value) (cs : Array Value) (h : l.length = cs.size) : layCells 0 l cs = l.toArray := by
  apply Array.ext_getElem?
  intro i
  rw [layCells_get l 0 cs (by omega) i]
  split
  · simp
  · rename_i h1
    rw [Array.getElem?_eq_none (by omega), Array.getElem?_eq_none (by simp; omega)]

theorem blk.setCells {g : Nat} {T : TypeId} : ∀ (l : List Value) (o : Nat) {w : World} {cs : Array Value}, blk w g cs T → blk (w.setCells g o l) g (layCells o l cs) T
  | [], _, _, _, h => h
  | v :: l, o, _, _, h => blk.setCells l (o + 1) (h.set o v)

theorem setCells_other {g b : Nat} (hne : b ≠ g) : ∀ (l : List Value) (o : Nat) (w : World), (w.setCells g o l).heap[b]? = w.heap[b]?
  | [], _, _ => rfl
  | _ :: l, o, _ => (setCells_other hne l (o + 1) _).trans (Below.heap_setCell _ _ _ _ hne)

theorem Step.setCells {S : Nat → Prop} {own own' : Nat → Nat} {w : World} {g : Nat} (ha : w.heap.size ≤ g ∨ S (own g)) : ∀ (l : List Value) (o : Nat) {w' : World}, Step S own w own' w' → Step S own w own' (w'.setCells g o l)
  | [], _, _, h => h
  | v :: l, o, _, h => Step.setCells ha l (o + 1) (h.setCell (a := ⟨g, o, none⟩) v ha)

/-- A whole array's load as a step of a region that only reads ahead of its tail. -/
theorem wpStill_load_row {P : Program} {ops : Array Oper} {rest : List Oper} {o : Oper} {a : Act} {w : World} {Q : Act → Prop} (hgd : o.guard = none) (ty : TypeId) (x : Operand) (ho : o.op = .load ty x)
    (g : Nat) (hx : a.eval x = .pointer (some ⟨g, 0, none⟩)) (t : TypeId) (cs : Array Value) (d : TypeDesc) (hg : blk w g cs t)
    (hu : P.underlying ty = some d) (hd : (match d with | .struct _ | .array _ _ => true | _ => false) = true) (hi : (P.info? ty).map (·.size) = some cs.size)
    (h : wpStill P ops w Q rest (a.put o.dst (.agg cs))) : wpStill P ops w Q (o :: rest) a := by
  refine wpStill_step fun K hK => ?_
  rw [if_pos (by simp [Region.wanted, hgd])]
  unfold Oper.still execOp
  simp only [ho, hx, Instr.loadAt, Instr.sureAddr, Sem.run_bind, Sem.run_pure, Result.andThen_ok, run_loadVar_row w g t ty cs (0, 0) d hg hu hd hi]
  rw [Oper.stillUpon_value]
  exact hK _ h

/-- What Write does. -/
def writeTx (T : Tx) (L : Lg) (D : Dsk) (n : Int) (t : ByteArray) : Tx × Int :=
  if T.over then (T, 8) else if 0 ≤ n ∧ n < blocksOf L D ∧ t.size = 512 then ({ T with l := putT T.l n t }, 0) else (T, 1)

theorem writeTx_over {T : Tx} {L : Lg} {D : Dsk} {n : Int} {t : ByteArray} (h : T.over = true) : writeTx T L D n t = (T, 8) := by unfold writeTx; rw [if_pos h]
theorem writeTx_arg {T : Tx} {L : Lg} {D : Dsk} {n : Int} {t : ByteArray} (h : T.over = false) (h2 : ¬ (0 ≤ n ∧ n < blocksOf L D ∧ t.size = 512)) : writeTx T L D n t = (T, 1) := by
  unfold writeTx; rw [h, if_neg (by decide), if_neg h2]
theorem writeTx_ok {T : Tx} {L : Lg} {D : Dsk} {n : Int} {t : ByteArray} (h : T.over = false) (h2 : 0 ≤ n ∧ n < blocksOf L D ∧ t.size = 512) : writeTx T L D n t = ({ T with l := putT T.l n t }, 0) := by
  unfold writeTx; rw [h, if_neg (by decide), if_pos h2]

theorem putT_full {l : List (Int × ByteArray)} (h : ∀ x ∈ l, x.2.size = 512) (n : Int) {t : ByteArray} (ht : t.size = 512) : ∀ x ∈ putT l n t, x.2.size = 512 := by
  intro x hx
  unfold putT at hx
  split at hx
  · rcases List.mem_or_eq_of_mem_set hx with k | k
    · exact h x k
    · rw [k]; exact ht
  · rcases List.mem_append.1 hx with k | k
    · exact h x k
    · simp at k; rw [k]; exact ht

theorem TxR.of_drewN {w w' : World} {own : Nat → Nat} {c pt pl : Nat} {ty : TypeId} {T : Tx} {n : Nat} (h : TxR w own c pt pl ty T) (hw : w' = w.drewN n) : TxR w' own c pt pl ty T :=
  h.frame fun b _ hc => ⟨by rw [hw]; rfl, hc⟩

end Go.XK

namespace Go.Proofs.Ytdcjhpihcfpamaa
open Go.RowKit Go.XK

theorem zero_cells : Try.zeroCells83 = zeroCells512 := by kernel_rfl

theorem zero_cells_size : (Try.zeroCells83).size = 512 := by rw [zero_cells]; exact zero_size

set_option maxRecDepth 20000 in
set_option maxHeartbeats 800000 in
theorem txn_Write {w : World} {own : Nat → Nat} {ct cl cd pt pl : Nat} {T : Tx} {L : Lg} {D : Dsk} (h : TxR w own ct pt pl 81 T) (hL : LD w own cl cd pl L D) (n : Int) (t : ByteArray) :
    Calls Try.prog 10 #[.pointer (some ⟨pt, 0, none⟩), .int .i64 n, .string t] w fun r w' => r = .returned (.int .i64 (writeTx T L D n t).2) ∧
      TxR w' own ct pt pl 81 (writeTx T L D n t).1 ∧ Step (· = ct) own w own w' := by
  have hT := h
  obtain ⟨⟨m, hb, hm, ho, hne⟩, hfull, hp⟩ := h
  have hc := hb.cell
  have hlt := hL.lt
  have hmo := hL.disk.ok.most
  have hsz := hL.log.sizeLe
  cases hov : T.over with
  | true =>
    rw [hov] at hc
    have Hans := Lib.hid (writeTx_over (L := L) (D := D) (n := n) (t := t) hov)
    go_enter Try.func10, Try.ntmps10
    go_wp2
    go_ret
    rw [Hans.out]
    exact ⟨rfl, hT, Step.refl _ _ _⟩
  | false =>
    rw [hov] at hc
    by_cases h1 : n < 0
    · have Hans := Lib.hid (writeTx_arg (L := L) (D := D) (n := n) (t := t) hov (by omega))
      go_enter Try.func10, Try.ntmps10
      go_wp2
      go_ret
      rw [Hans.out]
      exact ⟨rfl, hT, Step.refl _ _ _⟩
    · have h1' : 0 ≤ n := by omega
      by_cases h2 : (D.seen.length : Int) - L.size ≤ n
      · have Hans := Lib.hid (writeTx_arg (L := L) (D := D) (n := n) (t := t) hov (by unfold blocksOf; omega))
        go_enter Try.func10, Try.ntmps10
        go_wp2_with (go_at_call 23; refine (txn_Blocks hT hL.log hL.disk).mono ?_; rintro e w1 ⟨rfl, k, hw1⟩; have hT1 := hT.of_drewN hw1; have hS1 := Step.of_drewN (S := (· = ct)) (own := own) hw1; clear hw1)
        go_ret
        rw [Hans.out]
        exact ⟨rfl, hT1, hS1⟩
      · have h2' : n < (D.seen.length : Int) - L.size := by omega
        by_cases h3 : t.size = 512
        · have h3' : ((t.size : Int) != 512) = false := by simp [h3]
          have Hans := Lib.hid (writeTx_ok (L := L) (D := D) (n := n) (t := t) hov ⟨h1', by unfold blocksOf; omega, h3⟩)
          have H3 := Lib.hid h3; clear h3
          go_enter Try.func10, Try.ntmps10
          go_wp2_with (go_at_call 23; refine (txn_Blocks hT hL.log hL.disk).mono ?_; rintro e w1 ⟨rfl, k, hw1⟩; have hT1 := hT.of_drewN hw1; have hS1 := Step.of_drewN (S := (· = ct)) (own := own) hw1; clear hw1)
          obtain ⟨⟨m1, hb1, hm1, ho1, hne1⟩, -, -⟩ := hT1
          clear hc hb hm
          have hcp := Go.run_copy_string (P := Try.prog) (w1.alloc (.cells Try.zeroCells83 83)) 29 9 3 5 w1.heap.size 0 512 512 t Try.underlying29 size_byte (by rw [H3.out]; exact Nat.le_refl _) (by
            intro j hj
            rw [H3.out] at hj
            rw [(blk.new w1 Try.zeroCells83 83).cell, Nat.zero_add, Array.getElem?_eq_getElem (by rw [zero_cells_size]; exact hj)]; rfl) (fun j _ => (blk.new w1 Try.zeroCells83 83).free _)
          have hg := (blk.new w1 Try.zeroCells83 83).setCells (t.data.toList.map fun x => Value.int .u8 (x.toNat : Int)) 0
          rw [layCells_all _ _ (by simp [H3.out])] at hg
          have hg2 : blk ((w1.alloc (.cells Try.zeroCells83 83)).setCells w1.heap.size 0 (t.data.toList.map fun x => Value.int .u8 (x.toNat : Int))) w1.heap.size (rowCells t) 83 := hg.eq (by apply Array.toList_inj.1; simp [rowCells])
          have hS2 := Step.setCells (g := w1.heap.size) (S := (· = ct)) (.inl hS1.size) (t.data.toList.map fun x => Value.int .u8 (x.toNat : Int)) 0 (hS1.alloc (.cells Try.zeroCells83 83))
          have hb2 := hb1.of_same ((setCells_other (g := w1.heap.size) (Nat.ne_of_lt hb1.lt) (t.data.toList.map fun x => Value.int .u8 (x.toNat : Int)) 0 (w1.alloc (.cells Try.zeroCells83 83))).trans (Below.heap_alloc _ _ _ hb1.lt))
          have hm2 := hm1.of_same ((setCells_other (g := w1.heap.size) (Nat.ne_of_lt hm1.lt) (t.data.toList.map fun x => Value.int .u8 (x.toNat : Int)) 0 (w1.alloc (.cells Try.zeroCells83 83))).trans (Below.heap_alloc _ _ _ hm1.lt))
          clear hg
          generalize (w1.alloc (.cells Try.zeroCells83 83)).setCells w1.heap.size 0 (t.data.toList.map fun x => Value.int .u8 (x.toNat : Int)) = W2 at *
          have hc2 := hb2.cell
          go_wp2_with fail
          rw [hcp]
          go_wp2
          obtain ⟨es, ck, hput, hm3⟩ := run_put (hm2.of_same (w' := W2.drew) rfl) Try.underlying79 Try.underlying3 n (bv t)
          rw [bv_is] at hput
          have hts := rowCells_size t
          have hc3 := hb2.drew.cell
          have hg3 := hg2.drew
          have hb4 := hb2.drew.of_same (w' := Go.ChangeMaps.setBlock W2.drew m1 (.map es ck)) (setBlock_other _ _ hne1.symm)
          have hS4 : Step (· = ct) own w own (Go.ChangeMaps.setBlock W2.drew m1 (.map es ck)) := hS2.drew.setBlock _ (.inr ho1)
          rw [bv_is, ← bv_is, ← vals_put] at hm3
          clear hcp hS2 hm2 hc2 hS1 hm1 hb1 hb2
          generalize Go.ChangeMaps.setBlock W2.drew m1 (.map es ck) = W4 at *
          have Hts := Lib.hid hts; clear hts
          have Hput := Lib.hid hput; clear hput
          refine wp_region_still_tail 6 (by kernel_rfl) (by kernel_rfl) ?_
          simp only [List.take_succ_cons, List.take_zero, List.drop_succ_cons, List.drop_zero]
          change wpStill _ _ W2.drew _ _ _
          iterate 5 still_step
          refine wpStill_load_row rfl 83 _ rfl w1.heap.size rfl 83 (rowCells t) _ hg3 Try.underlying83 rfl (by rw [Hts.out, H3.out]; exact info_block) ?_
          refine wpStill_nil ?_
          have hput := Hput.out; clear Hput
          go_wp2
          go_ret
          rw [Hans.out]
          exact ⟨rfl, ⟨⟨m1, hb4, hm3, ho1, hne1⟩, putT_full hfull n H3.out, hp⟩, hS4⟩
        · have h3' : ((t.size : Int) != 512) = true := by simp; omega
          have Hans := Lib.hid (writeTx_arg (L := L) (D := D) (n := n) (t := t) hov (by omega))
          have H3 := Lib.hid h3; clear h3
          go_enter Try.func10, Try.ntmps10
          go_wp2_with (go_at_call 23; refine (txn_Blocks hT hL.log hL.disk).mono ?_; rintro e w1 ⟨rfl, k, hw1⟩; have hT1 := hT.of_drewN hw1; have hS1 := Step.of_drewN (S := (· = ct)) (own := own) hw1; clear hw1)
          go_ret
          rw [Hans.out]
          exact ⟨rfl, hT1, hS1⟩

end Go.Proofs.Ytdcjhpihcfpamaa
