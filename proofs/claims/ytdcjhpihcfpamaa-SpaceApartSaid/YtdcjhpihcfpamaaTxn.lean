/-
  The transaction: Begin, Blocks, Dirty, Abort, Read, Write.
-/
import Derived.Test.YtdcjhpihcfpamaaLog3
import Derived.Test.YtdcjhpihcfpamaaMap
namespace Go.XK
open Go.RowKit

theorem mkMap {P : Program} (t : TypeId) (w : World) : (Instr.makeMap t none).run P w = .ok (.map (some w.heap.size)) (w.alloc (.map #[] 0)) := rfl

/-- A plain transaction. -/
structure Tx where
  over : Bool
  l : List (Int × ByteArray)

/-- A sector as the array that lies in the map. -/
def bv (s : ByteArray) : Value := .agg (s.data.map fun b => .int .u8 (b.toNat : Int))

def vals (l : List (Int × ByteArray)) : List (Int × Value) := l.map fun x => (x.1, bv x.2)

def lookT (l : List (Int × ByteArray)) (n : Int) : Option ByteArray := (l.find? fun x => x.1 == n).map (·.2)

def putT (l : List (Int × ByteArray)) (n : Int) (s : ByteArray) : List (Int × ByteArray) :=
  match l.findIdx? (fun x => x.1 == n) with
  | some j => l.set j (n, s)
  | none => l ++ [(n, s)]

theorem lookI_vals (l : List (Int × ByteArray)) (n : Int) : lookI (vals l) n = (lookT l n).map bv := by
  induction l with
  | nil => rfl
  | cons x l ih =>
    simp only [vals, List.map_cons] at ih ⊢
    rw [lookI_cons, ih]
    unfold lookT
    rw [List.find?_cons]
    cases x.1 == n <;> rfl

theorem vals_put (l : List (Int × ByteArray)) (n : Int) (s : ByteArray) : vals (putT l n s) = putI (vals l) n (bv s) := by
  have h : (vals l).findIdx? (fun x => x.1 == n) = l.findIdx? (fun x => x.1 == n) := by
    unfold vals; rw [List.findIdx?_map]; rfl
  unfold putT putI
  rw [h]
  cases l.findIdx? (fun x => x.1 == n) with
  | none => simp [vals]
  | some j => simp [vals, List.map_set]

/-- A transaction in memory, over the log whose block is pl. -/
structure TxR (w : World) (own : Nat → Nat) (c pt pl : Nat) (ty : TypeId) (T : Tx) : Prop where
  here : ∃ m, blk w pt #[.pointer (some ⟨pl, 0, none⟩), .map (some m), .bool T.over] ty ∧ MapI w m (vals T.l) ∧ own m = c ∧ m ≠ pt
  full : ∀ x ∈ T.l, x.2.size = 512
  mine : own pt = c

theorem TxR.frame {w w' : World} {own own' : Nat → Nat} {c pt pl : Nat} {ty : TypeId} {T : Tx} (h : TxR w own c pt pl ty T)
    (hs : ∀ b, b < w.heap.size → own b = c → w'.heap[b]? = w.heap[b]? ∧ own' b = c) : TxR w' own' c pt pl ty T := by
  obtain ⟨⟨m, hb, hm, ho, hne⟩, hfull, hp⟩ := h
  have h1 := hs pt hb.lt hp
  have h2 := hs m hm.lt ho
  exact ⟨⟨m, hb.of_same h1.1, hm.of_same h2.1, h2.2, hne⟩, hfull, h1.2⟩

end Go.XK

namespace Go.Proofs.Ytdcjhpihcfpamaa
open Go.RowKit Go.XK

set_option maxHeartbeats 400000 in
theorem txn_Begin (w : World) (own : Nat → Nat) (c pl : Nat) :
    Calls Try.prog 25 #[.pointer (some ⟨pl, 0, none⟩)] w fun r w' => ∃ pt own', r = .returned (.pointer (some ⟨pt, 0, none⟩)) ∧ TxR w' own' c pt pl 81 ⟨false, []⟩ ∧ Step (fun _ => False) own w own' w' := by
  have hmk : ∀ w : World, (Instr.makeMap 79 none).run Try.prog w = .ok (.map (some w.heap.size)) (w.alloc (.map #[] 0)) := fun w => Go.XK.mkMap _ w
  go_enter Try.func25, Try.ntmps25
  go_wp2
  go_ret
  refine ⟨w.heap.size + 1, ext own w c, by simp, ⟨⟨w.heap.size, ?_, (MapI.new w).of_same (Below.heap_alloc _ _ _ (by simp)), ext_new (Nat.le_refl _), by omega⟩, by simp, ext_new (by omega)⟩, ?_⟩
  · exact blk.new' _ _ _ (by simp)
  · exact (((Step.refl _ _ _).alloc _).alloc _).reown fun b hb => ext_old hb

set_option maxHeartbeats 400000 in
theorem txn_Blocks {w : World} {own : Nat → Nat} {ct cl cd pt pl : Nat} {T : Tx} {L : Lg} {D : Dsk} (h : TxR w own ct pt pl 81 T) (hL : LogR w own cl pl L) (hD : DiskR w own cd L.pd D) :
    Calls Try.prog 23 #[.pointer (some ⟨pt, 0, none⟩)] w fun r w' => r = .returned (.int .i64 (D.seen.length - L.size)) ∧ ∃ n, w' = w.drewN n := by
  obtain ⟨⟨m, hb, hm, ho, hne⟩, hfull, hp⟩ := h
  have hc := hb.cell
  go_enter Try.func23, Try.ntmps23
  go_wp2_with (go_at_call 9; refine (log_Blocks hL hD).mono ?_; rintro e w' ⟨rfl, n, rfl⟩)
  go_ret
  exact ⟨rfl, n, rfl⟩

set_option maxHeartbeats 400000 in
theorem txn_Dirty {w : World} {own : Nat → Nat} {ct pt pl : Nat} {T : Tx} (h : TxR w own ct pt pl 81 T) :
    Calls Try.prog 21 #[.pointer (some ⟨pt, 0, none⟩)] w fun r w' => r = .returned (.int .i64 T.l.length) ∧ w' = w := by
  obtain ⟨⟨m, hb, hm, ho, hne⟩, hfull, hp⟩ := h
  have hc := hb.cell
  have hl := run_len_mapI hm Try.underlying79 3
  have hvl : (vals T.l).length = T.l.length := by simp [vals]
  go_enter Try.func21, Try.ntmps21
  go_wp2
  go_ret
  exact ⟨by rw [← hvl]; rfl, rfl⟩

set_option maxHeartbeats 400000 in
theorem txn_Abort {w : World} {own : Nat → Nat} {ct pt pl : Nat} {T : Tx} (h : TxR w own ct pt pl 81 T) :
    Calls Try.prog 31 #[.pointer (some ⟨pt, 0, none⟩)] w fun r w' => r = .returned (.tuple #[]) ∧ TxR w' own ct pt pl 81 ⟨true, []⟩ ∧ Step (· = ct) own w own w' := by
  obtain ⟨⟨m, hb, hm, ho, hne⟩, hfull, hp⟩ := h
  have hc := hb.cell
  have hf := hb.free
  have hm2 : MapI (w.setCell ⟨pt, 2, none⟩ (.bool true)) m (vals T.l) := hm.of_same (Below.heap_setCell _ _ _ _ hne)
  obtain ⟨c, hcl, hm3⟩ := run_clear_mapI hm2 Try.underlying79
  have hb3 := hb.set 2 (.bool true)
  go_enter Try.func31, Try.ntmps31
  go_wp2
  go_end0
  refine ⟨rfl, ⟨⟨m, (hb3.of_same (setBlock_other _ _ hne.symm)).eq (by simp), hm3, ho, hne⟩, by simp, hp⟩, ((Step.refl _ _ _).setCell _ (.inr hp)).setBlock _ (.inr ho)⟩

end Go.Proofs.Ytdcjhpihcfpamaa
