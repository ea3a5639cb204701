/-
  The transaction: Read.
-/
import Derived.Test.YtdcjhpihcfpamaaTxn
namespace Go.Proofs.Ytdcjhpihcfpamaa
open Go.RowKit Go.XK

def zeroCells512 : Array Value := Array.replicate 512 (.int .u8 0)

theorem zero_size : zeroCells512.size = 512 := by simp [zeroCells512]
theorem zero_one : zeroCells512.all (·.oneCell') = true := by kernel_rfl

/-- A text's bytes as cells. -/
def rowCells (s : ByteArray) : Array Value := s.data.map fun b => .int .u8 (b.toNat : Int)
theorem rowCells_size (s : ByteArray) : (rowCells s).size = s.size := by simp [rowCells]
theorem rowCells_one (s : ByteArray) : (rowCells s).all (·.oneCell') = true := by
  rw [Array.all_eq_true]
  intro i hi
  simp [rowCells, Value.oneCell']
theorem bv_is (s : ByteArray) : bv s = .agg (rowCells s) := rfl

theorem conv_row {w : World} {g : Nat} {s : ByteArray} {T : TypeId} (hb : blk w g (rowCells s) T) (n : Nat) (hn : s.size = n) :
    (convert 29 9 (.slice (some ⟨g, 0, none⟩) n n)).run Try.prog w = .ok (.string s) w := by
  have h := run_convert_bytes_back (P := Try.prog) w 29 9 5 ⟨g, 0, none⟩ n s.data.toList Try.underlying29 Try.underlying5 Try.underlying9 (by
    intro j hj
    have e : (⟨g, 0, none⟩ : Addr).add j = ⟨g, j, none⟩ := by unfold Addr.add; split <;> simp_all
    rw [e, hb.cell]
    simp at hj
    simp [rowCells, hj])
  have hl : s.data.toList.length = n := by rw [← hn, Array.length_toList]; rfl
  rw [hl] at h
  exact h

theorem size_byte (w : World) : (Go.sizeOf 5).run Try.prog w = .ok 1 w := by kernel_rfl

def zeroBlock : Value := .agg zeroCells512

theorem zero_block (w : World) : (zeroValue 83).run Try.prog w = .ok zeroBlock w := by kernel_rfl

theorem alloc_block (w : World) : (Instr.alloc 83 true (.tuple #[])).run Try.prog w = .ok (.pointer (some ⟨w.heap.size, 0, none⟩)) (w.alloc (.cells zeroCells512 83)) := by kernel_rfl

theorem info_block : (Try.prog.info? 83).map (·.size) = some 512 := by kernel_rfl

theorem wpList_alloc_block {ops : Array Oper} {rest : List Oper} {o : Oper} {a : Act} {w : World} {Q : Exit → Act → World → Prop} (hg : o.guard = none) (ho : o.op = .alloc 83)
    (h : wpList Try.prog ops Q rest (a.put o.dst (.pointer (some ⟨w.heap.size, 0, none⟩))) (w.alloc (.cells zeroCells512 83))) : wpList Try.prog ops Q (o :: rest) a w := by
  have hrun : (execOp a.eval o).run Try.prog w = .ok (.value (.pointer (some ⟨w.heap.size, 0, none⟩))) (w.alloc (.cells zeroCells512 83)) := by
    unfold execOp
    rw [ho]
    simp [alloc_block, Result.andThen]
  refine wpList_plain hg fun K hK => ?_
  unfold Oper.wp
  rw [hrun, Oper.upon_value]
  exact hK _ _ h

/-- What Read answers. -/
def readTx (T : Tx) (L : Lg) (D : Dsk) (n : Int) : ByteArray × Int :=
  if T.over then (ByteArray.empty, 8) else match lookT T.l n with
  | some s => (s, 0)
  | none => readLog L D n

def readTxL (T : Tx) (L : Lg) (D : Dsk) (n : Int) : Lg :=
  if T.over then L else match lookT T.l n with
  | some _ => L
  | none => readL L D

set_option maxRecDepth 20000 in
set_option maxHeartbeats 800000 in
theorem txn_Read {w : World} {own : Nat → Nat} {ct cl cd pt pl : Nat} {T : Tx} {L : Lg} {D : Dsk} (h : TxR w own ct pt pl 81 T) (hL : LD w own cl cd pl L D) (n : Int) :
    Calls Try.prog 14 #[.pointer (some ⟨pt, 0, none⟩), .int .i64 n] w fun r w' => r = .returned (.tuple #[.string (readTx T L D n).1, .int .i64 (readTx T L D n).2]) ∧
      LD w' own cl cd pl (readTxL T L D n) D ∧ Step (· = cl) own w own w' := by
  obtain ⟨⟨m, hb, hm, ho, hne⟩, hfull, hp⟩ := h
  have hc := hb.cell
  cases hov : T.over with
  | true =>
    rw [hov] at hc
    go_enter Try.func14, Try.ntmps14
    go_wp2
    go_ret2
    simp only [readTx, readTxL, hov, if_true]
    exact ⟨rfl, hL, Step.refl _ _ _⟩
  | false =>
    rw [hov] at hc
    have hlk := run_look_ok hm Try.underlying79 Try.underlying3 (zero_block w) n
    rw [lookI_vals] at hlk
    cases hl : lookT T.l n with
    | none =>
      rw [hl] at hlk
      simp only [Option.map_none, Option.getD_none, Option.isSome_none] at hlk
      go_enter Try.func14, Try.ntmps14
      simp only [zeroBlock] at hlk
      obtain ⟨W, hW⟩ : ∃ W, (w.alloc (.cells zeroCells512 83)).setRow w.heap.size zeroCells512 = W := ⟨_, rfl⟩
      have hS1 : Step (fun _ => False) own w own W := hW ▸ ((Step.refl _ own w).alloc _).setRow _ (.inl (Nat.le_refl _))
      have hb1 := hb.of_same (hS1.same _ hb.lt (fun k => k))
      have hc1 := hb1.cell
      have hL1 : LD W own cl cd pl L D := hL.frame fun b hb hc => ⟨hS1.same b hb (fun k => k), rfl⟩
      go_wp2_with (first | (refine wpList_alloc_block rfl rfl ?_) | (refine wpList_store_row rfl 83 _ _ rfl w.heap.size zeroCells512 rfl rfl 83 zeroCells512 (blk.new _ _ _) (by rw [zero_size]; exact info_block) rfl zero_one ?_; rw [hW]) | (go_at_call 24; refine (log_Read hL1 n).mono ?_; rintro e w2 ⟨rfl, hL2, hS2⟩))
      go_ret2
      simp only [readTx, readTxL, hov, hl, Bool.false_eq_true, if_false]
      exact ⟨rfl, hL2, (hS1.mono fun _ k => k.elim).trans hS2⟩
    | some s =>
      rw [hl] at hlk
      simp only [Option.map_some, Option.getD_some, Option.isSome_some] at hlk
      have hs5 : s.size = 512 := by
        simp only [lookT, Option.map_eq_some_iff] at hl
        obtain ⟨x, hx, rfl⟩ := hl
        exact hfull x (List.mem_of_find?_eq_some hx)
      rw [bv_is] at hlk
      have hrs := rowCells_size s
      have hro := rowCells_one s
      have hans : readTx T L D n = (s, 0) := by simp [readTx, hov, hl]
      have hansL : readTxL T L D n = L := by simp [readTxL, hov, hl]
      obtain ⟨W, hW⟩ : ∃ W, (w.alloc (.cells zeroCells512 83)).setRow w.heap.size (rowCells s) = W := ⟨_, rfl⟩
      have hbW : blk W w.heap.size (rowCells s) 83 := hW ▸ (blk.new w zeroCells512 83).setRow _
      have hS1 : Step (fun _ => False) own w own W := hW ▸ ((Step.refl _ own w).alloc _).setRow _ (.inl (Nat.le_refl _))
      have hL1 : LD W own cl cd pl L D := hL.frame fun b hb hc => ⟨hS1.same b hb (fun k => k), rfl⟩
      have hcv := conv_row hbW 512 hs5
      have Hans := Lib.hid hans
      have HansL := Lib.hid hansL
      clear hans hansL hl hbW
      generalize rowCells s = cs at *
      have Hrs := Lib.hid hrs; clear hrs
      have Hs5 := Lib.hid hs5; clear hs5
      go_enter Try.func14, Try.ntmps14
      go_wp2_with (first | (refine wpList_alloc_block rfl rfl ?_) | (refine wpList_store_row rfl 83 _ _ rfl w.heap.size cs rfl rfl 83 zeroCells512 (blk.new _ _ _) (by rw [Hrs.out, Hs5.out]; exact info_block) (by rw [zero_size, Hrs.out, Hs5.out]) hro ?_; rw [hW]))
      go_ret2
      rw [Hans.out, HansL.out]
      exact ⟨rfl, hL1, hS1.mono fun _ k => k.elim⟩

end Go.Proofs.Ytdcjhpihcfpamaa
