/-
  A new disk; Pending.
-/
import Derived.Test.YtdcjhpihcfpamaaDisk3
import Derived.Test.YtdcjhpihcfpamaaShelf
namespace Go.Proofs.Ytdcjhpihcfpamaa
open Go.RowKit Go.XK

/-- Behind k rounds of New's loop. -/
def NewI (w : World) (p n : Nat) (k : Nat) (wr : World) : Prop :=
  ∃ sv, blk wr p #[sv, .slice none 0 0, .slice none 0 0, .int .i64 0, .bool false, .bool false] 110 ∧
  wr.ownsRow 0 9 1 sv k ((List.replicate k zeros).map .string) ∧ (∀ b, sv.ownBlock = some b → w.heap.size ≤ b) ∧ Below w.heap.size w wr ∧ w.heap.size ≤ p ∧ k ≤ n

theorem info_string : (Try.prog.info? 9).map (fun i => (i.zero, i.size, i.bytes)) = some (some (.string ⟨#[]⟩), 1, 16) := by kernel_rfl

theorem repeat_zero (n : Nat) : Lib.repeatL [0] n = List.replicate n (0 : UInt8) := by
  induction n with
  | zero => rfl
  | succ n ih => rw [Lib.repeatL, ih, List.replicate_succ]; rfl

theorem zeros_eq : (⟨(Lib.repeatL (ByteArray.mk #[0]).data.toList 512).toArray⟩ : ByteArray) = zeros := by
  unfold zeros
  exact congrArg (fun l : List UInt8 => (⟨l.toArray⟩ : ByteArray)) (repeat_zero 512)

set_option maxRecDepth 10000 in
set_option maxHeartbeats 400000 in
theorem disk_New (own : Nat → Nat) (c : Nat) (n : Int) (w : World) (h1 : 1 ≤ n) (h2 : n ≤ 8192) :
    Calls Try.prog 49 #[.int .i64 n] w fun e w' => ∃ p own', e = .returned (.tuple #[.pointer (some ⟨p, 0, none⟩), .int .i64 0]) ∧ DiskR w' own' c p (Dsk.fresh n.toNat) ∧ Step (fun _ => False) own w own' w' ∧ w.heap.size ≤ p := by
  obtain ⟨i0, hi, hz0, hz1, hz2⟩ := info_parts info_string
  have hlen : (ByteArray.mk #[0]).size * 512 ≤ 140737488355328 := by decide
  go_enter Try.func49, Try.ntmps49
  go_wp2_with fail
  refine (Try.strings_Repeat ⟨#[0]⟩ 512 _ (by omega) hlen).mono ?_
  rintro e w1 ⟨rfl, hB⟩
  rw [zeros_eq]
  have hBs := hB.size
  go_wp2
  obtain ⟨m, rfl⟩ : ∃ m : Nat, n = m := ⟨n.toNat, by omega⟩
  go_loopg [16] m (fun k i wr => ∃ j : Nat, j + k = m ∧ i = .int .i64 j ∧ NewI w w1.heap.size m j wr)
  case atStart => exact ⟨0, by omega, rfl, .slice none 0 0, blk.new _ _ _, World.ownsRow_nil _ _ _ _, by simp [Value.ownBlock], hB.alloc hBs _, hBs, by omega⟩
  case round =>
    obtain ⟨j, hj, rfl, sv, hb, hr, ho, hBl, hp, hjm⟩ := hrel
    have hc := hb.cell
    have hf := hb.free
    by_cases hlt : j < m
    · have hnn := row_ne hr hb (by decide)
      go_wp2_with (first | (at_builtin; refine wpList_append_x rfl _ _ 56 rfl 9 i0 _ 1 16 Try.underlying56 hi hz0 hz1 hz2 rfl (by decide) sv _ _ rfl (hr.alloc _) ⟨_, 0, none⟩ 1 1 [.string zeros] rfl rfl (new_cells _ _ _ _ (by simp)) (by simp [Value.oneCell']) (by unfold maxLen; omega) (by omega) ?_; intro a' c' w2 r4 hgr hfresh; have hb2 := (hb.alloc (.cells #[.string zeros] 9)).grown hgr hnn; have hc2 := hb2.cell; have hfr2 := hb2.free))
      go_roundg (m - (j + 1))
      case measure => omega
      case rel =>
        have hsv := row_ne r4 hb2 (by decide)
        refine ⟨j + 1, by omega, by go_num, .slice a' (j + 1) c', (hb2.set 0 _).eq (by simp), ?_, ?_, ?_, hp, by omega⟩
        · have := ownsRow_setCell_other r4 (a := ⟨w1.heap.size, 0, none⟩) hsv (.slice a' (j + 1) c')
          rw [List.replicate_succ', List.map_append]
          exact this
        · intro b hk
          rcases hfresh b hk with h | h
          · exact ho b h
          · simp at h; have := hBl.size; omega
        · exact ((hBl.alloc hBl.size _).grown hgr (by simp; have := hBl.size; omega) ho).setCell hp _
    · obtain rfl : j = m := by omega
      obtain ⟨g, cap, cur, rfl, hg, hjc, hcm, -⟩ := row_open hr (by omega)
      have hgp := row_ne hr hb (by decide)
      clear hc hf
      have hc := hb.cell
      have hf := hb.free
      have hcs : ∀ i, i < (List.replicate j zeros).length → wr.cell? ⟨g, 0 + i, none⟩ = some (.string ((List.replicate j zeros).getD i ByteArray.empty)) := by
        intro i hi
        rw [Nat.zero_add, hr.cellAt _ (by simpa using hi), getD_at _ _ _ hi]
        simp at hi
        simp [hi]
      go_wp2_with (first | (go_at_call 72; refine (Try.slices_Clone_string g 0 j cap (List.replicate j zeros) _ (by simp) (by omega) hcs).mono ?_; rintro e w3 ⟨v', rfl, r5, -, hB3⟩; obtain ⟨g5, cap5, cur5, rfl, hg5, -⟩ := row_open (row_zero r5) (by omega); have hb3 := hb.below hB3 hb.lt; have hc3 := hb3.cell; have hf3 := hb3.free))
      go_ret2
      have hj1 : 1 ≤ j := by omega
      have r6 := row_zero r5
      have hgg : g5 ≠ g := by have := (r5.lt g5 rfl).1; have := hg.lt; omega
      have hg5p : (Value.slice (some ⟨g5, 0, none⟩) j cap5).ownBlock ≠ some w1.heap.size := row_ne r6 hb3 (by decide)
      have hrr := row_below hr hB3 (Nat.le_refl _)
      rw [List.take_of_length_le (by simp)] at r6
      refine ⟨w1.heap.size, ext own w c, rfl, ⟨Dsk.fresh_ok (by omega) (by omega), ext_new hp, .slice (some ⟨g, 0, none⟩) j cap, .slice (some ⟨g5, 0, none⟩) j cap5, .slice none 0 0, (hb3.set 1 _).eq (by simp [Dsk.fresh]), ?_, ?_, ?_, ?_, World.ownsRow_nil _ _ _ _, Owned.nil _ _, ?_⟩, ?_, hp⟩
      · have := ownsRow_setCell_other hrr (a := ⟨w1.heap.size, 1, none⟩) hgp (.slice (some ⟨g5, 0, none⟩) j cap5)
        simpa [Dsk.fresh] using this
      · intro k hk; exact ext_new (ho k hk)
      · have := ownsRow_setCell_other r6 (a := ⟨w1.heap.size, 1, none⟩) hg5p (.slice (some ⟨g5, 0, none⟩) j cap5)
        simpa [Dsk.fresh] using this
      · intro k hk; have := (r5.lt k hk).1; exact ext_new (by have := hBl.size; omega)
      · simp [Value.ownBlock]; omega
      · exact (((Step.refl _ own w).below hBl (Nat.le_refl _)).below hB3 (Nat.le_refl _)).setCell _ (.inl hp) |>.reown fun b hb' => ext_old hb'

end Go.Proofs.Ytdcjhpihcfpamaa
