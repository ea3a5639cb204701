/-
  The space's Make.
-/
import Derived.Test.YtdcjhpihcfpamaaSp13
namespace Go.Proofs.Ytdcjhpihcfpamaa
open Go.RowKit Go.XK

section
variable {w : World} {own : Nat → Nat} {ct cl cd pt pl : Nat} {T : Tx} {L : Lg} {D : Dsk}

def mkTo (T : Tx) (L : Lg) (D : Dsk) (f : Nat) : Nat → Tx
  | 0 => T
  | k + 1 => (writeTx (mkTo T L D f k) L D ((f : Int) + k) zeros).1
theorem mkTo_over (T : Tx) (L : Lg) (D : Dsk) (f : Nat) : ∀ k, (mkTo T L D f k).over = T.over
  | 0 => rfl
  | k + 1 => by unfold mkTo; rw [writeTx_over_eq]; exact mkTo_over T L D f k

def MakePost (w : World) (own : Nat → Nat) (ct cl cd pt pl : Nat) (T : Tx) (L : Lg) (D : Dsk) (first : Int) (e : Ending) (w' : World) : Prop :=
  Step (fun c => c = cl ∨ c = ct) own w own w' ∧
  ((placedP T.over (blocksOf L D) first = 0 ∧ ∃ ps, e = .returned (.tuple #[.pointer (some ⟨ps, 0, none⟩), .int .i64 0]) ∧ SpR w' ps pt first.toNat ∧ w.heap.size ≤ ps ∧ ps < w'.heap.size ∧ TL w' own ct cl cd pt pl (mkTo T L D first.toNat (nbOf (blocksOf L D))) L D) ∨
   (placedP T.over (blocksOf L D) first ≠ 0 ∧ e = .returned (.tuple #[.pointer none, .int .i64 (placedP T.over (blocksOf L D) first)]) ∧ TL w' own ct cl cd pt pl T L D))

theorem placedP_zero {B : Nat} {first : Int} {o : Bool} (h : placedP o B first = 0) : o = false ∧ 0 ≤ first ∧ first ≤ (B : Int) - nbOf B := by
  unfold placedP at h
  split at h
  · simp at h
  · rename_i ho
    split at h
    · simp at h
    · split at h
      · simp at h
      · exact ⟨by simpa using ho, by omega, by omega⟩

def zeroBytes : Array Value := Array.replicate 512 (.int .u8 0)
theorem make_zeros (w : World) : (Instr.makeSlice 29 (.int .i64 512) (.int .i64 512)).run Try.prog w = .ok (.slice (some ⟨w.heap.size, 0, none⟩) 512 512) (w.alloc (.cells zeroBytes 5)) := by kernel_rfl

theorem conv_zeros (w : World) : (convert 29 9 (.slice (some ⟨w.heap.size, 0, none⟩) 512 512)).run Try.prog (w.alloc (.cells zeroBytes 5)) = .ok (.string zeros) (w.alloc (.cells zeroBytes 5)) := by
  have h : bytesAt (w.alloc (.cells zeroBytes 5)) w.heap.size 0 (List.replicate 512 0) := by
    intro j hj
    rw [List.length_replicate] at hj
    rw [(blk.new w zeroBytes 5).cell, Nat.zero_add, List.getElem_replicate]
    unfold zeroBytes
    rw [Array.getElem?_replicate, if_pos hj]
    rfl
  exact conv_at h 512 512 (List.length_replicate ..)

set_option maxRecDepth 20000 in
set_option maxHeartbeats 1000000 in
theorem space_Make (h : TL w own ct cl cd pt pl T L D) (first : Int) (hF : Fresh own w.heap.size ct cl cd) :
    Calls Try.prog 37 #[.pointer (some ⟨pt, 0, none⟩), .int .i64 first] w (MakePost w own ct cl cd pt pl T L D first) := by
  have hP := Lib.hid (space_placed h first)
  have hnb := nb_le h.ld
  by_cases hpc : placedP T.over (blocksOf L D) first = 0
  · obtain ⟨hov, hf0, hf1⟩ := placedP_zero hpc
    obtain ⟨f, rfl⟩ := Int.eq_ofNat_of_zero_le hf0
    have HB := Lib.hid (fun W (hW : TL W own ct cl cd pt pl T L D) => space_blocks hW)
    have hmz := make_zeros
    have hcz := conv_zeros
    have Hpc := Lib.hid hpc; clear hpc
    have Hov := Lib.hid hov; clear hov
    generalize hBB : blocksOf L D = B at *
    generalize hnbb : nbOf B = nb at *
    have Hnbb := Lib.hid hnbb; clear hnbb
    have HBB := Lib.hid hBB; clear hBB
    go_enter Try.func37, Try.ntmps37
    go_wp2_with fail
    refine hP.out.mono ?_; rintro e w1 ⟨h1, hS1, hq⟩
    obtain ⟨ps, rfl, hb1, hps⟩ : ∃ ps, e = .returned (.tuple #[.pointer (some ⟨ps, 0, none⟩), .int .i64 0]) ∧ blk w1 ps #[.pointer (some ⟨pt, 0, none⟩), .int .i64 f] 86 ∧ w.heap.size ≤ ps := by
      rcases hq with ⟨_, q⟩ | ⟨q, _⟩
      · exact q
      · rw [HBB.out] at q; exact absurd Hpc.out q
    clear hq hP
    go_wp2_with fail
    have h2 : TL (w1.alloc (.cells zeroBytes 5)) own ct cl cd pt pl T L D := h1.frame fun b hb _ => ⟨Below.heap_alloc _ _ _ hb, rfl⟩
    refine (HB.out _ h2).mono ?_; rintro e w2 ⟨rfl, q, hw⟩
    have h3 : TL w2 own ct cl cd pt pl (mkTo T L D f 0) L D := h2.of_drewN hw
    have hS3 : Step (fun c => c = cl ∨ c = ct) own w own w2 := ((hS1.mono fun _ k => .inl k).alloc _).trans (Step.of_drewN hw)
    have hs3 : SpR w2 ps pt f := (⟨hb1.alloc _⟩ : SpR _ ps pt f).of_drewN hw
    have hpsf := hF ps hps
    clear hw h2 h1 hb1 hS1 hmz hcz
    go_wp2
    go_loopw [24] (fun i wr => ∃ k : Nat, k ≤ nb ∧ i = .int .i64 k ∧ TL wr own ct cl cd pt pl (mkTo T L D f k) L D ∧ Step (fun c => c = cl ∨ c = ct) own w own wr ∧ SpR wr ps pt f) (fun i _ => nb - (intOf i).toNat)
    case atStart => exact ⟨0, Nat.zero_le _, rfl, h3, hS3, hs3⟩
    case round =>
      obtain ⟨k, hk, rfl, h4, hS4, hs4⟩ := hrel
      clear h3 hS3 hs3
      by_cases hlt : k < nb
      · have hx : f + k < blocksOf L D := by rw [HBB.out]; omega
        have hwr : writeTx (mkTo T L D f k) L D ((f : Int) + k) zeros = (mkTo T L D f (k + 1), 0) := by
          show _ = ((writeTx (mkTo T L D f k) L D ((f : Int) + k) zeros).1, _)
          rw [writeTx_ok (by rw [mkTo_over]; exact Hov.out) ⟨by omega, by omega, zeros_size⟩]
        have HW := Lib.hid (tl_Write h4 ((f : Int) + k) zeros)
        rw [hwr] at HW
        clear hwr h4
        go_wp2_with (go_at_call 10; refine HW.out.mono ?_; rintro e w5 ⟨rfl, h5, hS5⟩)
        go_roundw
        case rel => exact ⟨k + 1, by omega, by go_num, h5, hS4.trans (hS5.mono fun _ k => .inr k), hs4.of_same (hS5.same ps hs4.cells.lt hpsf.1)⟩
        case measure => simp [intOf]; omega
      · obtain rfl : k = nb := by omega
        go_wp2
        go_ret2
        refine ⟨hS4, .inl ⟨by rw [HBB.out]; exact Hpc.out, ps, rfl, hs4, hps, hs4.cells.lt, ?_⟩⟩
        rw [HBB.out, Hnbb.out]
        exact h4
  · have Hpc := Lib.hid hpc; clear hpc
    generalize hcc : placedP T.over (blocksOf L D) first = c at *
    have hcne : (c != 0) = true := by simpa using Hpc.out
    have Hcc := Lib.hid hcc; clear hcc
    go_enter Try.func37, Try.ntmps37
    go_wp2_with fail
    refine hP.out.mono ?_; rintro e w1 ⟨h1, hS1, hq⟩
    rw [Hcc.out] at hq
    obtain rfl : e = .returned (.tuple #[.pointer none, .int .i64 c]) := by
      rcases hq with ⟨q, _⟩ | ⟨_, q⟩
      · exact absurd q Hpc.out
      · exact q
    clear hq
    go_wp2
    go_ret2
    refine ⟨hS1.mono fun _ k => .inl k, .inr ?_⟩
    rw [Hcc.out]
    exact ⟨Hpc.out, rfl, h1⟩

end
end Go.Proofs.Ytdcjhpihcfpamaa
