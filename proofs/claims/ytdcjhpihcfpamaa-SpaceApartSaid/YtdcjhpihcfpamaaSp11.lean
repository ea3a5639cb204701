/-
  The space's Left.
-/
import Derived.Test.YtdcjhpihcfpamaaSp10
namespace Go.Proofs.Ytdcjhpihcfpamaa
open Go.RowKit Go.XK

/-- What Left's function and free leave to each other. -/
structure LeftJ (w0 : World) (own : Nat → Nat) (ct cl cd pt pl ps f g cg p5 nn nb : Nat) (T : Tx) (L : Lg) (D : Dsk) (m : List UInt8) (k : Nat) (W : World) : Prop where
  tl : TL W own ct cl cd pt pl T L D
  sp : SpR W ps pt f
  bg : W.ownsRow 0 5 1 (.slice (some ⟨g, 0, none⟩) nn cg) nn (byteCells m)
  b5 : blk W p5 #[.int .i64 (freeNums f nb m k).length] 3
  st : Step (· = cl) own w0 own W
  le0 : w0.heap.size ≤ p5

section
variable {own : Nat → Nat} {ct cl cd pt pl ps f g cg p5 nn nb : Nat} {T : Tx} {L : Lg} {D : Dsk} {m : List UInt8} {W w0 : World}

set_option maxRecDepth 20000 in
set_option maxHeartbeats 400000 in
theorem left_fn {k : Nat} (h : LeftJ w0 own ct cl cd pt pl ps f g cg p5 nn nb T L D m k W) (hF : Fresh own w0.heap.size ct cl cd) (hk : k ≤ 100000) (hu : usedB f nb m k = false) :
    Calls Try.prog 47 #[.int .i64 k, .pointer (some ⟨p5, 0, none⟩)] W fun e w' => e = .returned (.bool true) ∧ LeftJ w0 own ct cl cd pt pl ps f g cg p5 nn nb T L D m (k + 1) w' := by
  have hl := freeNums_length f nb m k
  have hc := h.b5.cell
  have hfr := h.b5.free
  have hft := freeNums_take (f := f) (nb := nb) (m := m) hu
  generalize hfl : (freeNums f nb m k).length = n at *
  have hn2 : (freeNums f nb m (k + 1)).length = n + 1 := by rw [hft, List.length_append, hfl]; rfl
  have Hn2 := Lib.hid hn2; clear hn2 hft
  have Hfl := Lib.hid hfl; clear hfl
  have hb5 : blk W p5 #[.int .i64 n] 3 := by have := h.b5; rw [Hfl.out] at this; exact this
  have hf5 := hF p5 h.le0
  have hI := Lib.hid h
  clear h
  go_enter Try.func47, Try.ntmps47
  go_wp2
  go_ret
  have h := hI.out
  refine ⟨rfl, ⟨h.tl.frame fun b hb hq => ⟨Below.heap_setCell _ _ _ _ (fun e => ?_), rfl⟩, h.sp.of_same (Below.heap_setCell _ _ _ _ (blk.ne h.sp.cells hb5 (by decide))),
    ownsRow_setCell_other h.bg (a := ⟨p5, 0, none⟩) (row_ne h.bg hb5 (by decide)) _, ?_, h.st.setCell _ (.inl h.le0), h.le0⟩⟩
  · subst e
    rcases hq with q | q | q
    · exact hf5.1 q
    · exact hf5.2.1 q
    · exact hf5.2.2 q
  · rw [Hn2.out]
    exact (hb5.set 0 (.int .i64 ((n : Int) + 1))).eq (by simp)

theorem enter_left_fn (args : Array Value) (W : World) : (callFunc 47 args).run Try.prog W = .ok (.enter 47 args) W := by kernel_rfl

theorem left_yields {B : Nat} (hF : Fresh own w0.heap.size ct cl cd) (hB2 : B ≤ 100000) :
    Yields own ct cl cd pt pl ps f g nb B 47 T L D m #[.pointer (some ⟨p5, 0, none⟩)]
      (LeftJ w0 own ct cl cd pt pl ps f g cg p5 nn nb T L D m) (fun _ => False) where
  en := enter_left_fn
  tl := fun _ _ h => h.tl
  sp := fun _ _ h => h.sp
  by_ := fun _ _ h => bytesAt_row h.bg
  dr := fun _ _ q h => ⟨h.tl.drewN q, h.sp.of_drewN rfl, h.bg, h.b5, h.st.drewN q, h.le0⟩
  skip := fun k W h _ hu => ⟨h.tl, h.sp, h.bg, by rw [freeNums_skip hu]; exact h.b5, h.st, h.le0⟩
  yes := fun k W h hk hu => (left_fn h hF (by omega) hu).mono fun _ _ hh => .inl hh

end

section
variable {w : World} {own : Nat → Nat} {ct cl cd pt pl ps f : Nat} {T : Tx} {L : Lg} {D : Dsk}

/-- What Left answers. -/
def leftP (T : Tx) (L : Lg) (D : Dsk) (f : Nat) : Nat := if T.over then 0 else (freeNums f (nbOf (blocksOf L D)) (bitsTo T L D f (nbOf (blocksOf L D))) (blocksOf L D)).length

def LeftPost (w : World) (own : Nat → Nat) (ct cl cd pt pl ps f : Nat) (T : Tx) (L : Lg) (D : Dsk) (n : Nat) (e : Ending) (w' : World) : Prop :=
  e = .returned (.int .i64 n) ∧ TL w' own ct cl cd pt pl T L D ∧ Step (· = cl) own w own w' ∧ SpR w' ps pt f

set_option maxRecDepth 20000 in
set_option maxHeartbeats 1000000 in
theorem space_Left (h : TL w own ct cl cd pt pl T L D) (hs : SpR w ps pt f) (hps : own ps ≠ cl) (hF : Fresh own w.heap.size ct cl cd) (hf : f + nbOf (blocksOf L D) ≤ blocksOf L D) :
    Calls Try.prog 16 #[.pointer (some ⟨ps, 0, none⟩)] w (LeftPost w own ct cl cd pt pl ps f T L D (leftP T L D f)) := by
  have hnb := nb_le h.ld
  cases hov : T.over with
  | true =>
    have hu : leftP T L D f = 0 := by simp [leftP, hov]
    have HBm := Lib.hid (space_bitmap_over h hs hov hps (by omega))
    have Hu := Lib.hid hu; clear hu hov
    go_enter Try.func16, Try.ntmps16
    go_wp2_with (go_at_call 40; refine HBm.out.mono ?_; rintro e w1 ⟨rfl, h1, hS1, hs1⟩)
    go_ret
    rw [Hu.out]
    exact ⟨rfl, h1, hS1, hs1⟩
  | false =>
    have HBm := Lib.hid (space_bitmap h hs hf hov hps hF)
    have hml := bitsTo_length h hov (nbOf (blocksOf L D)) hf
    have hup : leftP T L D f = (freeNums f (nbOf (blocksOf L D)) (bitsTo T L D f (nbOf (blocksOf L D))) (blocksOf L D)).length := by simp [leftP, hov]
    generalize bitsTo T L D f (nbOf (blocksOf L D)) = m at *
    have Hup := Lib.hid hup; clear hup
    have Hml := Lib.hid hml; clear hml
    clear hov
    have hmk : ∀ (fn : Fn) (first cap : Array Value) (w : World), (Instr.makeFunc fn first cap).run Try.prog w = .ok (.func fn first cap) w := fun _ _ _ _ => rfl
    go_enter Try.func16, Try.ntmps16
    go_wp2_with fail
    refine HBm.out.mono ?_; rintro e w1 ⟨h1, hS1, hs1, v, rfl, hr1⟩
    obtain ⟨g, cg, cur, rfl, hgb, -⟩ := row_open (row_zero hr1) (by rw [Hml.out]; omega)
    have hlt1 := hs1.cells.lt
    have hJ : LeftJ w own ct cl cd pt pl ps f g cg w1.heap.size m.length (nbOf (blocksOf L D)) T L D m (f + nbOf (blocksOf L D)) (w1.alloc (.cells #[.int .i64 0] 3)) :=
      ⟨h1.frame fun b hb _ => ⟨Below.heap_alloc _ _ _ hb, rfl⟩, hs1.of_same (Below.heap_alloc _ _ _ hlt1), (row_zero hr1).alloc _, by rw [freeNums_start]; exact blk.new _ _ _, hS1.alloc _, hS1.size⟩
    have HFr := Lib.hid (space_free (w := w1.alloc (.cells #[.int .i64 0] 3)) g cg m.length 47 m _ _ _ (left_yields (nb := nbOf (blocksOf L D)) (B := blocksOf L D) (T := T) (L := L) (D := D) (m := m) (cg := cg) (nn := m.length) (p5 := w1.heap.size) (g := g) (f := f) (ps := ps) (pt := pt) (pl := pl) hF (by omega)) hf rfl Hml.out hJ)
    clear hJ hgb hr1 h1 hS1 hs1
    go_wp2_with fail
    refine HFr.out.mono ?_
    rintro e w2 ⟨rfl, hJ2 | hE⟩
    · have hc2 := hJ2.b5.cell
      rw [← Hup.out] at hc2
      have hJ3 := Lib.hid hJ2; clear hJ2
      go_wp2
      go_ret
      exact ⟨rfl, hJ3.out.tl, hJ3.out.st, hJ3.out.sp⟩
    · exact hE.elim

end
end Go.Proofs.Ytdcjhpihcfpamaa
