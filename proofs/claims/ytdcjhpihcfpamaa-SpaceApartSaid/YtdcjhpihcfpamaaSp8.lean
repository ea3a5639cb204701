/-
  The space's Alloc.
-/
import Derived.Test.YtdcjhpihcfpamaaSp7
namespace Go.Proofs.Ytdcjhpihcfpamaa
open Go.RowKit Go.XK

/-- The free numbers below one. -/
def freeNums (f nb : Nat) (m : List UInt8) (k : Nat) : List Nat := (List.range k).filter fun j => !usedB f nb m j

theorem freeNums_skip {f nb : Nat} {m : List UInt8} {k : Nat} (h : usedB f nb m k = true) : freeNums f nb m (k + 1) = freeNums f nb m k := by
  simp [freeNums, List.range_succ, h]
theorem freeNums_take {f nb : Nat} {m : List UInt8} {k : Nat} (h : usedB f nb m k = false) : freeNums f nb m (k + 1) = freeNums f nb m k ++ [k] := by
  simp [freeNums, List.range_succ, h]
theorem freeNums_start (f nb : Nat) (m : List UInt8) : freeNums f nb m (f + nb) = [] := by
  simp only [freeNums, List.filter_eq_nil_iff, List.mem_range]
  intro j hj
  have : decide (j < f + nb) = true := by simpa using hj
  simp [usedB, this]
theorem freeNums_length (f nb : Nat) (m : List UInt8) (k : Nat) : (freeNums f nb m k).length ≤ k := by
  have := List.length_filter_le (fun j => !usedB f nb m j) (List.range k)
  simpa [freeNums] using this
theorem freeNums_prefix (f nb : Nat) (m : List UInt8) (k : Nat) : ∀ j, ∃ r, freeNums f nb m (k + j) = freeNums f nb m k ++ r
  | 0 => ⟨[], by simp⟩
  | j + 1 => by
    obtain ⟨r, hr⟩ := freeNums_prefix f nb m k j
    cases hu : usedB f nb m (k + j) with
    | true => exact ⟨r, by rw [← Nat.add_assoc, freeNums_skip hu, hr]⟩
    | false => exact ⟨r ++ [k + j], by rw [← Nat.add_assoc, freeNums_take hu, hr, List.append_assoc]⟩
theorem freeNums_take_n {f nb : Nat} {m : List UInt8} {k B n : Nat} (hk : k ≤ B) (h : (freeNums f nb m k).length = n) : (freeNums f nb m B).take n = freeNums f nb m k := by
  obtain ⟨r, hr⟩ := freeNums_prefix f nb m k (B - k)
  rw [show k + (B - k) = B by omega] at hr
  rw [hr, ← h, List.take_left']
  rfl
theorem freeNums_mem {f nb : Nat} {m : List UInt8} {k j : Nat} : j ∈ freeNums f nb m k ↔ j < k ∧ usedB f nb m j = false := by
  simp [freeNums]

section
variable {w : World} {own : Nat → Nat} {ct cl cd pt pl ps f : Nat} {T : Tx} {L : Lg} {D : Dsk}

/-- What Alloc answers and leaves. -/
def AllocPost (w : World) (own : Nat → Nat) (ct cl cd pt pl ps f : Nat) (T : Tx) (L : Lg) (D : Dsk) (n : Int) (e : Ending) (w' : World) : Prop :=
  Step (fun c => c = cl ∨ c = ct) own w own w' ∧ SpR w' ps pt f ∧
  (if T.over then e = .returned (.tuple #[.slice none 0 0, .int .i64 8]) ∧ TL w' own ct cl cd pt pl T L D
   else if n < 0 then e = .returned (.tuple #[.slice none 0 0, .int .i64 1]) ∧ TL w' own ct cl cd pt pl T L D
   else
    let m := bitsTo T L D f (nbOf (blocksOf L D))
    let l := (freeNums f (nbOf (blocksOf L D)) m (blocksOf L D)).take n.toNat
    if l.length < n.toNat then e = .returned (.tuple #[.slice none 0 0, .int .i64 40]) ∧ TL w' own ct cl cd pt pl T L D
    else TL w' own ct cl cd pt pl (layTo T L D f m (setBits m l) (nbOf (blocksOf L D))) L D ∧
      ∃ av cv, e = .returned (.tuple #[.slice av l.length cv, .int .i64 0]) ∧ w'.ownsRow w.heap.size 3 1 (.slice av l.length cv) l.length (intCells l))

theorem allocPost_over {n : Int} {e : Ending} {w' : World} (ho : T.over = true) (h : Step (fun c => c = cl ∨ c = ct) own w own w') (h2 : SpR w' ps pt f) (he : e = .returned (.tuple #[.slice none 0 0, .int .i64 8])) (ht : TL w' own ct cl cd pt pl T L D) :
    AllocPost w own ct cl cd pt pl ps f T L D n e w' := ⟨h, h2, by rw [if_pos ho]; exact ⟨he, ht⟩⟩
theorem allocPost_neg {n : Int} {e : Ending} {w' : World} (ho : T.over = false) (hn : n < 0) (h : Step (fun c => c = cl ∨ c = ct) own w own w') (h2 : SpR w' ps pt f) (he : e = .returned (.tuple #[.slice none 0 0, .int .i64 1])) (ht : TL w' own ct cl cd pt pl T L D) :
    AllocPost w own ct cl cd pt pl ps f T L D n e w' := ⟨h, h2, by rw [ho, if_neg (by decide), if_pos hn]; exact ⟨he, ht⟩⟩

set_option maxRecDepth 20000 in
set_option maxHeartbeats 1000000 in
theorem space_Alloc_over (h : TL w own ct cl cd pt pl T L D) (hs : SpR w ps pt f) (hov : T.over = true) (n : Int) (hps : own ps ≠ cl) :
    Calls Try.prog 11 #[.pointer (some ⟨ps, 0, none⟩), .int .i64 n] w (AllocPost w own ct cl cd pt pl ps f T L D n) := by
  have hlt := hs.cells.lt
  have h1 : TL (w.alloc (.cells #[.int .i64 n] 3)) own ct cl cd pt pl T L D := h.frame fun b hb _ => ⟨Below.heap_alloc _ _ _ hb, rfl⟩
  have hs1 : SpR (w.alloc (.cells #[.int .i64 n] 3)) ps pt f := hs.of_same (Below.heap_alloc _ _ _ hlt)
  have hc1 := hs1.cells.cell
  have Hov := Lib.hid hov; clear hov
  go_enter Try.func11, Try.ntmps11
  go_wp2_with (go_at_call 39; refine (space_over h1).mono ?_; rintro e w2 ⟨rfl, h2, hS2⟩; rw [Hov.out])
  go_ret2
  exact allocPost_over Hov.out (((Step.refl _ own w).alloc _).trans (hS2.mono fun _ k => .inl k)) (hs1.of_same (hS2.same ps hs1.cells.lt hps)) rfl h2

set_option maxRecDepth 20000 in
set_option maxHeartbeats 1000000 in
theorem space_Alloc_neg (h : TL w own ct cl cd pt pl T L D) (hs : SpR w ps pt f) (hov : T.over = false) (n : Int) (hn : n < 0) (hps : own ps ≠ cl) (hF : Fresh own w.heap.size ct cl cd) :
    Calls Try.prog 11 #[.pointer (some ⟨ps, 0, none⟩), .int .i64 n] w (AllocPost w own ct cl cd pt pl ps f T L D n) := by
  have hlt := hs.cells.lt
  have h1 : TL (w.alloc (.cells #[.int .i64 n] 3)) own ct cl cd pt pl T L D := h.frame fun b hb _ => ⟨Below.heap_alloc _ _ _ hb, rfl⟩
  have hs1 : SpR (w.alloc (.cells #[.int .i64 n] 3)) ps pt f := hs.of_same (Below.heap_alloc _ _ _ hlt)
  have hb3 := blk.new w #[.int .i64 n] 3
  have hc1 := hs1.cells.cell
  have hF0 := (hF w.heap.size (Nat.le_refl _)).2.1
  have Hov := Lib.hid hov; clear hov
  go_enter Try.func11, Try.ntmps11
  go_wp2_with (go_at_call 39; refine (space_over h1).mono ?_; rintro e w2 ⟨rfl, h2, hS2⟩; rw [Hov.out]; have hb32 := hb3.of_same (hS2.same _ hb3.lt hF0); have hc32 := hb32.cell)
  go_ret2
  exact allocPost_neg Hov.out hn (((Step.refl _ own w).alloc _).trans (hS2.mono fun _ k => .inl k)) (hs1.of_same (hS2.same ps hs1.cells.lt hps)) rfl h2

end
end Go.Proofs.Ytdcjhpihcfpamaa
