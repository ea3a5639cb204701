/-
  The space's Alloc, where the number is none below 0.
-/
import Derived.Test.YtdcjhpihcfpamaaSp8
namespace Go.Proofs.Ytdcjhpihcfpamaa
open Go.RowKit Go.XK

theorem enter_alloc_fn (args : Array Value) (W : World) : (callFunc 43 args).run Try.prog W = .ok (.enter 43 args) W := by kernel_rfl

/-- What free and Alloc's function leave to each other. -/
def AllocJ (w0 : World) (own : Nat → Nat) (ct cl cd pt pl ps f g cg p3 p8 p9 gi ci nn nb : Nat) (n : Nat) (T : Tx) (L : Lg) (D : Dsk) (m : List UInt8) (k : Nat) (W : World) : Prop :=
  (freeNums f nb m k).length ≤ n ∧ AllocI w0 own ct cl cd pt pl ps f g cg p3 p8 p9 gi ci nn n T L D m (freeNums f nb m k) (freeNums f nb m k) W
def AllocE (w0 : World) (own : Nat → Nat) (ct cl cd pt pl ps f g cg p3 p8 p9 gi ci nn nb B : Nat) (n : Nat) (T : Tx) (L : Lg) (D : Dsk) (m : List UInt8) (W : World) : Prop :=
  AllocI w0 own ct cl cd pt pl ps f g cg p3 p8 p9 gi ci nn n T L D m ((freeNums f nb m B).take n) ((freeNums f nb m B).take n) W

theorem alloc_yields {w0 : World} {own : Nat → Nat} {ct cl cd pt pl ps f g cg p3 p8 p9 gi ci nn nb B : Nat} {n : Nat} {T : Tx} {L : Lg} {D : Dsk} {m : List UInt8}
    (hF : Fresh own (p3 + 1) ct cl cd) (hpg : p3 + 1 ≤ gi) (hp8 : p3 < p8) (hB : B ≤ 8 * nn) (hnn : nn ≤ 100000) (hm : m.length = nn) (hB2 : B ≤ 100000) :
    Yields own ct cl cd pt pl ps f g nb B 43 T L D m #[.pointer (some ⟨p8, 0, none⟩), .pointer (some ⟨p3, 0, none⟩), .pointer (some ⟨p9, 0, none⟩)]
      (AllocJ w0 own ct cl cd pt pl ps f g cg p3 p8 p9 gi ci nn nb n T L D m) (AllocE w0 own ct cl cd pt pl ps f g cg p3 p8 p9 gi ci nn nb B n T L D m) where
  en := enter_alloc_fn
  tl := fun _ _ h => h.2.tl
  sp := fun _ _ h => h.2.sp
  by_ := fun _ _ h => bytesAt_row h.2.bg
  dr := fun _ _ q h => ⟨h.1, h.2.drewN q⟩
  skip := fun k W h _ hu => by unfold AllocJ; rw [freeNums_skip hu]; exact h
  yes := fun k W h hk hu => by
    have hl := freeNums_length f nb m k
    rcases Nat.lt_or_ge (freeNums f nb m k).length n with hlt | hge
    · refine (alloc_fn_yes h.2 k hlt (by omega) hnn hm (by omega) hF hpg hp8).mono fun e W' hh => .inl ⟨hh.1, ?_⟩
      unfold AllocJ
      rw [freeNums_take hu]
      exact ⟨by simp; omega, hh.2⟩
    · have he : (freeNums f nb m k).length = n := Nat.le_antisymm h.1 hge
      refine (alloc_fn_no h.2 k he).mono fun e W' hh => .inr ⟨hh.1, ?_⟩
      unfold AllocE
      rw [freeNums_take_n (Nat.le_of_lt hk) he]
      exact hh.2

section
variable {w : World} {own : Nat → Nat} {ct cl cd pt pl ps f : Nat} {T : Tx} {L : Lg} {D : Dsk}

theorem allocPost_few {n : Nat} {e : Ending} {w' : World} {m : List UInt8} {l : List Nat} (ho : T.over = false) (hm : bitsTo T L D f (nbOf (blocksOf L D)) = m) (hl : (freeNums f (nbOf (blocksOf L D)) m (blocksOf L D)).take n = l) (hn : l.length < n)
    (h : Step (fun c => c = cl ∨ c = ct) own w own w') (h2 : SpR w' ps pt f) (he : e = .returned (.tuple #[.slice none 0 0, .int .i64 40])) (ht : TL w' own ct cl cd pt pl T L D) :
    AllocPost w own ct cl cd pt pl ps f T L D n e w' := by
  refine ⟨h, h2, ?_⟩
  rw [ho, if_neg (by decide), if_neg (by omega)]
  simp only [Int.toNat_natCast, hm, hl]
  rw [if_pos hn]
  exact ⟨he, ht⟩
theorem allocPost_ok {n : Nat} {e : Ending} {w' : World} {m : List UInt8} {l : List Nat} (ho : T.over = false) (hm : bitsTo T L D f (nbOf (blocksOf L D)) = m) (hl : (freeNums f (nbOf (blocksOf L D)) m (blocksOf L D)).take n = l) (hn : ¬ l.length < n)
    (h : Step (fun c => c = cl ∨ c = ct) own w own w') (h2 : SpR w' ps pt f) (ht : TL w' own ct cl cd pt pl (layTo T L D f m (setBits m l) (nbOf (blocksOf L D))) L D)
    (he : ∃ av cv, e = .returned (.tuple #[.slice av l.length cv, .int .i64 0]) ∧ w'.ownsRow w.heap.size 3 1 (.slice av l.length cv) l.length (intCells l)) :
    AllocPost w own ct cl cd pt pl ps f T L D n e w' := by
  refine ⟨h, h2, ?_⟩
  rw [ho, if_neg (by decide), if_neg (by omega)]
  simp only [Int.toNat_natCast, hm, hl]
  rw [if_neg hn]
  exact ⟨ht, he⟩

set_option maxRecDepth 20000 in
set_option maxHeartbeats 1000000 in
theorem space_Alloc_ok (h : TL w own ct cl cd pt pl T L D) (hs : SpR w ps pt f) (hov : T.over = false) (n : Nat) (hps : own ps ≠ cl) (hpt : own ps ≠ ct) (hF : Fresh own w.heap.size ct cl cd) (hf : f + nbOf (blocksOf L D) ≤ blocksOf L D) :
    Calls Try.prog 11 #[.pointer (some ⟨ps, 0, none⟩), .int .i64 n] w (AllocPost w own ct cl cd pt pl ps f T L D n) := by
  have hlt := hs.cells.lt
  have h1 : TL (w.alloc (.cells #[.int .i64 n] 3)) own ct cl cd pt pl T L D := h.frame fun b hb _ => ⟨Below.heap_alloc _ _ _ hb, rfl⟩
  have hs1 : SpR (w.alloc (.cells #[.int .i64 n] 3)) ps pt f := hs.of_same (Below.heap_alloc _ _ _ hlt)
  have hb3 := blk.new w #[.int .i64 n] 3
  have hc1 := hs1.cells.cell
  have hF0 := (hF w.heap.size (Nat.le_refl _)).2.1
  have hS0 : Step (fun c => c = cl ∨ c = ct) own w own (w.alloc (.cells #[.int .i64 n] 3)) := (Step.refl _ own w).alloc _
  have hnn : ¬ ((n : Int) < 0) := by omega
  have hnb := nb_le h.ld
  have HBm := Lib.hid (fun W (hW : TL W own ct cl cd pt pl T L D) (hsW : SpR W ps pt f) (hFW : Fresh own W.heap.size ct cl cd) => space_bitmap hW hsW hf hov hps hFW)
  have hml := bitsTo_length h hov (nbOf (blocksOf L D)) hf
  generalize hmm : bitsTo T L D f (nbOf (blocksOf L D)) = m at *
  have Hov := Lib.hid hov; clear hov
  have Hml := Lib.hid hml; clear hml
  have Hmm := Lib.hid hmm; clear hmm
  go_enter Try.func11, Try.ntmps11
  go_wp2_with (go_at_call 39; refine (space_over h1).mono ?_; rintro e w2 ⟨rfl, h2, hS2⟩; rw [Hov.out]; have hb32 := hb3.of_same (hS2.same _ hb3.lt hF0); have hc32 := hb32.cell; have hs2 := hs1.of_same (hS2.same ps hs1.cells.lt hps))
  have hS3 := hS0.trans (hS2.mono (S' := fun c => c = cl ∨ c = ct) fun _ k => .inl k)
  clear hS0 hS2 h1 hs1 hb3 hc1 hc32
  refine (HBm.out w2 h2 hs2 (hF.mono hS3.size)).mono ?_
  rintro e w3 ⟨h3, hS4, hs3, v, rfl, hr3⟩
  have hb33 := hb32.of_same (hS4.same _ hb32.lt hF0)
  rw [Hml.out] at hr3
  obtain ⟨g, cg, cur, rfl, hgb, hg1, hg2, hg3, -⟩ := row_open (row_zero hr3) (by omega)
  have hgl := (hr3.lt g rfl).1
  have hS5 := hS3.trans (hS4.mono (S' := fun c => c = cl ∨ c = ct) fun _ k => .inl k)
  have hlt3 := hb32.lt
  clear hS3 hS4 hs2 h2 hb32
  have hmk : ∀ (fn : Fn) (first cap : Array Value) (w : World), (Instr.makeFunc fn first cap).run Try.prog w = .ok (.func fn first cap) w := fun _ _ _ _ => rfl
  have hnn1 : 0 < nbOf (blocksOf L D) * 512 := by omega
  have hnn2 : nbOf (blocksOf L D) * 512 ≤ 100000 := by omega
  have h8 : blocksOf L D ≤ 8 * (nbOf (blocksOf L D) * 512) := by unfold nbOf; omega
  generalize hnnv : nbOf (blocksOf L D) * 512 = nn at *
  have Hnnv := Lib.hid hnnv; clear hnnv
  have hgl3 := hgb.lt
  go_wp2_with fail
  refine (bytes_Clone _ g cg m nn Hml.out hnn2 ((bytesAt_row hr3).of_same (Below.heap_alloc _ _ _ hgl3))).mono ?_
  rintro e w5 ⟨v5, rfl, hr5, hB5⟩
  obtain ⟨gi, ci, cur5, rfl, hgi, hi1, hi2, -, -⟩ := row_open (row_zero hr5) hnn1
  have hgil := (hr5.lt gi rfl).1
  have hp8 : blk w5 w3.heap.size #[.slice none 0 0] 33 := (blk.new w3 #[.slice none 0 0] 33).below hB5 (by simp)
  have hB3 : Below w3.heap.size w3 w5 := ((Below.refl _ _).alloc (Nat.le_refl _) _).trans (hB5.mono (by simp))
  have hI : AllocI w own ct cl cd pt pl ps f g cg w.heap.size w3.heap.size w5.heap.size gi ci nn n T L D m [] [] (w5.alloc (.cells #[.slice (some ⟨gi, 0, none⟩) nn ci] 29)) := by
    have hsz5 := hB3.size
    simp at hgil
    exact ⟨h3.frame fun b hb _ => ⟨(Below.heap_alloc _ _ _ (by omega)).trans (hB3.block b hb), rfl⟩, hs3.of_same ((Below.heap_alloc _ _ _ (by have := hs3.cells.lt; omega)).trans (hB3.block ps hs3.cells.lt)),
      (row_below (row_zero hr3) hB3 (Nat.le_refl _)).alloc _, (hb33.below hB3 hb33.lt).alloc _, ⟨none, 0, hp8.alloc _, World.ownsRow_nil _ _ _ _⟩, blk.new _ _ _,
      row_raise (hr5.alloc _) (fun k hk => by simp only [Value.ownBlock, Option.some.injEq] at hk; omega), ((hS5.below hB3 (Nat.le_refl _)).alloc _), Nat.le_refl _⟩
  have hsz3 := hgl3
  have hp3 : w.heap.size + 1 ≤ gi := by simp at hgil; omega
  have hp8l : w.heap.size < w3.heap.size := by omega
  have hY := alloc_yields (w0 := w) (cg := cg) (p9 := w5.heap.size) (ci := ci) (n := n) (nb := nbOf (blocksOf L D)) (B := blocksOf L D) (T := T) (L := L) (D := D) (pt := pt) (pl := pl) (ps := ps) (f := f) (g := g) (m := m) (hF.mono (Nat.le_succ w.heap.size)) hp3 hp8l h8 hnn2 Hml.out (by omega)
  have HFr := Lib.hid (space_free (w := w5.alloc (.cells #[.slice (some ⟨gi, 0, none⟩) nn ci] 29)) g cg nn 43 m _ _ _ hY hf Hml.out Hnnv.out.symm (by
    unfold AllocJ; rw [freeNums_start]; exact ⟨Nat.zero_le _, hI⟩))
  clear hY hI hB5 hB3 hp8 hgb hgi hr5 hr3 h3 hs3 hb33 hS5 hg3
  go_wp2_with fail
  refine HFr.out.mono ?_
  rintro e w7 ⟨rfl, hJE⟩
  have hE : AllocE w own ct cl cd pt pl ps f g cg w.heap.size w3.heap.size w5.heap.size gi ci nn (nbOf (blocksOf L D)) (blocksOf L D) n T L D m w7 := by
    rcases hJE with hJ | hE
    · unfold AllocE
      rw [List.take_of_length_le hJ.1]
      exact hJ.2
    · exact hE
  clear hJE HFr
  unfold AllocE at hE
  generalize hll : (freeNums f (nbOf (blocksOf L D)) m (blocksOf L D)).take n = l at *
  have Hll := Lib.hid hll; clear hll
  obtain ⟨av, cv, hb8, hr8⟩ := hE.b8
  have hc8 := hb8.cell
  have hc3 := hE.b3.cell
  have hc9 := hE.b9.cell
  by_cases hln : l.length < n
  · have hln2 : (l.length : Int) < (n : Int) := by omega
    go_wp2
    go_ret2
    exact allocPost_few Hov.out Hmm.out Hll.out hln hE.st hE.sp rfl hE.tl
  · have hln2 : (n : Int) ≤ (l.length : Int) := by omega
    have hrg := hE.row
    have hg8 := row_lt hE.bg g rfl
    have hgi8 := row_lt (row_zero hE.row) gi rfl
    have hmlen : m.length = nbOf (blocksOf L D) * 512 := by rw [Hml.out]; exact Hnnv.out.symm
    have hmlen2 : (setBits m l).length = nbOf (blocksOf L D) * 512 := by rw [setBits_length]; exact hmlen
    have HL := Lib.hid (space_lay hE.tl hE.sp hf Hov.out hpt g cg gi ci nn m (setBits m l) Hnnv.out.symm hmlen hmlen2 hg1 hi1 (by unfold maxLen at hg2; omega) (by unfold maxLen at hi2; omega) (bytesAt_row hE.bg) (bytesAt_row hE.row)
      (hF g (by omega)).1 (hF gi (by omega)).1 hg8 hgi8)
    clear hmlen hmlen2
    go_wp2_with fail
    refine HL.out.mono ?_
    rintro e w8 ⟨rfl, h8, hS8, hs8, -, -⟩
    have hb88 := hb8.of_same (hS8.same _ hb8.lt (hF w3.heap.size (by omega)).1)
    have hc88 := hb88.cell
    have hr88 := row_step hr8 hS8 (fun b hb => (hF b (by omega)).1)
    go_wp2
    go_ret2
    exact allocPost_ok Hov.out Hmm.out Hll.out hln (hE.st.trans (hS8.mono fun _ k => .inr k)) hs8 h8 ⟨av, cv, rfl, row_raise hr88 (fun k hk => by have := (hr88.lt k hk).1; omega)⟩

end
end Go.Proofs.Ytdcjhpihcfpamaa
