/-
  The space's bitmap where the transaction is over; Used, Left.
-/
import Derived.Test.YtdcjhpihcfpamaaSp9
namespace Go.Proofs.Ytdcjhpihcfpamaa
open Go.RowKit Go.XK

section
variable {w : World} {own : Nat → Nat} {ct cl cd pt pl ps f : Nat} {T : Tx} {L : Lg} {D : Dsk}

def BitmapOver (w : World) (own : Nat → Nat) (ct cl cd pt pl ps f : Nat) (T : Tx) (L : Lg) (D : Dsk) (e : Ending) (w' : World) : Prop :=
  e = .returned (.tuple #[.slice none 0 0, .int .i64 8]) ∧ TL w' own ct cl cd pt pl T L D ∧ Step (· = cl) own w own w' ∧ SpR w' ps pt f

theorem readTx_over (h : T.over = true) (n : Int) : readTx T L D n = (ByteArray.empty, 8) := by unfold readTx; rw [if_pos h]

set_option maxRecDepth 20000 in
set_option maxHeartbeats 1000000 in
theorem space_bitmap_over (h : TL w own ct cl cd pt pl T L D) (hs : SpR w ps pt f) (hov : T.over = true) (hps : own ps ≠ cl) (hff : f ≤ 100000) :
    Calls Try.prog 40 #[.pointer (some ⟨ps, 0, none⟩)] w (BitmapOver w own ct cl cd pt pl ps f T L D) := by
  have hnb := nb_le h.ld
  have HB := Lib.hid (fun W (hW : TL W own ct cl cd pt pl T L D) => space_blocks hW)
  generalize nbOf (blocksOf L D) = nb at *
  have hnb1 : (0 : Int) < (nb : Int) := by omega
  have hc := hs.cells.cell
  have Hov := Lib.hid hov; clear hov
  go_enter Try.func40, Try.ntmps40
  go_wp2_with fail
  refine (HB.out _ h).mono ?_; rintro e w1 ⟨rfl, q, hw⟩
  have h1 := h.of_drewN hw
  have hS1 := Step.of_drewN (S := (· = cl)) (own := own) hw
  have hs1 := hs.of_drewN hw
  have hc1 := hs1.cells.cell
  have HR := Lib.hid (tl_Read h1.drew (f : Int))
  rw [readTx_over Hov.out] at HR
  have hwf : IntKind.i64.wrap (f : Int) = (f : Int) := IntWalk.i64_in _ (by omega)
  clear hw hc h hs
  go_wp2
  refine wp_loop_rounds 1 ?_
  rw [rounds_succ]
  go_wp2_with fail
  go_region_held3 (fun w' => w'.cell? ⟨ps, 0, none⟩ = some (.pointer (some ⟨pt, 0, none⟩)) ∧ w'.cell? ⟨ps, 1, none⟩ = some (.int .i64 f))
    (first | exact ⟨hc1 0, hc1 1⟩ | exact hK2)
    ((go_at_call 14; refine HR.out.mono ?_; rintro e w2 ⟨rfl, h2, hS2⟩; have hs2 := hs1.of_same (hS2.same ps hs1.cells.lt (fun k => hps k)); have hK2 := And.intro (hs2.cells.cell 0) (hs2.cells.cell 1)))
  go_wp2
  go_ret2
  exact ⟨rfl, h2, hS1.drew.trans hS2, hs2⟩

/-- What Used answers. -/
def usedP (T : Tx) (L : Lg) (D : Dsk) (f : Nat) (n : Int) : Bool :=
  !T.over && (decide (0 ≤ n ∧ n < blocksOf L D) && usedB f (nbOf (blocksOf L D)) (bitsTo T L D f (nbOf (blocksOf L D))) n.toNat)

def UsedPost (w : World) (own : Nat → Nat) (ct cl cd pt pl ps f : Nat) (T : Tx) (L : Lg) (D : Dsk) (b : Bool) (e : Ending) (w' : World) : Prop :=
  e = .returned (.bool b) ∧ TL w' own ct cl cd pt pl T L D ∧ Step (· = cl) own w own w' ∧ SpR w' ps pt f

set_option maxRecDepth 20000 in
set_option maxHeartbeats 1000000 in
theorem space_Used (h : TL w own ct cl cd pt pl T L D) (hs : SpR w ps pt f) (n : Int) (hps : own ps ≠ cl) (hF : Fresh own w.heap.size ct cl cd) (hf : f + nbOf (blocksOf L D) ≤ blocksOf L D) :
    Calls Try.prog 13 #[.pointer (some ⟨ps, 0, none⟩), .int .i64 n] w (UsedPost w own ct cl cd pt pl ps f T L D (usedP T L D f n)) := by
  have hnb := nb_le h.ld
  cases hov : T.over with
  | true =>
    have hu : usedP T L D f n = false := by simp [usedP, hov]
    have HBm := Lib.hid (space_bitmap_over h hs hov hps (by omega))
    have Hu := Lib.hid hu; clear hu hov
    go_enter Try.func13, Try.ntmps13
    go_wp2_with (go_at_call 40; refine HBm.out.mono ?_; rintro e w1 ⟨rfl, h1, hS1, hs1⟩)
    go_ret
    rw [Hu.out]
    exact ⟨rfl, h1, hS1, hs1⟩
  | false =>
    have HBm := Lib.hid (space_bitmap h hs hf hov hps hF)
    have hml := bitsTo_length h hov (nbOf (blocksOf L D)) hf
    have hup : usedP T L D f n = (decide (0 ≤ n ∧ n < blocksOf L D) && usedB f (nbOf (blocksOf L D)) (bitsTo T L D f (nbOf (blocksOf L D))) n.toNat) := by simp [usedP, hov]
    generalize bitsTo T L D f (nbOf (blocksOf L D)) = m at *
    have Hup := Lib.hid hup; clear hup
    have Hml := Lib.hid hml; clear hml
    clear hov
    by_cases hn : n < 0
    · have hd : decide (0 ≤ n ∧ n < blocksOf L D) = false := by simp; omega
      have Hd := Lib.hid hd; clear hd
      go_enter Try.func13, Try.ntmps13
      go_wp2_with (go_at_call 40; refine HBm.out.mono ?_; rintro e w1 ⟨h1, hS1, hs1, v, rfl, hr1⟩)
      go_ret
      rw [Hup.out, Hd.out]
      exact ⟨rfl, h1, hS1, hs1⟩
    · have hn0 : 0 ≤ n := by omega
      by_cases hb : n < blocksOf L D
      · have hd : decide (0 ≤ n ∧ n < blocksOf L D) = true := by simp; omega
        have Hd := Lib.hid hd; clear hd
        obtain ⟨k, rfl⟩ := Int.eq_ofNat_of_zero_le hn0
        have hkb : k < blocksOf L D := by omega
        go_enter Try.func13, Try.ntmps13
        go_wp2_with fail
        refine HBm.out.mono ?_; rintro e w1 ⟨h1, hS1, hs1, v, rfl, hr1⟩
        obtain ⟨g, cg, cur, rfl, -⟩ := row_open (row_zero hr1) (by rw [Hml.out]; omega)
        have hc1 := hs1.cells.cell
        go_wp2_with fail
        refine (tl_Blocks h1).mono ?_; rintro e w2 ⟨rfl, q, hw⟩
        have h2 := h1.of_drewN hw
        have hS2 := hS1.trans (Step.of_drewN hw)
        have hs2 := hs1.of_drewN hw
        have hr2 : ∀ j (hj : j < m.length), w2.cell? ⟨g, j, none⟩ = some (.int .u8 (m[j].toNat : Int)) := by rw [hw]; exact (bytes_cell hr1).2
        have HU := Lib.hid (space_used h2 hs2 hf k g cg m hr2 (by rw [Hml.out]; unfold nbOf; omega) (by rw [Hml.out]; omega))
        clear hw hc1 h1 hS1 hs1 hr1 hr2
        go_wp2_with fail
        refine HU.out.mono ?_; rintro e w3 ⟨rfl, q3, hw⟩
        have h3 := h2.of_drewN hw
        have hS3 := hS2.trans (Step.of_drewN hw)
        have hs3 := hs2.of_drewN hw
        clear hw HU
        rw [Hd.out] at Hup
        have hub : usedB f (nbOf (blocksOf L D)) m ((k : Int).toNat) = (decide (k < f + nbOf (blocksOf L D)) || bitAt m k) := rfl
        rw [Bool.true_and, hub] at Hup
        generalize (decide (k < f + nbOf (blocksOf L D)) || bitAt m k) = u at *
        clear hub
        go_wp2
        go_ret
        rw [Hup.out]
        exact ⟨rfl, h3, hS3, hs3⟩
      · have hd : decide (0 ≤ n ∧ n < blocksOf L D) = false := by simp; omega
        have hb2 : (blocksOf L D : Int) ≤ n := by omega
        have Hd := Lib.hid hd; clear hd
        go_enter Try.func13, Try.ntmps13
        go_wp2_with fail
        refine HBm.out.mono ?_; rintro e w1 ⟨h1, hS1, hs1, v, rfl, hr1⟩
        have hc1 := hs1.cells.cell
        go_wp2_with fail
        refine (tl_Blocks h1).mono ?_; rintro e w2 ⟨rfl, q, hw⟩
        have h2 := h1.of_drewN hw
        have hS2 := hS1.trans (Step.of_drewN hw)
        have hs2 := hs1.of_drewN hw
        clear hw
        go_wp2
        go_ret
        rw [Hup.out, Hd.out]
        exact ⟨rfl, h2, hS2, hs2⟩

end
end Go.Proofs.Ytdcjhpihcfpamaa
