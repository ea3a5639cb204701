/-
  The space: placed, keptBack, used.
-/
import Derived.Test.YtdcjhpihcfpamaaSp1
import Derived.Laws.BitsAllLaws
namespace Go.XK
open Go.RowKit

/-- Bytes in a block, from its head. -/
def byteCell (b : UInt8) : Value := .int .u8 (b.toNat : Int)

/-- The bit of a number. -/
def bitAt (m : List UInt8) (n : Nat) : Bool := (m.getD (n / 8) 0).toNat.testBit (n % 8)

def placedP (over : Bool) (B : Nat) (first : Int) : Int := if over then 8 else if first < 0 then 1 else if (B : Int) - nbOf B < first then 40 else 0

theorem placedP_over {B : Nat} {first : Int} : placedP true B first = 8 := rfl
theorem placedP_neg {B : Nat} {first : Int} (h : first < 0) : placedP false B first = 1 := by unfold placedP; rw [if_neg (by decide), if_pos h]
theorem placedP_big {B : Nat} {first : Int} (h : 0 ≤ first) (h2 : (B : Int) - nbOf B < first) : placedP false B first = 40 := by unfold placedP; rw [if_neg (by decide), if_neg (by omega), if_pos h2]
theorem placedP_ok {B : Nat} {first : Int} (h : 0 ≤ first) (h2 : first ≤ (B : Int) - nbOf B) : placedP false B first = 0 := by unfold placedP; rw [if_neg (by decide), if_neg (by omega), if_neg (by omega)]

end Go.XK
namespace Go.Proofs.Ytdcjhpihcfpamaa
open Go.RowKit Go.XK

/-- A space in memory. -/
structure SpR (w : World) (ps pt : Nat) (f : Nat) : Prop where
  cells : blk w ps #[.pointer (some ⟨pt, 0, none⟩), .int .i64 f] 86

section
variable {w w' : World} {own own2 : Nat → Nat} {ct cl cd pt pl ps f : Nat} {T : Tx} {L : Lg} {D : Dsk}

theorem SpR.of_same (h : SpR w ps pt f) (hs : w'.heap[ps]? = w.heap[ps]?) : SpR w' ps pt f := ⟨h.cells.of_same hs⟩
theorem SpR.of_drewN {n : Nat} (h : SpR w ps pt f) (hw : w' = w.drewN n) : SpR w' ps pt f := ⟨h.cells.of_drewN hw⟩

def PlacedPost (w : World) (own : Nat → Nat) (ct cl cd pt pl : Nat) (T : Tx) (L : Lg) (D : Dsk) (first : Int) (e : Ending) (w' : World) : Prop :=
  TL w' own ct cl cd pt pl T L D ∧ Step (· = cl) own w own w' ∧
  ((placedP T.over (blocksOf L D) first = 0 ∧ ∃ ps, e = .returned (.tuple #[.pointer (some ⟨ps, 0, none⟩), .int .i64 0]) ∧ blk w' ps #[.pointer (some ⟨pt, 0, none⟩), .int .i64 first] 86 ∧ w.heap.size ≤ ps) ∨
   (placedP T.over (blocksOf L D) first ≠ 0 ∧ e = .returned (.tuple #[.pointer none, .int .i64 (placedP T.over (blocksOf L D) first)])))

set_option maxHeartbeats 400000 in
theorem space_placed (h : TL w own ct cl cd pt pl T L D) (first : Int) :
    Calls Try.prog 68 #[.pointer (some ⟨pt, 0, none⟩), .int .i64 first] w (PlacedPost w own ct cl cd pt pl T L D first) := by
  have hb := nb_le h.ld
  cases hov : T.over with
  | true =>
    have Hov := Lib.hid hov; clear hov
    go_enter Try.func68, Try.ntmps68
    go_wp2_with (go_at_call 39; refine (space_over h).mono ?_; rintro e w1 ⟨rfl, h1, hS1⟩; rw [Hov.out])
    go_ret2
    exact ⟨h1, hS1, .inr (by rw [Hov.out, placedP_over]; exact ⟨by decide, rfl⟩)⟩
  | false =>
    have Hov := Lib.hid hov; clear hov
    by_cases hf : first < 0
    · go_enter Try.func68, Try.ntmps68
      go_wp2_with (go_at_call 39; refine (space_over h).mono ?_; rintro e w1 ⟨rfl, h1, hS1⟩; rw [Hov.out])
      go_ret2
      exact ⟨h1, hS1, .inr (by rw [Hov.out, placedP_neg hf]; exact ⟨by decide, rfl⟩)⟩
    · have hf' : 0 ≤ first := by omega
      by_cases hg : (blocksOf L D : Int) - nbOf (blocksOf L D) < first
      · go_enter Try.func68, Try.ntmps68
        go_wp2_with fail
        refine (space_over h).mono ?_; rintro e w1 ⟨rfl, h1, hS1⟩; rw [Hov.out]
        go_wp2_with fail
        refine (tl_Blocks h1).mono ?_; rintro e w2 ⟨rfl, k, hw⟩
        have h2 := h1.of_drewN hw
        have hS2 := hS1.trans (Step.of_drewN hw)
        clear hw hS1 h1
        go_wp2_with fail
        refine (space_blocks h2).mono ?_; rintro e w3 ⟨rfl, k, hw⟩
        have h3 := h2.of_drewN hw
        have hS3 := hS2.trans (Step.of_drewN hw)
        clear hw hS2 h2
        go_wp2
        go_ret2
        exact ⟨h3, hS3, .inr (by rw [Hov.out, placedP_big hf' hg]; exact ⟨by decide, rfl⟩)⟩
      · have hg' : first ≤ (blocksOf L D : Int) - nbOf (blocksOf L D) := by omega
        go_enter Try.func68, Try.ntmps68
        go_wp2_with fail
        refine (space_over h).mono ?_; rintro e w1 ⟨rfl, h1, hS1⟩; rw [Hov.out]
        go_wp2_with fail
        refine (tl_Blocks h1).mono ?_; rintro e w2 ⟨rfl, k, hw⟩
        have h2 := h1.of_drewN hw
        have hS2 := hS1.trans (Step.of_drewN hw)
        clear hw hS1 h1
        go_wp2_with fail
        refine (space_blocks h2).mono ?_; rintro e w3 ⟨rfl, k, hw⟩
        have h3 := h2.of_drewN hw
        have hS3 := hS2.trans (Step.of_drewN hw)
        clear hw hS2 h2
        go_wp2
        go_ret2
        refine ⟨h3.frame fun b hb _ => ⟨Below.heap_alloc _ _ _ hb, rfl⟩, hS3.alloc _, .inl (by rw [Hov.out, placedP_ok hf' hg']; exact ⟨rfl, w3.heap.size, rfl, blk.new _ _ _, hS3.size⟩)⟩

set_option maxHeartbeats 400000 in
theorem space_keptBack (h : TL w own ct cl cd pt pl T L D) (hs : SpR w ps pt f) (hf : f + nbOf (blocksOf L D) ≤ blocksOf L D) (n : Int) :
    Calls Try.prog 46 #[.pointer (some ⟨ps, 0, none⟩), .int .i64 n] w fun r w' => r = .returned (.bool (decide (n < (f + nbOf (blocksOf L D) : Nat)))) ∧ ∃ k, w' = w.drewN k := by
  have hb := nb_le h.ld
  have hc := hs.cells.cell
  have HB := Lib.hid (fun k => space_blocks (h.drewN k))
  generalize nbOf (blocksOf L D) = nb at *
  generalize blocksOf L D = B at *
  have h63 : IntKind.i64.wrap ((f : Int) + (nb : Int)) = (f : Int) + nb := IntWalk.i64_in _ (by omega)
  go_enter Try.func46, Try.ntmps46
  go_wp2
  go_quiet ((go_at_call 69; refine Calls.quiet_of (HB.out _)))
  go_wp2
  go_ret
  exact ⟨rfl, _, rfl⟩

theorem bit_walk (b i : Nat) (hb : b < 256) : (bits BinOp.and IntKind.u8 ((b : Int) / 2 ^ i) 1 == 1) = b.testBit i := by
  have e : ((b : Int) / 2 ^ i) = ((b / 2 ^ i : Nat) : Int) := by simp
  have hlt : b / 2 ^ i < 256 := Nat.lt_of_le_of_lt (Nat.div_le_self _ _) hb
  have h1 := u8_and_nat (b / 2 ^ i) 1 hlt (by decide)
  rw [e]
  rw [show ((1 : Nat) : Int) = 1 from rfl] at h1
  rw [h1, Nat.and_one_is_mod, Nat.testBit_eq_decide_div_mod_eq, Bool.eq_iff_iff, beq_iff_eq, decide_eq_true_eq]
  omega

set_option maxHeartbeats 400000 in
theorem space_used (h : TL w own ct cl cd pt pl T L D) (hs : SpR w ps pt f) (hf : f + nbOf (blocksOf L D) ≤ blocksOf L D) (n : Nat) (g cap : Nat) (m : List UInt8)
    (hm : ∀ j (hj : j < m.length), w.cell? ⟨g, j, none⟩ = some (.int .u8 (m[j].toNat : Int))) (hn : n < 8 * m.length) (hl : m.length ≤ 100000) :
    Calls Try.prog 45 #[.pointer (some ⟨ps, 0, none⟩), .slice (some ⟨g, 0, none⟩) m.length cap, .int .i64 n] w fun r w' =>
      r = .returned (.bool (decide (n < f + nbOf (blocksOf L D)) || bitAt m n)) ∧ ∃ k, w' = w.drewN k := by
  have HK := Lib.hid (space_keptBack h hs hf n)
  generalize nbOf (blocksOf L D) = nb at *
  by_cases hk : n < f + nb
  · have hk1 : decide ((n : Int) < (f + nb : Nat)) = true := by simp; omega
    have hk2 : decide (n < f + nb) = true := by simp; omega
    rw [hk1] at HK
    clear hk1
    go_enter Try.func45, Try.ntmps45
    go_wp2_with (go_at_call 46; refine HK.out.mono ?_; rintro e w1 ⟨rfl, k, hw⟩; have Hw := Lib.hid hw; clear hw)
    go_ret
    exact ⟨by rw [hk2]; rfl, k, Hw.out⟩
  · have hk1 : decide ((n : Int) < (f + nb : Nat)) = false := by simp; omega
    have hk2 : decide (n < f + nb) = false := by simp; omega
    rw [hk1] at HK
    clear hk1
    have hx := hm (n / 8) (by omega)
    go_enter Try.func45, Try.ntmps45
    go_wp2_with (go_at_call 46; refine HK.out.mono ?_; rintro e w1 ⟨rfl, k, hw⟩; have hx1 : w1.cell? ⟨g, n / 8, none⟩ = some (.int .u8 (m[n / 8].toNat : Int)) := (by rw [hw]; exact hx); have Hw := Lib.hid hw; clear hw)
    go_ret
    refine ⟨?_, k, Hw.out⟩
    have hb := bit_walk m[n / 8].toNat (n % 8) (UInt8.toNat_lt _)
    have e : bitAt m n = m[n / 8].toNat.testBit (n % 8) := by
      unfold bitAt
      rw [getD_at _ _ _ (by omega)]
    rw [hk2, e, ← hb]
    rfl

end
end Go.Proofs.Ytdcjhpihcfpamaa
