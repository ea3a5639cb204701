/-
  The space's lay.
-/
import Derived.Test.YtdcjhpihcfpamaaSp4
namespace Go.XK
open Go.RowKit

/-- A block of the bitmap. -/
def chunkB (m : List UInt8) (k : Nat) : List UInt8 := (m.drop (k * 512)).take 512
theorem chunkB_length {m : List UInt8} {k n : Nat} (h : m.length = n * 512) (hk : k < n) : (chunkB m k).length = 512 := by
  simp only [chunkB, List.length_take, List.length_drop, h]; omega
def ofBytes (l : List UInt8) : ByteArray := ⟨l.toArray⟩
theorem ofBytes_size (l : List UInt8) : (ofBytes l).size = l.length := by
  show l.toArray.size = l.length
  simp

end Go.XK
namespace Go.Proofs.Ytdcjhpihcfpamaa
open Go.RowKit Go.XK

theorem conv_at {w : World} {g o : Nat} {l : List UInt8} (h : bytesAt w g o l) (n c : Nat) (hn : l.length = n) :
    (convert 29 9 (.slice (some ⟨g, o, none⟩) n c)).run Try.prog w = .ok (.string (ofBytes l)) w := by
  have h := run_convert_bytes_back (P := Try.prog) w 29 9 5 ⟨g, o, none⟩ c l Try.underlying29 Try.underlying5 Try.underlying9 (by
    intro j hj
    have e : (⟨g, o, none⟩ : Addr).add j = ⟨g, o + j, none⟩ := by unfold Addr.add; split <;> simp_all
    rw [e, h j hj])
  rw [hn] at h
  exact h

section
variable {w w' : World} {own own2 : Nat → Nat} {ct cl cd pt pl ps f : Nat} {T : Tx} {L : Lg} {D : Dsk}

/-- What lay does. -/
def layTo (T : Tx) (L : Lg) (D : Dsk) (f : Nat) (m1 m2 : List UInt8) : Nat → Tx
  | 0 => T
  | k + 1 => if chunkB m1 k = chunkB m2 k then layTo T L D f m1 m2 k else (writeTx (layTo T L D f m1 m2 k) L D ((f : Int) + k) (ofBytes (chunkB m2 k))).1

theorem writeTx_over_eq (T : Tx) (L : Lg) (D : Dsk) (n : Int) (t : ByteArray) : (writeTx T L D n t).1.over = T.over := by
  unfold writeTx; split; rfl; split <;> rfl
theorem layTo_over (T : Tx) (L : Lg) (D : Dsk) (f : Nat) (m1 m2 : List UInt8) : ∀ k, (layTo T L D f m1 m2 k).over = T.over
  | 0 => rfl
  | k + 1 => by
    unfold layTo; split
    · exact layTo_over T L D f m1 m2 k
    · rw [writeTx_over_eq]; exact layTo_over T L D f m1 m2 k
theorem layTo_same {T : Tx} {L : Lg} {D : Dsk} {f : Nat} {m1 m2 : List UInt8} {k : Nat} (h : chunkB m1 k = chunkB m2 k) : layTo T L D f m1 m2 (k + 1) = layTo T L D f m1 m2 k := if_pos h
theorem layTo_new {T : Tx} {L : Lg} {D : Dsk} {f : Nat} {m1 m2 : List UInt8} {k : Nat} (h : chunkB m1 k ≠ chunkB m2 k) :
    layTo T L D f m1 m2 (k + 1) = (writeTx (layTo T L D f m1 m2 k) L D ((f : Int) + k) (ofBytes (chunkB m2 k))).1 := if_neg h

def SLayI (w : World) (own : Nat → Nat) (ct cl cd pt pl ps f g1 g2 : Nat) (T : Tx) (L : Lg) (D : Dsk) (m1 m2 : List UInt8) (k : Nat) (wr : World) : Prop :=
  TL wr own ct cl cd pt pl (layTo T L D f m1 m2 k) L D ∧ Step (· = ct) own w own wr ∧ SpR wr ps pt f ∧ bytesAt wr g1 0 m1 ∧ bytesAt wr g2 0 m2

def SLayPost (w : World) (own : Nat → Nat) (ct cl cd pt pl ps f g1 g2 : Nat) (T : Tx) (L : Lg) (D : Dsk) (m1 m2 : List UInt8) (k : Nat) (e : Ending) (wr : World) : Prop :=
  e = .returned (.int .i64 0) ∧ SLayI w own ct cl cd pt pl ps f g1 g2 T L D m1 m2 k wr

set_option maxRecDepth 20000 in
set_option maxHeartbeats 1000000 in
theorem space_lay (h : TL w own ct cl cd pt pl T L D) (hs : SpR w ps pt f) (hf : f + nbOf (blocksOf L D) ≤ blocksOf L D) (hov : T.over = false) (hps : own ps ≠ ct)
    (g1 c1 g2 c2 n : Nat) (m1 m2 : List UInt8) (hn : n = nbOf (blocksOf L D) * 512) (hl1 : m1.length = nbOf (blocksOf L D) * 512) (hl2 : m2.length = nbOf (blocksOf L D) * 512) (hc1 : n ≤ c1) (hc2 : n ≤ c2)
    (hcm1 : c1 ≤ 9223372036854775807) (hcm2 : c2 ≤ 9223372036854775807)
    (hb1 : bytesAt w g1 0 m1) (hb2 : bytesAt w g2 0 m2) (ho1 : own g1 ≠ ct) (ho2 : own g2 ≠ ct) (hg1 : g1 < w.heap.size) (hg2 : g2 < w.heap.size) :
    Calls Try.prog 44 #[.pointer (some ⟨ps, 0, none⟩), .slice (some ⟨g1, 0, none⟩) n c1, .slice (some ⟨g2, 0, none⟩) n c2] w
      (SLayPost w own ct cl cd pt pl ps f g1 g2 T L D m1 m2 (nbOf (blocksOf L D))) := by
  have hnb := nb_le h.ld
  have HB := Lib.hid (fun W (hW : TL W own ct cl cd pt pl T L D) => space_blocks hW)
  generalize hBB : blocksOf L D = B at *
  generalize nbOf B = nb at *
  have HBB := Lib.hid hBB; clear hBB
  have hc := hs.cells.cell
  have Hl1 := Lib.hid hl1; clear hl1
  have Hl2 := Lib.hid hl2; clear hl2
  have Hov := Lib.hid hov; clear hov
  have hn1 : nb * 512 ≤ n := by omega
  have Hn := Lib.hid hn; clear hn
  go_enter Try.func44, Try.ntmps44
  go_wp2_with fail
  refine (HB.out _ h).mono ?_; rintro e w1 ⟨rfl, q, hw⟩
  have hI : SLayI w own ct cl cd pt pl ps f g1 g2 T L D m1 m2 0 w1 := ⟨h.of_drewN hw, Step.of_drewN hw, hs.of_drewN hw, by rw [hw]; exact hb1.drewN q, by rw [hw]; exact hb2.drewN q⟩
  clear hw hc
  go_wp2
  go_loopw [16] (fun i wr => ∃ k : Nat, k ≤ nb ∧ i = .int .i64 k ∧ SLayI w own ct cl cd pt pl ps f g1 g2 T L D m1 m2 k wr) (fun i _ => nb - (intOf i).toNat)
  case atStart => exact ⟨0, Nat.zero_le _, rfl, hI⟩
  case round =>
    obtain ⟨k, hk, rfl, hI1⟩ := hrel
    clear hI hb1 hb2 h
    have HI1 := Lib.hid hI1
    obtain ⟨h1, hS1, hs1, hb1, hb2⟩ := hI1
    by_cases hlt : k < nb
    · have hx1 : f + k < blocksOf L D := by rw [HBB.out]; omega
      have hc1' := hs1.cells.cell
      have hwa : IntKind.i64.wrap ((k : Int) * 512) = (k : Int) * 512 := IntWalk.i64_in _ (by omega)
      have hwb : IntKind.i64.wrap ((k : Int) + 1) = (k : Int) + 1 := IntWalk.i64_in _ (by omega)
      have hwc : IntKind.i64.wrap (((k : Int) + 1) * 512) = ((k : Int) + 1) * 512 := IntWalk.i64_in _ (by omega)
      have hq1 : (0 : Int) ≤ (k : Int) * 512 := by omega
      have hq2 : (k : Int) * 512 ≤ ((k : Int) + 1) * 512 := by omega
      have hq3 : ((k : Int) + 1) * 512 ≤ (c1 : Int) := by omega
      have hq4 : ((k : Int) + 1) * 512 ≤ (c2 : Int) := by omega
      go_wp2_with fail
      go_quiet (fail)
      clear hwa hwb hwc hq1 hq2 hq3 hq4
      go_wp2_with fail
      rw [show (k + 1) * 512 - k * 512 = 512 from by omega]
      have hk1 : bytesAt (wr.drewN nq) g1 (k * 512) (chunkB m1 k) := by have := (hb1.drewN nq).part (k * 512) 512; rw [Nat.zero_add] at this; exact this
      have hk2 : bytesAt (wr.drewN nq) g2 (k * 512) (chunkB m2 k) := by have := (hb2.drewN nq).part (k * 512) 512; rw [Nat.zero_add] at this; exact this
      have hcl1 := chunkB_length (k := k) Hl1.out hlt
      have hcl2 := chunkB_length (k := k) Hl2.out hlt
      have hsame := @layTo_same T L D f m1 m2 k
      have hnew := @layTo_new T L D f m1 m2 k
      generalize chunkB m1 k = x1 at *
      generalize chunkB m2 k = x2 at *
      refine (bytes_Equal _ g1 (k * 512) (c1 - k * 512) g2 (k * 512) (c2 - k * 512) x1 x2 512 hcl1 hcl2 (by omega) hk1 hk2).mono ?_
      rintro e w2 ⟨rfl, q2, hw2⟩
      have h2 := (h1.drewN nq).of_drewN hw2
      have hS2 := (hS1.drewN nq).trans (Step.of_drewN hw2)
      have hs2 := (hs1.of_drewN (n := nq) rfl).of_drewN hw2
      have hb12 : bytesAt w2 g1 0 m1 := by rw [hw2]; exact hb1
      have hb22 : bytesAt w2 g2 0 m2 := by rw [hw2]; exact hb2
      have hk22 : bytesAt w2 g2 (k * 512) x2 := by rw [hw2]; exact hk2
      clear hw2 hk1 hk2 hb1 hb2 h1 hS1 hs1 hc1' HI1
      have Hcl2 := Lib.hid hcl2; clear hcl2 hcl1
      by_cases hxx : x1 = x2
      · have hd : decide (x1 = x2) = true := decide_eq_true hxx
        have hsm := hsame hxx
        rw [← hsm] at h2
        have Hxx := Lib.hid hxx; clear hxx hsm hsame hnew
        rw [hd]
        go_wp2
        go_roundw
        case rel => exact ⟨k + 1, by omega, by go_num, h2, hS2, hs2, hb12, hb22⟩
        case measure => simp [intOf]; omega
      · have hd : decide (x1 = x2) = false := decide_eq_false hxx
        have hnw := hnew hxx
        have Hxx := Lib.hid hxx; clear hxx hsame hnew
        rw [hd]
        have hsz : (ofBytes x2).size = 512 := by rw [ofBytes_size]; exact Hcl2.out
        have hwr : writeTx (layTo T L D f m1 m2 k) L D ((f : Int) + k) (ofBytes x2) = (layTo T L D f m1 m2 (k + 1), 0) := by
          rw [hnw, writeTx_ok (by rw [layTo_over]; exact Hov.out) ⟨by omega, by omega, hsz⟩]
        have HW := Lib.hid (tl_Write h2.drew ((f : Int) + k) (ofBytes x2))
        rw [hwr] at HW
        have hcv := conv_at (w := w2.drew) hk22 512 (c2 - k * 512) Hcl2.out
        have hwf : IntKind.i64.wrap ((f : Int) + (k : Int)) = (f : Int) + k := IntWalk.i64_in _ (by omega)
        have hc2' := hs2.cells.drew.cell
        clear hwr hnw hk22 h2
        generalize ofBytes x2 = t2 at *
        have Hsz := Lib.hid hsz; clear hsz
        go_wp2_with fail
        refine wp_region_still_tail 12 (by kernel_rfl) (by kernel_rfl) ?_
        simp only [List.take_succ_cons, List.take_zero, List.drop_succ_cons, List.drop_zero]
        change wpStill _ _ w2.drew _ _ _
        iterate 12 still_step
        refine wpStill_nil ?_
        change wpList _ _ _ _ _ w2.drew
        clear hc2' hcv
        go_wp2_with (go_at_call 10; refine HW.out.mono ?_; rintro e w3 ⟨rfl, h3, hS3⟩)
        go_roundw
        case rel => exact ⟨k + 1, by omega, by go_num, h3, hS2.drew.trans hS3, hs2.of_same (hS3.same ps hs2.cells.lt hps), hb12.of_same (hS3.same g1 (Nat.lt_of_lt_of_le hg1 hS2.size) ho1), hb22.of_same (hS3.same g2 (Nat.lt_of_lt_of_le hg2 hS2.size) ho2)⟩
        case measure => simp [intOf]; omega
    · obtain rfl : k = nb := by omega
      clear h1 hS1 hs1 hb1 hb2
      go_wp2
      go_ret
      exact ⟨rfl, HI1.out⟩

end
end Go.Proofs.Ytdcjhpihcfpamaa
