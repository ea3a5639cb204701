/-
  The space's free: through the free blocks, by rising numbers, till a function says no.
-/
import Derived.Test.YtdcjhpihcfpamaaSp5
namespace Go.Proofs.Ytdcjhpihcfpamaa
open Go.RowKit Go.XK

section
variable {w w' : World} {own own2 : Nat → Nat} {ct cl cd pt pl ps f : Nat} {T : Tx} {L : Lg} {D : Dsk}

/-- Is a block in use, by a bitmap? -/
def usedB (f nb : Nat) (m : List UInt8) (n : Nat) : Bool := decide (n < f + nb) || bitAt m n

/-- What the loop of free and its function leave to each other: J ahead of number k, E behind a no. -/
structure Yields (own : Nat → Nat) (ct cl cd pt pl ps f g nb B gf : Nat) (T : Tx) (L : Lg) (D : Dsk) (m : List UInt8) (caps : Array Value) (J : Nat → World → Prop) (E : World → Prop) : Prop where
  en : ∀ (args : Array Value) (W : World), (callFunc gf args).run Try.prog W = .ok (.enter gf args) W
  tl : ∀ k W, J k W → TL W own ct cl cd pt pl T L D
  sp : ∀ k W, J k W → SpR W ps pt f
  by_ : ∀ k W, J k W → bytesAt W g 0 m
  dr : ∀ k W q, J k W → J k (W.drewN q)
  skip : ∀ k W, J k W → k < B → usedB f nb m k = true → J (k + 1) W
  yes : ∀ (k : Nat) W, J k W → k < B → usedB f nb m k = false → Calls Try.prog gf (#[.int .i64 k] ++ caps) W fun e W' => (e = .returned (.bool true) ∧ J (k + 1) W') ∨ (e = .returned (.bool false) ∧ E W')

def FreePost (B : Nat) (J : Nat → World → Prop) (E : World → Prop) (e : Ending) (w' : World) : Prop := e = .returned (.tuple #[]) ∧ (J B w' ∨ E w')

set_option maxRecDepth 20000 in
set_option maxHeartbeats 1000000 in
theorem space_free (g c n gf : Nat) (m : List UInt8) (caps : Array Value) (J : Nat → World → Prop) (E : World → Prop)
    (hY : Yields own ct cl cd pt pl ps f g (nbOf (blocksOf L D)) (blocksOf L D) gf T L D m caps J E)
    (hf : f + nbOf (blocksOf L D) ≤ blocksOf L D) (hn : m.length = n) (hm : n = nbOf (blocksOf L D) * 512) (hJ : J (f + nbOf (blocksOf L D)) w) :
    Calls Try.prog 42 #[.pointer (some ⟨ps, 0, none⟩), .slice (some ⟨g, 0, none⟩) n c, .func (.func gf) #[] caps] w (FreePost (blocksOf L D) J E) := by
  have h := hY.tl _ _ hJ
  have hs := hY.sp _ _ hJ
  have hnb := nb_le h.ld
  have h8 : blocksOf L D ≤ 8 * n := by rw [hm]; unfold nbOf; omega
  have HB := Lib.hid (fun W (hW : TL W own ct cl cd pt pl T L D) => space_blocks hW)
  have HBB := Lib.hid (fun W (hW : TL W own ct cl cd pt pl T L D) => tl_Blocks hW)
  have HU := Lib.hid (fun W (hW : TL W own ct cl cd pt pl T L D) (hs : SpR W ps pt f) (k : Nat) (hb : bytesAt W g 0 m) (hk : k < blocksOf L D) => space_used hW hs hf k g c m (fun j hj => by have := hb j hj; rw [Nat.zero_add] at this; exact this) (by omega) (by rw [hn, hm]; omega))
  clear hm
  generalize nbOf (blocksOf L D) = nb at *
  generalize blocksOf L D = B at *
  rw [hn] at HU
  have Hn := Lib.hid hn; clear hn
  have hc := hs.cells.cell
  have hwf : IntKind.i64.wrap ((f : Int) + (nb : Int)) = (f : Int) + nb := IntWalk.i64_in _ (by omega)
  go_enter Try.func42, Try.ntmps42
  go_wp2_with fail
  go_quiet ((go_at_call 69; refine Calls.quiet_of (HB.out _ (h.drewN _))))
  clear hwf
  go_wp2_with fail
  go_loopw [6] (fun i wr => ∃ k : Nat, f + nb ≤ k ∧ k ≤ B ∧ i = .int .i64 k ∧ J k wr) (fun i _ => B - (intOf i).toNat)
  case atStart => exact ⟨f + nb, Nat.le_refl _, hf, by go_num, hY.dr _ _ _ hJ⟩
  case round =>
    obtain ⟨k, hk0, hk, rfl, hJ1⟩ := hrel
    clear h hs hc hJ
    have h1 := hY.tl _ _ hJ1
    have hs1 := hY.sp _ _ hJ1
    have hb1 := hY.by_ _ _ hJ1
    have hc1 := hs1.cells.cell
    go_wp2_with fail
    refine (HBB.out _ h1).mono ?_; rintro e w1 ⟨rfl, q, hw⟩
    have hJ2 : J k w1 := by rw [hw]; exact hY.dr _ _ _ hJ1
    clear hw h1 hs1 hb1 hc1 hJ1
    by_cases hlt : k < B
    · have h2 := hY.tl _ _ hJ2
      have hs2 := hY.sp _ _ hJ2
      have hb2 := hY.by_ _ _ hJ2
      go_wp2_with fail
      refine (HU.out _ h2 hs2 k hb2 hlt).mono ?_; rintro e w2 ⟨rfl, q2, hw⟩
      have hJ3 : J k w2 := by rw [hw]; exact hY.dr _ _ _ hJ2
      clear hw h2 hs2 hb2 hJ2
      have hsk := hY.skip k w2 hJ3 hlt
      have hys := hY.yes k w2 hJ3 hlt
      unfold usedB at hsk hys
      generalize (decide (k < f + nb) || bitAt m k) = u at *
      have Hsk := Lib.hid hsk; clear hsk
      have Hys := Lib.hid hys; clear hys
      cases u with
      | true =>
        have hJ4 := Hsk.out rfl
        go_wp2
        go_roundw
        case rel => exact ⟨k + 1, by omega, by omega, by go_num, hJ4⟩
        case measure => simp [intOf]; omega
      | false =>
        have HC := Lib.hid (Hys.out rfl)
        clear Hsk Hys hJ3
        have hen := hY.en (#[.int .i64 k] ++ caps) w2
        go_wp2_with fail
        clear hen
        refine HC.out.mono ?_
        rintro e w3 (⟨rfl, hJ4⟩ | ⟨rfl, hE⟩)
        · go_wp2
          go_roundw
          case rel => exact ⟨k + 1, by omega, by omega, by go_num, hJ4⟩
          case measure => simp [intOf]; omega
        · go_wp2
          go_end0
          exact ⟨rfl, .inr hE⟩
    · obtain rfl : k = B := by omega
      go_wp2
      go_end0
      exact ⟨rfl, .inl hJ2⟩

end
end Go.Proofs.Ytdcjhpihcfpamaa
