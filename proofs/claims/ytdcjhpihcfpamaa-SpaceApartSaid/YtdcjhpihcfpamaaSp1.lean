/-
  The space: a transaction over a live log ('TL'); over, blocks, keptBack, placed.
-/
import Derived.Test.YtdcjhpihcfpamaaTxnW
import Derived.Deep.QuietTactic
import Derived.BigQuiet
import Derived.IntWalk
namespace Go.XK
open Go.RowKit

/-- How many blocks the bitmap has. -/
def nbOf (B : Nat) : Nat := (B + 4095) / 4096

theorem TxR.reown {w : World} {own own2 : Nat → Nat} {c pt pl : Nat} {ty : TypeId} {T : Tx} (h : TxR w own c pt pl ty T) (ho : ∀ b, b < w.heap.size → own2 b = own b) : TxR w own2 c pt pl ty T :=
  h.frame fun b hb hc => ⟨rfl, (ho b hb).trans hc⟩
theorem LD.reown {w : World} {own own2 : Nat → Nat} {cl cd p : Nat} {L : Lg} {D : Dsk} (h : LD w own cl cd p L D) (ho : ∀ b, b < w.heap.size → own2 b = own b) : LD w own2 cl cd p L D :=
  h.frame fun b hb _ => ⟨rfl, ho b hb⟩

end Go.XK
namespace Go.Proofs.Ytdcjhpihcfpamaa
open Go.RowKit Go.XK

/-- What a transaction sees. -/
def view (T : Tx) (L : Lg) (D : Dsk) (n : Nat) : ByteArray := (readTx T L D n).1

/-- A transaction over a log that lives, on a disk that is on. -/
structure TL (w : World) (own : Nat → Nat) (ct cl cd pt pl : Nat) (T : Tx) (L : Lg) (D : Dsk) : Prop where
  tx : TxR w own ct pt pl 81 T
  ld : LD w own cl cd pl L D
  n1 : ct ≠ cl
  n2 : ct ≠ cd
  live : L.dead = false
  on : D.off = false

section
variable {w w' : World} {own own2 : Nat → Nat} {ct cl cd pt pl : Nat} {T : Tx} {L : Lg} {D : Dsk}

theorem TL.reown (h : TL w own ct cl cd pt pl T L D) (ho : ∀ b, b < w.heap.size → own2 b = own b) : TL w own2 ct cl cd pt pl T L D :=
  ⟨h.tx.reown ho, h.ld.reown ho, h.n1, h.n2, h.live, h.on⟩

theorem TL.frame (h : TL w own ct cl cd pt pl T L D) (hs : ∀ b, b < w.heap.size → (own b = ct ∨ own b = cl ∨ own b = cd) → w'.heap[b]? = w.heap[b]? ∧ own2 b = own b) : TL w' own2 ct cl cd pt pl T L D :=
  ⟨h.tx.frame fun b hb hc => ⟨(hs b hb (.inl hc)).1, (hs b hb (.inl hc)).2.trans hc⟩, h.ld.frame fun b hb hc => hs b hb (.inr hc), h.n1, h.n2, h.live, h.on⟩

theorem TL.step {S : Nat → Prop} (h : TL w own ct cl cd pt pl T L D) (hs : Step S own w own2 w') (h0 : ¬ S ct) (h1 : ¬ S cl) (h2 : ¬ S cd) : TL w' own2 ct cl cd pt pl T L D :=
  h.frame fun b hb hc => ⟨hs.same b hb (by rcases hc with e | e | e <;> rw [e]; exact h0; exact h1; exact h2), hs.keep b hb⟩

theorem TL.drewN (h : TL w own ct cl cd pt pl T L D) (n : Nat) : TL (w.drewN n) own ct cl cd pt pl T L D := ⟨h.tx.of_drewN rfl, h.ld.drewN n, h.n1, h.n2, h.live, h.on⟩
theorem TL.of_drewN {n : Nat} (h : TL w own ct cl cd pt pl T L D) (hw : w' = w.drewN n) : TL w' own ct cl cd pt pl T L D := hw ▸ h.drewN n

theorem tl_Read (h : TL w own ct cl cd pt pl T L D) (n : Int) :
    Calls Try.prog 14 #[.pointer (some ⟨pt, 0, none⟩), .int .i64 n] w fun r w' => r = .returned (.tuple #[.string (readTx T L D n).1, .int .i64 (readTx T L D n).2]) ∧
      TL w' own ct cl cd pt pl T L D ∧ Step (· = cl) own w own w' :=
  (txn_Read h.tx h.ld n).mono fun r w' ⟨h1, h2, h3⟩ => ⟨h1, ⟨h.tx.frame fun b hb hc => ⟨h3.same b hb (by rw [hc]; exact h.n1), hc⟩, by
    have e : readTxL T L D n = L := by
      unfold readTxL; split; rfl; split; rfl; exact readL_live h.live h.on
    rw [e] at h2; exact h2, h.n1, h.n2, h.live, h.on⟩, h3⟩

theorem tl_Write (h : TL w own ct cl cd pt pl T L D) (n : Int) (t : ByteArray) :
    Calls Try.prog 10 #[.pointer (some ⟨pt, 0, none⟩), .int .i64 n, .string t] w fun r w' => r = .returned (.int .i64 (writeTx T L D n t).2) ∧
      TL w' own ct cl cd pt pl (writeTx T L D n t).1 L D ∧ Step (· = ct) own w own w' :=
  (txn_Write h.tx h.ld n t).mono fun _ _ ⟨h1, h2, h3⟩ => ⟨h1, ⟨h2, h.ld.step h3 (fun e => h.n1 e.symm) (fun e => h.n2 e.symm), h.n1, h.n2, h.live, h.on⟩, h3⟩

theorem tl_Blocks (h : TL w own ct cl cd pt pl T L D) :
    Calls Try.prog 23 #[.pointer (some ⟨pt, 0, none⟩)] w fun r w' => r = .returned (.int .i64 (blocksOf L D)) ∧ ∃ n, w' = w.drewN n :=
  (txn_Blocks h.tx h.ld.log h.ld.disk).mono fun _ _ ⟨h1, h2⟩ => ⟨by
    rw [h1]; have := h.ld.lt; unfold blocksOf
    rw [Int.ofNat_sub (by omega)], h2⟩

theorem readTx_neg (h : L.dead = false) (h2 : D.off = false) : ((readTx T L D (-1)).2 == 8) = T.over := by
  unfold readTx
  cases T.over with
  | true => rfl
  | false =>
    rw [if_neg (by decide)]
    cases lookT T.l (-1) with
    | some s => rfl
    | none =>
      show ((readLog L D (-1)).2 == 8) = false
      unfold readLog
      rw [h, h2, if_neg (by decide)]
      split
      · rfl
      · rfl

set_option maxHeartbeats 400000 in
theorem space_over (h : TL w own ct cl cd pt pl T L D) :
    Calls Try.prog 39 #[.pointer (some ⟨pt, 0, none⟩)] w fun r w' => r = .returned (.bool T.over) ∧ TL w' own ct cl cd pt pl T L D ∧ Step (· = cl) own w own w' := by
  have he := Lib.hid (readTx_neg (T := T) h.live h.on)
  go_enter Try.func39, Try.ntmps39
  go_wp2_with (go_at_call 14; refine (tl_Read h (-1)).mono ?_; rintro e w1 ⟨rfl, h1, hS1⟩; generalize readTx T L D (-1) = r at *)
  go_ret
  exact ⟨by rw [← he.out]; rfl, h1, hS1⟩

theorem nb_le (h : LD w own cl cd pl L D) : 0 < blocksOf L D ∧ blocksOf L D ≤ 8188 ∧ 0 < nbOf (blocksOf L D) ∧ nbOf (blocksOf L D) ≤ 2 := by
  have h1 := h.lt
  have h2 := h.disk.ok.most
  have h3 := h.least
  unfold nbOf blocksOf
  omega

set_option maxHeartbeats 400000 in
theorem space_blocks (h : TL w own ct cl cd pt pl T L D) :
    Calls Try.prog 69 #[.pointer (some ⟨pt, 0, none⟩)] w fun r w' => r = .returned (.int .i64 (nbOf (blocksOf L D))) ∧ ∃ n, w' = w.drewN n := by
  have hb := nb_le h.ld
  have HB := Lib.hid (tl_Blocks h)
  have he : ((nbOf (blocksOf L D) : Nat) : Int) = ((blocksOf L D : Nat) + 4096 - 1 : Int) / 4096 := by unfold nbOf; omega
  have He := Lib.hid he; clear he
  generalize nbOf (blocksOf L D) = nb at *
  generalize blocksOf L D = B at *
  go_enter Try.func69, Try.ntmps69
  go_wp2_with (go_at_call 23; refine HB.out.mono ?_; rintro e w1 ⟨rfl, k, hw⟩; have Hw := Lib.hid hw; clear hw)
  go_ret
  exact ⟨by rw [He.out]; rfl, k, Hw.out⟩

end
end Go.Proofs.Ytdcjhpihcfpamaa
