/-
  The space: bitmap.
-/
import Derived.Test.YtdcjhpihcfpamaaSp2
import Derived.Lib.AppendStr
import Derived.Deep.RegionHeld3
namespace Go.XK
open Go.RowKit

def byteCells (m : List UInt8) : List Value := m.map byteCell
theorem byteCells_length (m : List UInt8) : (byteCells m).length = m.length := by simp [byteCells]
theorem byteCells_append (a b : List UInt8) : byteCells (a ++ b) = byteCells a ++ byteCells b := by simp [byteCells]
theorem strCells_is (s : ByteArray) : Lib.strCells s = byteCells s.data.toList := rfl

theorem TxR.drew {w : World} {own : Nat → Nat} {c pt pl : Nat} {ty : TypeId} {T : Tx} (h : TxR w own c pt pl ty T) : TxR w.drew own c pt pl ty T := h.frame fun _ _ hc => ⟨rfl, hc⟩

/-- A list of bytes that a value owns: its cells. -/
theorem bytes_cell {w : World} {base : Nat} {e : TypeId} {g n cap : Nat} {m : List UInt8} (h : w.ownsRow base e 1 (.slice (some ⟨g, 0, none⟩) n cap) n (byteCells m)) :
    m.length = n ∧ ∀ j (hj : j < m.length), w.cell? ⟨g, j, none⟩ = some (.int .u8 (m[j].toNat : Int)) := by
  have hl : m.length = n := by have := h.1; rw [byteCells_length] at this; omega
  refine ⟨hl, fun j hj => ?_⟩
  have h2 : w.cell? ((⟨g, 0, none⟩ : Addr).add j) = some (.int .u8 (m[j].toNat : Int)) := h.cells (g := g) rfl j _ (by simp [byteCells, byteCell, hj])
  have e : (⟨g, 0, none⟩ : Addr).add j = ⟨g, j, none⟩ := by unfold Addr.add; split <;> simp_all
  rw [e] at h2; exact h2

theorem row_same_b {w w' : World} {base : Nat} {e : TypeId} {size : Nat} {v : Value} {n : Nat} {xs : List Value} (h : w.ownsRow base e size v n xs)
    (hs : ∀ k, base ≤ k → v.ownBlock = some k → w'.heap[k]? = w.heap[k]?) : w'.ownsRow base e size v n xs := by
  refine ⟨h.1, ?_⟩
  rcases h.2 with k | ⟨g, cap, cur, rfl, hb, hg, r⟩
  · exact .inl k
  · exact .inr ⟨g, cap, cur, rfl, hb, by rw [hs g hb rfl]; exact hg, r⟩

/-- A row of a new block is as it was behind a step that turns only what is of other owners. -/
theorem row_step {S : Nat → Prop} {own own2 : Nat → Nat} {w w' : World} {base : Nat} {e : TypeId} {size : Nat} {v : Value} {n : Nat} {xs : List Value} (h : w.ownsRow base e size v n xs)
    (hs : Step S own w own2 w') (hn : ∀ b, base ≤ b → ¬ S (own b)) : w'.ownsRow base e size v n xs :=
  row_same_b h fun k hk hv => hs.same k (h.lt k hv).2 (hn k hk)

/-- Blocks to come are of none of these three. -/
def Fresh (own : Nat → Nat) (n a b c : Nat) : Prop := ∀ k, n ≤ k → own k ≠ a ∧ own k ≠ b ∧ own k ≠ c

theorem Fresh.mono {own : Nat → Nat} {n m a b c : Nat} (h : Fresh own n a b c) (hm : n ≤ m) : Fresh own m a b c := fun k hk => h k (Nat.le_trans hm hk)
theorem Fresh.ext {own : Nat → Nat} {w : World} {a b c d : Nat} (h1 : d ≠ a) (h2 : d ≠ b) (h3 : d ≠ c) : Fresh (XK.ext own w d) w.heap.size a b c := fun k hk => by rw [ext_new hk]; exact ⟨h1, h2, h3⟩

end Go.XK
namespace Go.Proofs.Ytdcjhpihcfpamaa
open Go.RowKit Go.XK

section
variable {w w' : World} {own own2 : Nat → Nat} {ct cl cd pt pl ps f : Nat} {T : Tx} {L : Lg} {D : Dsk}

theorem TL.grown {row : Option Nat} (h : TL w own ct cl cd pt pl T L D) (hg : w.grownBy w' row) (hr : ∀ k, row = some k → own k ≠ ct ∧ own k ≠ cl ∧ own k ≠ cd) : TL w' own ct cl cd pt pl T L D :=
  h.frame fun b hb hc => ⟨hg.block b hb (fun e => by
    obtain ⟨k1, k2, k3⟩ := hr b e.symm
    rcases hc with k | k | k
    · exact k1 k
    · exact k2 k
    · exact k3 k), rfl⟩
theorem TL.drew (h : TL w own ct cl cd pt pl T L D) : TL w.drew own ct cl cd pt pl T L D := h.frame fun _ _ _ => ⟨rfl, rfl⟩

theorem read_in (h : TL w own ct cl cd pt pl T L D) (hov : T.over = false) {n : Nat} (hn : n < blocksOf L D) : readTx T L D n = (view T L D n, 0) ∧ (view T L D n).size = 512 := by
  have hfull := h.tx.full
  unfold view readTx
  rw [hov, if_neg (by decide)]
  cases hl : lookT T.l n with
  | some s =>
    refine ⟨rfl, ?_⟩
    simp only [lookT, Option.map_eq_some_iff] at hl
    obtain ⟨x, hx, rfl⟩ := hl
    exact hfull x (List.mem_of_find?_eq_some hx)
  | none =>
    show readLog L D n = ((readLog L D n).1, 0) ∧ (readLog L D n).1.size = 512
    unfold readLog
    rw [h.live, h.on, if_neg (by decide), if_pos ⟨by omega, by omega⟩]
    refine ⟨rfl, Dsk.get_size h.ld.disk.ok ?_⟩
    simp only [Dsk.has, decide_eq_true_eq]
    unfold blocksOf at hn
    omega

/-- What stands in the first blocks of the bitmap. -/
def bitsTo (T : Tx) (L : Lg) (D : Dsk) (f k : Nat) : List UInt8 := (List.range k).flatMap fun i => (view T L D (f + i)).data.toList

theorem bitsTo_succ (T : Tx) (L : Lg) (D : Dsk) (f k : Nat) : bitsTo T L D f (k + 1) = bitsTo T L D f k ++ (view T L D (f + k)).data.toList := by
  simp [bitsTo, List.range_succ]

theorem bitsTo_length (h : TL w own ct cl cd pt pl T L D) (hov : T.over = false) : ∀ k, f + k ≤ blocksOf L D → (bitsTo T L D f k).length = k * 512 := by
  intro k
  induction k with
  | zero => intro _; rfl
  | succ k ih =>
    intro hk
    rw [bitsTo_succ, List.length_append, ih (by omega)]
    have := (read_in h hov (n := f + k) (by omega)).2
    have e : (view T L D (f + k)).data.toList.length = (view T L D (f + k)).size := by rw [Array.length_toList]; rfl
    rw [e, this]; omega

def BitmapPost (w : World) (own : Nat → Nat) (ct cl cd pt pl ps f : Nat) (T : Tx) (L : Lg) (D : Dsk) (m : List UInt8) (e : Ending) (w' : World) : Prop :=
  TL w' own ct cl cd pt pl T L D ∧ Step (· = cl) own w own w' ∧ SpR w' ps pt f ∧
    ∃ v, e = .returned (.tuple #[v, .int .i64 0]) ∧ w'.ownsRow w.heap.size 5 1 v m.length (byteCells m)

/-- What a round of bitmap knows. -/
def BitI (w : World) (own : Nat → Nat) (ct cl cd pt pl ps f : Nat) (T : Tx) (L : Lg) (D : Dsk) (k : Nat) (v : Value) (wr : World) : Prop :=
  TL wr own ct cl cd pt pl T L D ∧ Step (· = cl) own w own wr ∧ SpR wr ps pt f ∧ wr.ownsRow w.heap.size 5 1 v (k * 512) (byteCells (bitsTo T L D f k))

theorem info_u8 : (Try.prog.info? 5).map (fun i => (i.zero, i.size, i.bytes)) = some (some (.int .u8 0), 1, 1) := by kernel_rfl

set_option maxRecDepth 20000 in
set_option maxHeartbeats 1000000 in
theorem space_bitmap (h : TL w own ct cl cd pt pl T L D) (hs : SpR w ps pt f) (hf : f + nbOf (blocksOf L D) ≤ blocksOf L D) (hov : T.over = false) (hps : own ps ≠ cl) (hF : Fresh own w.heap.size ct cl cd) :
    Calls Try.prog 40 #[.pointer (some ⟨ps, 0, none⟩)] w (BitmapPost w own ct cl cd pt pl ps f T L D (bitsTo T L D f (nbOf (blocksOf L D)))) := by
  have hnb := nb_le h.ld
  have hlen := bitsTo_length h hov (nbOf (blocksOf L D)) hf
  have hrd := fun k (hk : k < nbOf (blocksOf L D)) => read_in h hov (n := f + k) (by omega)
  have HB := Lib.hid (fun W (hW : TL W own ct cl cd pt pl T L D) => space_blocks hW)
  generalize nbOf (blocksOf L D) = nb at *
  have hc := hs.cells.cell
  obtain ⟨i0, hi, hz0, hz1, hz2⟩ := info_parts info_u8
  have Hrd := Lib.hid hrd; clear hrd
  have Hlen := Lib.hid hlen; clear hlen
  go_enter Try.func40, Try.ntmps40
  go_wp2_with fail
  refine (HB.out _ h).mono ?_; rintro e w1 ⟨rfl, q, hw⟩
  have hI : BitI w own ct cl cd pt pl ps f T L D 0 (.slice none 0 0) w1 := ⟨h.of_drewN hw, Step.of_drewN hw, hs.of_drewN hw, World.ownsRow_nil _ _ _ _⟩
  clear hw
  go_wp2
  go_loopw [4, 13] (fun v i wr => ∃ k : Nat, k ≤ nb ∧ i = .int .i64 k ∧ BitI w own ct cl cd pt pl ps f T L D k v wr) (fun _ i _ => nb - (intOf i).toNat)
  case atStart => exact ⟨0, Nat.zero_le _, rfl, hI⟩
  case round =>
    obtain ⟨k, hk, rfl, h1, hS1, hs1, hr1⟩ := hrel
    clear hI hc
    have hc1 := hs1.cells.cell
    by_cases hlt : k < nb
    · obtain ⟨hr, hsz⟩ := Hrd.out k hlt
      have hwf : IntKind.i64.wrap ((f : Int) + (k : Int)) = (f : Int) + k := IntWalk.i64_in _ (by omega)
      have HR := Lib.hid (tl_Read h1.drew ((f : Int) + k))
      have hcast : ((f + k : Nat) : Int) = (f : Int) + k := by omega
      rw [hcast] at hr
      rw [hr] at HR
      have hsucc := bitsTo_succ T L D f k
      generalize view T L D (f + k) = s at *
      have Hsucc := Lib.hid hsucc; clear hsucc
      have Hsz := Lib.hid hsz; clear hsz
      clear hcast hr
      go_wp2_with fail
      go_region_held3 (fun w' => w'.cell? ⟨ps, 0, none⟩ = some (.pointer (some ⟨pt, 0, none⟩)) ∧ w'.cell? ⟨ps, 1, none⟩ = some (.int .i64 f))
        (first | exact ⟨hc1 0, hc1 1⟩ | exact hK2)
        ((go_at_call 14; refine HR.out.mono ?_; rintro e w2 ⟨rfl, h2, hS2⟩; have hs2 := hs1.of_same (hS2.same ps hs1.cells.lt (fun k => hps k)); have hK2 := And.intro (hs2.cells.cell 0) (hs2.cells.cell 1)))
      have hr2 := row_step (w := wr.drew) hr1 hS2 (fun b hb => (hF b hb).2.1)
      have hS3 := hS1.drew.trans hS2
      have hszw := hS3.size
      clear hr1 hS1 hS2 h1 hs1 hc1 hK2 HR
      go_wp2_with (at_builtin; go_loud (refine Lib.wpList_append_own_string _ rfl _ _ 29 9 rfl w.heap.size 5 i0 Try.underlying29 Try.underlying9 hi hz0 hz1 hz2 u4 _ _ rfl hr2 s rfl (by rw [Hsz.out]; unfold maxLen; omega) (by rw [Hsz.out]; omega) hszw ?_; intro v' w3 hr3 hg3 _))
      go_roundw
      case rel =>
        refine ⟨k + 1, by omega, by go_num, h2.grown hg3 (fun b hb => hF b (hr2.lt b hb).1), hS3.grown hg3 (fun b hb => .inl (hr2.lt b hb).1), ⟨hs2.cells.grown hg3 (fun e => ?_)⟩, ?_⟩
        · have := (hr2.lt ps e).1; have := hs.cells.lt; omega
        · rw [Hsucc.out, byteCells_append, show (k + 1) * 512 = k * 512 + s.size by rw [Hsz.out]; omega]
          exact hr3
      case measure => simp [intOf]; omega
    · obtain rfl : k = nb := by omega
      go_wp2
      go_ret2
      exact ⟨h1, hS1, hs1, _, rfl, by rw [Hlen.out]; exact hr1⟩

end
end Go.Proofs.Ytdcjhpihcfpamaa
