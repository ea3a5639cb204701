/-
  The space's Free.
-/
import Derived.Test.YtdcjhpihcfpamaaSp11
namespace Go.XK
open Go.RowKit

def clearBit (m : List UInt8) (n : Nat) : List UInt8 := m.set (n / 8) (UInt8.ofNat ((m.getD (n / 8) 0).toNat &&& (255 - 2 ^ (n % 8))))
theorem clearBit_length (m : List UInt8) (n : Nat) : (clearBit m n).length = m.length := by simp [clearBit]

theorem andNot_walk (b i : Nat) (hb : b < 256) (hi : i < 8) : bits BinOp.andNot IntKind.u8 (b : Int) (2 ^ i % 256) = ((UInt8.ofNat (b &&& (255 - 2 ^ i))).toNat : Int) := by
  have h1 := two_pow_lt i hi
  have h2 : b &&& (255 - 2 ^ i) < 256 := Nat.lt_of_le_of_lt Nat.and_le_left hb
  have e : (2 ^ i % 256 : Int) = ((2 ^ i : Nat) : Int) := by
    have : ((2 : Int) ^ i) = ((2 ^ i : Nat) : Int) := by simp
    rw [this]
    generalize 2 ^ i = x at *
    omega
  rw [e, u8_andNot_nat b (2 ^ i) hb h1, UInt8.toNat_ofNat', Nat.mod_eq_of_lt h2]

/-- Whole numbers that came in. -/
def ArgI (w : World) (own : Nat → Nat) (ct cl : Nat) (av : Option Addr) (l : List Int) : Prop :=
  l = [] ∨ ∃ g o, av = some ⟨g, o, none⟩ ∧ g < w.heap.size ∧ own g ≠ ct ∧ own g ≠ cl ∧ ∀ j (hj : j < l.length), w.cell? ⟨g, o + j, none⟩ = some (.int .i64 l[j])

theorem ArgI.of_same {w w' : World} {own : Nat → Nat} {ct cl : Nat} {av : Option Addr} {l : List Int} (h : ArgI w own ct cl av l) (hz : w.heap.size ≤ w'.heap.size) (hs : ∀ b, b < w.heap.size → own b ≠ ct → own b ≠ cl → w'.heap[b]? = w.heap[b]?) : ArgI w' own ct cl av l := by
  rcases h with h | ⟨g, o, h1, h2, h3, h4, h5⟩
  · exact .inl h
  · refine .inr ⟨g, o, h1, Nat.lt_of_lt_of_le h2 hz, h3, h4, fun j hj => ?_⟩
    rw [← h5 j hj]
    unfold World.cell?
    simp only [hs g h2 h3 h4]

end Go.XK
namespace Go.Proofs.Ytdcjhpihcfpamaa
open Go.RowKit Go.XK

def freeStep (f nb B : Nat) (m : List UInt8) (x : Int) : Option (List UInt8) :=
  if 0 ≤ x ∧ x < B ∧ ((f + nb : Nat) : Int) ≤ x ∧ bitAt m x.toNat = true then some (clearBit m x.toNat) else none
def freeTo (f nb B : Nat) (m : List UInt8) (l : List Int) : Option (List UInt8) := l.foldl (fun o x => o.bind fun m => freeStep f nb B m x) (some m)
theorem freeTo_snoc {f nb B : Nat} {m : List UInt8} {l : List Int} {x : Int} : freeTo f nb B m (l ++ [x]) = (freeTo f nb B m l).bind fun m => freeStep f nb B m x := by
  simp [freeTo]
theorem foldl_none (f nb B : Nat) (l : List Int) : l.foldl (fun (o : Option (List UInt8)) x => o.bind fun m => freeStep f nb B m x) none = none := by
  induction l with
  | nil => rfl
  | cons x l ih => exact ih
theorem freeTo_none {f nb B : Nat} {m mk : List UInt8} {l : List Int} {k : Nat} (hk : k < l.length) (h : freeTo f nb B m (l.take k) = some mk) (hn : freeStep f nb B mk l[k] = none) : freeTo f nb B m l = none := by
  have h1 : l = l.take k ++ ([l[k]] ++ l.drop (k + 1)) := by
    rw [← List.append_assoc, ← List.take_succ_eq_append_getElem hk, List.take_append_drop]
  have h2 : freeTo f nb B m l = ([l[k]] ++ l.drop (k + 1)).foldl (fun o x => o.bind fun m => freeStep f nb B m x) (freeTo f nb B m (l.take k)) := by
    conv => lhs; rw [h1]
    simp only [freeTo, List.foldl_append]
  rw [h2, h]
  simp only [List.singleton_append, List.foldl_cons, Option.bind_some, hn]
  exact foldl_none f nb B _
theorem freeTo_take {f nb B : Nat} {m mk m2 : List UInt8} {l : List Int} {k : Nat} (hk : k < l.length) (h : freeTo f nb B m (l.take k) = some mk) (hn : freeStep f nb B mk l[k] = some m2) : freeTo f nb B m (l.take (k + 1)) = some m2 := by
  rw [List.take_succ_eq_append_getElem hk, freeTo_snoc, h]
  exact hn
theorem freeTo_length {f nb B : Nat} {m : List UInt8} : ∀ (l : List Int) (mk : List UInt8), freeTo f nb B m l = some mk → mk.length = m.length := by
  intro l
  suffices ∀ (m0 mk : List UInt8), l.foldl (fun o x => o.bind fun m => freeStep f nb B m x) (some m0) = some mk → mk.length = m0.length from fun mk h => this m mk h
  induction l with
  | nil => intro m0 mk h; simp at h; rw [h]
  | cons x l ih =>
    intro m0 mk h
    simp only [List.foldl_cons, Option.bind_some] at h
    cases hx : freeStep f nb B m0 x with
    | none => rw [hx, foldl_none] at h; cases h
    | some m1 =>
      rw [hx] at h
      rw [ih m1 mk h]
      unfold freeStep at hx
      split at hx
      · simp at hx; rw [← hx, clearBit_length]
      · cases hx

section
variable {w : World} {own : Nat → Nat} {ct cl cd pt pl ps f : Nat} {T : Tx} {L : Lg} {D : Dsk}

/-- What Free does. -/
def freeP (T : Tx) (L : Lg) (D : Dsk) (f : Nat) (l : List Int) : Tx × Int :=
  if T.over then (T, 8) else match freeTo f (nbOf (blocksOf L D)) (blocksOf L D) (bitsTo T L D f (nbOf (blocksOf L D))) l with
  | none => (T, 1)
  | some m => (layTo T L D f (bitsTo T L D f (nbOf (blocksOf L D))) m (nbOf (blocksOf L D)), 0)

def SFreePost (w : World) (own : Nat → Nat) (ct cl cd pt pl ps f : Nat) (T : Tx) (L : Lg) (D : Dsk) (r : Tx × Int) (e : Ending) (w' : World) : Prop :=
  e = .returned (.int .i64 r.2) ∧ TL w' own ct cl cd pt pl r.1 L D ∧ Step (fun c => c = cl ∨ c = ct) own w own w' ∧ SpR w' ps pt f

/-- What a round of Free knows. -/
structure FreeI (w0 : World) (own : Nat → Nat) (ct cl cd pt pl ps f g cg gi ci nn nb B : Nat) (T : Tx) (L : Lg) (D : Dsk) (m : List UInt8) (av : Option Addr) (l : List Int) (k : Nat) (mk : List UInt8) (W : World) : Prop where
  tl : TL W own ct cl cd pt pl T L D
  sp : SpR W ps pt f
  bg : W.ownsRow 0 5 1 (.slice (some ⟨g, 0, none⟩) nn cg) nn (byteCells m)
  row : W.ownsRow (g + 1) 5 1 (.slice (some ⟨gi, 0, none⟩) nn ci) nn (byteCells mk)
  st : Step (· = cl) own w0 own W
  arg : ArgI w0 own ct cl av l
  upTo : freeTo f nb B m (l.take k) = some mk
  le0 : w0.heap.size ≤ gi
  len : mk.length = nn

theorem FreeI.drewN {w0 W : World} {g cg gi ci nn nb B k : Nat} {m mk : List UInt8} {av : Option Addr} {l : List Int} (h : FreeI w0 own ct cl cd pt pl ps f g cg gi ci nn nb B T L D m av l k mk W) (q : Nat) :
    FreeI w0 own ct cl cd pt pl ps f g cg gi ci nn nb B T L D m av l k mk (W.drewN q) :=
  ⟨h.tl.drewN q, h.sp.of_drewN rfl, h.bg, h.row, h.st.drewN q, h.arg, h.upTo, h.le0, h.len⟩

theorem FreeI.bit {w0 W : World} {g cg gi ci nn nb B k : Nat} {m mk : List UInt8} {av : Option Addr} {l : List Int} (h : FreeI w0 own ct cl cd pt pl ps f g cg gi ci nn nb B T L D m av l k mk W) (hF : Fresh own w0.heap.size ct cl cd)
    (hk : k < l.length) {x : Nat} (hx : l[k] = (x : Int)) (hs : freeStep f nb B mk l[k] = some (clearBit mk x)) {v : Int} (hv : v = ((UInt8.ofNat ((mk.getD (x / 8) 0).toNat &&& (255 - 2 ^ (x % 8)))).toNat : Int)) :
    FreeI w0 own ct cl cd pt pl ps f g cg gi ci nn nb B T L D m av l (k + 1) (clearBit mk x) (W.setCell ⟨gi, x / 8, none⟩ (.int .u8 v)) := by
  subst hv
  have key : ∀ b, b ≠ gi → (W.setCell ⟨gi, x / 8, none⟩ (.int .u8 ((UInt8.ofNat ((mk.getD (x / 8) 0).toNat &&& (255 - 2 ^ (x % 8)))).toNat : Int))).heap[b]? = W.heap[b]? := fun b h1 => Below.heap_setCell _ _ _ _ h1
  obtain ⟨g', cap', cur, hvv, hgb, hgi, hr⟩ : ∃ g' cap' cur, Value.slice (some ⟨gi, 0, none⟩) nn ci = .slice (some ⟨g', 0, none⟩) nn cap' ∧ g + 1 ≤ g' ∧ blk W g' cur 5 ∧ True := by
    rcases h.row.2 with ⟨q, _⟩ | ⟨g', cap', cur, q, hb, hg, _⟩
    · cases q
    · exact ⟨g', cap', cur, q, hb, hg, trivial⟩
  obtain rfl : gi = g' := by simpa using (Value.slice.inj hvv).1
  obtain ⟨k1, k2, k3⟩ := hF gi h.le0
  refine ⟨h.tl.frame fun b _ hc => ⟨key b (fun e => ?_), rfl⟩, ⟨h.sp.cells.of_same (key _ (blk.ne h.sp.cells hgi (by decide)))⟩, row_same_b h.bg fun b _ hv => key b (fun e => ?_), ?_, h.st.setCell _ (.inl h.le0), h.arg, freeTo_take hk h.upTo hs, h.le0, by rw [clearBit_length]; exact h.len⟩
  · subst e
    rcases hc with q | q | q
    · exact k1 q
    · exact k2 q
    · exact k3 q
  · simp only [Value.ownBlock, Option.some.injEq] at hv
    omega
  · have hst := (h.row.stored (x / 8) (.int .u8 ((UInt8.ofNat ((mk.getD (x / 8) 0).toNat &&& (255 - 2 ^ (x % 8)))).toNat : Int))).1
    have e : byteCells (clearBit mk x) = (byteCells mk).set (x / 8) (.int .u8 ((UInt8.ofNat ((mk.getD (x / 8) 0).toNat &&& (255 - 2 ^ (x % 8)))).toNat : Int)) := by
      rw [clearBit]
      simp only [byteCells, List.map_set]
      rfl
    rw [e]
    exact hst

end
end Go.Proofs.Ytdcjhpihcfpamaa
