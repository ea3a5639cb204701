/-
  The space's Alloc: the function that it hands to free.
-/
import Derived.Test.YtdcjhpihcfpamaaSp6
namespace Go.XK
open Go.RowKit

def intCells (l : List Nat) : List Value := l.map fun (n : Nat) => Value.int .i64 (n : Int)
theorem intCells_length (l : List Nat) : (intCells l).length = l.length := by simp [intCells]
theorem intCells_snoc (l : List Nat) (k : Nat) : intCells (l ++ [k]) = intCells l ++ [.int .i64 (k : Int)] := by simp [intCells]

/-- A bit is set. -/
def setBit (m : List UInt8) (n : Nat) : List UInt8 := m.set (n / 8) (UInt8.ofNat ((m.getD (n / 8) 0).toNat ||| 2 ^ (n % 8)))
def setBits (m : List UInt8) (l : List Nat) : List UInt8 := l.foldl setBit m
theorem setBit_length (m : List UInt8) (n : Nat) : (setBit m n).length = m.length := by simp [setBit]
theorem setBits_snoc (m : List UInt8) (l : List Nat) (k : Nat) : setBits m (l ++ [k]) = setBit (setBits m l) k := by simp [setBits]
theorem setBits_length (m : List UInt8) (l : List Nat) : (setBits m l).length = m.length := by
  induction l generalizing m with
  | nil => rfl
  | cons x l ih => rw [setBits, List.foldl_cons]; exact (ih (setBit m x)).trans (setBit_length m x)

theorem two_pow_lt (i : Nat) (h : i < 8) : 2 ^ i < 256 := Nat.lt_of_le_of_lt (Nat.pow_le_pow_right (by decide) (show i ≤ 7 by omega)) (by decide)

theorem or_walk (b i : Nat) (hb : b < 256) (hi : i < 8) : bits BinOp.or IntKind.u8 (b : Int) (2 ^ i % 256) = ((UInt8.ofNat (b ||| 2 ^ i)).toNat : Int) := by
  have h1 := two_pow_lt i hi
  have h2 : b ||| 2 ^ i < 256 := Nat.or_lt_two_pow (n := 8) hb h1
  have e : (2 ^ i % 256 : Int) = ((2 ^ i : Nat) : Int) := by
    have : ((2 : Int) ^ i) = ((2 ^ i : Nat) : Int) := by simp
    rw [this]
    generalize 2 ^ i = x at *
    omega
  rw [e, u8_or_nat b (2 ^ i) hb h1, UInt8.toNat_ofNat', Nat.mod_eq_of_lt h2]

theorem row_raise {w : World} {base base' : Nat} {e : TypeId} {size : Nat} {v : Value} {n : Nat} {xs : List Value} (h : w.ownsRow base e size v n xs) (hb : ∀ k, v.ownBlock = some k → base' ≤ k) : w.ownsRow base' e size v n xs := by
  refine ⟨h.1, ?_⟩
  rcases h.2 with k | ⟨g, cap, cur, rfl, _, hg, r⟩
  · exact .inl k
  · exact .inr ⟨g, cap, cur, rfl, hb g rfl, hg, r⟩

end Go.XK
namespace Go.Proofs.Ytdcjhpihcfpamaa
open Go.RowKit Go.XK

theorem info_int : (Try.prog.info? 3).map (fun i => (i.zero, i.size, i.bytes)) = some (some (.int .i64 0), 1, 8) := by kernel_rfl

/-- What Alloc's function knows: the numbers l so far, the bits that are set. -/
structure AllocI (w0 : World) (own : Nat → Nat) (ct cl cd pt pl ps f g cg p3 p8 p9 gi ci nn : Nat) (n : Nat) (T : Tx) (L : Lg) (D : Dsk) (m : List UInt8) (l lb : List Nat) (W : World) : Prop where
  tl : TL W own ct cl cd pt pl T L D
  sp : SpR W ps pt f
  bg : W.ownsRow 0 5 1 (.slice (some ⟨g, 0, none⟩) nn cg) nn (byteCells m)
  b3 : blk W p3 #[.int .i64 n] 3
  b8 : ∃ av cv, blk W p8 #[.slice av l.length cv] 33 ∧ W.ownsRow (p3 + 1) 3 1 (.slice av l.length cv) l.length (intCells l)
  b9 : blk W p9 #[.slice (some ⟨gi, 0, none⟩) nn ci] 29
  row : W.ownsRow (g + 1) 5 1 (.slice (some ⟨gi, 0, none⟩) nn ci) nn (byteCells (setBits m lb))
  st : Step (fun c => c = cl ∨ c = ct) own w0 own W
  le0 : w0.heap.size ≤ p3

section
variable {own : Nat → Nat} {ct cl cd pt pl ps f g cg p3 p8 p9 gi ci nn : Nat} {n : Nat} {T : Tx} {L : Lg} {D : Dsk} {m : List UInt8} {l lb : List Nat} {W W' w0 : World}

theorem AllocI.drewN (h : AllocI w0 own ct cl cd pt pl ps f g cg p3 p8 p9 gi ci nn n T L D m l lb W) (q : Nat) : AllocI w0 own ct cl cd pt pl ps f g cg p3 p8 p9 gi ci nn n T L D m l lb (W.drewN q) :=
  ⟨h.tl.drewN q, h.sp.of_drewN rfl, h.bg, h.b3, h.b8, h.b9, h.row, h.st.drewN q, h.le0⟩

/-- A number more. -/
theorem AllocI.more (h : AllocI w0 own ct cl cd pt pl ps f g cg p3 p8 p9 gi ci nn n T L D m l lb W) (hF : Fresh own (p3 + 1) ct cl cd) (hp8 : p3 < p8) {av a' : Option Addr} {cv c' k : Nat} {w3 : World}
    (hb8 : blk W p8 #[.slice av l.length cv] 33) (hr8 : W.ownsRow (p3 + 1) 3 1 (.slice av l.length cv) l.length (intCells l))
    (hr3 : w3.ownsRow 0 3 1 (.slice a' (l.length + 1) c') (l.length + 1) (intCells l ++ [.int .i64 k]))
    (hg3 : (W.alloc (.cells #[.int .i64 k] 3)).grownBy w3 (Value.slice av l.length cv).ownBlock)
    (hfr3 : ∀ b, (Value.slice a' (l.length + 1) c').ownBlock = some b → (Value.slice av l.length cv).ownBlock = some b ∨ (W.alloc (.cells #[.int .i64 k] 3)).heap.size ≤ b) :
    AllocI w0 own ct cl cd pt pl ps f g cg p3 p8 p9 gi ci nn n T L D m (l ++ [k]) lb (w3.setCell ⟨p8, 0, none⟩ (.slice a' (l.length + 1) c')) := by
  have hlt3 := h.b3.lt
  have hlt8 := hb8.lt
  have key : ∀ b, b < W.heap.size → b ≠ p8 → (Value.slice av l.length cv).ownBlock ≠ some b → (w3.setCell ⟨p8, 0, none⟩ (.slice a' (l.length + 1) c')).heap[b]? = W.heap[b]? := fun b hb h1 h2 =>
    (Below.heap_setCell _ _ _ _ h1).trans ((hg3.block b (by simp; omega) (fun e => h2 e.symm)).trans (Below.heap_alloc _ _ _ hb))
  have hav : ∀ b, (Value.slice av l.length cv).ownBlock = some b → p3 + 1 ≤ b := fun b hb => (hr8.lt b hb).1
  have hnew : ∀ b, (Value.slice a' (l.length + 1) c').ownBlock = some b → p3 + 1 ≤ b := fun b hb => by
    rcases hfr3 b hb with k | k
    · exact hav b k
    · simp at k; omega
  have ne_row : ∀ {base : Nat} {e : TypeId} {v : Value} {n : Nat} {xs : List Value}, e ≠ 33 → e ≠ 3 → W.ownsRow base e 1 v n xs → (w3.setCell ⟨p8, 0, none⟩ (.slice a' (l.length + 1) c')).ownsRow base e 1 v n xs := fun h1 h2 hr =>
    row_same_b hr fun b _ hv => key b (row_lt (row_zero hr) b hv) (fun e => row_ne (row_zero hr) hb8 h1 (e ▸ hv)) (fun e => by
      rcases rows_ne (row_zero hr) (row_zero hr8) h2 with q | q
      · rw [q] at hv; cases hv
      · exact q (hv.trans e.symm))
  have ne_blk : ∀ {b : Nat} {cs : Array Value} {e : TypeId}, e ≠ 33 → e ≠ 3 → blk W b cs e → blk (w3.setCell ⟨p8, 0, none⟩ (.slice a' (l.length + 1) c')) b cs e := fun h1 h2 hb =>
    hb.of_same (key _ hb.lt (blk.ne hb hb8 h1) (row_ne (row_zero hr8) hb h2.symm))
  have hb83 := (hb8.alloc (.cells #[.int .i64 k] 3)).grown hg3 (row_ne (row_zero hr8) hb8 (by decide))
  refine ⟨h.tl.frame fun b hb hc => ⟨key b hb (fun e => ?_) (fun e => ?_), rfl⟩, ⟨ne_blk (by decide) (by decide) h.sp.cells⟩, ne_row (by decide) (by decide) h.bg, h.b3.of_same (key _ hlt3 (by omega) (fun e => by have := hav p3 e; omega)), ?_, ne_blk (by decide) (by decide) h.b9, ne_row (by decide) (by decide) h.row, ((h.st.alloc _).grown hg3 (fun b hb => .inl (by have := hav b hb; have := h.le0; omega))).setCell _ (.inl (by show _ ≤ p8; have := h.le0; omega)), h.le0⟩
  · subst e
    obtain ⟨k1, k2, k3⟩ := hF b (by omega)
    rcases hc with q | q | q
    · exact k1 q
    · exact k2 q
    · exact k3 q
  · obtain ⟨k1, k2, k3⟩ := hF b (hav b e)
    rcases hc with q | q | q
    · exact k1 q
    · exact k2 q
    · exact k3 q
  · refine ⟨a', c', (hb83.set 0 (.slice a' (l.length + 1) c')).eq (by simp), ?_⟩
    rw [List.length_append, intCells_snoc]
    exact ownsRow_setCell_other (row_raise hr3 hnew) (a := ⟨p8, 0, none⟩) (row_ne hr3 hb83 (by decide)) _

/-- A bit more. -/
theorem AllocI.bit (h : AllocI w0 own ct cl cd pt pl ps f g cg p3 p8 p9 gi ci nn n T L D m l lb W) (hF : Fresh own (p3 + 1) ct cl cd) (hpg : p3 + 1 ≤ gi) {k : Nat} (hk : k < 8 * nn) (hm : m.length = nn) {v : Int}
    (hv : v = ((UInt8.ofNat (((setBits m lb).getD (k / 8) 0).toNat ||| 2 ^ (k % 8))).toNat : Int)) :
    AllocI w0 own ct cl cd pt pl ps f g cg p3 p8 p9 gi ci nn n T L D m l (lb ++ [k]) (W.setCell ⟨gi, k / 8, none⟩ (.int .u8 v)) := by
  subst hv
  have key : ∀ b, b ≠ gi → (W.setCell ⟨gi, k / 8, none⟩ (.int .u8 ((UInt8.ofNat (((setBits m lb).getD (k / 8) 0).toNat ||| 2 ^ (k % 8))).toNat : Int))).heap[b]? = W.heap[b]? := fun b h1 => Below.heap_setCell _ _ _ _ h1
  obtain ⟨g', cap', cur, hvv, hgb, hgi, hr⟩ : ∃ g' cap' cur, Value.slice (some ⟨gi, 0, none⟩) nn ci = .slice (some ⟨g', 0, none⟩) nn cap' ∧ g + 1 ≤ g' ∧ blk W g' cur 5 ∧ True := by
    rcases h.row.2 with ⟨q, _⟩ | ⟨g', cap', cur, q, hb, hg, _⟩
    · cases q
    · exact ⟨g', cap', cur, q, hb, hg, trivial⟩
  obtain rfl : gi = g' := by simpa using (Value.slice.inj hvv).1
  have hl : (setBits m lb).length = nn := by rw [setBits_length]; exact hm
  refine ⟨h.tl.frame fun b _ hc => ⟨key b (fun e => ?_), rfl⟩, ⟨h.sp.cells.of_same (key _ (blk.ne h.sp.cells hgi (by decide)))⟩, row_same_b h.bg fun b _ hv => key b (fun e => ?_), h.b3.of_same (key _ (blk.ne h.b3 hgi (by decide))), ?_, h.b9.of_same (key _ (blk.ne h.b9 hgi (by decide))), ?_, h.st.setCell _ (.inl (by show _ ≤ gi; have := h.le0; omega)), h.le0⟩
  · subst e
    obtain ⟨k1, k2, k3⟩ := hF b hpg
    rcases hc with q | q | q
    · exact k1 q
    · exact k2 q
    · exact k3 q
  · simp only [Value.ownBlock, Option.some.injEq] at hv
    omega
  · obtain ⟨av, cv, hb8, hr8⟩ := h.b8
    exact ⟨av, cv, hb8.of_same (key _ (blk.ne hb8 hgi (by decide))), row_same_b hr8 fun b _ hv => key b (fun e => row_ne (row_zero hr8) hgi (by decide) (e ▸ hv))⟩
  · have hst := (h.row.stored (k / 8) (.int .u8 ((UInt8.ofNat (((setBits m lb).getD (k / 8) 0).toNat ||| 2 ^ (k % 8))).toNat : Int))).1
    have e : byteCells (setBits m (lb ++ [k])) = (byteCells (setBits m lb)).set (k / 8) (.int .u8 ((UInt8.ofNat (((setBits m lb).getD (k / 8) 0).toNat ||| 2 ^ (k % 8))).toNat : Int)) := by
      rw [setBits_snoc, setBit]
      simp only [byteCells, List.map_set]
      rfl
    rw [e]
    exact hst

set_option maxRecDepth 20000 in
set_option maxHeartbeats 1000000 in
theorem alloc_fn_no (h : AllocI w0 own ct cl cd pt pl ps f g cg p3 p8 p9 gi ci nn n T L D m l lb W) (k : Nat) (hl : l.length = n) :
    Calls Try.prog 43 #[.int .i64 k, .pointer (some ⟨p8, 0, none⟩), .pointer (some ⟨p3, 0, none⟩), .pointer (some ⟨p9, 0, none⟩)] W fun e w' =>
      e = .returned (.bool false) ∧ AllocI w0 own ct cl cd pt pl ps f g cg p3 p8 p9 gi ci nn n T L D m l lb w' := by
  have hI := h
  obtain ⟨av, cv, hb8, -⟩ := h.b8
  have hc8 := hb8.cell
  have hc3 := h.b3.cell
  rw [hl] at hc8
  have heq : ((n : Int) == (n : Int)) = true := by simp
  have Hl := Lib.hid hl; clear hl
  go_enter Try.func43, Try.ntmps43
  go_wp2
  go_ret
  exact ⟨rfl, hI⟩

set_option maxRecDepth 20000 in
set_option maxHeartbeats 1000000 in
theorem alloc_fn_yes (h : AllocI w0 own ct cl cd pt pl ps f g cg p3 p8 p9 gi ci nn n T L D m l l W) (k : Nat) (hl : l.length < n) (hk : k < 8 * nn) (hnn : nn ≤ 100000) (hm : m.length = nn) (hll : l.length ≤ 100000)
    (hF : Fresh own (p3 + 1) ct cl cd) (hpg : p3 + 1 ≤ gi) (hp8 : p3 < p8) :
    Calls Try.prog 43 #[.int .i64 k, .pointer (some ⟨p8, 0, none⟩), .pointer (some ⟨p3, 0, none⟩), .pointer (some ⟨p9, 0, none⟩)] W fun e w' =>
      e = .returned (.bool true) ∧ AllocI w0 own ct cl cd pt pl ps f g cg p3 p8 p9 gi ci nn n T L D m (l ++ [k]) (l ++ [k]) w' := by
  have hI := h
  obtain ⟨av, cv, hb8, hr8⟩ := h.b8
  have hc8 := hb8.cell
  have hf8 := hb8.free
  have hc3 := h.b3.cell
  have heq : ((l.length : Int) == (n : Int)) = false := by rw [beq_eq_false_iff_ne]; omega
  obtain ⟨i0, hi, hz0, hz1, hz2⟩ := info_parts info_int
  have hlt3 := h.b3.lt
  go_enter Try.func43, Try.ntmps43
  go_wp2_with (at_builtin; go_loud (refine wpList_append_x rfl _ _ 33 rfl 3 i0 _ 1 8 Try.underlying33 hi hz0 hz1 hz2 rfl (by decide) (.slice av l.length cv) _ _ rfl (row_zero (hr8.alloc _)) ⟨_, 0, none⟩ 1 1 [.int .i64 k] rfl rfl (new_cells _ _ _ _ (by simp)) (by simp [Value.oneCell']) (by unfold maxLen; omega) (by omega) ?_; intro a' c' w3 hr3 hg3 hfr3; have hb83 := (hb8.alloc (.cells #[.int .i64 k] 3)).grown hg3 (row_ne (row_zero hr8) hb8 (by decide)); have hc83 := hb83.cell; have hf83 := hb83.free))
  have hI2 := hI.more hF hp8 hb8 hr8 hr3 hg3 hfr3
  clear hc83 hf83 hb83 hr3 hg3 hfr3 hc8 hf8 hc3 heq hb8 hr8 hI h hlt3
  generalize w3.setCell ⟨p8, 0, none⟩ (.slice a' (l.length + 1) c') = W4 at *
  have hst := hI2.bit hF hpg hk hm rfl
  have hlm : (setBits m l).length = nn := by rw [setBits_length]; exact hm
  have hc9 := hI2.b9.drew.cell
  have hci := (bytesAt_row hI2.row) (k / 8) (by omega)
  rw [Nat.zero_add] at hci
  have hor := or_walk (setBits m l)[k / 8].toNat (k % 8) (UInt8.toNat_lt _) (Nat.mod_lt _ (by decide))
  have hgd : (setBits m l).getD (k / 8) 0 = (setBits m l)[k / 8] := getD_at _ _ _ (by omega)
  rw [hgd] at hst
  have hci2 : W4.drew.cell? ⟨gi, k / 8, none⟩ = some (.int .u8 ((setBits m l)[k / 8].toNat : Int)) := hci
  have hfi : W4.drew.frozen? ⟨gi, k / 8, none⟩ = false := hI2.row.frozenAt (k / 8)
  generalize (setBits m l)[k / 8] = x at *
  have Hst := Lib.hid hst; clear hst
  have Hgd := Lib.hid hgd; clear hgd
  have Hlm := Lib.hid hlm; clear hlm
  have Hm := Lib.hid hm; clear hm
  have Hor := Lib.hid hor; clear hor hci hI2
  have hq1 : (0 : Int) ≤ (k : Int) / 8 := by omega
  have hq2 : (k : Int) / 8 < (nn : Int) := by omega
  have hq3 : ((k : Int) / 8).toNat = k / 8 := by omega
  have hq4 : (0 : Int) ≤ (k : Int) % 8 := by omega
  have hq5 : ((k : Int) % 8).toNat = k % 8 := by omega
  have hd8 : IntKind.i64.wrap ((k : Int) / 8) = (k : Int) / 8 := IntWalk.i64_in _ (by omega)
  have htm : (k : Int).tmod 8 = (k : Int) % 8 := Int.tmod_eq_emod_of_nonneg (by omega)
  refine wp_region_still_tail 10 (by kernel_rfl) (by kernel_rfl) ?_
  simp only [List.take_succ_cons, List.take_zero, List.drop_succ_cons, List.drop_zero]
  change wpStill _ _ W4.drew _ _ _
  iterate 10 still_step
  refine wpStill_nil ?_
  change wpList _ _ _ _ _ W4.drew
  go_wp2
  go_ret
  rw [Hor.out]
  exact ⟨rfl, Hst.out.drewN 1⟩

end
end Go.Proofs.Ytdcjhpihcfpamaa
