/-
  The sum: halves, On, Of.
-/
import Derived.Test.YtdcjhpihcfpamaaRows
import Derived.Test.YtdcjhpihcfpamaaSumS
import Derived.Deep.LoopGhost
namespace Go.Proofs.Ytdcjhpihcfpamaa
open Go.RowKit Go.XK

def tabC (j : Nat) : Array Value := ((List.range 16).map fun i => if i < j then Value.int .u64 (half i) else Value.int .u64 0).toArray

theorem tabC_get (j i : Nat) (h : i < 16) : (tabC j)[i]? = some (if i < j then Value.int .u64 (half i) else Value.int .u64 0) := by
  simp [tabC, h]
theorem tabC_set (j : Nat) (h : j < 16) : (tabC j).setIfInBounds j (.int .u64 (half j)) = tabC (j + 1) := by
  apply Array.ext_getElem?
  intro i
  rw [Array.getElem?_setIfInBounds]
  by_cases hi : i < 16
  · rw [tabC_get _ _ hi, tabC_get _ _ hi]
    by_cases e : j = i
    · subst e; simp [tabC]; omega
    · rw [if_neg e]
      by_cases h1 : i < j
      · rw [if_pos h1, if_pos (by omega)]
      · rw [if_neg h1, if_neg (by omega)]
  · have h1 : (tabC j).size ≤ i := by simp [tabC]; omega
    have h2 : (tabC (j + 1)).size ≤ i := by simp [tabC]; omega
    rw [if_neg (by omega), Array.getElem?_eq_none h1, Array.getElem?_eq_none h2]
theorem tabC_zero : tabC 0 = #[Value.int .u64 0, Value.int .u64 0, Value.int .u64 0, Value.int .u64 0, Value.int .u64 0, Value.int .u64 0, Value.int .u64 0, Value.int .u64 0, Value.int .u64 0, Value.int .u64 0, Value.int .u64 0, Value.int .u64 0, Value.int .u64 0, Value.int .u64 0, Value.int .u64 0, Value.int .u64 0] := rfl
/-- The table. -/
theorem tabC_all : tabC 16 = #[Value.int .u64 (half 0), Value.int .u64 (half 1), Value.int .u64 (half 2), Value.int .u64 (half 3), Value.int .u64 (half 4), Value.int .u64 (half 5), Value.int .u64 (half 6), Value.int .u64 (half 7), Value.int .u64 (half 8), Value.int .u64 (half 9), Value.int .u64 (half 10), Value.int .u64 (half 11), Value.int .u64 (half 12), Value.int .u64 (half 13), Value.int .u64 (half 14), Value.int .u64 (half 15)] := rfl

theorem tabC_one : (tabC 16).all (·.oneCell') = true := by rw [tabC_all]; simp [Value.oneCell']

set_option maxRecDepth 20000 in
set_option maxHeartbeats 1000000 in
theorem sum_halves (w : World) :
    Calls Try.prog 113 #[] w fun e w' => e = .returned (.agg (tabC 16)) ∧ Below w.heap.size w w' := by
  go_enter Try.func113, Try.ntmps113
  go_wp2
  go_loopg [5] (16) (fun k i wr => ∃ j : Nat, j + k = 16 ∧ i = .int .i64 j ∧ blk wr (w.heap.size + 1) (tabC j) 160 ∧ blk wr w.heap.size (tabC 0) 160 ∧ Below w.heap.size w wr)
  case atStart =>
    refine ⟨0, by omega, rfl, ?_, ?_, ?_⟩
    · rw [tabC_zero]; exact blk.new' _ _ _ (by simp)
    · rw [tabC_zero]; exact (blk.new _ _ _).alloc _
    · exact ((Below.refl _ _).alloc (Nat.le_refl _) _).alloc (by simp) _
  case round =>
    obtain ⟨j, hj, rfl, hb, hb0, hB⟩ := hrel
    by_cases hlt : j < 16
    · go_wp2
      go_loopg [3, 10] (4) (fun k x i wr2 => ∃ jj : Nat, jj + k = 4 ∧ i = .int .i64 jj ∧ x = .int .u64 (hiter jj j : Nat) ∧ wr2 = wr)
      case atStart => exact ⟨0, by omega, rfl, rfl, rfl⟩
      case round =>
        obtain ⟨jj, hjj, rfl, rfl, rfl⟩ := hrel
        have hy := hiter_lt jj (show j < 18446744073709551616 by omega)
        generalize hg : hiter jj j = y at hy
        have hs : hiter (jj + 1) j = hstep y := by rw [← hg]; rfl
        have Hs := Lib.hid hs; clear hs
        have Hg := Lib.hid hg; clear hg
        have ha : bits BinOp.and IntKind.u64 (y : Int) 1 = ((y &&& 1 : Nat) : Int) := u64_and_nat y 1 hy (by decide)
        have hx : bits BinOp.xor IntKind.u64 ((y : Int) / 2) 14514072000185962306 = (((y / 2) ^^^ 14514072000185962306 : Nat) : Int) := by
          have := u64_xor_nat (y / 2) 14514072000185962306 (by omega) (by decide)
          simpa using this
        by_cases hlt2 : jj < 4
        · have Ha := Lib.hid ha; clear ha
          have Hx := Lib.hid hx; clear hx
          by_cases h1 : y &&& 1 = 1
          · have h1' : (bits BinOp.and IntKind.u64 (y : Int) 1 == 1) = true := by rw [Ha.out, h1]; rfl
            have H1 := Lib.hid h1; clear h1
            go_wp2
            go_roundg (4 - (jj + 1))
            case measure => omega
            case rel => exact ⟨jj + 1, by omega, by go_num, by rw [Hs.out, Hx.out, hstep, if_pos H1.out], rfl⟩
          · have h1' : (bits BinOp.and IntKind.u64 (y : Int) 1 == 1) = false := by rw [Ha.out, beq_eq_false_iff_ne]; omega
            have H1 := Lib.hid h1; clear h1
            go_wp2
            go_roundg (4 - (jj + 1))
            case measure => omega
            case rel => exact ⟨jj + 1, by omega, by go_num, by rw [Hs.out, hstep, if_neg H1.out]; rfl, rfl⟩
        · obtain rfl : jj = 4 := by omega
          clear ha hx
          have hc := hb.cell (w := wr) j
          rw [tabC_get j j hlt, if_neg (by omega)] at hc
          have hf := hb.free j
          have hl1 := hb.lt
          go_wp2
          go_roundg (16 - (j + 1))
          case measure => omega
          case rel =>
            refine ⟨j + 1, by omega, by go_num, ?_, hb0.set_ne _ (by simp), hB.setCell (by simp) _⟩
            rw [← tabC_set j hlt]
            have := hb.set j (.int .u64 (half j))
            rw [show y = half j from Hg.out.symm]
            exact this
    · obtain rfl : j = 16 := by omega
      have hl0 := hb0.lt
      go_wp2_with (first | (refine wpList_load_row rfl 160 (.tmp 1) rfl (w.heap.size + 1) rfl 160 (tabC 16) (0, 0) _ hb Try.underlying160 rfl (by kernel_rfl) ?_) | (refine wpList_store_row rfl 160 (.tmp 0) (.tmp 25) rfl w.heap.size (tabC 16) rfl rfl 160 (tabC 0) hb0 (by kernel_rfl) rfl tabC_one ?_))
      refine bodyPost_ret (results_cell_row rfl _ _ w.heap.size 160 (tabC 16) (0, 0) _ rfl (hb0.setRow (tabC 16)) Try.underlying160 rfl (by kernel_rfl)) rfl ?_
      exact ⟨rfl, below_setRow hB (Nat.le_refl _) _⟩

set_option maxRecDepth 20000 in
set_option maxHeartbeats 1000000 in
theorem sum_On (s : ByteArray) (w : World) (hs : s.size ≤ 9223372036854775807) :
    Calls Try.prog 97 #[.int .u64 0, .string s] w fun e w' => e = .returned (.int .u64 (sumOf s)) ∧ Below w.heap.size w w' := by
  go_enter Try.func97, Try.ntmps97
  go_wp2_with fail
  refine (sum_halves _).mono ?_
  rintro e w1 ⟨rfl, hB⟩
  have hBs := hB.size
  go_wp2_with (first | (refine wpList_store_row rfl 160 (.tmp 5) (.tmp 8) rfl w1.heap.size (tabC 16) rfl rfl 160 (tabC 0) (blk.new w1 (tabC 0) 160) (by kernel_rfl) rfl tabC_one ?_))
  go_loopg [6, 13] s.size (fun k x i wr => ∃ j : Nat, j + k = s.size ∧ i = .int .i64 j ∧ x = .int .u64 (sumAt (s.data.toList.take j) : Nat) ∧ blk wr w1.heap.size (tabC 16) 160 ∧ Below w.heap.size w wr)
  case atStart => exact ⟨0, by omega, rfl, rfl, (blk.new w1 (tabC 0) 160).setRow _, below_setRow (hB.alloc hBs _) hBs _⟩
  case round =>
    obtain ⟨j, hj, rfl, rfl, hb, hB2⟩ := hrel
    by_cases hlt : j < s.size
    · have hx := sumAt_lt (s.data.toList.take j)
      have hsn : sumAt (s.data.toList.take (j + 1)) = sstep (sumAt (s.data.toList.take j)) s[j] := by rw [take_snoc s j hlt, sumAt_snoc]
      generalize sumAt (s.data.toList.take j) = x at hx hsn
      have hbt := s[j].toNat_lt
      have hbt' : (s[j].toNat : Int) < 256 := by omega
      have hy := xor_lt64 hx (show s[j].toNat < 18446744073709551616 by omega)
      have e1 : bits BinOp.xor IntKind.u64 (x : Int) (s[j].toNat : Int) = ((x ^^^ s[j].toNat : Nat) : Int) := u64_xor_nat _ _ hx (by omega)
      generalize hyy : x ^^^ s[j].toNat = y at hy e1
      have a1 : bits BinOp.and IntKind.u64 (y : Int) 15 = ((y % 16 : Nat) : Int) := by rw [← and15]; exact u64_and_nat y 15 hy (by decide)
      have m1 := Nat.mod_lt y (show 0 < 16 by decide)
      have t1 := half_lt m1
      have c1 : wr.cell? ⟨w1.heap.size, y % 16, none⟩ = some (.int .u64 (half (y % 16) : Nat)) := by rw [hb.cell, tabC_get _ _ m1, if_pos m1]
      have x1 : bits BinOp.xor IntKind.u64 ((y : Int) / 16) (half (y % 16) : Nat) = ((y / 16 ^^^ half (y % 16) : Nat) : Int) := by
        have := u64_xor_nat (y / 16) (half (y % 16)) (by omega) t1
        simpa using this
      have hz := xor_lt64 (show y / 16 < 18446744073709551616 by omega) t1
      generalize hzz : y / 16 ^^^ half (y % 16) = z at hz x1
      have a2 : bits BinOp.and IntKind.u64 (z : Int) 15 = ((z % 16 : Nat) : Int) := by rw [← and15]; exact u64_and_nat z 15 hz (by decide)
      have m2 := Nat.mod_lt z (show 0 < 16 by decide)
      have t2 := half_lt m2
      have c2 : wr.cell? ⟨w1.heap.size, z % 16, none⟩ = some (.int .u64 (half (z % 16) : Nat)) := by rw [hb.cell, tabC_get _ _ m2, if_pos m2]
      have x2 : bits BinOp.xor IntKind.u64 ((z : Int) / 16) (half (z % 16) : Nat) = ((z / 16 ^^^ half (z % 16) : Nat) : Int) := by
        have := u64_xor_nat (z / 16) (half (z % 16)) (by omega) t2
        simpa using this
      have hfin : sstep x s[j] = z / 16 ^^^ half (z % 16) := by unfold sstep; rw [hyy]; simp only [hzz]
      rw [hfin] at hsn
      have Hsn := Lib.hid hsn; clear hsn
      clear hfin
      have Hyy := Lib.hid hyy; clear hyy
      have Hzz := Lib.hid hzz; clear hzz
      go_wp2
      go_roundg (s.size - (j + 1))
      case measure => omega
      case rel => exact ⟨j + 1, by omega, by go_num, by rw [Hsn.out], hb, hB2⟩
    · obtain rfl : j = s.size := by omega
      have hx := sumAt_lt (s.data.toList.take s.size)
      have e1 : bits BinOp.xor IntKind.u64 IntKind.u64.max ((sumAt (s.data.toList.take s.size) : Nat) : Int) = ((sumOf s : Nat) : Int) := by
        have := u64_xor_nat 18446744073709551615 (sumAt (s.data.toList.take s.size)) (by decide) hx
        rw [show (IntKind.u64.max : Int) = ((18446744073709551615 : Nat) : Int) from rfl, this]
        rw [List.take_of_length_le (by simp)] at *
        congr 1
        unfold sumOf
        exact not64 hx
      go_wp2
      go_ret
      exact ⟨rfl, hB2⟩

theorem sum_Of (s : ByteArray) (w : World) (hs : s.size ≤ 9223372036854775807) :
    Calls Try.prog 85 #[.string s] w fun e w' => e = .returned (.int .u64 (sumOf s)) ∧ Below w.heap.size w w' := by
  go_enter Try.func85, Try.ntmps85
  go_wp2_with (first | (go_at_call 97; refine (sum_On s _ hs).mono ?_; rintro e w1 ⟨rfl, hB⟩))
  go_ret
  exact ⟨rfl, ‹_›⟩

end Go.Proofs.Ytdcjhpihcfpamaa
