/-
  The sum of a text, as plain numbers; numbers as bytes.
-/
import Derived.Test.YtdcjhpihcfpamaaKit
namespace Go.XK

/-- One step on half a byte. -/
def hstep (y : Nat) : Nat := if y &&& 1 = 1 then (y / 2) ^^^ 14514072000185962306 else y / 2
def half (j : Nat) : Nat := hstep (hstep (hstep (hstep j)))
def hiter : Nat → Nat → Nat
  | 0, y => y
  | k + 1, y => hstep (hiter k y)

theorem xor_lt64 {a b : Nat} (ha : a < 18446744073709551616) (hb : b < 18446744073709551616) : a ^^^ b < 18446744073709551616 := Nat.xor_lt_two_pow (n := 64) ha hb
theorem and15 (a : Nat) : a &&& 15 = a % 16 := Nat.and_two_pow_sub_one_eq_mod a 4

theorem hstep_lt {y : Nat} (h : y < 18446744073709551616) : hstep y < 18446744073709551616 := by
  unfold hstep; split
  · exact xor_lt64 (by omega) (by decide)
  · omega
theorem hiter_lt (k : Nat) {y : Nat} (h : y < 18446744073709551616) : hiter k y < 18446744073709551616 := by
  induction k with
  | zero => exact h
  | succ k ih => exact hstep_lt ih
theorem half_lt {j : Nat} (h : j < 16) : half j < 18446744073709551616 := hiter_lt 4 (by omega)

/-- One byte on a sum (the complement of one). -/
def sstep (x : Nat) (b : UInt8) : Nat :=
  let y := x ^^^ b.toNat
  let z := (y / 16) ^^^ half (y % 16)
  (z / 16) ^^^ half (z % 16)

theorem sstep_lt {x : Nat} (h : x < 18446744073709551616) (b : UInt8) : sstep x b < 18446744073709551616 := by
  have hb := b.toNat_lt
  have h1 := xor_lt64 h (show b.toNat < 18446744073709551616 by omega)
  have h2 := half_lt (Nat.mod_lt (x ^^^ b.toNat) (show 0 < 16 by decide))
  have h3 := xor_lt64 (show (x ^^^ b.toNat) / 16 < 18446744073709551616 by omega) h2
  exact xor_lt64 (by omega) (half_lt (Nat.mod_lt _ (by decide)))

def sumAt (l : List UInt8) : Nat := l.foldl sstep 18446744073709551615
theorem sumAt_lt (l : List UInt8) : sumAt l < 18446744073709551616 := by
  have : ∀ (l : List UInt8) (x : Nat), x < 18446744073709551616 → l.foldl sstep x < 18446744073709551616 := by
    intro l
    induction l with
    | nil => intro x h; exact h
    | cons b l ih => intro x h; exact ih _ (sstep_lt h b)
  exact this l _ (by decide)
theorem sumAt_snoc (l : List UInt8) (b : UInt8) : sumAt (l ++ [b]) = sstep (sumAt l) b := by simp [sumAt]

/-- The sum. -/
def sumOf (s : ByteArray) : Nat := 18446744073709551615 - sumAt s.data.toList
theorem sumOf_lt (s : ByteArray) : sumOf s < 18446744073709551616 := by unfold sumOf; omega

theorem not64 {x : Nat} (h : x < 18446744073709551616) : 18446744073709551615 ^^^ x = 18446744073709551615 - x := by
  apply Nat.eq_of_testBit_eq
  intro i
  rw [Nat.testBit_xor, show (18446744073709551615 : Nat) = 2 ^ 64 - 1 from rfl, Nat.testBit_two_pow_sub_one]
  rw [show 2 ^ 64 - 1 - x = 2 ^ 64 - (x + 1) by omega, Nat.testBit_two_pow_sub_succ h]
  by_cases hi : i < 64
  · simp [hi]
  · have : x.testBit i = false := Nat.testBit_lt_two_pow (Nat.lt_of_lt_of_le (show x < 2 ^ 64 from h) (Nat.pow_le_pow_right (show 2 > 0 by decide) (by omega)))
    simp [hi, this]

def byteOf (n : Int) : UInt8 := UInt8.ofNat n.toNat
theorem byteOf_toNat {n : Int} (h0 : 0 ≤ n) (h1 : n < 256) : ((byteOf n).toNat : Int) = n := by
  unfold byteOf; rw [UInt8.toNat_ofNat']; omega

def four (v : Int) : ByteArray := ⟨#[byteOf (v / 16777216), byteOf (v / 65536 % 256), byteOf (v / 256 % 256), byteOf (v % 256)]⟩
def eight (v : Int) : ByteArray := four (v / 4294967296) ++ four (v % 4294967296)

/-- The number of bytes. -/
def num (l : List UInt8) : Nat := l.foldl (fun v b => v * 256 + b.toNat) 0
theorem num_snoc (l : List UInt8) (b : UInt8) : num (l ++ [b]) = num l * 256 + b.toNat := by simp [num]
theorem num_lt (l : List UInt8) : num l < 256 ^ l.length := by
  have : ∀ (l : List UInt8) (v : Nat), l.foldl (fun v b => v * 256 + b.toNat) v < (v + 1) * 256 ^ l.length := by
    intro l
    induction l with
    | nil => intro v; simp
    | cons b l ih =>
      intro v
      have h := ih (v * 256 + b.toNat)
      have hb := b.toNat_lt
      rw [List.foldl_cons, List.length_cons, Nat.pow_succ]
      refine Nat.lt_of_lt_of_le h ?_
      rw [Nat.mul_comm (256 ^ l.length) 256, ← Nat.mul_assoc]
      exact Nat.mul_le_mul_right _ (by omega)
  have h := this l 0
  rw [Nat.zero_add, Nat.one_mul] at h
  exact h

theorem take_snoc (s : ByteArray) (k : Nat) (h : k < s.size) : s.data.toList.take (k + 1) = s.data.toList.take k ++ [s[k]] := by
  rw [List.take_succ_eq_append_getElem (by simpa using h)]; rfl

theorem size_app (a b : ByteArray) : (a ++ b).size = a.size + b.size := by simp
theorem four_size (v : Int) : (four v).size = 4 := rfl
theorem eight_size (v : Int) : (eight v).size = 8 := by unfold eight; rw [size_app]; rfl

end Go.XK
