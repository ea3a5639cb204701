/-
  What the log writes into sectors, as plain bytes.
-/
import Derived.Test.YtdcjhpihcfpamaaSumS
import Derived.Test.YtdcjhpihcfpamaaDiskS
namespace Go.XK
open Go.RowKit

def numS (s : ByteArray) : Nat := num s.data.toList
def zerosN (n : Nat) : ByteArray := ⟨(List.replicate n 0).toArray⟩
theorem zerosN_size (n : Nat) : (zerosN n).size = n := by
  show (List.replicate n (0 : UInt8)).toArray.size = n
  rw [List.size_toArray, List.length_replicate]
def filled (s : ByteArray) : ByteArray := s ++ zerosN (512 - s.size)
theorem filled_size {s : ByteArray} (h : s.size ≤ 512) : (filled s).size = 512 := by
  unfold filled; rw [size_app, zerosN_size]; omega
theorem filled_empty : filled ⟨#[]⟩ = zeros := by
  apply ByteArray.ext
  apply Array.toList_inj.1
  show ((⟨#[]⟩ : ByteArray) ++ zerosN 512).data.toList = _
  rw [ByteArray.data_append, Array.toList_append]
  exact List.nil_append _

def noted (mark : ByteArray) (n : Int) : ByteArray := filled (mark ++ eight n ++ eight (sumOf (mark ++ eight n)))
theorem noted_size {mark : ByteArray} (h : mark.size = 16) (n : Int) : (noted mark n).size = 512 := by
  unfold noted; refine filled_size ?_; rw [size_app, size_app, eight_size, eight_size]; omega

/-- What a sector says under a mark. -/
def noteN (b : ByteArray) : Int := wrap64 (numS (b.extract 16 24))
def noteIs (mark b : ByteArray) : Bool := decide (0 ≤ noteN b) && decide (b = noted mark (noteN b))

theorem noteN_is (b : ByteArray) : wrap64 ((numS (b.extract 16 24) : Nat) : Int) = noteN b := by unfold noteN; rfl

theorem noteN_le (b : ByteArray) : noteN b ≤ 9223372036854775807 := by unfold noteN wrap64; omega

theorem numS_four {v : Int} (h0 : 0 ≤ v) (h1 : v < 4294967296) : (numS (four v) : Int) = v := by
  have e1 := byteOf_toNat (n := v / 16777216) (by omega) (by omega)
  have e2 := byteOf_toNat (n := v / 65536 % 256) (by omega) (by omega)
  have e3 := byteOf_toNat (n := v / 256 % 256) (by omega) (by omega)
  have e4 := byteOf_toNat (n := v % 256) (by omega) (by omega)
  show ((((0 * 256 + (byteOf (v / 16777216)).toNat) * 256 + (byteOf (v / 65536 % 256)).toNat) * 256 + (byteOf (v / 256 % 256)).toNat) * 256 + (byteOf (v % 256)).toNat : Nat) = v
  omega

theorem num_append (a b : List UInt8) : num (a ++ b) = num a * 256 ^ b.length + num b := by
  have : ∀ (b : List UInt8) (v : Nat), b.foldl (fun v b => v * 256 + b.toNat) v = v * 256 ^ b.length + num b := by
    intro b
    induction b with
    | nil => intro v; simp [num]
    | cons x b ih =>
      intro v
      rw [List.foldl_cons, ih, List.length_cons, Nat.pow_succ]
      have h2 : num (x :: b) = x.toNat * 256 ^ b.length + num b := by
        show (x :: b).foldl _ 0 = _
        rw [List.foldl_cons, ih]; simp
      rw [h2, Nat.add_mul, Nat.mul_assoc, Nat.mul_comm 256, Nat.add_assoc]
  unfold num at *
  rw [List.foldl_append, this]

theorem numS_eight {v : Int} (h0 : 0 ≤ v) (h1 : v < 18446744073709551616) : (numS (eight v) : Int) = v := by
  unfold numS eight
  rw [ByteArray.data_append, Array.toList_append, num_append]
  have a := numS_four (v := v / 4294967296) (by omega) (by omega)
  have b := numS_four (v := v % 4294967296) (by omega) (by omega)
  unfold numS at a b
  have hl : (four (v % 4294967296)).data.toList.length = 4 := rfl
  rw [hl]
  omega

theorem extract_mid {a b c : ByteArray} (h : a.size = 16) (hb : b.size = 8) : (a ++ b ++ c).extract 16 24 = b := by
  apply ByteArray.ext
  apply Array.toList_inj.1
  rw [ByteArray.data_extract, ByteArray.data_append, ByteArray.data_append]
  have h1 : a.data.toList.length = 16 := by simpa using h
  have h2 : b.data.toList.length = 8 := by simpa using hb
  simp only [Array.toList_extract, Array.toList_append, List.extract_eq_take_drop]
  rw [List.append_assoc, List.drop_left' h1]
  exact List.take_left' h2

theorem noteN_noted {mark : ByteArray} (hm : mark.size = 16) {n : Int} (h0 : 0 ≤ n) (h1 : n ≤ 9223372036854775807) : noteN (noted mark n) = n := by
  unfold noteN noted filled
  rw [ByteArray.append_assoc, extract_mid hm (eight_size n), numS_eight h0 (by omega)]
  unfold wrap64; omega

theorem noteIs_noted {mark : ByteArray} (hm : mark.size = 16) {n : Int} (h0 : 0 ≤ n) (h1 : n ≤ 9223372036854775807) : noteIs mark (noted mark n) = true := by
  unfold noteIs; rw [noteN_noted hm h0 h1]; simp [h0]

def sizeMark : ByteArray := ⟨#[99, 111, 102, 102, 101, 114, 32, 108, 111, 103, 32, 115, 105, 122, 101, 32]⟩
def commitMark : ByteArray := ⟨#[99, 111, 102, 102, 101, 114, 32, 99, 111, 109, 109, 105, 116, 32, 32, 32]⟩
theorem sizeMark_size : sizeMark.size = 16 := rfl
theorem commitMark_size : commitMark.size = 16 := rfl

theorem head_noted (mark : ByteArray) (n : Int) (x : UInt8) (l : List UInt8) (h : mark.data.toList = x :: l) : (noted mark n).data.toList.head? = some x := by
  unfold noted filled
  simp only [ByteArray.data_append, Array.toList_append, h]
  rfl

/-- Zeros say nothing. -/
theorem noteIs_zeros {mark : ByteArray} {x : UInt8} {l : List UInt8} (h : mark.data.toList = x :: l) (hx : x ≠ 0) : noteIs mark zeros = false := by
  unfold noteIs
  simp only [Bool.and_eq_false_iff, decide_eq_false_iff_not]
  right
  intro e
  have := head_noted mark (noteN zeros) x l h
  rw [← e] at this
  have h2 : zeros.data.toList.head? = some 0 := by
    show (List.replicate 512 (0 : UInt8)).head? = some 0
    rw [List.head?_replicate]; rfl
  rw [h2] at this
  exact hx (Option.some.inj this).symm

/-- Beside its first two sectors. -/
def sectorsN (n : Nat) : Nat := n + (n + 127) / 128

end Go.XK
