/-
  The log's functions on bytes: four, eight, number, filled, noted, note, sectors.
-/
import Derived.Test.YtdcjhpihcfpamaaSum
import Derived.Test.YtdcjhpihcfpamaaLogS
import Derived.Test.YtdcjhpihcfpamaaDisk4
namespace Go.Proofs.Ytdcjhpihcfpamaa
open Go.RowKit Go.XK

set_option maxRecDepth 20000 in
set_option maxHeartbeats 400000 in
theorem log_four (v : Int) (w : World) (h0 : 0 ≤ v) (h1 : v < 4294967296) :
    Calls Try.prog 62 #[.int .u32 v] w fun e w' => e = .returned (.string (four v)) ∧ Below w.heap.size w w' := by
  have hcv := run_convert_bytes_back (P := Try.prog) (w.alloc (.cells #[.int .u8 (v / 16777216), .int .u8 (v / 65536 % 256), .int .u8 (v / 256 % 256), .int .u8 (v % 256)] 5)) 29 9 5 ⟨w.heap.size, 0, none⟩ 4 (four v).data.toList Try.underlying29 Try.underlying5 Try.underlying9 (fun j hj => by
    refine new_cells w [.int .u8 (v / 16777216), .int .u8 (v / 65536 % 256), .int .u8 (v / 256 % 256), .int .u8 (v % 256)] _ _ rfl j _ ?_
    have e1 := byteOf_toNat (n := v / 16777216) (by omega) (by omega)
    have e2 := byteOf_toNat (n := v / 65536 % 256) (by omega) (by omega)
    have e3 := byteOf_toNat (n := v / 256 % 256) (by omega) (by omega)
    have e4 := byteOf_toNat (n := v % 256) (by omega) (by omega)
    have hj4 : j < 4 := hj
    match j, hj4 with
    | 0, _ => simpa [four] using e1.symm
    | 1, _ => simpa [four] using e2.symm
    | 2, _ => simpa [four] using e3.symm
    | 3, _ => simpa [four] using e4.symm)
  rw [show (four v).data.toList.length = 4 from rfl, show (⟨(four v).data.toList.toArray⟩ : ByteArray) = four v from rfl] at hcv
  go_enter Try.func62, Try.ntmps62
  go_wp2
  go_ret
  exact ⟨rfl, (Below.refl _ _).alloc (Nat.le_refl _) _⟩

set_option maxRecDepth 20000 in
set_option maxHeartbeats 400000 in
theorem log_eight (v : Int) (w : World) (h0 : 0 ≤ v) (h1 : v < 18446744073709551616) :
    Calls Try.prog 84 #[.int .u64 v] w fun e w' => e = .returned (.string (eight v)) ∧ Below w.heap.size w w' := by
  have s1 := four_size (v / 4294967296)
  have s2 := four_size (v % 4294967296)
  go_enter Try.func84, Try.ntmps84
  go_wp2_with fail
  refine (log_four _ _ (by omega) (by omega)).mono ?_
  rintro e w1 ⟨rfl, hB1⟩
  go_wp2_with fail
  refine (log_four _ _ (by omega) (by omega)).mono ?_
  rintro e w2 ⟨rfl, hB2⟩
  go_wp2
  go_ret
  exact ⟨rfl, hB1.trans (hB2.mono hB1.size)⟩

set_option maxRecDepth 20000 in
set_option maxHeartbeats 400000 in
theorem log_number (s : ByteArray) (w : World) (hs : s.size ≤ 8) :
    Calls Try.prog 90 #[.string s] w fun e w' => e = .returned (.int .u64 (numS s)) ∧ w = w' := by
  go_enter Try.func90, Try.ntmps90
  go_wp2
  go_loopg [3, 7] (s.size) (fun k v i wr => ∃ j : Nat, j + k = s.size ∧ i = .int .i64 j ∧ v = .int .u64 (num (s.data.toList.take j) : Nat) ∧ w = wr)
  case atStart => exact ⟨0, by omega, rfl, rfl, rfl⟩
  case round =>
    obtain ⟨j, hj, rfl, rfl, rfl⟩ := hrel
    by_cases hlt : j < s.size
    · have hx := num_lt (s.data.toList.take j)
      have hl : (s.data.toList.take j).length ≤ 7 := by rw [List.length_take]; omega
      have hx2 : num (s.data.toList.take j) < 256 ^ 7 := Nat.lt_of_lt_of_le hx (Nat.pow_le_pow_right (by decide) hl)
      clear hx hl
      have hsn : num (s.data.toList.take (j + 1)) = num (s.data.toList.take j) * 256 + s[j].toNat := by rw [take_snoc s j hlt, num_snoc]
      generalize num (s.data.toList.take j) = x at hx2 hsn
      have hx3 : (x : Int) < 72057594037927936 := by omega
      clear hx2
      have hbt := s[j].toNat_lt
      have hbt' : (s[j].toNat : Int) < 256 := by omega
      have e1 : bits BinOp.or IntKind.u64 ((x : Int) * 256) (s[j].toNat : Int) = ((x * 256 + s[j].toNat : Nat) : Int) := by
        have := u64_or_nat (x * 256) s[j].toNat (by omega) (by omega)
        rw [nat_join 8 _ _ (by omega) (by omega)] at this
        simpa using this
      have Hsn := Lib.hid hsn; clear hsn
      go_wp2
      go_roundg (s.size - (j + 1))
      case measure => omega
      case rel => exact ⟨j + 1, by omega, by go_num, by rw [Hsn.out]; simp, rfl⟩
    · obtain rfl : j = s.size := by omega
      go_wp2
      go_ret
      refine ⟨?_, rfl⟩
      unfold numS
      rw [List.take_of_length_le (by simp)]
      rfl

set_option maxRecDepth 20000 in
set_option maxHeartbeats 400000 in
theorem log_filled (s : ByteArray) (w : World) (hs : s.size ≤ 512) :
    Calls Try.prog 64 #[.string s] w fun e w' => e = .returned (.string (filled s)) ∧ Below w.heap.size w w' := by
  have hlen : (ByteArray.mk #[0]).size * (512 - s.size) ≤ 140737488355328 := by
    have : (ByteArray.mk #[0]).size = 1 := rfl
    rw [this]; omega
  have hrep : (⟨(Lib.repeatL (ByteArray.mk #[0]).data.toList (512 - s.size)).toArray⟩ : ByteArray) = zerosN (512 - s.size) :=
    congrArg (fun l : List UInt8 => (⟨l.toArray⟩ : ByteArray)) (repeat_zero _)
  have hzs := zerosN_size (512 - s.size)
  have hcast : (512 : Int) - (s.size : Int) = ((512 - s.size : Nat) : Int) := by omega
  have Hr := Lib.hid hrep; clear hrep
  have Hc := Lib.hid hcast; clear hcast
  have Hz := Lib.hid hzs; clear hzs
  go_enter Try.func64, Try.ntmps64
  go_wp2_with fail
  rw [Hc.out]
  refine (Try.strings_Repeat ⟨#[0]⟩ (512 - s.size) _ (by omega) hlen).mono ?_
  rintro e w1 ⟨rfl, hB⟩
  rw [Hr.out]
  have hz2 : (s.size : Int) + (zerosN (512 - s.size)).size ≤ 9223372036854775807 := by rw [Hz.out]; omega
  go_wp2
  go_ret
  exact ⟨rfl, hB⟩

set_option maxRecDepth 20000 in
set_option maxHeartbeats 400000 in
theorem log_noted (mark : ByteArray) (n : Int) (w : World) (hm : mark.size = 16) (h0 : 0 ≤ n) (h1 : n ≤ 9223372036854775807) :
    Calls Try.prog 66 #[.string mark, .int .i64 n] w fun e w' => e = .returned (.string (noted mark n)) ∧ Below w.heap.size w w' := by
  have s1 := eight_size n
  have s2 : (mark ++ eight n).size ≤ 24 := by rw [size_app]; omega
  have s3 := eight_size (sumOf (mark ++ eight n))
  have s4 : (mark ++ eight n ++ eight (sumOf (mark ++ eight n))).size ≤ 512 := by rw [size_app]; omega
  have hs := sumOf_lt (mark ++ eight n)
  have Hm := Lib.hid hm; clear hm
  have S1 := Lib.hid s1; clear s1
  have S3 := Lib.hid s3; clear s3
  have b1 : (mark.size : Int) + ((eight n).size : Int) ≤ 9223372036854775807 := by rw [Hm.out, S1.out]; decide
  have b2 : ((mark ++ eight n).size : Int) + ((eight (sumOf (mark ++ eight n))).size : Int) ≤ 9223372036854775807 := by rw [S3.out]; omega
  go_enter Try.func66, Try.ntmps66
  go_wp2_with fail
  refine (log_eight _ _ (by omega) (by omega)).mono ?_
  rintro e w1 ⟨rfl, hB1⟩
  go_wp2_with fail
  generalize hmm : mark ++ eight n = m at *
  have Hmm := Lib.hid hmm; clear hmm
  refine (sum_Of _ _ (by omega)).mono ?_
  rintro e w2 ⟨rfl, hB2⟩
  go_wp2_with fail
  refine (log_eight _ _ (by omega) (by omega)).mono ?_
  rintro e w3 ⟨rfl, hB3⟩
  go_wp2_with fail
  refine (log_filled _ _ (by omega)).mono ?_
  rintro e w4 ⟨rfl, hB4⟩
  go_wp2
  go_ret
  have q1 := hB1.size
  have q2 := hB2.size
  have q3 := hB3.size
  refine ⟨?_, ((hB1.trans (hB2.mono (by omega))).trans (hB3.mono (by omega))).trans (hB4.mono (by omega))⟩
  unfold noted
  rw [Hmm.out]
  rfl

set_option maxRecDepth 20000 in
set_option maxHeartbeats 400000 in
theorem log_note_n (mark b : ByteArray) (n : Int) (w : World) (hm : mark.size = 16) (hb : b.size = 512) (hle : n ≤ 9223372036854775807) (hw : wrap64 ((numS (b.extract 16 24) : Nat) : Int) = n) :
    Calls Try.prog 73 #[.string mark, .string b] w fun e w' => e = .returned (.tuple #[.int .i64 n, .bool (decide (0 ≤ n) && decide (b = noted mark n))]) ∧ Below w.heap.size w w' := by
  have h8 : (b.extract 16 24).size ≤ 8 := by simp; omega
  by_cases h0 : 0 ≤ n
  · go_enter Try.func73, Try.ntmps73
    go_wp2_with fail
    refine (log_number _ _ h8).mono ?_
    rintro e w1 ⟨rfl, rfl⟩
    go_wp2_with (first | (go_at_call 66; refine (log_noted mark _ _ hm h0 hle).mono ?_; rintro e w1 ⟨rfl, hB⟩))
    go_ret2
    refine ⟨?_, hB⟩
    rw [← str_eq]
    simp [h0]
  · go_enter Try.func73, Try.ntmps73
    go_wp2_with fail
    refine (log_number _ _ h8).mono ?_
    rintro e w1 ⟨rfl, rfl⟩
    go_wp2
    go_ret2
    refine ⟨?_, Below.refl _ _⟩
    have : decide (0 ≤ n) = false := by simp; omega
    rw [this]
    rfl

theorem log_note (mark b : ByteArray) (w : World) (hm : mark.size = 16) (hb : b.size = 512) :
    Calls Try.prog 73 #[.string mark, .string b] w fun e w' => e = .returned (.tuple #[.int .i64 (noteN b), .bool (noteIs mark b)]) ∧ Below w.heap.size w w' :=
  log_note_n mark b (noteN b) w hm hb (noteN_le b) (noteN_is b)

set_option maxHeartbeats 400000 in
theorem log_sectors (n : Int) (w : World) (h0 : 0 ≤ n) (h1 : n ≤ 4000000000000000000) :
    Calls Try.prog 80 #[.int .i64 n] w fun e w' => e = .returned (.int .i64 (sectorsN n.toNat)) ∧ w = w' := by
  go_enter Try.func80, Try.ntmps80
  go_wp2
  go_ret
  refine ⟨?_, rfl⟩
  unfold sectorsN
  simp
  omega

end Go.Proofs.Ytdcjhpihcfpamaa
