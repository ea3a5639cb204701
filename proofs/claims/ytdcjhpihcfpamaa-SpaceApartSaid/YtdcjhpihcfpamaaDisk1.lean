/-
  The disk's methods that only read, and falls, Fall.
-/
import Derived.Test.YtdcjhpihcfpamaaRows
import Derived.Test.YtdcjhpihcfpamaaDiskS
namespace Go.Proofs.Ytdcjhpihcfpamaa
open Go.RowKit Go.XK

set_option maxHeartbeats 400000 in
theorem disk_is (p : Nat) (n : Int) (s : Option Addr) (len cap : Nat) (w : World) (hc : w.cell? ⟨p, 0, none⟩ = some (.slice s len cap)) :
    Calls Try.prog 76 #[.pointer (some ⟨p, 0, none⟩), .int .i64 n] w fun e w' => e = .returned (.bool (decide (0 ≤ n ∧ n < len))) ∧ w = w' := by
  by_cases h1 : 0 ≤ n
  · go_enter Try.func76, Try.ntmps76
    go_wp2
    go_ret
    exact ⟨by simp [h1], rfl⟩
  · go_enter Try.func76, Try.ntmps76
    go_wp2
    go_ret
    exact ⟨by simp; omega, rfl⟩

/-- The same, by the disk. -/
theorem disk_has {w : World} {own : Nat → Nat} {c p : Nat} {D : Dsk} (hR : DiskR w own c p D) (n : Int) :
    Calls Try.prog 76 #[.pointer (some ⟨p, 0, none⟩), .int .i64 n] w fun e w' => e = .returned (.bool (D.has n)) ∧ w = w' := by
  obtain ⟨sv, fv, pv, hb, h1, -⟩ := hR.ex
  obtain ⟨g, cap, cur, rfl, -⟩ := row_open h1 hR.ok.pos
  exact disk_is p n _ _ _ w (by rw [hb.cell]; rfl)

set_option maxHeartbeats 400000 in
theorem disk_Off {w : World} {own : Nat → Nat} {c p : Nat} {D : Dsk} (hR : DiskR w own c p D) :
    Calls Try.prog 34 #[.pointer (some ⟨p, 0, none⟩)] w fun e w' => e = .returned (.bool D.off) ∧ w = w' := by
  obtain ⟨sv, fv, pv, hb, -⟩ := hR.ex
  have hc := hb.cell
  go_enter Try.func34, Try.ntmps34
  go_wp2
  go_ret
  exact ⟨rfl, rfl⟩

set_option maxHeartbeats 400000 in
theorem disk_Sectors {w : World} {own : Nat → Nat} {c p : Nat} {D : Dsk} (hR : DiskR w own c p D) :
    Calls Try.prog 38 #[.pointer (some ⟨p, 0, none⟩)] w fun e w' => e = .returned (.int .i64 D.seen.length) ∧ w = w' := by
  obtain ⟨sv, fv, pv, hb, h1, -⟩ := hR.ex
  obtain ⟨g, cap, cur, rfl, -⟩ := row_open h1 hR.ok.pos
  have hm := hR.ok.most
  have hc := hb.cell
  go_enter Try.func38, Try.ntmps38
  go_wp2
  go_ret
  exact ⟨rfl, rfl⟩

set_option maxHeartbeats 400000 in
theorem disk_Read {w : World} {own : Nat → Nat} {c p : Nat} {D : Dsk} (hR : DiskR w own c p D) (n : Int) :
    Calls Try.prog 57 #[.pointer (some ⟨p, 0, none⟩), .int .i64 n] w fun e w' => e = .returned (.tuple #[.string (D.read n).1, .int .i64 (D.read n).2]) ∧ w = w' := by
  obtain ⟨sv, fv, pv, hb, h1, -⟩ := hR.ex
  obtain ⟨g, cap, cur, rfl, hg, -, -, -, ht⟩ := row_open h1 hR.ok.pos
  have hm := hR.ok.most
  have hc := hb.cell
  cases ho : D.off with
  | true =>
    rw [ho] at hc
    have Ho := Lib.hid ho; clear ho
    go_enter Try.func57, Try.ntmps57
    go_wp2
    go_ret2
    exact ⟨by simp [Dsk.read, Ho.out]; rfl, rfl⟩
  | false =>
    rw [ho] at hc
    have Ho := Lib.hid ho; clear ho
    cases hn : D.has n with
    | true =>
      have hx : w.cell? ⟨g, n.toNat, none⟩ = some (.string (D.get n)) := by
        have hh := hn
        simp only [Dsk.has, decide_eq_true_eq] at hh
        rw [hg.cell, ← Array.getElem?_toList]
        have := congrArg (fun l => l[n.toNat]?) ht
        simp only [Nat.mul_one, List.getElem?_take] at this
        rw [if_pos (by omega)] at this
        rw [this]
        simp [Dsk.get, List.getElem?_eq_getElem (show n.toNat < D.seen.length by omega)]
      have hh := hn
      simp only [Dsk.has, decide_eq_true_eq] at hh
      obtain ⟨h0, h2⟩ := hh
      have Hn := Lib.hid hn; clear hn
      go_enter Try.func57, Try.ntmps57
      go_wp2_with (first | (go_at_call 76; refine (disk_has hR n).mono ?_; rintro e w' ⟨rfl, rfl⟩; rw [Hn.out]))
      go_ret2
      exact ⟨by simp [Dsk.read, Ho.out, Hn.out], rfl⟩
    | false =>
      have Hn := Lib.hid hn; clear hn
      go_enter Try.func57, Try.ntmps57
      go_wp2_with (first | (go_at_call 76; refine (disk_has hR n).mono ?_; rintro e w' ⟨rfl, rfl⟩; rw [Hn.out]))
      go_ret2
      exact ⟨by simp [Dsk.read, Ho.out, Hn.out]; rfl, rfl⟩

end Go.Proofs.Ytdcjhpihcfpamaa
