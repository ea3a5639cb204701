/-
  The log's Read and home.
-/
import Derived.Test.YtdcjhpihcfpamaaLog2
namespace Go.Proofs.Ytdcjhpihcfpamaa
open Go.RowKit Go.XK

theorem step_drewN {S : Nat → Prop} {own : Nat → Nat} {w : World} (n : Nat) : Step S own w own (w.drewN n) := (Step.refl S own w).drewN n

set_option maxRecDepth 20000 in
set_option maxHeartbeats 400000 in
theorem log_Read {w : World} {own : Nat → Nat} {cl cd p : Nat} {L : Lg} {D : Dsk} (h : LD w own cl cd p L D) (n : Int) :
    Calls Try.prog 24 #[.pointer (some ⟨p, 0, none⟩), .int .i64 n] w fun r w' => r = .returned (.tuple #[.string (readLog L D n).1, .int .i64 (readLog L D n).2]) ∧ LD w' own cl cd p (readL L D) D ∧ Step (· = cl) own w own w' := by
  have hb := h.log.cells
  have hc := hb.cell
  have hm := h.disk.ok.most
  have hsz := h.log.sizeLe
  have hlt := h.lt
  have hl4 := h.least
  cases hdd : L.dead with
  | true =>
    rw [hdd] at hc
    have e : readLog L D n = (ByteArray.empty, 9) := by simp [readLog, hdd]
    have e2 : readL L D = L.met 9 := by simp [readL, Lg.met, hdd]
    have E := Lib.hid e; clear e
    have E2 := Lib.hid e2; clear e2 hdd
    go_enter Try.func24, Try.ntmps24
    go_wp2_with (first | (go_at_call 56; refine (log_met h.log 9).mono ?_; rintro e w3 ⟨rfl, hL4, hS4⟩))
    go_ret2
    rw [E.out, E2.out]
    exact ⟨rfl, ⟨hL4, h.disk.frame (hS4.other h.ne.symm), h.ne, h.least, h.lt⟩, hS4⟩
  | false =>
    rw [hdd] at hc
    cases hoff : D.off with
    | true =>
      have e : readLog L D n = (ByteArray.empty, 9) := by simp [readLog, hdd, hoff]
      have e2 : readL L D = L.met 9 := by simp [readL, Lg.met, hdd, hoff]
      have E := Lib.hid e; clear e
      have E2 := Lib.hid e2; clear e2 hdd
      have Ho := Lib.hid hoff; clear hoff
      go_enter Try.func24, Try.ntmps24
      go_wp2_with (first | (go_at_call 34; refine (disk_Off h.disk).mono ?_; rintro e w' ⟨rfl, rfl⟩; rw [Ho.out]) | (go_at_call 56; refine (log_met h.log 9).mono ?_; rintro e w3 ⟨rfl, hL4, hS4⟩))
      go_ret2
      rw [E.out, E2.out]
      exact ⟨rfl, ⟨hL4, h.disk.frame (hS4.other h.ne.symm), h.ne, h.least, h.lt⟩, hS4⟩
    | false =>
      have e3 := readL_live hdd hoff
      have E3 := Lib.hid e3; clear e3
      by_cases hn : 0 ≤ n ∧ n < blocksOf L D
      · have e : readLog L D n = (D.get (L.size + n), 0) := by simp [readLog, hdd, hoff]; omega
        have hr : D.read (L.size + n) = (D.get (L.size + n), 0) := by
          have : D.has (L.size + n) = true := by simp only [Dsk.has, decide_eq_true_eq]; unfold blocksOf at hn; omega
          simp [Dsk.read, hoff, this]
        have E := Lib.hid e; clear e
        have Hr := Lib.hid hr; clear hr hdd
        have Ho := Lib.hid hoff; clear hoff
        unfold blocksOf at hn
        obtain ⟨hn1, hn2⟩ := hn
        have hn3 : n < (D.seen.length : Int) - L.size := by omega
        clear hn2
        go_enter Try.func24, Try.ntmps24
        go_wp2_with (first | (go_at_call 34; refine (disk_Off h.disk).mono ?_; rintro e w' ⟨rfl, rfl⟩; rw [Ho.out]) | (go_at_call 9; refine (log_Blocks h.log h.disk).mono ?_; rintro e w1 ⟨rfl, nq, hw1⟩; have h1 := h.of_drewN hw1; have hs1 : Step (· = cl) own w own w1 := Step.of_drewN hw1; have hc1 := h1.log.cells.cell; clear hw1))
        have hw : IntKind.i64.wrap ((L.size : Int) + n) = L.size + n := IntWalk.i64_in _ (by omega)
        go_quiet ((go_at_call 57; refine Calls.quiet_of_same ((disk_Read (h1.disk.drewN _) _).mono fun _ _ hh => ⟨hh.1.trans (by rw [Hr.out]), hh.2.symm⟩)))
        go_wp2_with (first | (go_at_call 56; refine (log_met (h1.log.drewN _) 0).mono ?_; rintro e w3 ⟨rfl, hL4, hS4⟩))
        go_ret2
        rw [E.out, E3.out]
        rw [Lg.met_ok (by decide)] at hL4
        have hS5 := (hs1.drewN _).trans hS4
        exact ⟨rfl, ⟨hL4, h.disk.frame (hS5.other h.ne.symm), h.ne, h.least, h.lt⟩, hS5⟩
      · have e : readLog L D n = (ByteArray.empty, 1) := by simp only [readLog, hdd, hoff]; rw [if_neg (by decide), if_neg hn]
        have E := Lib.hid e; clear e hdd
        have Ho := Lib.hid hoff; clear hoff
        unfold blocksOf at hn
        by_cases hn1 : 0 ≤ n
        · have hn3 : (D.seen.length : Int) - L.size ≤ n := by omega
          clear hn
          go_enter Try.func24, Try.ntmps24
          go_wp2_with (first | (go_at_call 34; refine (disk_Off h.disk).mono ?_; rintro e w' ⟨rfl, rfl⟩; rw [Ho.out]) | (go_at_call 9; refine (log_Blocks h.log h.disk).mono ?_; rintro e w1 ⟨rfl, nq, hw1⟩; have h1 := h.of_drewN hw1; have hs1 : Step (· = cl) own w own w1 := Step.of_drewN hw1; have hc1 := h1.log.cells.cell; clear hw1))
          go_ret2
          rw [E.out, E3.out]
          exact ⟨rfl, h1, hs1⟩
        · clear hn
          go_enter Try.func24, Try.ntmps24
          go_wp2_with (first | (go_at_call 34; refine (disk_Off h.disk).mono ?_; rintro e w' ⟨rfl, rfl⟩; rw [Ho.out]))
          go_ret2
          rw [E.out, E3.out]
          exact ⟨rfl, h, Step.refl _ _ _⟩

end Go.Proofs.Ytdcjhpihcfpamaa
