/-
  The log's recover.
-/
import Derived.Test.YtdcjhpihcfpamaaLog5
namespace Go.Proofs.Ytdcjhpihcfpamaa
open Go.RowKit Go.XK

set_option maxRecDepth 20000 in
set_option maxHeartbeats 1000000 in
theorem log_recover {w : World} {own : Nat → Nat} {cl cd p : Nat} (ct : Nat) {L : Lg} {D : Dsk} (h : LD w own cl cd p L D) (hoff : D.off = false) (h2 : ct ≠ cl) (h3 : ct ≠ cd) (hpd : D.pend.length ≤ 800000) :
    Calls Try.prog 74 #[.pointer (some ⟨p, 0, none⟩)] w fun r w' => ∃ own', r = .returned (.int .i64 (recoverP L D).2) ∧ LD w' own' cl cd p (L.met (recoverP L D).2) (recoverP L D).1 ∧
      Step (fun c => c = cl ∨ c = cd) own w own' w' := by
  have hb := h.log.cells
  have hc := hb.cell
  have hsz := h.log.sizeLe
  have hlt := h.lt
  have hl4 := h.least
  have hmo := h.disk.ok.most
  have Hr := Lib.hid (read_on hoff (show (0 : Int) ≤ 1 by decide) (show (1 : Int) < D.seen.length by omega))
  have hbs := Dsk.get_size h.disk.ok (n := 1) (by simp only [Dsk.has, decide_eq_true_eq]; omega)
  have hno := @recoverP_no L D
  have hbig := @recoverP_big L D
  have hnone := @recoverP_none L D
  have hsome := fun l => @recoverP_some L D l
  have hnle := noteN_le (D.get 1)
  have HN := Lib.hid (fun w => log_note commitMark (D.get 1) w commitMark_size hbs)
  have hn0 : noteIs commitMark (D.get 1) = true → 0 ≤ noteN (D.get 1) := by
    unfold noteIs; intro k; simp only [Bool.and_eq_true, decide_eq_true_eq] at k; exact k.1
  generalize D.get 1 = b at *
  generalize noteN b = n at *
  clear hbs
  have H1 := Lib.hid hno; clear hno
  have H2 := Lib.hid hbig; clear hbig
  have H3 := Lib.hid hnone; clear hnone
  have H4 := Lib.hid hsome; clear hsome
  have H5 := Lib.hid hn0; clear hn0
  cases his : noteIs commitMark b with
  | false =>
    have Hi := Lib.hid his; clear his
    go_enter Try.func74, Try.ntmps74
    go_wp2_with (first | (go_at_call 57; refine (disk_Read h.disk _).mono ?_; rintro e w' ⟨rfl, rfl⟩; rw [Hr.out]) | (go_at_call 73; refine (HN.out _).mono ?_; rintro e w2 ⟨rfl, hB⟩; rw [Hi.out]))
    go_ret
    have hS : Step (fun c => c = cl ∨ c = cd) own w own w2 := ((Step.refl _ own w).below hB (Nat.le_refl _))
    rw [H1.out Hi.out]
    have hm0 : L.met 0 = L := Lg.met_ok (by decide)
    simp only [hm0]
    exact ⟨own, rfl, h.frame fun b hb _ => ⟨hB.block b hb, rfl⟩, hS⟩
  | true =>
    have Hi := Lib.hid his; clear his
    have hn0 := H5.out Hi.out
    go_enter Try.func74, Try.ntmps74
    go_wp2_with (first | (go_at_call 57; refine (disk_Read h.disk _).mono ?_; rintro e w' ⟨rfl, rfl⟩; rw [Hr.out]) | (go_at_call 73; refine (HN.out _).mono ?_; rintro e w2 ⟨rfl, hB⟩; rw [Hi.out]; have hS2 : Step (fun _ => False) own w own w2 := ((Step.refl _ own w).below hB (Nat.le_refl _)); have hL2 := h.step hS2 (fun k => k) (fun k => k); have hc2 := hL2.log.cells.cell; clear hB))
    have hm42 : L.met 42 = L := Lg.met_ok (by decide)
    have Hm42 := Lib.hid hm42; clear hm42 hc hb
    by_cases hb1 : (L.size : Int) < n
    · have Hrec := Lib.hid (H2.out Hi.out (.inl hb1))
      go_quiet (fail)
      go_wp2
      go_ret
      rw [Hrec.out, Hm42.out]
      exact ⟨own, rfl, hL2.drewN _, (hS2.mono fun _ k => k.elim).drewN _⟩
    · have hns : n ≤ 8192 := by omega
      have hsec : sectorsN n.toNat ≤ 9000 := by unfold sectorsN; omega
      have hw : IntKind.i64.wrap (2 + ((sectorsN n.toNat : Nat) : Int)) = 2 + (sectorsN n.toNat : Nat) := IntWalk.i64_in _ (by omega)
      have HS := Lib.hid (fun w => log_sectors n w hn0 (by omega))
      have hHeq : sectorsN n.toNat = n.toNat + (n.toNat + 127) / 128 := rfl
      have Heq := Lib.hid hHeq; clear hHeq
      generalize sectorsN n.toNat = m at *
      by_cases hb2 : (L.size : Int) < 2 + (m : Int)
      · have Hrec := Lib.hid (H2.out Hi.out (.inr hb2))
        go_quiet ((go_at_call 80; refine Calls.quiet_of_same ((HS.out _).mono fun _ _ hh => ⟨hh.1, hh.2.symm⟩)))
        go_wp2
        go_ret
        rw [Hrec.out, Hm42.out]
        exact ⟨rfl, own, hL2.drewN _, (hS2.mono fun _ k => k.elim).drewN _⟩
      · have Hnb := Lib.hid (show ¬ ((L.size : Int) < n ∨ (L.size : Int) < 2 + (m : Int)) by omega)
        go_quiet ((go_at_call 80; refine Calls.quiet_of_same ((HS.out _).mono fun _ _ hh => ⟨hh.1, hh.2.symm⟩)))
        have hm2 : 2 + n.toNat + (n.toNat + 127) / 128 ≤ L.size := by have := Heq.out; omega
        have HH := Lib.hid (log_homes ct (hL2.drewN nq) hoff h2 h3 n.toNat hm2)
        have hnn : ((n.toNat : Nat) : Int) = n := by omega
        rw [hnn] at HH
        clear hnn
        cases hho : homesTo L D n.toNat n.toNat with
        | none =>
          have Hrec := Lib.hid (H3.out Hi.out Hnb.out hho)
          have Hho := Lib.hid hho; clear hho
          go_wp2_with (first | (go_at_call 91; refine HH.out.mono ?_; rintro e w4 ⟨own4, v, hL4, hS4, hq⟩; obtain rfl : e = .returned (.tuple #[.slice none 0 0, .int .i64 42]) := (by rcases hq with ⟨_, hq⟩ | ⟨l, hq, _⟩; exact hq; rw [Hho.out] at hq; cases hq); clear hq))
          go_ret
          rw [Hrec.out, Hm42.out]
          have hSS := ((hS2.drewN nq).trans hS4).mono (S' := fun c => c = cl ∨ c = cd) fun _ k => k.elim
          first | exact ⟨rfl, own4, hL4, hSS⟩ | exact ⟨own4, rfl, hL4, hSS⟩
        | some l =>
          have hll := homesTo_length _ _ _ _ _ hho
          have hlb := homesTo_bounds _ _ _ _ _ hho
          have Hlb : Hid (∀ x ∈ l, 0 ≤ x.1 ∧ x.1 ≤ 100000) := fun x hx => by
            have := hlb x hx
            unfold blocksOf at this
            omega
          clear hlb
          have Hll := Lib.hid hll; clear hll
          have Hrec := Lib.hid (H4.out l Hi.out Hnb.out hho)
          have Hho := Lib.hid hho; clear hho
          go_wp2_with (first | (go_at_call 91; refine HH.out.mono ?_; rintro e w4 ⟨own4, v, hL4, hS4, hq⟩; obtain ⟨rfl, hA4⟩ : e = .returned (.tuple #[v, .int .i64 0]) ∧ AtA w4 own4 ct v l := (by rcases hq with ⟨hq, _⟩ | ⟨l', hq, hq2, hq3⟩; rw [Hho.out] at hq; cases hq; rw [Hho.out] at hq; cases hq; exact ⟨hq2, hq3⟩); clear hq) | (go_at_call 67; refine (log_home hL4 hA4 h2 h3 (by rw [Hll.out]; omega) Hlb.out).mono ?_; rintro e w5 ⟨own5, rfl, hL5, hS5⟩))
          go_ret
          rw [Hrec.out]
          have hSS := (((hS2.drewN nq).trans hS4).mono (S' := fun c => c = cl ∨ c = cd) fun _ k => k.elim).trans hS5
          first | exact ⟨rfl, own5, hL5, hSS⟩ | exact ⟨own5, rfl, hL5, hSS⟩

end Go.Proofs.Ytdcjhpihcfpamaa
