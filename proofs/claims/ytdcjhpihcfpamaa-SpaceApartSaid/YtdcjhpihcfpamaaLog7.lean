/-
  The log's Open.
-/
import Derived.Test.YtdcjhpihcfpamaaLog6
namespace Go.Proofs.Ytdcjhpihcfpamaa
open Go.RowKit Go.XK

/-- What Open leaves. -/
def OpenPost (w : World) (own : Nat → Nat) (cl cd pd size : Nat) (r : Dsk × Int) (e : Ending) (w' : World) : Prop :=
  ∃ own', Step (fun c => c = cl ∨ c = cd) own w own' w' ∧
    ((r.2 = 0 ∧ ∃ p, e = .returned (.tuple #[.pointer (some ⟨p, 0, none⟩), .int .i64 0]) ∧ LD w' own' cl cd p ⟨pd, size, false⟩ r.1 ∧ w.heap.size ≤ p) ∨
     (r.2 ≠ 0 ∧ e = .returned (.tuple #[.pointer none, .int .i64 r.2]) ∧ DiskR w' own' cd pd r.1))

set_option maxRecDepth 20000 in
set_option maxHeartbeats 1000000 in
theorem log_Open_off {w : World} {own : Nat → Nat} {cd pd : Nat} {D : Dsk} (hD : DiskR w own cd pd D) (n : Int) (hoff : D.off = true) :
    Calls Try.prog 50 #[.pointer (some ⟨pd, 0, none⟩), .int .i64 n] w fun e w' => e = .returned (.tuple #[.pointer none, .int .i64 9]) ∧ w = w' := by
  have Ho := Lib.hid hoff; clear hoff
  go_enter Try.func50, Try.ntmps50
  go_wp2_with (first | (go_at_call 34; refine (disk_Off hD).mono ?_; rintro e w' ⟨rfl, rfl⟩; rw [Ho.out]))
  go_ret2
  exact ⟨rfl, rfl⟩

set_option maxRecDepth 20000 in
set_option maxHeartbeats 1000000 in
theorem log_Open_arg {w : World} {own : Nat → Nat} {cd pd : Nat} {D : Dsk} (hD : DiskR w own cd pd D) (n : Int) (hoff : D.off = false) (hn : n < 4 ∨ (D.seen.length : Int) ≤ n) :
    Calls Try.prog 50 #[.pointer (some ⟨pd, 0, none⟩), .int .i64 n] w fun e w' => e = .returned (.tuple #[.pointer none, .int .i64 1]) ∧ w = w' := by
  have Ho := Lib.hid hoff; clear hoff
  by_cases h1 : n < 4
  · clear hn
    go_enter Try.func50, Try.ntmps50
    go_wp2_with (first | (go_at_call 34; refine (disk_Off hD).mono ?_; rintro e w' ⟨rfl, rfl⟩; rw [Ho.out]))
    go_ret2
    exact ⟨rfl, rfl⟩
  · have h2 : (D.seen.length : Int) ≤ n := by omega
    clear hn
    go_enter Try.func50, Try.ntmps50
    go_wp2_with (first | (go_at_call 34; refine (disk_Off hD).mono ?_; rintro e w' ⟨rfl, rfl⟩; rw [Ho.out]) | (go_at_call 38; refine (disk_Sectors hD).mono ?_; rintro e w' ⟨rfl, rfl⟩))
    go_ret2
    exact ⟨rfl, rfl⟩

set_option maxRecDepth 20000 in
set_option maxHeartbeats 1000000 in
theorem log_Open {w : World} {own : Nat → Nat} {cd pd : Nat} {D : Dsk} (cl ct : Nat) (hD : DiskR w own cd pd D) (n : Nat) (hoff : D.off = false) (h1 : 4 ≤ n) (hn2 : n < D.seen.length) (hne : cl ≠ cd) (h2 : ct ≠ cl) (h3 : ct ≠ cd)
    (hpd : D.pend.length ≤ 700000) :
    Calls Try.prog 50 #[.pointer (some ⟨pd, 0, none⟩), .int .i64 n] w (OpenPost w own cl cd pd n (openP D pd n)) := by
  have Ho := Lib.hid hoff
  have hmo := hD.ok.most
  have Hr := Lib.hid (read_on hoff (show (0 : Int) ≤ 0 by decide) (show (0 : Int) < D.seen.length by omega))
  have hbs := Dsk.get_size hD.ok (n := 0) (by simp only [Dsk.has, decide_eq_true_eq]; omega)
  go_enter Try.func50, Try.ntmps50
  go_wp2_with (first | (go_at_call 34; refine (disk_Off hD).mono ?_; rintro e w' ⟨rfl, rfl⟩; rw [Ho.out]) | (go_at_call 38; refine (disk_Sectors hD).mono ?_; rintro e w' ⟨rfl, rfl⟩))
  have h0 : LD (w.alloc (.cells #[.pointer (some ⟨pd, 0, none⟩), .int .i64 n, .bool false] 78)) (ext own w cl) cl cd w.heap.size ⟨pd, n, false⟩ D :=
    ⟨⟨ext_new (Nat.le_refl _), by show n ≤ 8192; omega, blk.new _ _ _⟩, hD.frame fun b hb hc => ⟨Below.heap_alloc _ _ _ hb, by rw [ext_old hb]; exact hc⟩, hne, h1, hn2⟩
  have hS0 : Step (fun c => c = cl ∨ c = cd) own w (ext own w cl) (w.alloc (.cells #[.pointer (some ⟨pd, 0, none⟩), .int .i64 n, .bool false] 78)) := ((Step.refl _ own w).alloc _).reown fun b hb => ext_old hb
  refine (disk_Read h0.disk 0).mono ?_
  rintro e w' ⟨rfl, rfl⟩
  rw [Hr.out]
  have hpz := @openD_new D n
  have hpt := @openD_torn D n
  have hpa := @openD_arg D n
  have hpo := @openD_ok D n
  have HN := Lib.hid (fun w => log_note sizeMark (D.get 0) w sizeMark_size hbs)
  generalize hbb : D.get 0 = b at *
  have Hbb := Lib.hid hbb; clear hbb
  have Hpz := Lib.hid hpz; clear hpz
  have Hpt := Lib.hid hpt; clear hpt
  have Hpa := Lib.hid hpa; clear hpa
  have Hpo := Lib.hid hpo; clear hpo
  go_wp2_with fail
  refine (log_filled ⟨#[]⟩ _ (by decide)).mono ?_
  rintro e w1 ⟨rfl, hB1⟩
  rw [filled_empty]
  have hSa : Step (fun _ => False) (ext own w cl) _ (ext own w cl) w1 := (Step.refl _ _ _).below hB1 (Nat.le_refl _)
  have hL1 := h0.step hSa (fun k => k) (fun k => k)
  have hS1 := hS0.trans (hSa.mono (S' := fun c => c = cl ∨ c = cd) fun _ k => k.elim)
  have hp1 : w.heap.size ≤ w.heap.size := Nat.le_refl _
  clear hB1 hSa h0 hS0
  by_cases hz : b = zeros
  · have hz2 : (b.toList == zeros.toList) = true := by rw [str_eq]; simpa using hz
    have hD1 := Hpz.out hz
    have Hz := Lib.hid hz; clear hz
    have HD1 := Lib.hid hD1; clear hD1
    go_wp2_with fail
    clear hz2
    refine (log_noted sizeMark n _ sizeMark_size (by omega) (by omega)).mono ?_
    rintro e w2 ⟨rfl, hB2⟩
    have hSb : Step (fun _ => False) (ext own w cl) w1 (ext own w cl) w2 := (Step.refl _ _ _).below hB2 (Nat.le_refl _)
    have hL2 := hL1.step hSb (fun k => k) (fun k => k)
    have h4 : LD (w2.alloc (.cells #[.int .i64 0, .string (noted sizeMark n)] 63)) (ext (ext own w cl) w2 ct) cl cd w.heap.size ⟨pd, n, false⟩ D := hL2.frame fun b hb _ => ⟨Below.heap_alloc _ _ _ hb, ext_old hb⟩
    have hA4 : AtA (w2.alloc (.cells #[.int .i64 0, .string (noted sizeMark n)] 63)) (ext (ext own w cl) w2 ct) ct (.slice (some ⟨w2.heap.size, 0, none⟩) 1 1) [(0, noted sizeMark n)] :=
      ⟨World.ownsRow_lit w2 #[.int .i64 0, .string (noted sizeMark n)] 1 (Nat.zero_le _) (by decide) rfl, fun k hk => by simp only [Value.ownBlock, Option.some.injEq] at hk; exact ext_new (by omega)⟩
    have hS4 : Step (fun c => c = cl ∨ c = cd) own w (ext (ext own w cl) w2 ct) (w2.alloc (.cells #[.int .i64 0, .string (noted sizeMark n)] 63)) := ((hS1.trans (hSb.mono fun _ k => k.elim)).alloc _).reown fun b hb => by
      have q1 := hS1.size
      have q2 := hSb.size
      rw [ext_old (by omega)]; exact ext_old hb
    have HL := Lib.hid (log_lay h4.log h4.disk hA4 hne h2 h3 (by show D.pend.length + 1 ≤ _; omega))
    have hon := @layAll_on D [(0, noted sizeMark n)]
    have hcl := @layAll_clean D [(0, noted sizeMark n)]
    have hln := layAll_len D [(0, noted sizeMark n)]
    generalize layAll D [(0, noted sizeMark n)] = r at *
    have Hon := Lib.hid hon; clear hon
    have Hcl := Lib.hid hcl; clear hcl
    have Hln := Lib.hid hln; clear hln
    clear hL1 hS1 hL2 hSb hB2
    go_wp2_with (first | (go_at_call 65; refine HL.out.mono ?_; rintro e w5 ⟨own5, rfl, hL5, hD5, hS5⟩))
    · have hc0 : r.2 = 0 := by simpa using ‹(r.2 == 0) = true›
      have hL6 : LD w5 own5 cl cd w.heap.size ⟨pd, n, false⟩ r.1 := ⟨(Lg.met_ok (L := ⟨pd, n, false⟩) (show r.2 ≠ 9 by omega)) ▸ hL5, hD5, hne, h1, by rw [Hln.out]; exact hn2⟩
      have hgo : openP D pd n = recoverP ⟨pd, n, false⟩ r.1 := by rw [openP_go (by rw [HD1.out]; exact hc0), HD1.out]
      have hoff2 := Hon.out hc0
      have hpd2 := Hcl.out hc0
      have HR := Lib.hid (log_recover ct hL6 hoff2 h2 h3 (by rw [hpd2]; decide))
      have hrl := recoverP_len ⟨pd, n, false⟩ r.1
      generalize recoverP ⟨pd, n, false⟩ r.1 = q at *
      have Hgo := Lib.hid hgo; clear hgo
      have Hc0 := Lib.hid hc0; clear hc0 hoff2 hpd2 hrl hL5
      refine HR.out.mono ?_
      rintro e w6 ⟨own6, rfl, hL7, hS7⟩
      by_cases hq : q.2 = 0
      · have hq2 : (q.2 != 0) = false := by simp [hq]
        have Hq := Lib.hid hq; clear hq
        go_wp2
        go_ret2
        rw [Hgo.out]
        have hm : (⟨pd, n, false⟩ : Lg).met q.2 = ⟨pd, n, false⟩ := Lg.met_ok (by rw [Hq.out]; decide)
        rw [hm] at hL7
        exact ⟨own6, (hS4.trans hS5).trans hS7, .inl ⟨Hq.out, w.heap.size, rfl, hL7, Nat.le_refl _⟩⟩
      · have hq2 : (q.2 != 0) = true := by simp [hq]
        have Hq := Lib.hid hq; clear hq
        go_wp2
        go_ret2
        rw [Hgo.out]
        exact ⟨own6, (hS4.trans hS5).trans hS7, .inr ⟨Hq.out, rfl, hL7.disk⟩⟩
    · have hc0 : r.2 ≠ 0 := by simpa using ‹(r.2 == 0) = false›
      go_ret2
      have hst : openP D pd n = r := by rw [openP_stop (by rw [HD1.out]; exact hc0), HD1.out]
      rw [hst]
      exact ⟨own5, hS4.trans hS5, .inr ⟨hc0, rfl, hD5⟩⟩
  · have hz2 : (b.toList == zeros.toList) = false := by rw [str_eq]; simpa using hz
    have Hz := Lib.hid hz; clear hz
    cases his : noteIs sizeMark b with
    | false =>
      have ho := Hpt.out Hz.out his
      have Hi := Lib.hid his; clear his
      go_wp2_with (first | (go_at_call 73; refine (HN.out _).mono ?_; rintro e w2 ⟨rfl, hB2⟩; rw [Hi.out]; have hSb : Step (fun _ => False) (ext own w cl) w1 (ext own w cl) w2 := (Step.refl _ _ _).below hB2 (Nat.le_refl _); have hL2 := hL1.step hSb (fun k => k) (fun k => k); have hS2 := hS1.trans (hSb.mono (S' := fun c => c = cl ∨ c = cd) fun _ k => k.elim); clear hB2))
      go_ret2
      have hst : openP D pd n = (D, 42) := by rw [openP_stop (by rw [ho]; simp), ho]
      rw [hst]
      exact ⟨_, hS2, .inr ⟨by simp, rfl, hL2.disk⟩⟩
    | true =>
      have hpa := Hpa.out Hz.out his
      have hpo := Hpo.out Hz.out his
      have Hi := Lib.hid his; clear his
      generalize noteN b = m at *
      by_cases hm : m = n
      · have ho := hpo hm
        have hm2 : ((m : Int) != (n : Int)) = false := by simp [hm]
        have Hm := Lib.hid hm; clear hm hpa hpo
        have hgo : openP D pd n = recoverP ⟨pd, n, false⟩ D := by rw [openP_go (by rw [ho]), ho]
        have Hgo := Lib.hid hgo; clear hgo ho
        go_wp2_with (first | (go_at_call 73; refine (HN.out _).mono ?_; rintro e w2 ⟨rfl, hB2⟩; rw [Hi.out]; have hSb : Step (fun _ => False) (ext own w cl) w1 (ext own w cl) w2 := (Step.refl _ _ _).below hB2 (Nat.le_refl _); have hL2 := hL1.step hSb (fun k => k) (fun k => k); have hS2 := hS1.trans (hSb.mono (S' := fun c => c = cl ∨ c = cd) fun _ k => k.elim); clear hB2))
        have HR := Lib.hid (log_recover ct hL2 hoff h2 h3 (by omega))
        rw [← Hgo.out] at HR
        generalize openP D pd n = q at *
        refine HR.out.mono ?_
        rintro e w6 ⟨own6, rfl, hL7, hS7⟩
        by_cases hq : q.2 = 0
        · have hq2 : (q.2 != 0) = false := by simp [hq]
          have Hq := Lib.hid hq; clear hq
          go_wp2
          go_ret2
          have hm : (⟨pd, n, false⟩ : Lg).met q.2 = ⟨pd, n, false⟩ := Lg.met_ok (by rw [Hq.out]; decide)
          rw [hm] at hL7
          exact ⟨own6, hS2.trans hS7, .inl ⟨Hq.out, w.heap.size, rfl, hL7, Nat.le_refl _⟩⟩
        · have hq2 : (q.2 != 0) = true := by simp [hq]
          have Hq := Lib.hid hq; clear hq
          go_wp2
          go_ret2
          exact ⟨own6, hS2.trans hS7, .inr ⟨Hq.out, rfl, hL7.disk⟩⟩
      · have ho := hpa hm
        have hm2 : ((m : Int) != (n : Int)) = true := by simp [hm]
        have Hm := Lib.hid hm; clear hm hpa hpo
        go_wp2_with (first | (go_at_call 73; refine (HN.out _).mono ?_; rintro e w2 ⟨rfl, hB2⟩; rw [Hi.out]; have hSb : Step (fun _ => False) (ext own w cl) w1 (ext own w cl) w2 := (Step.refl _ _ _).below hB2 (Nat.le_refl _); have hL2 := hL1.step hSb (fun k => k) (fun k => k); have hS2 := hS1.trans (hSb.mono (S' := fun c => c = cl ∨ c = cd) fun _ k => k.elim); clear hB2))
        go_ret2
        have hst : openP D pd n = (D, 1) := by rw [openP_stop (by rw [ho]; simp), ho]
        rw [hst]
        exact ⟨_, hS2, .inr ⟨by simp, rfl, hL2.disk⟩⟩

end Go.Proofs.Ytdcjhpihcfpamaa
