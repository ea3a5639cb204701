/-
  The log's methods met, Blocks, lay.
-/
import Derived.Test.YtdcjhpihcfpamaaLog1
import Derived.Test.YtdcjhpihcfpamaaLogR
import Derived.Deep.RegionHeld3
namespace Go.Proofs.Ytdcjhpihcfpamaa
open Go.RowKit Go.XK

set_option maxHeartbeats 400000 in
theorem log_met {w : World} {own : Nat → Nat} {c p : Nat} {L : Lg} (hL : LogR w own c p L) (e : Int) :
    Calls Try.prog 56 #[.pointer (some ⟨p, 0, none⟩), .int .i64 e] w fun r w' => r = .returned (.int .i64 e) ∧ LogR w' own c p (L.met e) ∧ Step (· = c) own w own w' := by
  have hb := hL.cells
  have hc := hb.cell
  have hf := hb.free
  go_enter Try.func56, Try.ntmps56
  go_wp2
  all_goals
    go_ret
    refine ⟨rfl, ⟨hL.mine, hL.sizeLe, (hb.set 2 _).eq ?_⟩, (Step.refl _ _ _).setCell _ (.inr hL.mine)⟩
    simp [Lg.met, *]

set_option maxHeartbeats 400000 in
theorem log_Blocks {w : World} {own : Nat → Nat} {c p cd : Nat} {L : Lg} {D : Dsk} (hL : LogR w own c p L) (hD : DiskR w own cd L.pd D) :
    Calls Try.prog 9 #[.pointer (some ⟨p, 0, none⟩)] w fun r w' => r = .returned (.int .i64 (D.seen.length - L.size)) ∧ ∃ n, w' = w.drewN n := by
  have hb := hL.cells
  have hc := hb.cell
  have hm := hD.ok.most
  have hs := hL.sizeLe
  go_enter Try.func9, Try.ntmps9
  go_wp2_with fail
  go_quiet ((go_at_call 38; refine Calls.quiet_of_same ((disk_Sectors (hD.drewN _)).mono fun _ _ h => ⟨h.1, h.2.symm⟩)))
  go_wp2
  go_ret
  exact ⟨rfl, nq, rfl⟩

/-- Writes in memory. -/
def AtA (w : World) (own : Nat → Nat) (c : Nat) (v : Value) (l : List (Int × ByteArray)) : Prop := w.ownsRow 0 63 2 v l.length (flatA l) ∧ Owned own c v

theorem AtA.frame {w w' : World} {own own' : Nat → Nat} {c : Nat} {v : Value} {l : List (Int × ByteArray)} (h : AtA w own c v l)
    (hs : ∀ b, b < w.heap.size → own b = c → w'.heap[b]? = w.heap[b]? ∧ own' b = c) : AtA w' own' c v l :=
  ⟨row_same h.1 fun k hk => (hs k (row_lt h.1 k hk) (h.2 k hk)).1, fun k hk => (hs k (row_lt h.1 k hk) (h.2 k hk)).2⟩

theorem layAll_step {D : Dsk} {n : Int} {t : ByteArray} (l : List (Int × ByteArray)) (h : (D.write n t).2 = 0) : layAll D ((n, t) :: l) = layAll (D.write n t).1 l := if_pos h
theorem layAll_stop {D : Dsk} {n : Int} {t : ByteArray} (l : List (Int × ByteArray)) (h : (D.write n t).2 ≠ 0) : layAll D ((n, t) :: l) = D.write n t := if_neg h

/-- Behind k rounds of lay's loop. -/
def LayI (w : World) (own : Nat → Nat) (cl cd ct p : Nat) (L : Lg) (D : Dsk) (v : Value) (l : List (Int × ByteArray)) (k : Nat) (wr : World) : Prop :=
  ∃ D' own', LogR wr own' cl p L ∧ DiskR wr own' cd L.pd D' ∧ AtA wr own' ct v l ∧ Step (fun c => c = cl ∨ c = cd) own w own' wr ∧ layAll D l = layAll D' (l.drop k) ∧ D'.pend.length ≤ D.pend.length + k

set_option maxRecDepth 20000 in
set_option maxHeartbeats 400000 in
theorem log_lay {w : World} {own : Nat → Nat} {cl cd ct p : Nat} {L : Lg} {D : Dsk} {v : Value} {l : List (Int × ByteArray)} (hL : LogR w own cl p L) (hD : DiskR w own cd L.pd D) (hA : AtA w own ct v l)
    (h1 : cl ≠ cd) (h2 : ct ≠ cl) (h3 : ct ≠ cd) (hp : D.pend.length + l.length ≤ 1000000) :
    Calls Try.prog 65 #[.pointer (some ⟨p, 0, none⟩), v] w fun r w' => ∃ own', r = .returned (.int .i64 (layAll D l).2) ∧ LogR w' own' cl p (L.met (layAll D l).2) ∧ DiskR w' own' cd L.pd (layAll D l).1 ∧
      Step (fun c => c = cl ∨ c = cd) own w own' w' := by
  have hv : ∃ a c, v = .slice a l.length c := by
    rcases hA.1.2 with ⟨rfl, k⟩ | ⟨g, cap, cur, rfl, _⟩
    · exact ⟨none, 0, by rw [k]⟩
    · exact ⟨_, _, rfl⟩
  obtain ⟨a, c, rfl⟩ := hv
  go_enter Try.func65, Try.ntmps65
  go_wp2
  go_loopg [10] l.length (fun k i wr => ∃ j : Nat, j + k = l.length ∧ i = .int .i64 j ∧ LayI w own cl cd ct p L D (.slice a l.length c) l j wr)
  case atStart => exact ⟨0, by omega, rfl, D, own, hL, hD, hA, Step.refl _ _ _, rfl, by omega⟩
  case round =>
    obtain ⟨j, hj, rfl, D1, own1, hL1, hD1, hA1, hS1, hq, hpd⟩ := hrel
    have Hq := Lib.hid hq; clear hq
    have hb := hL1.cells
    have hc := hb.cell
    have hl := hb.lt
    by_cases hlt : j < l.length
    · obtain ⟨g, cap, cur, he, hg, -⟩ := row_open hA1.1 (by omega)
      simp only [Value.slice.injEq, true_and] at he
      obtain ⟨rfl, rfl⟩ := he
      have c1 : wr.cell? ⟨g, j * 2, none⟩ = some (.int .i64 (l[j]).1) := by
        rw [hA1.1.cellAt _ (by omega)]; exact (flatA_get l j hlt).1
      have c2 : wr.cell? ⟨g, j * 2 + 1, none⟩ = some (.string (l[j]).2) := by
        rw [hA1.1.cellAt _ (by omega)]; exact (flatA_get l j hlt).2
      have hdrop : l.drop j = (l[j].1, l[j].2) :: l.drop (j + 1) := List.drop_eq_getElem_cons hlt
      have Hd := Lib.hid hdrop; clear hdrop
      have hx := List.getElem_mem hlt
      generalize hn : (l[j]).1 = n at *
      generalize ht : (l[j]).2 = t at *
      clear hn ht hx
      have hL2 : LogR (wr.alloc (.cells #[.int .i64 n, .string t] 63)).drew (ext own1 wr ct) cl p L := hL1.frame fun b hb' hb2 => ⟨Below.heap_alloc _ _ _ hb', by rw [ext_old hb']; exact hb2⟩
      have hD2 : DiskR (wr.alloc (.cells #[.int .i64 n, .string t] 63)).drew (ext own1 wr ct) cd L.pd D1 := hD1.frame fun b hb' hb2 => ⟨Below.heap_alloc _ _ _ hb', by rw [ext_old hb']; exact hb2⟩
      have hA2 : AtA (wr.alloc (.cells #[.int .i64 n, .string t] 63)).drew (ext own1 wr ct) ct (.slice (some ⟨g, 0, none⟩) l.length c) l := hA1.frame fun b hb' hb2 => ⟨Below.heap_alloc _ _ _ hb', by rw [ext_old hb']; exact hb2⟩
      have hS2 : Step (fun c => c = cl ∨ c = cd) own w (ext own1 wr ct) (wr.alloc (.cells #[.int .i64 n, .string t] 63)).drew := ((hS1.alloc _).drew).reown fun b hb' => by rw [ext_old (Nat.lt_of_lt_of_le hb' hS1.size)]; exact hS1.keep b hb'
      have hbox : blk (wr.alloc (.cells #[.int .i64 n, .string t] 63)).drew wr.heap.size #[.int .i64 n, .string t] 63 := blk.new _ _ _
      have hbo : ext own1 wr ct wr.heap.size = ct := ext_new (Nat.le_refl _)
      generalize hW : (wr.alloc (.cells #[.int .i64 n, .string t] 63)) = W at *
      clear hS1 hL1 hD1 hA1
      have hcp := hL2.cells.cell 0
      have hcb := hbox.cell
      by_cases hcode : (D1.write n t).2 = 0
      · have Hc := Lib.hid hcode; clear hcode
        go_wp2_with fail
        clear hc hb c1 c2 hg hW
        go_region_held3 (fun w' => w'.cell? ⟨p, 0, none⟩ = some (.pointer (some ⟨L.pd, 0, none⟩)) ∧ w'.cell? ⟨wr.heap.size, 0, none⟩ = some (.int .i64 n) ∧ w'.cell? ⟨wr.heap.size, 1, none⟩ = some (.string t))
          (first | exact ⟨hcp, hcb 0, hcb 1⟩ | exact hK2 | exact hK3)
          (first | (go_at_call 82; refine (disk_Write hD2 (by omega) n t).mono ?_; rintro e w2 ⟨own2, rfl, hD3, hS3⟩; rw [Hc.out]; have hL3 := hL2.frame (hS3.other h1); have hb3 := hbox.of_same (hS3.same _ hbox.lt (by rw [hbo]; exact h3)); have hK2 := And.intro (hL3.cells.cell 0) (And.intro (hb3.cell 0) (hb3.cell 1)))
                 | (go_at_call 56; refine (log_met hL3 0).mono ?_; rintro e w3 ⟨rfl, hL4, hS4⟩; have hb4 := hb3.of_same (hS4.same _ hb3.lt (by rw [hS3.keep _ hbox.lt, hbo]; exact h2)); have hK3 := And.intro (hL4.cells.cell 0) (And.intro (hb4.cell 0) (hb4.cell 1))))
        go_wp2
        go_roundg (l.length - (j + 1))
        case measure => omega
        case rel =>
          rw [Lg.met_ok (by decide)] at hL4
          refine ⟨j + 1, by omega, by go_num, (D1.write n t).1, own2, hL4, hD3.frame (hS4.other h1.symm), (hA2.frame (hS3.other h3)).frame (hS4.other h2), (hS2.trans (hS3.mono fun _ h => .inr h)).trans (hS4.mono fun _ h => .inl h), ?_, ?_⟩
          · rw [Hq.out, Hd.out, layAll_step _ Hc.out]
          · have := write_pend D1 n t; omega
      · have hne : ((D1.write n t).2 != 0) = true := by rw [bne_iff_ne]; exact hcode
        have Hc := Lib.hid hcode; clear hcode
        have Hl : Hid (layAll D l = D1.write n t) := by show layAll D l = _; rw [Hq.out, Hd.out, layAll_stop _ Hc.out]
        have HD := Lib.hid (disk_Write hD2 (by omega) n t)
        generalize D1.write n t = r at *
        go_wp2_with fail
        clear hc hb c1 c2 hg hW
        go_region_held3 (fun w' => w'.cell? ⟨p, 0, none⟩ = some (.pointer (some ⟨L.pd, 0, none⟩)) ∧ w'.cell? ⟨wr.heap.size, 0, none⟩ = some (.int .i64 n) ∧ w'.cell? ⟨wr.heap.size, 1, none⟩ = some (.string t))
          (first | exact ⟨hcp, hcb 0, hcb 1⟩ | exact hK2 | exact hK3)
          (first | (go_at_call 82; refine HD.out.mono ?_; rintro e w2 ⟨own2, rfl, hD3, hS3⟩; have hL3 := hL2.frame (hS3.other h1); have hb3 := hbox.of_same (hS3.same _ hbox.lt (by rw [hbo]; exact h3)); have hK2 := And.intro (hL3.cells.cell 0) (And.intro (hb3.cell 0) (hb3.cell 1)))
                 | (go_at_call 56; refine (log_met hL3 _).mono ?_; rintro e w3 ⟨rfl, hL4, hS4⟩; have hb4 := hb3.of_same (hS4.same _ hb3.lt (by rw [hS3.keep _ hbox.lt, hbo]; exact h2)); have hK3 := And.intro (hL4.cells.cell 0) (And.intro (hb4.cell 0) (hb4.cell 1))))
        go_wp2
        go_ret
        rw [Hl.out]
        exact ⟨own2, rfl, hL4, hD3.frame (hS4.other h1.symm), (hS2.trans (hS3.mono fun _ h => .inr h)).trans (hS4.mono fun _ h => .inl h)⟩
    · have hdn : l.drop j = [] := List.drop_eq_nil_of_le (by omega)
      have Hl : Hid (layAll D l = D1.flush) := by show layAll D l = _; rw [Hq.out, hdn]; rfl
      clear hdn
      go_wp2_with (first | (go_at_call 83; refine (disk_Flush hD1 (by omega)).mono ?_; rintro e w2 ⟨own2, rfl, hD3, hS3⟩; have hL3 := hL1.frame (hS3.other h1)) | (go_at_call 56; refine (log_met hL3 _).mono ?_; rintro e w3 ⟨rfl, hL4, hS4⟩))
      go_ret
      rw [Hl.out]
      exact ⟨own2, rfl, hL4, hD3.frame (hS4.other h1.symm), (hS1.trans (hS3.mono fun _ h => .inr h)).trans (hS4.mono fun _ h => .inl h)⟩

end Go.Proofs.Ytdcjhpihcfpamaa
