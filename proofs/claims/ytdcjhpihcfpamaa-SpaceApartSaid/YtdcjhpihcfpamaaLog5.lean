/-
  The log's homes.
-/
import Derived.Test.YtdcjhpihcfpamaaLog4
namespace Go.Proofs.Ytdcjhpihcfpamaa
open Go.RowKit Go.XK

/-- Behind k rounds of homes' loop: what was collected, and the sector of places at hand. -/
def HomesI (w : World) (own : Nat → Nat) (cl cd ct p : Nat) (L : Lg) (D : Dsk) (n k : Nat) (x pl : Value) (wr : World) : Prop :=
  ∃ own' l, homesTo L D n k = some l ∧ LD wr own' cl cd p L D ∧ AtA wr own' ct x l ∧ Step (fun _ => False) own w own' wr ∧ (∀ b, x.ownBlock = some b → w.heap.size ≤ b) ∧ (∃ s : ByteArray, pl = .string s ∧ (k % 128 ≠ 0 → s = D.get ((2 : Int) + n + (k / 128 : Nat))))

theorem read_on {D : Dsk} {n : Int} (h : D.off = false) (h0 : 0 ≤ n) (h1 : n < D.seen.length) : D.read n = (D.get n, 0) := by
  have : D.has n = true := by simp only [Dsk.has, decide_eq_true_eq]; exact ⟨h0, h1⟩
  simp [Dsk.read, h, this]

set_option maxRecDepth 20000 in
set_option maxHeartbeats 1000000 in
theorem log_homes {w : World} {own : Nat → Nat} {cl cd p : Nat} (ct : Nat) {L : Lg} {D : Dsk} (h : LD w own cl cd p L D) (hoff : D.off = false)
    (h2 : ct ≠ cl) (h3 : ct ≠ cd) (n : Nat) (hn : 2 + n + (n + 127) / 128 ≤ L.size) :
    Calls Try.prog 91 #[.pointer (some ⟨p, 0, none⟩), .int .i64 n] w fun r w' => ∃ own' v, LD w' own' cl cd p L D ∧ Step (fun _ => False) own w own' w' ∧
      ((homesTo L D n n = none ∧ r = .returned (.tuple #[.slice none 0 0, .int .i64 42])) ∨ ∃ l, homesTo L D n n = some l ∧ r = .returned (.tuple #[v, .int .i64 0]) ∧ AtA w' own' ct v l) := by
  obtain ⟨i0, hi, hz0, hz1, hz2⟩ := info_parts info_Write
  have hsz := h.log.sizeLe
  have hlt := h.lt
  have hmo := h.disk.ok.most
  go_enter Try.func91, Try.ntmps91
  go_wp2
  go_loopg [6, 7, 15] n (fun k x pl i wr => ∃ j : Nat, j + k = n ∧ i = .int .i64 j ∧ HomesI w own cl cd ct p L D n j x pl wr)
  case atStart => exact ⟨0, by omega, rfl, own, [], rfl, h, ⟨World.ownsRow_nil _ _ _ _, Owned.nil _ _⟩, Step.refl _ _ _, by simp [Value.ownBlock], _, rfl, by omega⟩
  case round =>
    obtain ⟨j, hj, rfl, own1, l, hl, h1, hX1, hS1, hnew, s, rfl, hs⟩ := hrel
    have hb := h1.log.cells
    have hc := hb.cell
    have hll := homesTo_length _ _ _ _ _ hl
    have hxs : ∃ a c, u6 = .slice a j c := by
      rcases hX1.1.2 with ⟨rfl, k⟩ | ⟨g, cap, cur, rfl, _⟩
      · exact ⟨none, 0, by rw [← hll, k]⟩
      · exact ⟨_, _, by rw [hll]⟩
    obtain ⟨ax, cx, rfl⟩ := hxs
    by_cases hlt : j < n
    · have Hl := Lib.hid hl; clear hl
      have Hll := Lib.hid hll; clear hll
      have Hs := Lib.hid hs; clear hs
      have hq : 2 + n + j / 128 < L.size := by omega
      have hP := Dsk.get_size h.disk.ok (n := (2 : Int) + n + (j / 128 : Nat)) (by simp only [Dsk.has, decide_eq_true_eq]; omega)
      have Hr1 := Lib.hid (show D.read (2 + (n : Int) + (j : Int) / 128) = (D.get ((2 : Int) + n + (j / 128 : Nat)), 0) from read_on hoff (by omega) (by omega))
      have Hr2 := Lib.hid (show D.read (2 + (j : Int)) = (D.get ((2 : Int) + j), 0) from read_on hoff (by omega) (by omega))
      have hw := placeAt_is D n j
      have hpb := placeAt_bounds D n j
      have Hsu := Lib.hid (homesTo_succ Hl.out)
      generalize hPP : D.get ((2 : Int) + n + (j / 128 : Nat)) = P at *
      generalize placeAt D n j = q at *
      have HPP := Lib.hid hPP; clear hPP
      have hx8 : (P.extract (j % 128 * 4) (j % 128 * 4 + 4)).size ≤ 8 := by simp; omega
      obtain ⟨hq0, hq1⟩ := hpb
      by_cases hblk : (D.seen.length : Int) - L.size ≤ q
      · have Hno : Hid (homesTo L D n n = none) := by
          refine homesTo_none L D n (j + 1) ?_ n (by omega)
          rw [Hsu.out, if_pos (by unfold blocksOf; omega)]
        by_cases h128 : ((j : Int) % 128 == 0) = true
        · go_wp2_with (first | (go_at_call 57; refine (disk_Read h1.disk _).mono ?_; rintro e w' ⟨rfl, rfl⟩; rw [Hr1.out]) | (go_at_call 90; refine (log_number _ _ hx8).mono ?_; rintro e w' ⟨rfl, rfl⟩) | (go_at_call 9; refine (log_Blocks h1.log h1.disk).mono ?_; rintro e w1 ⟨rfl, nq, hw1⟩; have h5 := h1.of_drewN hw1; have hs5 : Step (fun _ => False) own1 wr own1 w1 := Step.of_drewN hw1; clear hw1))
          go_ret2
          exact ⟨own1, .slice none 0 0, h5, hS1.trans hs5, .inl ⟨Hno.out, rfl⟩⟩
        · have h128' : ((j : Int) % 128 == 0) = false := Bool.eq_false_iff.2 h128
          obtain rfl : s = P := Hs.out (fun e => h128 (by rw [beq_iff_eq]; omega))
          clear h128
          go_wp2_with (first | (go_at_call 90; refine (log_number _ _ hx8).mono ?_; rintro e w' ⟨rfl, rfl⟩) | (go_at_call 9; refine (log_Blocks h1.log h1.disk).mono ?_; rintro e w1 ⟨rfl, nq, hw1⟩; have h5 := h1.of_drewN hw1; have hs5 : Step (fun _ => False) own1 wr own1 w1 := Step.of_drewN hw1; clear hw1))
          go_ret2
          exact ⟨own1, .slice none 0 0, h5, hS1.trans hs5, .inl ⟨Hno.out, rfl⟩⟩
      · have hblk2 : q < (D.seen.length : Int) - L.size := by omega
        clear hblk
        have Hqb := Lib.hid (show ¬ (blocksOf L D : Int) ≤ q by unfold blocksOf; omega)
        by_cases h128 : ((j : Int) % 128 == 0) = true
        · go_wp2_with (first | (go_at_call 90; refine (log_number _ _ hx8).mono ?_; rintro e w' ⟨rfl, rfl⟩) | (go_at_call 57; refine (disk_Read h1.disk _).mono ?_; rintro e w' ⟨rfl, rfl⟩; rw [Hr1.out]))
          rw [hw]
          clear hw hx8 hP h128
          go_wp2_with (first | (go_at_call 9; refine (log_Blocks h1.log h1.disk).mono ?_; rintro e w1 ⟨rfl, nq, hw1⟩; have h5 := h1.of_drewN hw1; have hs5 : Step (fun _ => False) own1 wr own1 w1 := Step.of_drewN hw1; have hX5 := hX1.frame (hs5.other (fun k => k)); have hc5 := h5.log.cells.cell; clear hw1) | (go_at_call 90; refine (log_number _ _ hx8).mono ?_; rintro e w' ⟨rfl, rfl⟩) | (go_at_call 57; refine (disk_Read h1.disk _).mono ?_; rintro e w' ⟨rfl, rfl⟩; rw [Hr1.out]) | (go_at_call 57; refine (disk_Read h5.disk _).mono ?_; rintro e w' ⟨rfl, rfl⟩; rw [Hr2.out]) | (at_builtin; refine wpList_append_x rfl _ _ 60 rfl 63 i0 _ 2 24 Try.underlying60 hi hz0 hz1 hz2 rfl (by decide) (.slice ax j cx) _ _ rfl (hX5.1.alloc _) ⟨_, 0, none⟩ 1 1 [.int .i64 q, .string (D.get ((2 : Int) + j))] rfl rfl (new_cells _ _ _ _ (by simp)) (by simp [Value.oneCell']) (by rw [Hll.out]; unfold maxLen; omega) (by rw [Hll.out]; omega) ?_; intro a' c' w2 r4 hgr hfresh))
          go_roundg (n - (j + 1))
          case measure => omega
          case rel =>
            refine ⟨j + 1, by omega, by go_num, ext own1 w1 ct, l ++ [(q, D.get ((2 : Int) + j))], by rw [Hsu.out, if_neg (by have := Hqb.out; omega)], h5.frame fun b hb' hc' => ⟨(hgr.block b (by simp; omega) fun e => ?_).trans (Below.heap_alloc _ _ _ hb'), ext_old hb'⟩, ⟨?_, hX5.2.fresh fun k hk => ?_⟩, (((hS1.trans hs5).alloc _).grown hgr fun k hk => ?_).reown fun b hb' => ?_, fun b hb' => ?_, P, rfl, fun hne => ?_⟩
            · have := hX5.2 b e.symm
              rcases hc' with k | k <;> rw [this] at k
              · exact h2 k
              · exact h3 k
            · rw [List.length_append, flatA_snoc]
              exact r4
            · rcases hfresh k hk with e | e
              · exact .inl e
              · right; simp at e; omega
            · exact .inl (hnew k hk)
            · rw [ext_old (Nat.lt_of_lt_of_le hb' (hS1.trans hs5).size)]; exact (hS1.trans hs5).keep b hb'
            · rcases hfresh b hb' with e | e
              · exact hnew b e
              · simp at e; have := (hS1.trans hs5).size; omega
            · rw [← HPP.out, show (j + 1) / 128 = j / 128 by omega]
        · have h128' : ((j : Int) % 128 == 0) = false := Bool.eq_false_iff.2 h128
          obtain rfl : s = P := Hs.out (fun e => h128 (by rw [beq_iff_eq]; omega))
          clear h128
          go_wp2_with (first | (go_at_call 90; refine (log_number _ _ hx8).mono ?_; rintro e w' ⟨rfl, rfl⟩))
          rw [hw]
          clear hw h128' hx8 hP
          go_wp2_with (first | (go_at_call 9; refine (log_Blocks h1.log h1.disk).mono ?_; rintro e w1 ⟨rfl, nq, hw1⟩; have h5 := h1.of_drewN hw1; have hs5 : Step (fun _ => False) own1 wr own1 w1 := Step.of_drewN hw1; have hX5 := hX1.frame (hs5.other (fun k => k)); have hc5 := h5.log.cells.cell; clear hw1) | (go_at_call 90; refine (log_number _ _ hx8).mono ?_; rintro e w' ⟨rfl, rfl⟩) | (go_at_call 57; refine (disk_Read h5.disk _).mono ?_; rintro e w' ⟨rfl, rfl⟩; rw [Hr2.out]) | (at_builtin; refine wpList_append_x rfl _ _ 60 rfl 63 i0 _ 2 24 Try.underlying60 hi hz0 hz1 hz2 rfl (by decide) (.slice ax j cx) _ _ rfl (hX5.1.alloc _) ⟨_, 0, none⟩ 1 1 [.int .i64 q, .string (D.get ((2 : Int) + j))] rfl rfl (new_cells _ _ _ _ (by simp)) (by simp [Value.oneCell']) (by rw [Hll.out]; unfold maxLen; omega) (by rw [Hll.out]; omega) ?_; intro a' c' w2 r4 hgr hfresh))
          go_roundg (n - (j + 1))
          case measure => omega
          case rel =>
            refine ⟨j + 1, by omega, by go_num, ext own1 w1 ct, l ++ [(q, D.get ((2 : Int) + j))], by rw [Hsu.out, if_neg (by have := Hqb.out; omega)], h5.frame fun b hb' hc' => ⟨(hgr.block b (by simp; omega) fun e => ?_).trans (Below.heap_alloc _ _ _ hb'), ext_old hb'⟩, ⟨?_, hX5.2.fresh fun k hk => ?_⟩, (((hS1.trans hs5).alloc _).grown hgr fun k hk => ?_).reown fun b hb' => ?_, fun b hb' => ?_, s, rfl, fun hne => ?_⟩
            · have := hX5.2 b e.symm
              rcases hc' with k | k <;> rw [this] at k
              · exact h2 k
              · exact h3 k
            · rw [List.length_append, flatA_snoc]
              exact r4
            · rcases hfresh k hk with e | e
              · exact .inl e
              · right; simp at e; omega
            · exact .inl (hnew k hk)
            · rw [ext_old (Nat.lt_of_lt_of_le hb' (hS1.trans hs5).size)]; exact (hS1.trans hs5).keep b hb'
            · rcases hfresh b hb' with e | e
              · exact hnew b e
              · simp at e; have := (hS1.trans hs5).size; omega
            · rw [← HPP.out, show (j + 1) / 128 = j / 128 by omega]
    · obtain rfl : j = n := by omega
      have Hl := Lib.hid hl; clear hl
      have Hll := Lib.hid hll; clear hll
      clear hs
      go_wp2
      go_ret2
      exact ⟨own1, .slice ax j cx, h1, hS1, .inr ⟨l, Hl.out, rfl, hX1⟩⟩

end Go.Proofs.Ytdcjhpihcfpamaa
