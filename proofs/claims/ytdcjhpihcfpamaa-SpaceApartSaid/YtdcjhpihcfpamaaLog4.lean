/-
  The log's home.
-/
import Derived.Test.YtdcjhpihcfpamaaLog3
namespace Go.Proofs.Ytdcjhpihcfpamaa
open Go.RowKit Go.XK

theorem info_Write : (Try.prog.info? 63).map (fun i => (i.zero, i.size, i.bytes)) = some (some (.agg #[.int .i64 0, .string ⟨#[]⟩]), 2, 24) := by kernel_rfl

def homeL (L : Lg) (l : List (Int × ByteArray)) : List (Int × ByteArray) := l.map fun x => ((L.size : Int) + x.1, x.2)

theorem homeL_take (L : Lg) (l : List (Int × ByteArray)) (k : Nat) (h : k < l.length) : homeL L (l.take (k + 1)) = homeL L (l.take k) ++ [((L.size : Int) + l[k].1, l[k].2)] := by
  unfold homeL
  rw [List.take_succ_eq_append_getElem h, List.map_append]; rfl

theorem AtA.alloc {w : World} {own : Nat → Nat} {c : Nat} {v : Value} {l : List (Int × ByteArray)} (h : AtA w own c v l) (o : Obj) (k : Nat) : AtA (w.alloc o) (ext own w k) c v l :=
  h.frame fun b hb hc => ⟨Below.heap_alloc _ _ _ hb, by rw [ext_old hb]; exact hc⟩

/-- Behind k rounds of home's loop. -/
def HomeI (w : World) (own : Nat → Nat) (cl cd ct p : Nat) (L : Lg) (D : Dsk) (v : Value) (l : List (Int × ByteArray)) (k : Nat) (x : Value) (wr : World) : Prop :=
  ∃ own', LD wr own' cl cd p L D ∧ AtA wr own' ct v l ∧ AtA wr own' ct x (homeL L (l.take k)) ∧ Step (fun _ => False) own w own' wr ∧ (∀ b, x.ownBlock = some b → w.heap.size ≤ b)

set_option maxRecDepth 20000 in
set_option maxHeartbeats 400000 in
theorem log_home {w : World} {own : Nat → Nat} {cl cd ct p : Nat} {L : Lg} {D : Dsk} {v : Value} {l : List (Int × ByteArray)} (h : LD w own cl cd p L D) (hA : AtA w own ct v l)
    (h2 : ct ≠ cl) (h3 : ct ≠ cd) (hp : D.pend.length + l.length + 1 ≤ 900000) (hn : ∀ x ∈ l, 0 ≤ x.1 ∧ x.1 ≤ 100000) :
    Calls Try.prog 67 #[.pointer (some ⟨p, 0, none⟩), v] w fun r w' => ∃ own', r = .returned (.int .i64 (homeP L D l).2) ∧ LD w' own' cl cd p (L.met (homeP L D l).2) (homeP L D l).1 ∧
      Step (fun c => c = cl ∨ c = cd) own w own' w' := by
  obtain ⟨i0, hi, hz0, hz1, hz2⟩ := info_parts info_Write
  have hv : ∃ a c, v = .slice a l.length c := by
    rcases hA.1.2 with ⟨rfl, k⟩ | ⟨g, cap, cur, rfl, _⟩
    · exact ⟨none, 0, by rw [k]⟩
    · exact ⟨_, _, rfl⟩
  obtain ⟨a, c, rfl⟩ := hv
  have hsz := h.log.sizeLe
  go_enter Try.func67, Try.ntmps67
  go_wp2
  go_loopg [5, 11] l.length (fun k x i wr => ∃ j : Nat, j + k = l.length ∧ i = .int .i64 j ∧ HomeI w own cl cd ct p L D (.slice a l.length c) l j x wr)
  case atStart => exact ⟨0, by omega, rfl, own, h, hA, ⟨World.ownsRow_nil _ _ _ _, Owned.nil _ _⟩, Step.refl _ _ _, by simp [Value.ownBlock]⟩
  case round =>
    obtain ⟨j, hj, rfl, own1, h1, hA1, hX1, hS1, hnew⟩ := hrel
    have hb := h1.log.cells
    have hc := hb.cell
    have hl := hb.lt
    have hlen : (homeL L (l.take j)).length = j := by unfold homeL; rw [List.length_map, List.length_take]; omega
    have hxs : ∃ a c, u5 = .slice a j c := by
      rcases hX1.1.2 with ⟨rfl, k⟩ | ⟨g, cap, cur, rfl, _⟩
      · exact ⟨none, 0, by rw [← hlen, k]⟩
      · exact ⟨_, _, by rw [hlen]⟩
    obtain ⟨ax, cx, rfl⟩ := hxs
    by_cases hlt : j < l.length
    · obtain ⟨g, cap, cur, he, hg, -⟩ := row_open hA1.1 (by omega)
      simp only [Value.slice.injEq, true_and] at he
      obtain ⟨rfl, rfl⟩ := he
      have c1 : wr.cell? ⟨g, j * 2, none⟩ = some (.int .i64 (l[j]).1) := by
        rw [hA1.1.cellAt _ (by omega)]; exact (flatA_get l j hlt).1
      have c2 : wr.cell? ⟨g, j * 2 + 1, none⟩ = some (.string (l[j]).2) := by
        rw [hA1.1.cellAt _ (by omega)]; exact (flatA_get l j hlt).2
      have htk := homeL_take L l j hlt
      have Ht := Lib.hid htk; clear htk
      have hx := hn _ (List.getElem_mem hlt)
      generalize hn : (l[j]).1 = n at *
      generalize ht : (l[j]).2 = t at *
      clear hn ht
      obtain ⟨hx1, hx2⟩ := hx
      have hF : ∀ b, b < wr.heap.size → ((wr.alloc (.cells #[.int .i64 n, .string t] 63)).drew).heap[b]? = wr.heap[b]? ∧ ext own1 wr ct b = own1 b := fun b hb' => ⟨Below.heap_alloc _ _ _ hb', ext_old hb'⟩
      have h2' : LD (wr.alloc (.cells #[.int .i64 n, .string t] 63)).drew (ext own1 wr ct) cl cd p L D := h1.frame fun b hb' _ => hF b hb'
      have hA2 : AtA (wr.alloc (.cells #[.int .i64 n, .string t] 63)).drew (ext own1 wr ct) ct (.slice (some ⟨g, 0, none⟩) l.length c) l := hA1.frame fun b hb' hb2 => ⟨(hF b hb').1, (hF b hb').2.trans hb2⟩
      have hX2 : AtA (wr.alloc (.cells #[.int .i64 n, .string t] 63)).drew (ext own1 wr ct) ct (.slice ax j cx) (homeL L (l.take j)) := hX1.frame fun b hb' hb2 => ⟨(hF b hb').1, (hF b hb').2.trans hb2⟩
      have hS2 : Step (fun _ => False) own w (ext own1 wr ct) (wr.alloc (.cells #[.int .i64 n, .string t] 63)).drew := ((hS1.alloc _).drew).reown fun b hb' => by rw [ext_old (Nat.lt_of_lt_of_le hb' hS1.size)]; exact hS1.keep b hb'
      have hbox : blk (wr.alloc (.cells #[.int .i64 n, .string t] 63)).drew wr.heap.size #[.int .i64 n, .string t] 63 := blk.new _ _ _
      have hnb : (Value.slice ax j cx).ownBlock ≠ some wr.heap.size := fun e => by have := row_lt hX1.1 _ e; omega
      have hnp := row_ne hX2.1 h2'.log.cells (by decide)
      clear hF hS1 h1 hA1 hX1
      generalize hW : (wr.alloc (.cells #[.int .i64 n, .string t] 63)) = W at *
      have hcp := h2'.log.cells.cell 1
      have hcb := hbox.cell
      have hw : IntKind.i64.wrap ((L.size : Int) + n) = L.size + n := IntWalk.i64_in _ (by omega)
      go_wp2_with fail
      clear hc hb c1 c2 hg hW
      go_region_held3 (fun w' => w'.cell? ⟨p, 1, none⟩ = some (.int .i64 L.size) ∧ w'.cell? ⟨wr.heap.size, 0, none⟩ = some (.int .i64 n) ∧ w'.cell? ⟨wr.heap.size, 1, none⟩ = some (.string t))
        (first | exact ⟨hcp, hcb 0, hcb 1⟩ | exact hK2 | exact ⟨(h2'.log.cells.alloc _).cell 1, (hbox.alloc _).cell 0, (hbox.alloc _).cell 1⟩)
        ((refine step_append_x rfl _ _ 60 rfl 63 i0 _ 2 24 Try.underlying60 hi hz0 hz1 hz2 rfl (by decide) (.slice ax j cx) _ _ rfl (hX2.1.alloc _) ⟨_, 0, none⟩ 1 1 [.int .i64 ((L.size : Int) + n), .string t] rfl rfl (new_cells _ _ _ _ (by simp)) (by simp [Value.oneCell']) (by rw [hlen]; unfold maxLen; omega) (by rw [hlen]; omega) ?_; intro a' c' w2 r4 hgr hfresh; have hb3 := (h2'.log.cells.alloc (.cells #[.int .i64 ((L.size : Int) + n), .string t] 63)).grown hgr hnp; have hb4 := (hbox.alloc (.cells #[.int .i64 ((L.size : Int) + n), .string t] 63)).grown hgr hnb; have hK2 := And.intro (hb3.cell 1) (And.intro (hb4.cell 0) (hb4.cell 1))))
      have hWs := hS2.size
      have hWd : W.drew.heap.size = W.heap.size := rfl
      have hfr : ∀ b, b < W.drew.heap.size → some b ≠ (Value.slice ax j cx).ownBlock → w2.heap[b]? = W.drew.heap[b]? ∧ ext (ext own1 wr ct) W.drew ct b = ext own1 wr ct b := fun b hb' hne => ⟨(hgr.block b (by simp; omega) hne).trans (Below.heap_alloc _ _ _ hb'), ext_old hb'⟩
      have hfin : HomeI w own cl cd ct p L D (.slice (some ⟨g, 0, none⟩) l.length c) l (j + 1) (.slice a' ((homeL L (l.take j)).length + 1) c') w2 := by
        refine ⟨ext (ext own1 wr ct) W.drew ct, h2'.frame fun b hb' hc => hfr b hb' fun e => ?_, ⟨?_, hA2.2.ext⟩, ⟨?_, hX2.2.fresh fun k hk => ?_⟩, (((hS2.alloc _).grown hgr fun k hk => .inl (hnew k hk))).reown fun b hb' => ?_, fun b hb' => ?_⟩
        · have := hX2.2 b e.symm
          rcases hc with k | k <;> rw [this] at k
          · exact h2 k
          · exact h3 k
        · refine (hA2.1.alloc _).kept hgr (.inr fun e => ?_)
          have h1 := hnew g e.symm
          have h2 := row_lt hA.1 g rfl
          omega
        · rw [Ht.out, flatA_snoc, List.length_append]
          exact r4
        · rcases hfresh k hk with e | e
          · exact .inl e
          · right; simp at e; omega
        · rw [ext_old (by omega)]; exact hS2.keep b hb'
        · rcases hfresh b hb' with e | e
          · exact hnew b e
          · simp at e; omega
      have Hfin := Lib.hid hfin; clear hfin hfr
      go_wp2
      go_roundg (l.length - (j + 1))
      case measure => omega
      case rel =>
        have hq := Hfin.out
        rw [hlen] at hq
        exact ⟨j + 1, by omega, by go_num, hq⟩
    · have htk : l.take j = l := List.take_of_length_le (by omega)
      rw [htk] at hX1 hlen
      clear htk
      have hlm : (homeL L l).length = l.length := by simp [homeL]
      have hr1 : homeP L D l = if (layAll D (homeL L l)).2 = 0 then layAll (layAll D (homeL L l)).1 [(1, zeros)] else layAll D (homeL L l) := rfl
      have HR1 := Lib.hid hr1; clear hr1
      have hpl := layAll_pend D (homeL L l)
      have HL := Lib.hid (log_lay h1.log h1.disk hX1 h1.ne h2 h3 (by rw [hlm]; omega))
      have hoff := layAll_len D (homeL L l)
      clear hc
      generalize layAll D (homeL L l) = r at *
      go_wp2_with fail
      refine HL.out.mono ?_
      rintro e w2 ⟨own2, rfl, hL2, hD2, hS2⟩
      have hLD : LD w2 own2 cl cd p (L.met r.2) r.1 := ⟨hL2, hD2, h1.ne, h1.least, by rw [hoff]; exact h1.lt⟩
      by_cases hcode : r.2 = 0
      · have hm0 : L.met r.2 = L := Lg.met_ok (by rw [hcode]; decide)
        rw [hm0] at hLD
        clear hL2 hD2 hm0
        have Hc := Lib.hid hcode; clear hcode
        rw [Hc.out]
        go_wp2_with fail
        refine (log_filled ⟨#[]⟩ _ (by decide)).mono ?_
        rintro e w3 ⟨rfl, hB3⟩
        rw [filled_empty]
        have hS3 : Step (fun _ => False) own2 w2 (ext own2 w2 ct) w3 := ((Step.refl _ own2 w2).below hB3 (Nat.le_refl _)).reown fun b hb => ext_old hb
        have h3' := hLD.step hS3 (by simp) (by simp)
        have hb3 := hB3.size
        have h4 : LD (w3.alloc (.cells #[.int .i64 1, .string zeros] 63)) (ext (ext own2 w2 ct) w3 ct) cl cd p L r.1 := h3'.frame fun b hb _ => ⟨Below.heap_alloc _ _ _ hb, ext_old hb⟩
        have hA4 : AtA (w3.alloc (.cells #[.int .i64 1, .string zeros] 63)) (ext (ext own2 w2 ct) w3 ct) ct (.slice (some ⟨w3.heap.size, 0, none⟩) 1 1) [(1, zeros)] :=
          ⟨World.ownsRow_lit w3 #[.int .i64 1, .string zeros] 1 (Nat.zero_le _) (by decide) rfl, fun k hk => by simp only [Value.ownBlock, Option.some.injEq] at hk; exact ext_new (by omega)⟩
        have hS4 : Step (fun _ => False) own2 w2 (ext (ext own2 w2 ct) w3 ct) (w3.alloc (.cells #[.int .i64 1, .string zeros] 63)) := (hS3.alloc _).reown fun b hb => by rw [ext_old (by omega)]; exact ext_old hb
        go_wp2_with (first | (go_at_call 65; refine (log_lay h4.log h4.disk hA4 h4.ne h2 h3 (by show r.1.pend.length + 1 ≤ _; omega)).mono ?_; rintro e w5 ⟨own5, rfl, hL5, hD5, hS5⟩))
        go_ret
        have hr2 := layAll_len r.1 [(1, zeros)]
        rw [HR1.out, if_pos Hc.out]
        exact ⟨own5, rfl, ⟨hL5, hD5, h1.ne, h1.least, by rw [hr2, hoff]; exact h1.lt⟩, (((hS1.mono fun _ k => k.elim).trans hS2).trans (hS4.mono fun _ k => k.elim)).trans hS5⟩
      · have hne : (r.2 != 0) = true := by rw [bne_iff_ne]; exact hcode
        have Hc := Lib.hid hcode; clear hcode
        go_wp2
        go_ret
        rw [HR1.out, if_neg Hc.out]
        exact ⟨own2, rfl, hLD, (hS1.mono fun _ k => k.elim).trans hS2⟩

end Go.Proofs.Ytdcjhpihcfpamaa
