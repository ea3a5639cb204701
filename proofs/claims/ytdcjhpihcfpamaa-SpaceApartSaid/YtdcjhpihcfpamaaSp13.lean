/-
  The space's Free: the walk.
-/
import Derived.Test.YtdcjhpihcfpamaaSp12
namespace Go.Proofs.Ytdcjhpihcfpamaa
open Go.RowKit Go.XK

section
variable {w : World} {own : Nat → Nat} {ct cl cd pt pl ps f : Nat} {T : Tx} {L : Lg} {D : Dsk}

theorem freeStep_neg {f nb B : Nat} {m : List UInt8} {x : Int} (h : x < 0) : freeStep f nb B m x = none := by unfold freeStep; rw [if_neg (by omega)]
theorem freeStep_big {f nb B : Nat} {m : List UInt8} {x : Int} (h : (B : Int) ≤ x) : freeStep f nb B m x = none := by unfold freeStep; rw [if_neg (by omega)]
theorem freeStep_kept {f nb B : Nat} {m : List UInt8} {x : Int} (h : x < ((f + nb : Nat) : Int)) : freeStep f nb B m x = none := by unfold freeStep; rw [if_neg (by omega)]
theorem freeStep_free {f nb B : Nat} {m : List UInt8} {x : Nat} (h : bitAt m x = false) : freeStep f nb B m (x : Int) = none := by
  unfold freeStep; rw [if_neg]; rintro ⟨_, _, _, h4⟩; rw [Int.toNat_natCast, h] at h4; cases h4
theorem freeStep_ok {f nb B : Nat} {m : List UInt8} {x : Nat} (h1 : x < B) (h2 : f + nb ≤ x) (h : bitAt m x = true) : freeStep f nb B m (x : Int) = some (clearBit m x) := by
  unfold freeStep; rw [if_pos ⟨by omega, by omega, by omega, by rw [Int.toNat_natCast]; exact h⟩, Int.toNat_natCast]

set_option maxRecDepth 20000 in
set_option maxHeartbeats 1000000 in
theorem space_Free_over (h : TL w own ct cl cd pt pl T L D) (hs : SpR w ps pt f) (hov : T.over = true) (hps : own ps ≠ cl) (v : Value) (l : List Int) :
    Calls Try.prog 15 #[.pointer (some ⟨ps, 0, none⟩), v] w (SFreePost w own ct cl cd pt pl ps f T L D (freeP T L D f l)) := by
  have e : freeP T L D f l = (T, 8) := by simp [freeP, hov]
  rw [e]
  clear e
  have hc1 := hs.cells.cell
  have Hov := Lib.hid hov; clear hov
  go_enter Try.func15, Try.ntmps15
  go_wp2_with (go_at_call 39; refine (space_over h).mono ?_; rintro e w2 ⟨rfl, h2, hS2⟩; rw [Hov.out])
  go_ret
  exact ⟨rfl, h2, hS2.mono fun _ k => .inl k, hs.of_same (hS2.same ps hs.cells.lt hps)⟩

theorem freeP_none {l : List Int} (ho : T.over = false) (h : freeTo f (nbOf (blocksOf L D)) (blocksOf L D) (bitsTo T L D f (nbOf (blocksOf L D))) l = none) : freeP T L D f l = (T, 1) := by
  unfold freeP; rw [ho, if_neg (by decide), h]
theorem freeP_some {l : List Int} {m : List UInt8} (ho : T.over = false) (h : freeTo f (nbOf (blocksOf L D)) (blocksOf L D) (bitsTo T L D f (nbOf (blocksOf L D))) l = some m) :
    freeP T L D f l = (layTo T L D f (bitsTo T L D f (nbOf (blocksOf L D))) m (nbOf (blocksOf L D)), 0) := by
  unfold freeP; rw [ho, if_neg (by decide), h]

set_option maxRecDepth 20000 in
set_option maxHeartbeats 2000000 in
theorem space_Free (h : TL w own ct cl cd pt pl T L D) (hs : SpR w ps pt f) (hov : T.over = false) (hps : own ps ≠ cl) (hpt : own ps ≠ ct) (hF : Fresh own w.heap.size ct cl cd) (hf : f + nbOf (blocksOf L D) ≤ blocksOf L D)
    (av : Option Addr) (len cap : Nat) (l : List Int) (hl : l.length = len) (hlm : len ≤ 9223372036854775807) (hcap : len ≤ cap) (hA : ArgI w own ct cl av l) :
    Calls Try.prog 15 #[.pointer (some ⟨ps, 0, none⟩), .slice av len cap] w (SFreePost w own ct cl cd pt pl ps f T L D (freeP T L D f l)) := by
  have hnb := nb_le h.ld
  have hfp := fun h => freeP_none (f := f) (T := T) (L := L) (D := D) (l := l) hov h
  have hfq := fun m h => freeP_some (f := f) (T := T) (L := L) (D := D) (l := l) (m := m) hov h
  have HBm := Lib.hid (fun W (hW : TL W own ct cl cd pt pl T L D) (hsW : SpR W ps pt f) (hFW : Fresh own W.heap.size ct cl cd) => space_bitmap hW hsW hf hov hps hFW)
  have hml := bitsTo_length h hov (nbOf (blocksOf L D)) hf
  generalize hmm : bitsTo T L D f (nbOf (blocksOf L D)) = m at *
  have hc1 := hs.cells.cell
  have Hov := Lib.hid hov; clear hov
  have Hml := Lib.hid hml; clear hml
  have Hmm := Lib.hid hmm; clear hmm
  have Hfp := Lib.hid hfp; clear hfp
  have Hfq := Lib.hid hfq; clear hfq
  have Hl := Lib.hid hl; clear hl
  go_enter Try.func15, Try.ntmps15
  go_wp2_with (go_at_call 39; refine (space_over h).mono ?_; rintro e w2 ⟨rfl, h2, hS2⟩; rw [Hov.out]; have hs2 := hs.of_same (hS2.same ps hs.cells.lt hps))
  refine (HBm.out w2 h2 hs2 (hF.mono hS2.size)).mono ?_
  rintro e w3 ⟨h3, hS4, hs3, v, rfl, hr3⟩
  rw [Hml.out] at hr3
  obtain ⟨g, cg, cur, rfl, hgb, hg1, hg2, hg3, -⟩ := row_open (row_zero hr3) (by omega)
  have hgl := (hr3.lt g rfl).1
  have hS5 := hS2.trans hS4
  have hsz2 := hS2.size
  clear hS2 hS4 hs2 h2 hc1
  have hnn1 : 0 < nbOf (blocksOf L D) * 512 := by omega
  have hnn2 : nbOf (blocksOf L D) * 512 ≤ 100000 := by omega
  have h8 : blocksOf L D ≤ 8 * (nbOf (blocksOf L D) * 512) := by unfold nbOf; omega
  generalize hnnv : nbOf (blocksOf L D) * 512 = nn at *
  have Hnnv := Lib.hid hnnv; clear hnnv
  have hgl3 := hgb.lt
  go_wp2_with fail
  refine (bytes_Clone _ g cg m nn Hml.out hnn2 (bytesAt_row hr3)).mono ?_
  rintro e w5 ⟨v5, rfl, hr5, hB5⟩
  obtain ⟨gi, ci, cur5, rfl, hgi, hi1, hi2, -, -⟩ := row_open (row_zero hr5) hnn1
  have hgil := (hr5.lt gi rfl).1
  have hI : FreeI w own ct cl cd pt pl ps f g cg gi ci nn (nbOf (blocksOf L D)) (blocksOf L D) T L D m av l 0 m w5 := 
    ⟨h3.frame fun b hb _ => ⟨hB5.block b hb, rfl⟩, hs3.of_same (hB5.block ps hs3.cells.lt), row_below (row_zero hr3) hB5 (Nat.le_refl _), row_raise hr5 (fun k hk => by simp only [Value.ownBlock, Option.some.injEq] at hk; omega),
      hS5.below hB5 (Nat.le_refl _), hA, rfl, by have := hS5.size; omega, Hml.out⟩
  clear hB5 hgb hgi hr5 hr3 h3 hs3 hS5 hg3
  go_wp2_with fail
  go_loopw [27] (fun i wr => ∃ k mk, k ≤ len ∧ i = .int .i64 (k : Nat) ∧ FreeI w own ct cl cd pt pl ps f g cg gi ci nn (nbOf (blocksOf L D)) (blocksOf L D) T L D m av l k mk wr) (fun i _ => len - (intOf i).toNat)
  case atStart => exact ⟨0, m, Nat.zero_le _, rfl, hI⟩
  case round =>
    obtain ⟨k, mk, hk, rfl, hI1⟩ := hrel
    clear hI
    by_cases hlt : k < len
    · have hkl : k < l.length := by rw [Hl.out]; exact hlt
      have hA1 := hI1.arg.of_same hI1.st.size (fun b hb _ h2 => hI1.st.same b hb h2)
      obtain ⟨gl, o, rfl, hgll, hol1, hol2, hcl⟩ : ∃ g o, av = some ⟨g, o, none⟩ ∧ g < wr.heap.size ∧ own g ≠ ct ∧ own g ≠ cl ∧ ∀ j (hj : j < l.length), wr.cell? ⟨g, o + j, none⟩ = some (.int .i64 l[j]) := by
        rcases hA1 with q | q
        · rw [q] at hkl; simp at hkl
        · exact q
      have hx := hcl k hkl
      have hsn := @freeStep_neg f (nbOf (blocksOf L D)) (blocksOf L D) mk l[k]
      have hsb := @freeStep_big f (nbOf (blocksOf L D)) (blocksOf L D) mk l[k]
      have hsk := @freeStep_kept f (nbOf (blocksOf L D)) (blocksOf L D) mk l[k]
      have hno := fun hh : freeStep f (nbOf (blocksOf L D)) (blocksOf L D) mk l[k] = none => freeTo_none hkl hI1.upTo hh
      clear hA1 hcl
      generalize hxv : l[k] = x at *
      have Hsn := Lib.hid hsn; clear hsn
      have Hsb := Lib.hid hsb; clear hsb
      have Hsk := Lib.hid hsk; clear hsk
      have Hno := Lib.hid hno; clear hno
      have HI1 := Lib.hid hI1; clear hI1
      have Hxv := Lib.hid hxv; clear hxv
      have hc1 := HI1.out.sp.cells.cell
      by_cases hx0 : x < 0
      · have hn := Hno.out (Hsn.out hx0)
        have Hn := Lib.hid hn; clear hn
        go_wp2
        go_ret
        rw [Hfp.out Hn.out]
        exact ⟨rfl, HI1.out.tl, HI1.out.st.mono fun _ k => .inl k, HI1.out.sp⟩
      · have hx0' : 0 ≤ x := by omega
        by_cases hxb : (blocksOf L D : Int) ≤ x
        · have hn := Hno.out (Hsb.out hxb)
          have Hn := Lib.hid hn; clear hn
          go_wp2_with fail
          refine (tl_Blocks HI1.out.tl).mono ?_; rintro e w6 ⟨rfl, q, hw⟩
          have h6 := HI1.out.tl.of_drewN hw
          have hS6 := HI1.out.st.trans (Step.of_drewN hw)
          have hs6 := HI1.out.sp.of_drewN hw
          clear hw
          go_wp2
          go_ret
          rw [Hfp.out Hn.out]
          exact ⟨rfl, h6, hS6.mono fun _ k => .inl k, hs6⟩
        · have hxb' : x < (blocksOf L D : Int) := by omega
          go_wp2_with fail
          refine (tl_Blocks HI1.out.tl).mono ?_; rintro e w6 ⟨rfl, q, hw⟩
          have hI6 : FreeI w own ct cl cd pt pl ps f g cg gi ci nn (nbOf (blocksOf L D)) (blocksOf L D) T L D m (some ⟨gl, o, none⟩) l k mk w6 := hw ▸ HI1.out.drewN q
          clear hw HI1 hc1 hx
          have HK := Lib.hid (space_keptBack hI6.tl hI6.sp hf x)
          by_cases hxk : x < ((f + nbOf (blocksOf L D) : Nat) : Int)
          · have hn := Hno.out (Hsk.out hxk)
            have Hn := Lib.hid hn; clear hn
            have hd : decide (x < ((f + nbOf (blocksOf L D) : Nat) : Int)) = true := decide_eq_true hxk
            rw [hd] at HK
            clear hd hxk
            go_wp2_with fail
            refine HK.out.mono ?_; rintro e w7 ⟨rfl, q, hw⟩
            have hI7 : FreeI w own ct cl cd pt pl ps f g cg gi ci nn (nbOf (blocksOf L D)) (blocksOf L D) T L D m (some ⟨gl, o, none⟩) l k mk w7 := hw ▸ hI6.drewN q
            clear hw hI6 HK
            go_wp2
            go_ret
            rw [Hfp.out Hn.out]
            exact ⟨rfl, hI7.tl, hI7.st.mono fun _ k => .inl k, hI7.sp⟩
          · have hd : decide (x < ((f + nbOf (blocksOf L D) : Nat) : Int)) = false := decide_eq_false hxk
            rw [hd] at HK
            clear hd
            have hxk' : ((f + nbOf (blocksOf L D) : Nat) : Int) ≤ x := by omega
            obtain ⟨y, rfl⟩ := Int.eq_ofNat_of_zero_le hx0'
            go_wp2_with fail
            refine HK.out.mono ?_; rintro e w7 ⟨rfl, q, hw⟩
            have hI7 : FreeI w own ct cl cd pt pl ps f g cg gi ci nn (nbOf (blocksOf L D)) (blocksOf L D) T L D m (some ⟨gl, o, none⟩) l k mk w7 := hw ▸ hI6.drewN q
            clear hw hI6 HK
            have hmk := hI7.len
            have hrb := bytesAt_row hI7.row
            have HU := Lib.hid (space_used hI7.tl hI7.sp hf y gi ci mk (fun j hj => by have := hrb j hj; rw [Nat.zero_add] at this; exact this) (by omega) (by omega))
            rw [hmk] at HU
            have hdk : decide (y < f + nbOf (blocksOf L D)) = false := decide_eq_false (by omega)
            rw [hdk, Bool.false_or] at HU
            clear hdk hrb
            have Hmk := Lib.hid hmk; clear hmk
            cases hbit : bitAt mk y with
            | false =>
              have hn := Hno.out (freeStep_free hbit)
              have Hn := Lib.hid hn; clear hn
              rw [hbit] at HU
              clear hbit
              go_wp2_with fail
              refine HU.out.mono ?_; rintro e w8 ⟨rfl, q, hw⟩
              have hI8 : FreeI w own ct cl cd pt pl ps f g cg gi ci nn (nbOf (blocksOf L D)) (blocksOf L D) T L D m (some ⟨gl, o, none⟩) l k mk w8 := hw ▸ hI7.drewN q
              clear hw hI7 HU
              go_wp2
              go_ret
              rw [Hfp.out Hn.out]
              exact ⟨rfl, hI8.tl, hI8.st.mono fun _ k => .inl k, hI8.sp⟩
            | true =>
              have hok := freeStep_ok (f := f) (nb := nbOf (blocksOf L D)) (B := blocksOf L D) (m := mk) (x := y) (by omega) (by omega) hbit
              rw [hbit] at HU
              clear hbit Hno
              have Hok := Lib.hid hok; clear hok
              go_wp2_with fail
              refine HU.out.mono ?_; rintro e w8 ⟨rfl, q, hw⟩
              have hI8 : FreeI w own ct cl cd pt pl ps f g cg gi ci nn (nbOf (blocksOf L D)) (blocksOf L D) T L D m (some ⟨gl, o, none⟩) l k mk w8 := hw ▸ hI7.drewN q
              clear hw hI7 HU
              have hst := hI8.bit hF hkl Hxv.out (by rw [Hxv.out]; exact Hok.out) rfl
              have hyl : y / 8 < mk.length := by rw [Hmk.out]; omega
              have hci := (bytesAt_row hI8.row) (y / 8) hyl
              rw [Nat.zero_add] at hci
              have hor := andNot_walk mk[y / 8].toNat (y % 8) (UInt8.toNat_lt _) (Nat.mod_lt _ (by decide))
              have hgd : mk.getD (y / 8) 0 = mk[y / 8] := getD_at _ _ _ hyl
              rw [hgd] at hst
              have hci2 : w8.drew.cell? ⟨gi, y / 8, none⟩ = some (.int .u8 (mk[y / 8].toNat : Int)) := hci
              have hfi : w8.drew.frozen? ⟨gi, y / 8, none⟩ = false := hI8.row.frozenAt (y / 8)
              have hyb : y / 8 < nn := by rw [← Hmk.out]; exact hyl
              generalize mk[y / 8] = z at *
              have Hst := Lib.hid hst; clear hst
              have Hgd := Lib.hid hgd; clear hgd
              have Hor := Lib.hid hor; clear hor hci hI8 hyl
              have hq1 : (0 : Int) ≤ (y : Int) / 8 := by omega
              have hq2 : (y : Int) / 8 < (nn : Int) := by omega
              have hq3 : ((y : Int) / 8).toNat = y / 8 := by omega
              have hq4 : (0 : Int) ≤ (y : Int) % 8 := by omega
              have hq5 : ((y : Int) % 8).toNat = y % 8 := by omega
              have hd8 : IntKind.i64.wrap ((y : Int) / 8) = (y : Int) / 8 := IntWalk.i64_in _ (by omega)
              have htm : (y : Int).tmod 8 = (y : Int) % 8 := Int.tmod_eq_emod_of_nonneg (by omega)
              go_wp2_with fail
              refine wp_region_still_tail 10 (by kernel_rfl) (by kernel_rfl) ?_
              simp only [List.take_succ_cons, List.take_zero, List.drop_succ_cons, List.drop_zero]
              change wpStill _ _ w8.drew _ _ _
              iterate 10 still_step
              refine wpStill_nil ?_
              change wpList _ _ _ _ _ w8.drew
              go_wp2
              go_roundw
              case rel =>
                rw [Hor.out]
                exact ⟨k + 1, clearBit mk y, by omega, by go_num, Hst.out.drewN 1⟩
              case measure => simp [intOf]; omega
    · obtain rfl : k = len := by omega
      have hup := hI1.upTo
      rw [List.take_of_length_le (by rw [Hl.out]; exact Nat.le_refl _)] at hup
      have hfr := Hfq.out mk
      have hans := hfr hup
      have Hans := Lib.hid hans; clear hans hfr hup
      have hmlen : m.length = nbOf (blocksOf L D) * 512 := by rw [Hml.out]; exact Hnnv.out.symm
      have hmlen2 : mk.length = nbOf (blocksOf L D) * 512 := by rw [hI1.len]; exact Hnnv.out.symm
      have hHI1 := Lib.hid hI1
      have HL := Lib.hid (space_lay hI1.tl hI1.sp hf Hov.out hpt g cg gi ci nn m mk Hnnv.out.symm hmlen hmlen2 hg1 hi1 (by unfold maxLen at hg2; omega) (by unfold maxLen at hi2; omega) (bytesAt_row hI1.bg) (bytesAt_row hI1.row)
        (hF g (by omega)).1 (hF gi hI1.le0).1 (row_lt hI1.bg g rfl) (row_lt (row_zero hI1.row) gi rfl))
      clear hmlen hmlen2 hI1
      go_wp2_with fail
      refine HL.out.mono ?_
      rintro e w8 ⟨rfl, h8, hS8, hs8, -, -⟩
      go_wp2
      go_ret
      rw [Hans.out]
      exact ⟨rfl, h8, (hHI1.out.st.mono fun _ k => .inl k).trans (hS8.mono fun _ k => .inr k), hs8⟩

end
end Go.Proofs.Ytdcjhpihcfpamaa
