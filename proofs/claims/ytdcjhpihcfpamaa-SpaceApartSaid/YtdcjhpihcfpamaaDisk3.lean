/-
  The disk's Flush, Pending, On.
-/
import Derived.Test.YtdcjhpihcfpamaaDisk2
import Derived.Deep.LoopGhost
namespace Go.Proofs.Ytdcjhpihcfpamaa
open Go.RowKit Go.XK

theorem lays_snoc (l : List (Nat × ByteArray)) (x : Nat × ByteArray) (s : List ByteArray) : Dsk.lays (l ++ [x]) s = (Dsk.lays l s).set x.1 x.2 := by simp [Dsk.lays]

/-- Behind k rounds of Flush's loop. -/
def FlushI (w : World) (own : Nat → Nat) (c p : Nat) (D : Dsk) (sv fv pv : Value) (k : Nat) (wr : World) : Prop :=
  blk wr p #[sv, fv, pv, .int .i64 D.fall, .bool D.off, .bool D.op] 110 ∧
  wr.ownsRow 0 9 1 sv D.seen.length (D.seen.map .string) ∧
  wr.ownsRow 0 9 1 fv D.safe.length ((Dsk.lays (D.pend.take k) D.safe).map .string) ∧
  wr.ownsRow 0 144 2 pv D.pend.length (flatW D.pend) ∧ Step (· = c) own w own wr

set_option maxRecDepth 10000 in
set_option maxHeartbeats 400000 in
theorem disk_Flush {w : World} {own : Nat → Nat} {c p : Nat} {D : Dsk} (hR : DiskR w own c p D) (hp : D.pend.length ≤ 1000000) :
    Calls Try.prog 83 #[.pointer (some ⟨p, 0, none⟩)] w fun e w' => ∃ own', e = .returned (.int .i64 D.flush.2) ∧ DiskR w' own' c p D.flush.1 ∧ Step (· = c) own w own' w' := by
  have hf := hR.ok.fallLe
  obtain ⟨sv, fv, pv, hb, -⟩ := hR.ex
  have hc := hb.cell
  cases ho : D.off with
  | true =>
    rw [ho] at hc
    have Ho := Lib.hid ho; clear ho
    go_enter Try.func83, Try.ntmps83
    go_wp2
    go_ret
    have e : D.flush = (D, 9) := by simp [Dsk.flush, Ho.out]
    rw [e]
    exact ⟨own, rfl, hR, Step.refl _ _ _⟩
  | false =>
    rw [ho] at hc
    have Ho := Lib.hid ho; clear ho
    cases hd : D.falls.off with
    | true =>
      have Hd := Lib.hid hd; clear hd
      go_enter Try.func83, Try.ntmps83
      go_wp2_with (first | (go_at_call 96; refine (disk_falls hR).mono ?_; rintro e w1 ⟨rfl, hR1, hS1⟩; rw [Hd.out]))
      go_ret
      have e : D.flush = (D.falls, 9) := by simp [Dsk.flush, Ho.out, Hd.out]
      rw [e]
      exact ⟨own, rfl, ‹_›, ‹_›⟩
    | false =>
      have Hd := Lib.hid hd; clear hd
      go_enter Try.func83, Try.ntmps83
      go_wp2_with fail
      refine (disk_falls hR).mono ?_
      rintro e w1 ⟨rfl, hR1, hS1⟩
      rw [Hd.out]
      clear hc hb
      obtain ⟨sv, fv, pv, hb, r1, o1, r2, o2, r3, o3, hne⟩ := hR1.ex
      obtain ⟨g2, cap2, cur2, rfl, hg2, -⟩ := row_open r2 (by rw [hR1.ok.len]; exact hR1.ok.pos)
      have hpv : ∃ a3 c3, pv = .slice a3 D.falls.pend.length c3 := by
        rcases r3.2 with ⟨rfl, k⟩ | ⟨g, cap, cur, rfl, _⟩
        · exact ⟨none, 0, by rw [k]⟩
        · exact ⟨_, _, rfl⟩
      obtain ⟨a3, c3, rfl⟩ := hpv
      have hc := hb.cell
      have hfr := hb.free
      have hpm : D.falls.pend.length ≤ 1000000 := by rw [Dsk.falls_pend]; exact hp
      have HF := Lib.hid (show D.flush = ({ D.falls with safe := Dsk.lays D.falls.pend D.falls.safe, pend := [] }, 0) by simp [Dsk.flush, Ho.out, Hd.out, Dsk.falls_pend, Dsk.falls_safe])
      have hok := Dsk.flush_ok hR.ok
      rw [HF.out] at hok
      have Hok := Lib.hid hok; clear hok
      generalize D.falls = D1 at *
      go_wp2
      go_loopg [18] (D1.pend.length) (fun k i wr => ∃ j : Nat, j + k = D1.pend.length ∧ i = .int .i64 j ∧ FlushI w1 own c p D1 sv (.slice (some ⟨g2, 0, none⟩) D1.safe.length cap2) (.slice a3 D1.pend.length c3) j wr)
      case atStart => exact ⟨0, by omega, rfl, hb, r1, by simpa [Dsk.lays] using r2, r3, Step.refl _ _ _⟩
      case round =>
        obtain ⟨j, hj, rfl, hb', r1', r2', r3', hS'⟩ := hrel
        clear hc hfr
        have hc := hb'.cell
        have hfr := hb'.free
        by_cases hlt : j < D1.pend.length
        · obtain ⟨g3, cap3, cur3, he3, hg3, -⟩ := row_open r3' (by omega)
          simp only [Value.slice.injEq, true_and] at he3
          obtain ⟨rfl, rfl⟩ := he3
          have hx := hR1.ok.at_ (D1.pend[j]) (List.getElem_mem _)
          have hsl := hR1.ok.len
          have hll := Dsk.length_lays (D1.pend.take j) D1.safe
          have c1 : wr.cell? ⟨g3, j * 2, none⟩ = some (.int .i64 (D1.pend[j]).1) := by
            rw [r3'.cellAt _ (by omega), Nat.mul_comm]; exact (flatW_get D1.pend j hlt).1
          have c2 : wr.cell? ⟨g3, j * 2 + 1, none⟩ = some (.string (D1.pend[j]).2) := by
            rw [r3'.cellAt _ (by omega), Nat.mul_comm]; exact (flatW_get D1.pend j hlt).2
          have c3' : wr.cell? ⟨g2, (D1.pend[j]).1, none⟩ = some (.string ((Dsk.lays (D1.pend.take j) D1.safe)[(D1.pend[j]).1]'(by omega))) := by
            rw [r2'.cellAt _ (by omega)]; simp
          have f3' := r2'.frozenAt (D1.pend[j]).1
          obtain ⟨g2', cap2', cur2', he2, hg2', -⟩ := row_open r2' (by omega)
          simp only [Value.slice.injEq, Option.some.injEq, Addr.mk.injEq, and_true, true_and] at he2
          obtain ⟨rfl, rfl⟩ := he2
          have hl2 := hg2'.lt
          have hlp := hb'.lt
          have hgp : g2 ≠ p := hg2'.ne hb' (by decide)
          have hx2 : ((D1.pend[j]).1 : Int) < D1.safe.length := by omega
          go_wp2
          go_region
          go_wp2
          go_roundg (D1.pend.length - (j + 1))
          case measure => omega
          case rel =>
            refine ⟨j + 1, by omega, by go_num, ?_⟩
            have hng : (Value.slice (some ⟨g3, 0, none⟩) D1.pend.length c3).ownBlock ≠ some g2 := row_ne r3' hg2' (by decide)
            have hsg : sv.ownBlock ≠ some g2 := fun e => hne (by simpa [Value.ownBlock] using e)
            refine ⟨((hb'.set_ne _ (a := ⟨g2, (D1.pend[j]).1, none⟩) hgp).alloc _).drew, (ownsRow_setCell_other r1' hsg _).alloc _, ?_, (ownsRow_setCell_other r3' hng _).alloc _, ((hS'.setCell _ ?_).alloc _).drew⟩
            · have := ((r2'.stored (D1.pend[j]).1 (.string (D1.pend[j]).2)).1).alloc (.cells #[.int .i64 (D1.pend[j]).1, .string (D1.pend[j]).2] 144)
              rw [List.take_succ_eq_append_getElem hlt, lays_snoc, List.map_set]
              exact this
            · rcases Nat.lt_or_ge g2 w1.heap.size with h | h
              · exact .inr (o2 g2 rfl)
              · exact .inl h
        · have hjj : j = D1.pend.length := by omega
          have Hjj := Lib.hid hjj; clear hjj
          have hpp := row_ne r2' hb' (by decide)
          have hps := row_ne r1' hb' (by decide)
          go_wp2
          go_ret
          rw [HF.out]
          refine ⟨own, rfl, ⟨Hok.out, hR1.mine, sv, .slice (some ⟨g2, 0, none⟩) D1.safe.length cap2, .slice none 0 0, (hb'.set 2 _).eq (by simp), ownsRow_setCell_other r1' hps _, o1, ?_, o2, World.ownsRow_nil _ _ _ _, Owned.nil _ _, hne⟩, (hS1.trans hS').setCell _ ?_⟩
          · have := ownsRow_setCell_other r2' (a := ⟨p, 2, none⟩) hpp (.slice none 0 0)
            rw [Hjj.out, List.take_length] at this
            rw [Dsk.length_lays]
            exact this
          · rcases Nat.lt_or_ge p w.heap.size with h | h
            · exact .inr hR1.mine
            · exact .inl h

end Go.Proofs.Ytdcjhpihcfpamaa
