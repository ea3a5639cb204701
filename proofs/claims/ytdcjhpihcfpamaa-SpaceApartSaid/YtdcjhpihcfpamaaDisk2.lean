/-
  The disk's methods that write: falls, Fall, Write, Flush.
-/
import Derived.Test.YtdcjhpihcfpamaaDisk1
import Derived.Deep.QuietTactic
import Derived.BigQuiet
namespace Go.Proofs.Ytdcjhpihcfpamaa
open Go.RowKit Go.XK

/-- Only the struct's last three cells have turned. -/
theorem disk_turn {w w' : World} {own : Nat → Nat} {c p : Nat} {D D' : Dsk} (hR : DiskR w own c p D) (hok : D'.ok) (h1 : D'.seen = D.seen) (h2 : D'.safe = D.safe) (h3 : D'.pend = D.pend)
    (hb : ∀ sv fv pv, blk w p #[sv, fv, pv, .int .i64 D.fall, .bool D.off, .bool D.op] 110 → blk w' p #[sv, fv, pv, .int .i64 D'.fall, .bool D'.off, .bool D'.op] 110)
    (hs : ∀ b, b ≠ p → w'.heap[b]? = w.heap[b]?) : DiskR w' own c p D' := by
  obtain ⟨sv, fv, pv, hp, r1, o1, r2, o2, r3, o3, hne⟩ := hR.ex
  have key : ∀ (e : TypeId) (size : Nat) (v : Value) (n : Nat) (xs : List Value), e ≠ 110 → w.ownsRow 0 e size v n xs → w'.ownsRow 0 e size v n xs := by
    intro e size v n xs he hr
    refine row_same hr fun k hk => hs k ?_
    rcases hr.2 with ⟨rfl, _⟩ | ⟨g, cap, cur, rfl, _, hg, _⟩
    · simp [Value.ownBlock] at hk
    · simp [Value.ownBlock] at hk; subst hk
      exact blk.ne (cs := cur) hg hp he
  exact ⟨hok, hR.mine, sv, fv, pv, hb _ _ _ hp, h1 ▸ key _ _ _ _ _ (by decide) r1, o1, h2 ▸ key _ _ _ _ _ (by decide) r2, o2, h3 ▸ key _ _ _ _ _ (by decide) r3, o3, hne⟩

theorem set_other {w : World} {p o b : Nat} {v : Value} (h : b ≠ p) : (w.setCell ⟨p, o, none⟩ v).heap[b]? = w.heap[b]? := Below.heap_setCell _ _ _ _ h

theorem falls_0 {D : Dsk} (h : D.fall = 0) : D.falls = D := by simp [Dsk.falls, h]
theorem falls_1 {D : Dsk} (h : D.fall = 1) : D.falls = { D with fall := 0, off := true, op := true } := by simp [Dsk.falls, h]
theorem falls_2 {D : Dsk} (h : 1 < D.fall) : D.falls = { D with fall := D.fall - 1 } := by unfold Dsk.falls; rw [if_neg (by omega), if_neg (by omega)]

set_option maxHeartbeats 400000 in
theorem disk_falls {w : World} {own : Nat → Nat} {c p : Nat} {D : Dsk} (hR : DiskR w own c p D) :
    Calls Try.prog 96 #[.pointer (some ⟨p, 0, none⟩)] w fun e w' => e = .returned (.bool D.falls.off) ∧ DiskR w' own c p D.falls ∧ Step (· = c) own w own w' := by
  have hf := hR.ok.fallLe
  obtain ⟨sv, fv, pv, hb, -⟩ := hR.ex
  have hc := hb.cell
  have hfr := hb.free
  have hok := Dsk.falls_ok hR.ok
  rcases Nat.lt_trichotomy D.fall 1 with h | h | h
  · obtain h : D.fall = 0 := by omega
    have e := falls_0 h
    rw [h] at hc
    have H := Lib.hid e; clear e
    clear hf; have Hh := Lib.hid h; clear h
    go_enter Try.func96, Try.ntmps96
    go_wp2
    go_ret
    rw [H.out]
    exact ⟨rfl, hR, Step.refl _ _ _⟩
  · have e := falls_1 h
    rw [h] at hc
    have H := Lib.hid e; clear e
    clear hf; have Hh := Lib.hid h; clear h
    go_enter Try.func96, Try.ntmps96
    go_wp2
    go_ret
    rw [H.out] at hok ⊢
    refine ⟨rfl, disk_turn hR hok rfl rfl rfl ?_ ?_, (((Step.refl _ _ _).setCell _ ?_).setCell _ ?_).setCell _ ?_⟩
    · intro sv fv pv hp; exact ((hp.set 3 _).set 4 _).set 5 _
    · intro b hne; rw [set_other hne, set_other hne, set_other hne]
    all_goals exact Or.inr hR.mine
  · have e := falls_2 h
    have H := Lib.hid e; clear e
    have e2 : ((D.fall : Int) - 1 == 0) = false := by rw [beq_eq_false_iff_ne]; omega
    go_enter Try.func96, Try.ntmps96
    go_wp2
    go_ret
    rw [H.out] at hok ⊢
    refine ⟨rfl, disk_turn hR hok rfl rfl rfl ?_ ?_, ((Step.refl _ _ _).setCell _ ?_)⟩
    · intro sv fv pv hp
      have := hp.set 3 (.int .i64 ((D.fall : Int) - 1))
      refine this.eq ?_
      simp; omega
    · intro b hne; rw [set_other hne]
    all_goals exact Or.inr hR.mine

set_option maxHeartbeats 400000 in
theorem disk_Fall {w : World} {own : Nat → Nat} {c p : Nat} {D : Dsk} (hR : DiskR w own c p D) (n : Int) (hn : n ≤ 9223372036854775807) :
    Calls Try.prog 33 #[.pointer (some ⟨p, 0, none⟩), .int .i64 n] w fun e w' => e = .returned (.tuple #[]) ∧ DiskR w' own c p (D.setFall n) ∧ Step (· = c) own w own w' := by
  have hf := hR.ok.fallLe
  obtain ⟨sv, fv, pv, hb, -⟩ := hR.ex
  have hc := hb.cell
  have hfr := hb.free
  go_enter Try.func33, Try.ntmps33
  go_wp2
  all_goals
    go_end0
    refine ⟨rfl, disk_turn hR (Dsk.setFall_ok hR.ok n hn) rfl rfl rfl ?_ ?_, (Step.refl _ _ _).setCell _ (Or.inr hR.mine)⟩
    · intro sv fv pv hp
      refine (hp.set 3 _).eq ?_
      simp [Dsk.setFall]; omega
    · intro b hne; rw [set_other hne]

theorem info_write : (Try.prog.info? 144).map (fun i => (i.zero, i.size, i.bytes)) = some (some (.agg #[.int .i64 0, .string ⟨#[]⟩]), 2, 24) := by kernel_rfl

set_option maxRecDepth 10000 in
set_option maxHeartbeats 400000 in
theorem disk_Write {w : World} {own : Nat → Nat} {c p : Nat} {D : Dsk} (hR : DiskR w own c p D) (hp : D.pend.length ≤ 1000000) (n : Int) (t : ByteArray) :
    Calls Try.prog 82 #[.pointer (some ⟨p, 0, none⟩), .int .i64 n, .string t] w fun e w' => ∃ own', e = .returned (.int .i64 (D.write n t).2) ∧ DiskR w' own' c p (D.write n t).1 ∧ Step (· = c) own w own' w' := by
  have hf := hR.ok.fallLe
  obtain ⟨sv, fv, pv, hb, -⟩ := hR.ex
  have hc := hb.cell
  cases ho : D.off with
  | true =>
    rw [ho] at hc
    have Ho := Lib.hid ho; clear ho
    go_enter Try.func82, Try.ntmps82
    go_wp2
    go_ret
    have e : D.write n t = (D, 9) := by simp [Dsk.write, Ho.out]
    rw [e]
    exact ⟨own, rfl, hR, Step.refl _ _ _⟩
  | false =>
    rw [ho] at hc
    have Ho := Lib.hid ho; clear ho
    cases hn : D.has n with
    | false =>
      have Hn := Lib.hid hn; clear hn
      go_enter Try.func82, Try.ntmps82
      go_wp2_with (first | (go_at_call 76; refine (disk_has hR n).mono ?_; rintro e w' ⟨rfl, rfl⟩; rw [Hn.out]))
      go_ret
      have e : D.write n t = (D, 1) := by simp [Dsk.write, Ho.out, Hn.out]
      rw [e]
      exact ⟨own, rfl, hR, Step.refl _ _ _⟩
    | true =>
      by_cases hs : t.size = 512
      · have hs1 : ((t.size : Int) != 512) = false := by simp [hs]
        have hh := hn
        simp only [Dsk.has, decide_eq_true_eq] at hh
        obtain ⟨h0, h2⟩ := hh
        have Hs := Lib.hid hs; clear hs
        have Hn := Lib.hid hn; clear hn
        cases hd : D.falls.off with
        | true =>
          have Hd := Lib.hid hd; clear hd
          go_enter Try.func82, Try.ntmps82
          go_wp2_with (first | (go_at_call 76; refine (disk_has hR n).mono ?_; rintro e w' ⟨rfl, rfl⟩; rw [Hn.out]) | (go_at_call 96; refine (disk_falls hR).mono ?_; rintro e w1 ⟨rfl, hR1, hS1⟩; rw [Hd.out]))
          go_ret
          have e : D.write n t = (D.falls, 9) := by simp [Dsk.write, Ho.out, Hn.out, Hs.out, Hd.out]
          rw [e]
          exact ⟨own, rfl, ‹_›, ‹_›⟩
        | false =>
          have Hd := Lib.hid hd; clear hd
          obtain ⟨i0, hi, hz0, hz1, hz2⟩ := info_parts info_write
          go_enter Try.func82, Try.ntmps82
          go_wp2_with (first | (go_at_call 76; refine (disk_has hR n).mono ?_; rintro e w' ⟨rfl, rfl⟩; rw [Hn.out]))
          refine (disk_falls hR).mono ?_
          rintro e w1 ⟨rfl, hR1, hS1⟩
          rw [Hd.out]
          clear hc hb
          obtain ⟨sv, fv, pv, hb, r1, o1, r2, o2, r3, o3, hne⟩ := hR1.ex
          obtain ⟨g, cap, cur, rfl, hg, -⟩ := row_open r1 hR1.ok.pos
          have hc := hb.cell
          have hfr := hb.free
          have hx : w1.cell? ⟨g, n.toNat, none⟩ = some (.string (D.get n)) := by
            rw [r1.cellAt _ (by rw [Dsk.falls_seen]; omega)]
            simp [Dsk.falls_seen, List.getElem?_eq_getElem (show n.toNat < D.seen.length by omega), Dsk.get]
          have hxf := r1.frozenAt n.toNat
          have h2' : n < (D.falls.seen.length : Int) := by rw [Dsk.falls_seen]; exact h2
          have hgp : g ≠ p := hg.ne hb (by decide)
          have hpg : p ≠ g := fun e => hgp e.symm
          have hpv := row_ne r3 hg (by decide)
          have hpp := row_ne r3 hb (by decide)
          go_wp2_with (first | (at_builtin; (refine wpList_append_x rfl _ _ 108 rfl 144 i0 _ 2 24 Try.underlying108 hi hz0 hz1 hz2 rfl (by decide) pv _ _ rfl ((ownsRow_setCell_other r3 hpv _).alloc _) ⟨_, 0, none⟩ 1 1 [.int .i64 n, .string t] rfl rfl (new_cells _ _ _ _ (by simp)) (by simp [Value.oneCell']) (by rw [Dsk.falls_pend]; unfold maxLen; omega) (by rw [Dsk.falls_pend]; omega) ?_; intro a' c' w2 r4 hgr hfresh; have hb2 := ((hb.set_ne (.string t) (a := ⟨g, n.toNat, none⟩) hgp).alloc (.cells #[.int .i64 n, .string t] 144)).grown hgr hpp; have hc2 := hb2.cell; have hfr2 := hb2.free)))
          go_ret
          have hgv : (Value.slice a' (D.falls.pend.length + 1) c').ownBlock ≠ some p := row_ne r4 hb2 (by decide)
          have e : D.write n t = ({ D.falls with seen := D.seen.set n.toNat t, pend := D.pend ++ [(n.toNat, t)] }, 0) := by simp [Dsk.write, Ho.out, Hn.out, Hs.out, Hd.out]
          have hok := Dsk.write_ok hR.ok n t
          rw [e] at hok ⊢
          have hnn : (n.toNat : Int) = n := by omega
          have b3 := hb2.set 2 (.slice a' (D.falls.pend.length + 1) c')
          have q1 := ownsRow_setCell_other (((r1.stored n.toNat (.string t)).1.alloc (.cells #[.int .i64 n, .string t] 144)).kept hgr (Or.inr (fun e => hpv e.symm))) (a := ⟨p, 2, none⟩) (by simpa [Value.ownBlock] using hgp) (.slice a' (D.falls.pend.length + 1) c')
          have q2 := ownsRow_setCell_other (((ownsRow_setCell_other r2 (a := ⟨g, n.toNat, none⟩) (by simpa [Value.ownBlock] using fun e => hne e.symm) (.string t)).alloc (.cells #[.int .i64 n, .string t] 144)).kept hgr (by rcases rows_ne r2 r3 (by decide) with k | k; exact .inl k; exact .inr k)) (a := ⟨p, 2, none⟩) (row_ne r2 hb (by decide)) (.slice a' (D.falls.pend.length + 1) c')
          have q3 := ownsRow_setCell_other r4 (a := ⟨p, 2, none⟩) hgv (.slice a' (D.falls.pend.length + 1) c')
          refine ⟨ext own w1 c, rfl, ⟨hok, by rw [ext_old hb.lt]; exact hR1.mine, _, _, .slice a' (D.falls.pend.length + 1) c', b3.eq (by simp), ?_, o1.ext, ?_, o2.ext, ?_, o3.fresh ?_, hne⟩, ?_⟩
          · have := q1; rw [Dsk.falls_seen] at this ⊢; simpa using this
          · exact q2
          · simp only [Dsk.falls_pend] at q3 ⊢
            rw [flatW_snoc, hnn, List.length_append]
            exact q3
          · intro k hk; rcases hfresh k hk with h | h
            · exact .inl h
            · right; simp at h; omega
          · refine ((((hS1.trans ((Step.refl _ own w1).setCell (a := ⟨g, n.toNat, none⟩) _ (.inr (o1 g rfl)))).alloc _).grown hgr ?_).setCell _ ?_).reown ?_
            · intro k hk; rcases Nat.lt_or_ge k w.heap.size with h | h
              · exact .inr (o3 k hk)
              · exact .inl h
            · rcases Nat.lt_or_ge p w.heap.size with h | h
              · exact .inr hR1.mine
              · exact .inl h
            · intro b hb'; rw [ext_old (Nat.lt_of_lt_of_le hb' hS1.size)]
      · have hs1 : ((t.size : Int) != 512) = true := by simp; omega
        have Hn := Lib.hid hn; clear hn
        have Hs := Lib.hid hs; clear hs
        go_enter Try.func82, Try.ntmps82
        go_wp2_with (first | (go_at_call 76; refine (disk_has hR n).mono ?_; rintro e w' ⟨rfl, rfl⟩; rw [Hn.out]))
        go_ret
        have e : D.write n t = (D, 1) := by simp [Dsk.write, Ho.out, Hn.out, Hs.out]
        rw [e]
        exact ⟨own, rfl, hR, Step.refl _ _ _⟩

end Go.Proofs.Ytdcjhpihcfpamaa
