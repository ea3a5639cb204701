/-
  The laws' helpers: least, made.
-/
import Derived.Test.YtdcjhpihcfpamaaSpS
import Derived.Test.YtdcjhpihcfpamaaLog7
namespace Go.XK
open Go.RowKit

/-- A disk with a new log's sector. -/
def freshD (s k : Nat) : Dsk := ⟨(List.replicate s zeros).set 0 (noted sizeMark k), (List.replicate s zeros).set 0 (noted sizeMark k), [], 0, false, false⟩

theorem get_replicate {n : Nat} {i : Int} (h0 : 0 ≤ i) (h : i < n) : (Dsk.fresh n).get i = zeros := by
  unfold Dsk.get Dsk.fresh
  rw [getD_at _ _ _ (by rw [List.length_replicate]; omega)]
  exact List.getElem_replicate ..

theorem layAll_fresh {s k : Nat} (h : 0 < s) : layAll (Dsk.fresh s) [(0, noted sizeMark k)] = (freshD s k, 0) := by
  have hf : (Dsk.fresh s).falls = Dsk.fresh s := by unfold Dsk.falls; rw [if_pos (show (Dsk.fresh s).fall = 0 from rfl)]
  have hw : (Dsk.fresh s).write 0 (noted sizeMark k) = (⟨(List.replicate s zeros).set 0 (noted sizeMark k), List.replicate s zeros, [(0, noted sizeMark k)], 0, false, false⟩, 0) := by
    unfold Dsk.write
    rw [if_neg (show ¬ ((Dsk.fresh s).off = true) from Bool.false_ne_true), hf, if_pos (by
      have h1 : (Dsk.fresh s).has 0 = true := by simp only [Dsk.has, decide_eq_true_eq, Dsk.fresh, List.length_replicate]; omega
      rw [h1, noted_size sizeMark_size]; rfl), if_neg (show ¬ ((Dsk.fresh s).off = true) from Bool.false_ne_true)]
    rfl
  have hfl : (⟨(List.replicate s zeros).set 0 (noted sizeMark k), List.replicate s zeros, [(0, noted sizeMark k)], 0, false, false⟩ : Dsk).flush = (freshD s k, 0) := by
    unfold Dsk.flush
    rw [if_neg Bool.false_ne_true]
    have hf2 : (⟨(List.replicate s zeros).set 0 (noted sizeMark k), List.replicate s zeros, [(0, noted sizeMark k)], 0, false, false⟩ : Dsk).falls = ⟨(List.replicate s zeros).set 0 (noted sizeMark k), List.replicate s zeros, [(0, noted sizeMark k)], 0, false, false⟩ := by
      unfold Dsk.falls; rw [if_pos rfl]
    rw [hf2, if_neg Bool.false_ne_true]
    rfl
  unfold layAll
  rw [hw, if_pos rfl]
  exact hfl

theorem openP_fresh {s k pd : Nat} (h : 4 ≤ k) (h2 : k < s) : openP (Dsk.fresh s) pd k = (freshD s k, 0) := by
  have h0 : openD (Dsk.fresh s) k = (freshD s k, 0) := by rw [openD_new (get_replicate (by decide) (by omega)), layAll_fresh (by omega)]
  rw [openP_go (by rw [h0]), h0]
  refine recoverP_no ?_
  have e : (freshD s k).get 1 = zeros := by
    unfold Dsk.get freshD
    rw [getD_at _ _ _ (by rw [List.length_set, List.length_replicate]; show 1 < s; omega)]
    simp only [show (1 : Int).toNat = 1 from rfl]
    rw [List.getElem_set_ne (by decide)]
    exact List.getElem_replicate ..
  rw [e]
  exact noteIs_zeros (x := 99) rfl (by decide)

theorem freshD_get {s k : Nat} {i : Int} (h1 : 1 ≤ i) (h2 : i < s) : (freshD s k).get i = zeros := by
  unfold Dsk.get freshD
  rw [getD_at _ _ _ (by rw [List.length_set, List.length_replicate]; omega), List.getElem_set_ne (by omega)]
  exact List.getElem_replicate ..

/-- A number modulo another one. -/
def leastP (n m : Int) : Int := if n.tmod m < 0 then n.tmod m + m else n.tmod m
theorem leastP_bounds (n : Int) {m : Int} (h : 0 < m) : 0 ≤ leastP n m ∧ leastP n m < m := by
  have h1 := Int.tmod_lt_of_pos n h
  have h2 : -m < n.tmod m := by
    have := Int.tmod_lt_of_pos (-n) h
    rw [Int.neg_tmod] at this
    omega
  unfold leastP
  split <;> omega

/-- A step that turns only what nothing old is. -/
theorem Step.nothing {S : Nat → Prop} {own own1 own2 : Nat → Nat} {w w1 w2 : World} (h1 : Step (fun _ => False) own w own1 w1) (h2 : Step S own1 w1 own2 w2) (ho : ∀ b, b < w.heap.size → ¬ S (own b)) : Step (fun _ => False) own w own2 w2 :=
  ⟨h2.os.trans h1.os, h2.tape.trans h1.tape, h2.output.trans h1.output, Nat.le_trans h1.size h2.size, fun b hb => (h2.keep b (Nat.lt_of_lt_of_le hb h1.size)).trans (h1.keep b hb),
   fun b hb _ => (h2.same b (Nat.lt_of_lt_of_le hb h1.size) (by rw [h1.keep b hb]; exact ho b hb)).trans (h1.same b hb (fun k => k))⟩

end Go.XK
namespace Go.Proofs.Ytdcjhpihcfpamaa
open Go.RowKit Go.XK

set_option maxHeartbeats 400000 in
theorem law_least (n m : Int) (w : World) (h : 0 < m) (hm : m ≤ 1000000) :
    Calls Try.prog 12 #[.int .i64 n, .int .i64 m] w fun e w' => e = .returned (.int .i64 (leastP n m)) ∧ w = w' := by
  have hb := leastP_bounds n h
  have h1 := Int.tmod_lt_of_pos n h
  have h2 : -m < n.tmod m := by
    have := Int.tmod_lt_of_pos (-n) h
    rw [Int.neg_tmod] at this
    omega
  have hne : (m == 0) = false := by rw [beq_eq_false_iff_ne]; omega
  have hne2 : m ≠ 0 := by omega
  by_cases hc : n.tmod m < 0
  · have e : leastP n m = n.tmod m + m := if_pos hc
    have E := Lib.hid e; clear e
    go_enter Try.func12, Try.ntmps12
    go_wp2
    go_ret
    exact ⟨by rw [E.out]; rfl, rfl⟩
  · have e : leastP n m = n.tmod m := if_neg hc
    have hc' : 0 ≤ n.tmod m := by omega
    have E := Lib.hid e; clear e
    go_enter Try.func12, Try.ntmps12
    go_wp2
    go_ret
    exact ⟨by rw [E.out]; rfl, rfl⟩

/-- What made leaves. -/
def MadeS (w : World) (own : Nat → Nat) (cl cd s : Nat) (e : Ending) (w' : World) : Prop :=
  ∃ own' pl pd, e = .returned (.tuple #[.pointer (some ⟨pl, 0, none⟩), .pointer (some ⟨pd, 0, none⟩)]) ∧ LD w' own' cl cd pl ⟨pd, 24, false⟩ (freshD s 24) ∧ Step (fun _ => False) own w own' w'

set_option maxRecDepth 20000 in
set_option maxHeartbeats 400000 in
theorem law_made {w : World} {own : Nat → Nat} (cl cd ct s : Nat) (h1 : 25 ≤ s) (h2 : s ≤ 8192) (hne : cl ≠ cd) (hn2 : ct ≠ cl) (hn3 : ct ≠ cd) (ho : ∀ b, b < w.heap.size → own b ≠ cl ∧ own b ≠ cd) :
    Calls Try.prog 36 #[.int .i64 s] w (MadeS w own cl cd s) := by
  have HN := Lib.hid (disk_New own cd (s : Int) w (by omega) (by omega))
  rw [Int.toNat_natCast] at HN
  go_enter Try.func36, Try.ntmps36
  go_wp2_with fail
  refine HN.out.mono ?_
  rintro e w1 ⟨pd, own1, rfl, hD, hS1, hpd⟩
  have HO := Lib.hid (log_Open (own := own1) cl ct hD 24 rfl (by decide) (by simp [Dsk.fresh]; omega) hne hn2 hn3 (by simp [Dsk.fresh]))
  rw [openP_fresh (by decide) (by omega)] at HO
  go_wp2_with fail
  refine HO.out.mono ?_
  rintro e w2 ⟨own2, hS2, hq⟩
  obtain ⟨pl, rfl, hL, -⟩ : ∃ p, e = .returned (.tuple #[.pointer (some ⟨p, 0, none⟩), .int .i64 0]) ∧ LD w2 own2 cl cd p ⟨pd, 24, false⟩ (freshD s 24) ∧ w1.heap.size ≤ p := by
    rcases hq with ⟨_, q⟩ | ⟨q, _⟩
    · exact q
    · exact absurd rfl q
  have hS3 : Step (fun _ => False) own w own2 w2 := hS1.nothing hS2 (fun b hb q => by
    rcases q with q | q
    · exact (ho b hb).1 q
    · exact (ho b hb).2 q)
  clear hq HO HN
  go_wp2_with fail
  refine (log_Blocks hL.log hL.disk).mono ?_
  rintro e w3 ⟨rfl, q, hw⟩
  have hL3 := hL.of_drewN hw
  have hS4 := hS3.trans (Step.of_drewN hw)
  have hln : (freshD s 24).seen.length = s := by simp [freshD]
  clear hw
  rw [hln]
  have hx : ((s : Int) - (24 : Nat) < 1) = False := by simp; omega
  go_wp2
  go_ret2
  exact ⟨own2, pl, pd, rfl, hL3, hS4⟩

end Go.Proofs.Ytdcjhpihcfpamaa
