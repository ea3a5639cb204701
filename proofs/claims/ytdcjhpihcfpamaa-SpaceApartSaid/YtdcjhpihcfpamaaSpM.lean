/-
  The laws' helpers: a space made, a block written; begun.
-/
import Derived.Test.YtdcjhpihcfpamaaSpL
namespace Go.Proofs.Ytdcjhpihcfpamaa
open Go.RowKit Go.XK

section
variable {w w' : World} {own : Nat → Nat} {ct cl cd pt pl ps f : Nat} {T : Tx} {L : Lg} {D : Dsk} {U : Nat → Bool} {V : Nat → ByteArray}

theorem zeros_mem {x : UInt8} (h : x ∈ zeros.data.toList) : x = 0 := by
  have h2 : x ∈ (List.replicate 512 (0 : UInt8)).toArray.toList := h
  rw [List.toList_toArray] at h2
  exact List.eq_of_mem_replicate h2

theorem view_mkTo (hov : T.over = false) {nb : Nat} (hf : f + nb ≤ blocksOf L D) : ∀ k, k ≤ nb → ∀ j, view (mkTo T L D f k) L D j = if f ≤ j ∧ j < f + k then zeros else view T L D j := by
  intro k
  induction k with
  | zero => intro _ j; rw [if_neg (by omega)]; rfl
  | succ k ih =>
    intro hk j
    rw [mkTo, show ((f : Int) + k) = ((f + k : Nat) : Int) by omega, view_write (by rw [mkTo_over]; exact hov) (by omega) zeros_size, ih (by omega) j]
    by_cases hj : f + k = j
    · rw [if_pos hj, if_pos (by omega)]
    · rw [if_neg hj]
      by_cases h1 : f ≤ j ∧ j < f + k
      · rw [if_pos h1, if_pos (by omega)]
      · rw [if_neg h1, if_neg (by omega)]

theorem used_zeros {nb : Nat} (hz : ∀ i, i < nb → view T L D (f + i) = zeros) (n : Nat) : usedB f nb (bitsTo T L D f nb) n = decide (n < f + nb) := by
  have h0 : ∀ x ∈ bitsTo T L D f nb, x = 0 := by
    intro x hx
    simp only [bitsTo, List.mem_flatMap, List.mem_range] at hx
    obtain ⟨i, hi, hx⟩ := hx
    rw [hz i hi] at hx
    exact zeros_mem hx
  have hb : bitAt (bitsTo T L D f nb) n = false := by
    unfold bitAt
    have : (bitsTo T L D f nb).getD (n / 8) 0 = 0 := by
      rw [List.getD_eq_getElem?_getD]
      cases hx : (bitsTo T L D f nb)[n / 8]? with
      | none => rfl
      | some x => exact h0 x (List.mem_of_getElem? hx)
    rw [this]
    exact Nat.zero_testBit _
  unfold usedB
  rw [hb, Bool.or_false]

def MakeS (w : World) (own : Nat → Nat) (ct cl cd pt pl : Nat) (T : Tx) (L : Lg) (D : Dsk) (first : Int) (e : Ending) (w' : World) : Prop :=
  Step (fun c => c = cl ∨ c = ct) own w own w' ∧
  ((placedP false (blocksOf L D) first = 0 ∧ ∃ ps T', e = .returned (.tuple #[.pointer (some ⟨ps, 0, none⟩), .int .i64 0]) ∧ w.heap.size ≤ ps ∧
      SpS w' own ct cl cd pt pl ps first.toNat T' L D (fun n => decide (n < first.toNat + nbOf (blocksOf L D))) (view T L D)) ∨
   (placedP false (blocksOf L D) first ≠ 0 ∧ e = .returned (.tuple #[.pointer none, .int .i64 (placedP false (blocksOf L D) first)]) ∧ TL w' own ct cl cd pt pl T L D))

theorem sp_Make (h : TL w own ct cl cd pt pl T L D) (hov : T.over = false) (first : Int) (hF : Fresh own w.heap.size ct cl cd) :
    Calls Try.prog 37 #[.pointer (some ⟨pt, 0, none⟩), .int .i64 first] w (MakeS w own ct cl cd pt pl T L D first) := by
  refine (space_Make h first hF).mono ?_
  rintro e w' ⟨hS, hq⟩
  rw [hov] at hq
  refine ⟨hS, ?_⟩
  rcases hq with ⟨h0, ps, he, hs, hp, hp2, ht⟩ | hq
  · obtain ⟨-, h1, h2⟩ := placedP_zero h0
    have hnb := nb_le h.ld
    have hfit : first.toNat + nbOf (blocksOf L D) ≤ blocksOf L D := by omega
    have hv := view_mkTo (T := T) hov hfit
    obtain ⟨k1, k2, k3⟩ := hF ps hp
    refine .inl ⟨h0, ps, _, he, hp, ht, hs, by rw [mkTo_over]; exact hov, hfit, fun n _ => used_zeros (fun i hi => ?_) n, fun j _ hj => ?_, k2, k1, hF.mono hS.size⟩
    · rw [hv _ (Nat.le_refl _), if_pos (by omega)]
    · rw [hv _ (Nat.le_refl _), if_neg hj]
  · exact .inr hq

def WriteS (w : World) (own : Nat → Nat) (ct cl cd pt pl ps f : Nat) (L : Lg) (D : Dsk) (U : Nat → Bool) (V : Nat → ByteArray) (e : Ending) (w' : World) : Prop :=
  e = .returned (.int .i64 0) ∧ Step (· = ct) own w own w' ∧ ∃ T', SpS w' own ct cl cd pt pl ps f T' L D U V

/-- A block that is none of the bitmap's. -/
theorem sp_Write (h : SpS w own ct cl cd pt pl ps f T L D U V) (n : Nat) (t : ByteArray) (hn : n < blocksOf L D) (hf : ¬ (f ≤ n ∧ n < f + nbOf (blocksOf L D))) (ht : t.size = 512) :
    Calls Try.prog 10 #[.pointer (some ⟨pt, 0, none⟩), .int .i64 n, .string t] w (WriteS w own ct cl cd pt pl ps f L D U (fun j => if n = j then t else V j)) := by
  have hok := writeTx_ok (T := T) (L := L) (D := D) (n := (n : Int)) (t := t) h.ov ⟨by omega, by omega, ht⟩
  have hvw := view_write (T := T) (L := L) (D := D) h.ov hn ht
  have hov := writeTx_over_eq T L D (n : Int) t
  refine (tl_Write h.tl n t).mono ?_
  rintro e w' ⟨he, htl, hS⟩
  refine ⟨by rw [he, hok], hS, (writeTx T L D n t).1, htl, h.sp.of_same (hS.same ps h.sp.cells.lt h.o2), by rw [hov]; exact h.ov, h.fit, fun j hj => ?_, fun j hj hjf => ?_, h.o1, h.o2, h.fr.mono hS.size⟩
  · rw [← h.use j hj]
    congr 1
    unfold bitsTo
    rw [List.flatMap_def, List.flatMap_def]
    congr 1
    apply List.map_congr_left
    intro i hi
    have hi' := List.mem_range.1 hi
    rw [hvw, if_neg (by omega)]
  · rw [hvw]
    by_cases hjn : n = j
    · rw [if_pos hjn, if_pos hjn]
    · rw [if_neg hjn, if_neg hjn]; exact h.vw j hj hjf

def ReadS (w : World) (own : Nat → Nat) (ct cl cd pt pl ps f : Nat) (T : Tx) (L : Lg) (D : Dsk) (U : Nat → Bool) (V : Nat → ByteArray) (t : ByteArray) (e : Ending) (w' : World) : Prop :=
  e = .returned (.tuple #[.string t, .int .i64 0]) ∧ SpS w' own ct cl cd pt pl ps f T L D U V ∧ Step (· = cl) own w own w'

theorem sp_Read (h : SpS w own ct cl cd pt pl ps f T L D U V) (n : Nat) (hn : n < blocksOf L D) (hf : ¬ (f ≤ n ∧ n < f + nbOf (blocksOf L D))) :
    Calls Try.prog 14 #[.pointer (some ⟨pt, 0, none⟩), .int .i64 n] w (ReadS w own ct cl cd pt pl ps f T L D U V (V n)) := by
  have hr := (read_in h.tl h.ov hn).1
  refine (tl_Read h.tl n).mono ?_
  rintro e w' ⟨he, htl, hS⟩
  rw [hr, h.vw n hn hf] at he
  exact ⟨he, ⟨htl, h.sp.of_same (hS.same ps h.sp.cells.lt h.o1), h.ov, h.fit, h.use, h.vw, h.o1, h.o2, h.fr.mono hS.size⟩, hS⟩

theorem view_fresh {pd s : Nat} {j : Nat} (hj : j < s - 24) : view ⟨false, []⟩ ⟨pd, 24, false⟩ (freshD s 24) j = zeros := by
  unfold view
  rw [readTx_eq rfl]
  show (readLog ⟨pd, 24, false⟩ (freshD s 24) j).1 = zeros
  have hl : blocksOf ⟨pd, 24, false⟩ (freshD s 24) = s - 24 := by simp [blocksOf, freshD]
  unfold readLog
  rw [if_neg (show ¬ ((⟨pd, 24, false⟩ : Lg).dead || (freshD s 24).off) = true from Bool.false_ne_true), hl, if_pos ⟨by omega, by omega⟩]
  exact freshD_get (by show (1 : Int) ≤ ((24 : Nat) : Int) + j; omega) (by show ((24 : Nat) : Int) + j < s; omega)

/-- A space on a new log: nothing has been written beside it. -/
def BegunS (w : World) (s f : Nat) (e : Ending) (w' : World) : Prop :=
  ∃ own' ps pt pl pd T L D, e = .returned (.tuple #[.pointer (some ⟨ps, 0, none⟩), .pointer (some ⟨pt, 0, none⟩), .pointer (some ⟨pl, 0, none⟩), .pointer (some ⟨pd, 0, none⟩)]) ∧
    SpS w' own' 1 2 3 pt pl ps f T L D (fun n => decide (n < f + nbOf (s - 24))) (fun _ => zeros) ∧ Step (fun _ => False) (fun _ => 0) w own' w' ∧ blocksOf L D = s - 24 ∧ (∀ b, w'.heap.size ≤ b → own' b = 4)

set_option maxRecDepth 20000 in
set_option maxHeartbeats 400000 in
theorem law_begun {w : World} (s f : Nat) (h1 : 25 ≤ s) (h2 : s ≤ 8192) (hf : f + nbOf (s - 24) ≤ s - 24) :
    Calls Try.prog 8 #[.int .i64 s, .int .i64 f] w (BegunS w s f) := by
  have HM := Lib.hid (law_made (w := w) (own := fun _ => 0) 2 3 1 s h1 h2 (by decide) (by decide) (by decide) (fun _ _ => ⟨by decide, by decide⟩))
  have hpl : placedP false (s - 24) (f : Int) = 0 := placedP_ok (by omega) (by omega)
  have Hpl := Lib.hid hpl; clear hpl
  go_enter Try.func8, Try.ntmps8
  go_wp2_with fail
  refine HM.out.mono ?_
  rintro e w1 ⟨own1, pl, pd, rfl, hL1, hS1⟩
  go_wp2_with fail
  refine (txn_Begin w1 own1 1 pl).mono ?_
  rintro e w2 ⟨pt, own2, rfl, hT2, hS2⟩
  have hL2 := hL1.step hS2 (fun k => k) (fun k => k)
  have hS3 : Step (fun _ => False) (fun _ => 0) w (ext own2 w2 4) w2 := (hS1.trans hS2).reown fun b hb => by rw [ext_old (by have := (hS1.trans hS2).size; omega)]; exact (hS1.trans hS2).keep b hb
  have hTL : TL w2 (ext own2 w2 4) 1 2 3 pt pl ⟨false, []⟩ ⟨pd, 24, false⟩ (freshD s 24) :=
    (⟨hT2, hL2, by decide, by decide, rfl, rfl⟩ : TL w2 own2 1 2 3 pt pl ⟨false, []⟩ ⟨pd, 24, false⟩ (freshD s 24)).reown fun b hb => ext_old hb
  have hF : Fresh (ext own2 w2 4) w2.heap.size 1 2 3 := Fresh.ext (by decide) (by decide) (by decide)
  have hnew : ∀ b, w2.heap.size ≤ b → ext own2 w2 4 b = 4 := fun b hb => ext_new hb
  have HMk := Lib.hid (sp_Make hTL rfl (f : Int) hF)
  have hB : blocksOf ⟨pd, 24, false⟩ (freshD s 24) = s - 24 := by simp [blocksOf, freshD]
  have hvf := fun j (hj : j < s - 24) => view_fresh (pd := pd) hj
  clear hL1 hS1 hT2 hS2 hL2 hTL
  generalize ext own2 w2 4 = own3 at *
  generalize (⟨pd, 24, false⟩ : Lg) = L at *
  generalize freshD s 24 = D at *
  have HB := Lib.hid hB; clear hB
  go_wp2_with fail
  refine HMk.out.mono ?_
  rintro e w4 ⟨hS4, hq⟩
  rw [HB.out] at hq
  obtain ⟨ps, T', rfl, hps, hSp⟩ : ∃ ps T', e = .returned (.tuple #[.pointer (some ⟨ps, 0, none⟩), .int .i64 0]) ∧ w2.heap.size ≤ ps ∧
      SpS w4 own3 1 2 3 pt pl ps f T' L D (fun n => decide (n < f + nbOf (s - 24))) (view ⟨false, []⟩ L D) := by
    rcases hq with ⟨_, q⟩ | ⟨q, _⟩
    · exact q
    · exact absurd Hpl.out q
  have hsp2 : SpS w4 own3 1 2 3 pt pl ps f T' L D (fun n => decide (n < f + nbOf (s - 24))) (fun _ => zeros) := hSp.congr (fun _ _ => rfl) (fun j hj _ => (hvf j (by rw [HB.out] at hj; exact hj)).symm)
  clear hq HMk hSp
  go_wp2
  refine bodyPost_ret (v := .tuple #[.pointer (some ⟨ps, 0, none⟩), .pointer (some ⟨pt, 0, none⟩), .pointer (some ⟨pl, 0, none⟩), .pointer (some ⟨pd, 0, none⟩)]) (by simp [results, Try.results8, go_sem]) rfl ?_
  have hS5 : Step (fun _ => False) (fun _ => 0) w own3 w4 := hS3.nothing hS4 (fun b _ q => by rcases q with q | q <;> cases q)
  exact ⟨own3, ps, pt, pl, pd, T', L, D, rfl, hsp2, hS5, HB.out, fun b hb => hnew b (Nat.le_trans hS4.size hb)⟩

end
end Go.Proofs.Ytdcjhpihcfpamaa
