/-
  The laws' head: the document's examples 1 and 2, in short.
-/
import Derived.Test.YtdcjhpihcfpamaaSpM
import Derived.Deep.RegionHeld3
namespace Go.Proofs.Ytdcjhpihcfpamaa
open Go.RowKit Go.XK

section
variable {w w' : World} {own : Nat → Nat} {ct cl cd pt pl ps f : Nat} {T : Tx} {L : Lg} {D : Dsk} {U : Nat → Bool} {V : Nat → ByteArray}

theorem SpS.tl_step {S : Nat → Prop} (h : SpS w own ct cl cd pt pl ps f T L D U V) (ht : TL w' own ct cl cd pt pl T L D) (hS : Step S own w own w') (hps : ¬ S (own ps)) : SpS w' own ct cl cd pt pl ps f T L D U V :=
  ⟨ht, h.sp.of_same (hS.same ps h.sp.cells.lt hps), h.ov, h.fit, h.use, h.vw, h.o1, h.o2, h.fr.mono hS.size⟩

def u4 : Nat → Bool := fun n => decide (n < 4)
def u6 : Nat → Bool := takeU u4 [4, 5]

theorem freeL_u4 : (freeL 76 u4).length = 72 := by decide
theorem freeL_u4_2 : (freeL 76 u4).take 2 = [4, 5] := by decide
theorem freeL_u6 : (freeL 76 u6).length = 70 := by decide
theorem freeL_u6i : ((freeL 76 u6).length : Int) = 70 := by rw [freeL_u6]; rfl
theorem freeL_u4i : ((freeL 76 u4).length : Int) = 72 := by rw [freeL_u4]; rfl
theorem free_u6 : freeU 4 76 u6 [5, 4] = some (dropU (dropU u6 5) 4) := rfl
theorem drop_u6 : ∀ n, n < 76 → dropU (dropU u6 5) 4 n = u4 n := by decide
theorem free_u4_45 : freeU 4 76 u4 [4, 5] = none := rfl
theorem free_u4_3 : freeU 4 76 u4 [3] = none := rfl
theorem used_u4 : usedU 76 u4 0 = true ∧ usedU 76 u4 3 = true ∧ usedU 76 u4 4 = false ∧ usedU 76 u4 76 = false ∧ usedU 76 u4 (-1) = false := by decide
theorem used_u6 : usedU 76 u6 4 = true ∧ usedU 76 u6 5 = true := by decide

/-- A space in a law that began in world w0: nothing that is older has turned. -/
structure LawS (w0 w : World) (own : Nat → Nat) (pt pl ps f B : Nat) (T : Tx) (L : Lg) (D : Dsk) (U : Nat → Bool) (V : Nat → ByteArray) : Prop where
  s : SpS w own 1 2 3 pt pl ps f T L D U V
  st : Step (fun _ => False) (fun _ => 0) w0 own w
  b : blocksOf L D = B

section
variable {w0 w w' : World} {own : Nat → Nat} {pt pl ps f B : Nat} {T : Tx} {L : Lg} {D : Dsk} {U : Nat → Bool} {V : Nat → ByteArray}

theorem LawS.turn {S : Nat → Prop} {U' : Nat → Bool} {V' : Nat → ByteArray} {T' : Tx} (h : LawS w0 w own pt pl ps f B T L D U V) (hs : SpS w' own 1 2 3 pt pl ps f T' L D U' V') (hS : Step S own w own w') (h0 : ¬ S 0) : LawS w0 w' own pt pl ps f B T' L D U' V' :=
  ⟨hs, h.st.nothing hS (fun _ _ => h0), h.b⟩

theorem LawS.drewN {n : Nat} (h : LawS w0 w own pt pl ps f B T L D U V) (hw : w' = w.drewN n) : LawS w0 w' own pt pl ps f B T L D U V :=
  h.turn (h.s.of_drewN hw) (Step.of_drewN (S := fun _ => False) hw) (fun k => k)

theorem LawS.congr {U' : Nat → Bool} {V' : Nat → ByteArray} (h : LawS w0 w own pt pl ps f B T L D U V) (hU : ∀ n, n < B → U' n = U n) (hV : ∀ n, n < B → V' n = V n) : LawS w0 w own pt pl ps f B T L D U' V' :=
  ⟨h.s.congr (fun n hn => hU n (by rw [h.b] at hn; exact hn)) (fun n hn _ => hV n (by rw [h.b] at hn; exact hn)), h.st, h.b⟩

/-- Blocks of nobody's turned, or new ones. -/
theorem LawS.frame (h : LawS w0 w own pt pl ps f B T L D U V) (hS : Step (fun c => c = 4) own w own w') (hps : w'.heap[ps]? = w.heap[ps]?) : LawS w0 w' own pt pl ps f B T L D U V :=
  h.turn (h.s.frame hS.size fun b hb hc => by
    rcases hc with q | q | q | q
    · exact hS.same b hb (by rw [q]; decide)
    · exact hS.same b hb (by rw [q]; decide)
    · exact hS.same b hb (by rw [q]; decide)
    · rw [q]; exact hps) hS (by decide)

theorem LawS.alloc (h : LawS w0 w own pt pl ps f B T L D U V) (o : Obj) : LawS w0 (w.alloc o) own pt pl ps f B T L D U V :=
  h.frame ((Step.refl _ own w).alloc o) (Below.heap_alloc _ _ _ h.s.sp.cells.lt)

theorem LawS.drew (h : LawS w0 w own pt pl ps f B T L D U V) : LawS w0 w.drew own pt pl ps f B T L D U V := h.drewN (n := 1) rfl

/-- Numbers in a block that has just come. -/
theorem argI_new {w : World} {own : Nat → Nat} (l : List Int) (T : TypeId) (g : Nat) (hg : g = w.heap.size) (h1 : own g ≠ 1) (h2 : own g ≠ 2) : ArgI (w.alloc (.cells (l.map fun x => Value.int .i64 x).toArray T)) own 1 2 (some ⟨g, 0, none⟩) l := by
  subst hg
  refine .inr ⟨_, _, rfl, by simp, h1, h2, fun j hj => ?_⟩
  rw [(blk.new w _ T).cell, Nat.zero_add]
  simp [hj]

theorem argI_row {w : World} {own : Nat → Nat} {base n cap g : Nat} {e : TypeId} {l : List Nat} (h : w.ownsRow base e 1 (.slice (some ⟨g, 0, none⟩) n cap) n (intCells l)) (h1 : own g ≠ 1) (h2 : own g ≠ 2) : ArgI w own 1 2 (some ⟨g, 0, none⟩) (l.map fun (x : Nat) => (x : Int)) := by
  have hl : l.length = n := by have := h.1; rw [intCells_length] at this; omega
  refine .inr ⟨_, _, rfl, (h.lt g rfl).2, h1, h2, fun j hj => ?_⟩
  simp only [List.length_map] at hj
  rw [Nat.zero_add, h.cellAt j (by omega)]
  simp [intCells, hj]

theorem law_Used (h : LawS w0 w own pt pl ps f B T L D U V) (n : Int) (b : Bool) (hb : usedU B U n = b) :
    Calls Try.prog 13 #[.pointer (some ⟨ps, 0, none⟩), .int .i64 n] w fun e w' => e = .returned (.bool b) ∧ LawS w0 w' own pt pl ps f B T L D U V ∧ Step (· = 2) own w own w' :=
  (sp_Used h.s n).mono fun e w' ⟨h1, h2, h3⟩ => ⟨by rw [h1, h.b, hb], h.turn h2 h3 (by decide), h3⟩

theorem law_Left (h : LawS w0 w own pt pl ps f B T L D U V) (k : Int) (hk : ((freeL B U).length : Int) = k) :
    Calls Try.prog 16 #[.pointer (some ⟨ps, 0, none⟩)] w fun e w' => e = .returned (.int .i64 k) ∧ LawS w0 w' own pt pl ps f B T L D U V ∧ Step (· = 2) own w own w' :=
  (sp_Left h.s).mono fun e w' ⟨h1, h2, h3⟩ => ⟨by rw [h1, h.b, hk], h.turn h2 h3 (by decide), h3⟩

def LawAlloc (w0 w : World) (own : Nat → Nat) (pt pl ps f B : Nat) (L : Lg) (D : Dsk) (U : Nat → Bool) (V : Nat → ByteArray) (n : Nat) (e : Ending) (w' : World) : Prop :=
  ∃ T' av cv, e = .returned (.tuple #[.slice av n cv, .int .i64 0]) ∧ LawS w0 w' own pt pl ps f B T' L D (takeU U ((freeL B U).take n)) V ∧ Step (fun c => c = 2 ∨ c = 1) own w own w' ∧
    w'.ownsRow w.heap.size 3 1 (.slice av n cv) n (intCells ((freeL B U).take n))

theorem law_Alloc (h : LawS w0 w own pt pl ps f B T L D U V) (n : Nat) (hn : n ≤ (freeL B U).length) :
    Calls Try.prog 11 #[.pointer (some ⟨ps, 0, none⟩), .int .i64 n] w (LawAlloc w0 w own pt pl ps f B L D U V n) := by
  refine (sp_Alloc h.s n).mono ?_
  rintro e w' ⟨hS, T', hq⟩
  rw [h.b] at hq
  rcases hq with ⟨q, _⟩ | ⟨_, hs, av, cv, he, hr⟩
  · omega
  · exact ⟨T', av, cv, he, h.turn hs hS (by rintro (q | q) <;> cases q), hS, hr⟩

def LawFree (w0 w : World) (own : Nat → Nat) (pt pl ps f B : Nat) (L : Lg) (D : Dsk) (U' : Nat → Bool) (V : Nat → ByteArray) (c : Int) (e : Ending) (w' : World) : Prop :=
  ∃ T', e = .returned (.int .i64 c) ∧ LawS w0 w' own pt pl ps f B T' L D U' V ∧ Step (fun c => c = 2 ∨ c = 1) own w own w'

theorem law_Free (h : LawS w0 w own pt pl ps f B T L D U V) (av : Option Addr) (len cap : Nat) (l : List Int) (hl : l.length = len) (hlm : len ≤ 9223372036854775807) (hcap : len ≤ cap) (hA : ArgI w own 1 2 av l) (U' : Nat → Bool)
    (hU : freeU (f + nbOf B) B U l = some U') :
    Calls Try.prog 15 #[.pointer (some ⟨ps, 0, none⟩), .slice av len cap] w (LawFree w0 w own pt pl ps f B L D U' V 0) := by
  refine (sp_Free h.s av len cap l hl hlm hcap hA).mono ?_
  rintro e w' ⟨hS, T', hq⟩
  rw [h.b, hU] at hq
  rcases hq with ⟨q, _⟩ | ⟨U2, q, he, hs⟩
  · cases q
  · cases q
    exact ⟨T', he, h.turn hs hS (by rintro (q | q) <;> cases q), hS⟩

theorem law_Free_no (h : LawS w0 w own pt pl ps f B T L D U V) (av : Option Addr) (len cap : Nat) (l : List Int) (hl : l.length = len) (hlm : len ≤ 9223372036854775807) (hcap : len ≤ cap) (hA : ArgI w own 1 2 av l)
    (hU : freeU (f + nbOf B) B U l = none) :
    Calls Try.prog 15 #[.pointer (some ⟨ps, 0, none⟩), .slice av len cap] w (LawFree w0 w own pt pl ps f B L D U V 1) := by
  refine (sp_Free h.s av len cap l hl hlm hcap hA).mono ?_
  rintro e w' ⟨hS, T', hq⟩
  rw [h.b, hU] at hq
  rcases hq with ⟨_, he, hs⟩ | ⟨U2, q, _⟩
  · exact ⟨T', he, h.turn hs hS (by rintro (q | q) <;> cases q), hS⟩
  · cases q

end

set_option maxRecDepth 1000000 in
set_option maxHeartbeats 1000000 in
theorem law_head (w : World) : Calls Try.prog 7 #[] w fun e w' => e = .returned (.bool true) ∧ Below w.heap.size w w' := by
  have HM := Lib.hid (law_made (w := w) (own := fun _ => 0) 2 3 1 100 (by decide) (by decide) (by decide) (by decide) (by decide) (fun _ _ => ⟨by decide, by decide⟩))
  go_enter Try.func7, Try.ntmps7
  go_wp2_with fail
  refine HM.out.mono ?_
  rintro e w1 ⟨own1, pl, pd, rfl, hL1, hS1⟩
  clear HM
  go_wp2_with fail
  refine (txn_Begin w1 own1 1 pl).mono ?_
  rintro e w2 ⟨pt, own2, rfl, hT2, hS2⟩
  have hL2 := hL1.step hS2 (fun k => k) (fun k => k)
  have hS3 : Step (fun _ => False) (fun _ => 0) w (ext own2 w2 4) w2 := (hS1.trans hS2).reown fun b hb => by rw [ext_old (by have := (hS1.trans hS2).size; omega)]; exact (hS1.trans hS2).keep b hb
  have hTL : TL w2 (ext own2 w2 4) 1 2 3 pt pl ⟨false, []⟩ ⟨pd, 24, false⟩ (freshD 100 24) :=
    (⟨hT2, hL2, by decide, by decide, rfl, rfl⟩ : TL w2 own2 1 2 3 pt pl ⟨false, []⟩ ⟨pd, 24, false⟩ (freshD 100 24)).reown fun b hb => ext_old hb
  have hF : Fresh (ext own2 w2 4) w2.heap.size 1 2 3 := Fresh.ext (by decide) (by decide) (by decide)
  have hB : blocksOf ⟨pd, 24, false⟩ (freshD 100 24) = 76 := by simp [blocksOf, freshD]
  clear hL1 hS1 hT2 hS2 hL2
  generalize ext own2 w2 4 = own3 at *
  generalize hLL : (⟨pd, 24, false⟩ : Lg) = L at *
  generalize freshD 100 24 = D at *
  have hLs : (D.seen.length : Int) - L.size = 76 := by have := hTL.ld.lt; unfold blocksOf at hB; omega
  clear hLL
  have HLs := Lib.hid hLs; clear hLs
  have HB := Lib.hid hB; clear hB
  go_wp2_with fail
  refine (log_Blocks hTL.ld.log hTL.ld.disk).mono ?_
  rintro e w3 ⟨rfl, q, hw⟩
  have hTL3 := hTL.of_drewN hw
  have hS4 := hS3.trans (Step.of_drewN hw)
  have hF3 : Fresh own3 w3.heap.size 1 2 3 := by rw [hw]; exact hF
  clear hw hTL hS3 hF
  rw [HLs.out]
  have HMk := Lib.hid (sp_Make hTL3 rfl 3 hF3)
  go_wp2_with fail
  refine HMk.out.mono ?_
  rintro e w4 ⟨hS5, hq⟩
  rw [HB.out] at hq
  obtain ⟨ps, T4, rfl, hps, hSp⟩ : ∃ ps T', e = .returned (.tuple #[.pointer (some ⟨ps, 0, none⟩), .int .i64 0]) ∧ w3.heap.size ≤ ps ∧
      SpS w4 own3 1 2 3 pt pl ps 3 T' L D u4 (view ⟨false, []⟩ L D) := by
    rcases hq with ⟨_, q⟩ | ⟨q, _⟩
    · exact q
    · exact absurd rfl q
  have hS6 : Step (fun _ => False) (fun _ => 0) w own3 w4 := hS4.nothing hS5 (fun b _ q => by rcases q with q | q <;> cases q)
  clear hq HMk hS5 hS4 hTL3 hF3
  generalize view ⟨false, []⟩ L D = V at *
  have HMk := Lib.hid (sp_Make hSp.tl hSp.ov 76 hSp.fr)
  go_wp2_with fail
  refine HMk.out.mono ?_
  rintro e w5 ⟨hS5, hq⟩
  rw [HB.out] at hq
  obtain ⟨rfl, hTL5⟩ : e = .returned (.tuple #[.pointer none, .int .i64 40]) ∧ TL w5 own3 1 2 3 pt pl T4 L D := by
    rcases hq with ⟨q, _⟩ | ⟨_, q⟩
    · exact absurd q (by decide)
    · exact q
  have hs5 := hSp.tl_step hTL5 hS5 (fun q => by rcases q with q | q; exact hSp.o1 q; exact hSp.o2 q)
  have hS7 : Step (fun _ => False) (fun _ => 0) w own3 w5 := hS6.nothing hS5 (fun b _ q => by rcases q with q | q <;> cases q)
  clear hq HMk hS5 hTL5 hSp hS6
  have hL := Lib.hid (⟨hs5, hS7, HB.out⟩ : LawS w w5 own3 pt pl ps 3 76 T4 L D u4 V)
  clear hs5 hS7 HB
  go_wp2_with fail
  refine (law_Left hL.out 72 (by rw [freeL_u4]; rfl)).mono ?_
  rintro e w6 ⟨rfl, h6, -⟩
  clear hL
  go_wp2_with fail
  refine (law_Used h6 0 true used_u4.1).mono ?_
  rintro e w7 ⟨rfl, h7, -⟩
  go_wp2_with fail
  refine (law_Used h7 3 true used_u4.2.1).mono ?_
  rintro e w8 ⟨rfl, h8, -⟩
  go_wp2_with fail
  refine (law_Used h8 4 false used_u4.2.2.1).mono ?_
  rintro e w9 ⟨rfl, h9, -⟩
  go_wp2_with fail
  refine (law_Used h9 76 false used_u4.2.2.2.1).mono ?_
  rintro e w10 ⟨rfl, h10, -⟩
  go_wp2_with fail
  refine (law_Used h10 (-1) false used_u4.2.2.2.2).mono ?_
  rintro e w11 ⟨rfl, h11, -⟩
  clear h6 h7 h8 h9 h10
  go_wp2_with fail
  have hA := Lib.hid (law_Alloc h11 2 (by rw [freeL_u4]; decide))
  refine hA.out.mono ?_
  rintro e w12 ⟨T12, av, cv, rfl, h12, -, hr12⟩
  rw [freeL_u4_2] at h12 hr12
  obtain ⟨g, cap, cur, hvv, hg, hcap⟩ := row_open (row_zero hr12) (by decide)
  cases hvv
  have hgf := h11.s.fr g (hr12.lt g rfl).1
  have hca : ∀ {w' : World}, w'.heap[g]? = w12.heap[g]? → w'.cell? ⟨g, 0, none⟩ = some (.int .i64 4) ∧ w'.cell? ⟨g, 1, none⟩ = some (.int .i64 5) := fun hh => by
    have h1 := (hg.of_same hh).cell
    have h2 := hr12.cellAt 0 (by decide)
    have h3 := hr12.cellAt 1 (by decide)
    rw [hg.cell] at h2 h3
    rw [h1, h1, h2, h3]
    exact ⟨rfl, rfl⟩
  have hc12 := hca (w' := w12.drew) rfl
  change LawS w w12 own3 pt pl ps 3 76 T12 L D u6 V at h12
  have h12d := h12.drewN (n := 1) (w' := w12.drew) rfl
  have hcg2 : 2 ≤ cv := hcap.1
  have hw70 : IntKind.i64.wrap 70 = 70 := by decide
  have hw72 : IntKind.i64.wrap 72 = 72 := by decide
  clear hA h11 hcap
  go_wp2_with fail
  go_region_held3 (fun w' => w'.cell? ⟨g, 0, none⟩ = some (.int .i64 4) ∧ w'.cell? ⟨g, 1, none⟩ = some (.int .i64 5))
    (first | exact hc12 | exact hK13 | exact hK14 | exact hK15)
    ((first | (go_at_call 13; (with_reducible refine (law_Used h12d 4 true used_u6.1).mono ?_); rintro e w13 ⟨rfl, h13, hS13⟩; have hG13 := hS13.same g hg.lt hgf.2.1; have hK13 := hca hG13) | (go_at_call 13; (with_reducible refine (law_Used h13 5 true used_u6.2).mono ?_); rintro e w14 ⟨rfl, h14, hS14⟩; have hG14 := (hS14.same g (Nat.lt_of_lt_of_le hg.lt hS13.size) hgf.2.1).trans hG13; have hK14 := hca hG14) | (go_at_call 16; with_reducible refine (law_Left h14 70 freeL_u6i).mono ?_; rintro e w15 ⟨rfl, h15, hS15⟩; have hG15 := (hS15.same g (Nat.lt_of_lt_of_le hg.lt (Nat.le_trans hS13.size hS14.size)) hgf.2.1).trans hG14; have hK15 := hca hG15)))
  have hlt15 := Nat.lt_of_lt_of_le hg.lt (Nat.le_trans hS13.size (Nat.le_trans hS14.size hS15.size))
  have hr15 : w15.ownsRow 0 3 1 (.slice (some ⟨g, 0, none⟩) 2 cv) 2 (intCells [4, 5]) := row_same (row_zero hr12) (fun k hk => by
    simp only [Value.ownBlock, Option.some.injEq] at hk
    subst hk
    exact hG15)
  clear hS13 hS14 hG13 hG14 hK13 hK14 h13 h14 h12 h12d hc12 hr12 hg hca hG15 hS15
  have hfn := h15.s.fr w15.heap.size (Nat.le_refl _)
  have hA16 : ArgI (w15.alloc (.cells #[.int .i64 5, .int .i64 4] 3)).drew own3 1 2 (some ⟨w15.heap.size, 0, none⟩) [5, 4] := argI_new (w := w15) [5, 4] 3 _ rfl hfn.1 hfn.2.1
  have h16 := (h15.alloc (.cells #[.int .i64 5, .int .i64 4] 3)).drew
  have hF16 := Lib.hid (law_Free h16 (some ⟨w15.heap.size, 0, none⟩) 2 2 [5, 4] rfl (by decide) (by decide) hA16 _ free_u6)
  have hr16 : (w15.alloc (.cells #[.int .i64 5, .int .i64 4] 3)).drew.ownsRow 0 3 1 (.slice (some ⟨g, 0, none⟩) 2 cv) 2 (intCells [4, 5]) := hr15.alloc (.cells #[.int .i64 5, .int .i64 4] 3)
  have hc15 : w15.drew.cell? ⟨g, 0, none⟩ = some (.int .i64 4) ∧ w15.drew.cell? ⟨g, 1, none⟩ = some (.int .i64 5) := hK15
  clear hA16 h16 hK15
  go_wp2_with fail
  have hc45 : ∀ {w' : World}, w'.ownsRow 0 3 1 (.slice (some ⟨g, 0, none⟩) 2 cv) 2 (intCells [4, 5]) → w'.cell? ⟨g, 0, none⟩ = some (.int .i64 4) ∧ w'.cell? ⟨g, 1, none⟩ = some (.int .i64 5) := fun hh => ⟨hh.cellAt 0 (by decide), hh.cellAt 1 (by decide)⟩
  have hK16 := hc45 hr16
  have hst : ∀ {wa wb : World}, wa.ownsRow 0 3 1 (.slice (some ⟨g, 0, none⟩) 2 cv) 2 (intCells [4, 5]) → wb.heap[g]? = wa.heap[g]? → wb.ownsRow 0 3 1 (.slice (some ⟨g, 0, none⟩) 2 cv) 2 (intCells [4, 5]) := fun hh he => row_same hh (fun k hk => by
    simp only [Value.ownBlock, Option.some.injEq] at hk
    subst hk
    exact he)
  have hlt16 : g < (w15.alloc (.cells #[.int .i64 5, .int .i64 4] 3)).drew.heap.size := row_lt hr16 g rfl
  have hFa := fun (w' : World) (T' : Tx) (h' : LawS w w' own3 pt pl ps 3 76 T' L D u4 V) (hr' : w'.ownsRow 0 3 1 (.slice (some ⟨g, 0, none⟩) 2 cv) 2 (intCells [4, 5])) => law_Free_no h' (some ⟨g, 0, none⟩) 2 cv [4, 5] rfl (by decide) hcg2 (argI_row hr' hgf.1 hgf.2.1) free_u4_45
  have hFb := fun (w' : World) (T' : Tx) (h' : LawS w w' own3 pt pl ps 3 76 T' L D u4 V) => law_Free_no (h'.alloc (.cells #[.int .i64 3] 3)) (some ⟨w'.heap.size, 0, none⟩) 1 1 [3] rfl (by decide) (by decide) (argI_new [3] _ _ rfl (h'.s.fr w'.heap.size (Nat.le_refl _)).1 (h'.s.fr w'.heap.size (Nat.le_refl _)).2.1) free_u4_3
  have HFa := Lib.hid hFa; clear hFa
  have hg12 : ¬ (own3 g = 2 ∨ own3 g = 1) := by rintro (q | q); exact hgf.2.1 q; exact hgf.1 q
  have hdr : ∀ n, n < 76 → u4 n = dropU (dropU u6 5) 4 n := fun n hn => (drop_u6 n hn).symm
  have hvr : ∀ n, n < 76 → V n = V n := fun _ _ => rfl
  have HFb := Lib.hid hFb; clear hFb
  have Hdr := Lib.hid hdr; clear hdr
  have Hst : Hid (∀ {wa wb : World}, wa.ownsRow 0 3 1 (.slice (some ⟨g, 0, none⟩) 2 cv) 2 (intCells [4, 5]) → wb.heap[g]? = wa.heap[g]? → wb.ownsRow 0 3 1 (.slice (some ⟨g, 0, none⟩) 2 cv) 2 (intCells [4, 5])) := @hst
  have Hc45 : Hid (∀ {w' : World}, w'.ownsRow 0 3 1 (.slice (some ⟨g, 0, none⟩) 2 cv) 2 (intCells [4, 5]) → w'.cell? ⟨g, 0, none⟩ = some (.int .i64 4) ∧ w'.cell? ⟨g, 1, none⟩ = some (.int .i64 5)) := @hc45
  clear hst hc45 hvr
  go_region_held3 (fun w' => w'.cell? ⟨g, 0, none⟩ = some (.int .i64 4) ∧ w'.cell? ⟨g, 1, none⟩ = some (.int .i64 5))
    (first | exact hc15 | exact hK16 | exact hK17 | exact hK18 | exact hK19 | exact Hc45.out (hr19.alloc _) | exact hK21)
    ((first | (go_at_call 15; (with_reducible refine hF16.out.mono ?_); rintro e w17 ⟨T17, rfl, h17, hS17⟩; have hr17 := Hst.out hr16 (hS17.same g hlt16 hg12); have hK17 := Hc45.out hr17; have h17' := h17.congr (U' := u4) Hdr.out (fun _ _ => rfl); have hlt17 := Nat.lt_of_lt_of_le hlt16 hS17.size) | (go_at_call 16; (with_reducible refine (law_Left h17' 72 freeL_u4i).mono ?_); rintro e w18 ⟨rfl, h18, hS18⟩; have hr18 := Hst.out hr17 (hS18.same g hlt17 hgf.2.1); have hK18 := Hc45.out hr18; have hlt18 := Nat.lt_of_lt_of_le hlt17 hS18.size) | (go_at_call 15; (with_reducible refine (HFa.out _ _ h18 hr18).mono ?_); rintro e w19 ⟨T19, rfl, h19, hS19⟩; have hr19 := Hst.out hr18 (hS19.same g hlt18 hg12); have hK19 := Hc45.out hr19) | (go_at_call 15; (with_reducible refine (HFb.out _ _ h19).mono ?_); rintro e w21 ⟨T21, rfl, h21, hS21⟩; have hr21 := Hst.out (hr19.alloc (.cells #[.int .i64 3] 3)) (hS21.same g (row_lt (hr19.alloc (.cells #[.int .i64 3] 3)) g rfl) hg12); have hK21 := Hc45.out hr21)))
  go_wp2
  go_ret
  exact ⟨rfl, h21.st.os, h21.st.tape, h21.st.output, h21.st.size, fun b hb => h21.st.same b hb (fun k => k)⟩

end
end Go.Proofs.Ytdcjhpihcfpamaa
