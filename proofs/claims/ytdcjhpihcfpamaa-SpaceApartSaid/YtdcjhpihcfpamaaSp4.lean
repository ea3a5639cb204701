/-
  slices.Equal and slices.Clone of bytes; the space's lay.
-/
import Derived.Test.YtdcjhpihcfpamaaSp3
namespace Go.XK
open Go.RowKit

/-- Bytes in memory, from a place on. -/
def bytesAt (w : World) (g o : Nat) (l : List UInt8) : Prop := ∀ j (hj : j < l.length), w.cell? ⟨g, o + j, none⟩ = some (.int .u8 (l[j].toNat : Int))

theorem bytesAt.drewN {w : World} {g o : Nat} {l : List UInt8} (h : bytesAt w g o l) (n : Nat) : bytesAt (w.drewN n) g o l := h
theorem bytesAt.of_same {w w' : World} {g o : Nat} {l : List UInt8} (h : bytesAt w g o l) (hs : w'.heap[g]? = w.heap[g]?) : bytesAt w' g o l := by
  intro j hj
  rw [← h j hj]
  unfold World.cell?
  simp only [hs]
theorem bytesAt.part {w : World} {g o : Nat} {l : List UInt8} (h : bytesAt w g o l) (a n : Nat) : bytesAt w g (o + a) ((l.drop a).take n) := by
  intro j hj
  simp only [List.length_take, List.length_drop] at hj
  have := h (a + j) (by omega)
  simp only [List.getElem_take, List.getElem_drop]
  rw [← this, Nat.add_assoc]
theorem bytesAt_row {w : World} {base : Nat} {e : TypeId} {g n cap : Nat} {m : List UInt8} (h : w.ownsRow base e 1 (.slice (some ⟨g, 0, none⟩) n cap) n (byteCells m)) : bytesAt w g 0 m := by
  intro j hj
  rw [Nat.zero_add]
  exact (bytes_cell h).2 j hj

theorem take_eq_succ {l1 l2 : List UInt8} {k : Nat} (h1 : k < l1.length) (h2 : k < l2.length) (h : l1.take k = l2.take k) (he : l1[k] = l2[k]) : l1.take (k + 1) = l2.take (k + 1) := by
  rw [List.take_succ_eq_append_getElem h1, List.take_succ_eq_append_getElem h2, h, he]

end Go.XK
namespace Go.Proofs.Ytdcjhpihcfpamaa
open Go.RowKit Go.XK

set_option maxRecDepth 20000 in
set_option maxHeartbeats 400000 in
theorem bytes_Equal (w : World) (g1 o1 c1 g2 o2 c2 : Nat) (l1 l2 : List UInt8) (n : Nat) (e1 : l1.length = n) (e2 : l2.length = n) (hn : n ≤ 100000) (h1 : bytesAt w g1 o1 l1) (h2 : bytesAt w g2 o2 l2) :
    Calls Try.prog 70 #[.slice (some ⟨g1, o1, none⟩) n c1, .slice (some ⟨g2, o2, none⟩) n c2] w fun r w' => r = .returned (.bool (decide (l1 = l2))) ∧ ∃ k, w' = w.drewN k := by
  have H1 := Lib.hid e1; clear e1
  have H2 := Lib.hid e2; clear e2
  go_enter Try.func70, Try.ntmps70
  go_wp2
  go_loopw [13] (fun i wr => ∃ k : Nat, k ≤ n ∧ i = .int .i64 k ∧ l1.take k = l2.take k ∧ ∃ q, wr = w.drewN q) (fun i _ => n - (intOf i).toNat)
  case atStart => exact ⟨0, Nat.zero_le _, rfl, rfl, 0, rfl⟩
  case round =>
    obtain ⟨k, hk, rfl, ht, q, rfl⟩ := hrel
    have Ht := Lib.hid ht; clear ht
    by_cases hlt : k < n
    · have hk1 : k < l1.length := by rw [H1.out]; exact hlt
      have hk2 : k < l2.length := by rw [H2.out]; exact hlt
      have c1 := h1 k hk1
      have c2 := h2 k hk2
      have hs := take_eq_succ hk1 hk2 Ht.out
      have hne : l1[k] ≠ l2[k] → l1 ≠ l2 := fun hh e => hh (by subst e; rfl)
      have hinj : ((l1[k].toNat : Int) != (l2[k].toNat : Int)) = !decide (l1[k] = l2[k]) := by
        by_cases hh : l1[k] = l2[k]
        · simp [hh]
        · have h3 : (l1[k].toNat : Int) ≠ (l2[k].toNat : Int) := fun e => hh (UInt8.toNat_inj.1 (by omega))
          simp [hh, h3]
      have Hs := Lib.hid hs; clear hs
      have Hne := Lib.hid hne; clear hne
      generalize hx : l1[k] = x at *
      generalize hy : l2[k] = y at *
      clear hx hy h1 h2
      by_cases hxy : x = y
      · have hb : ((x.toNat : Int) != (y.toNat : Int)) = false := by rw [hinj]; simp [hxy]
        clear hinj
        have Hxy := Lib.hid hxy; clear hxy
        go_wp2_with fail
        go_quiet (fail)
        go_wp2
        go_roundw
        case rel => exact ⟨k + 1, by omega, by go_num, Hs.out Hxy.out, q + nq, by simp⟩
        case measure => simp [intOf]; omega
      · have hb : ((x.toNat : Int) != (y.toNat : Int)) = true := by rw [hinj]; simp [hxy]
        clear hinj
        have Hxy := Lib.hid hxy; clear hxy
        go_wp2_with fail
        go_quiet (fail)
        go_wp2
        go_ret
        refine ⟨by rw [decide_eq_false (Hne.out Hxy.out)]; rfl, q + nq, by simp⟩
    · obtain rfl : k = n := by omega
      have he : l1 = l2 := by
        have := Ht.out
        rwa [List.take_of_length_le (by rw [H1.out]; exact Nat.le_refl _), List.take_of_length_le (by rw [H2.out]; exact Nat.le_refl _)] at this
      go_wp2
      go_ret
      exact ⟨by rw [decide_eq_true he]; rfl, q, rfl⟩

set_option maxRecDepth 20000 in
set_option maxHeartbeats 400000 in
theorem bytes_Clone (w : World) (g c : Nat) (l : List UInt8) (n : Nat) (hl : l.length = n) (hn : n ≤ 100000) (h : bytesAt w g 0 l) :
    Calls Try.prog 41 #[.slice (some ⟨g, 0, none⟩) n c] w fun r w' => ∃ v, r = .returned v ∧ w'.ownsRow w.heap.size 5 1 v n (byteCells l) ∧ Below w.heap.size w w' := by
  obtain ⟨i0, hi, hz0, hz1, hz2⟩ := info_parts info_u8
  have Hl := Lib.hid hl; clear hl
  go_enter Try.func41, Try.ntmps41
  have hnil := Go.run_eql_slice_nil (P := Try.prog) w 29 5 (some ⟨g, 0, none⟩) n c Try.underlying29
  have h2 : bytesAt (w.alloc (.cells #[] 5)) g 0 l ∨ n = 0 := by
    by_cases h0 : n = 0
    · exact .inr h0
    · have hg : g < w.heap.size := by
        have := h 0 (by rw [Hl.out]; omega)
        unfold World.cell? at this
        cases hx : w.heap[g]? with
        | none => simp [hx] at this
        | some o => exact (Array.getElem?_eq_some_iff.1 hx).1
      exact .inl (h.of_same (Below.heap_alloc _ _ _ hg))
  have hnews : ∀ j u, (byteCells l)[j]? = some u → (w.alloc (.cells #[] 5)).cell? ((⟨g, 0, none⟩ : Addr).add j) = some u := by
    intro j u hu
    obtain ⟨hj, hu⟩ := List.getElem?_eq_some_iff.1 hu
    rw [byteCells_length] at hj
    have e : (⟨g, 0, none⟩ : Addr).add j = ⟨g, 0 + j, none⟩ := by unfold Addr.add; split <;> simp_all
    rw [e]
    rcases h2 with h2 | h2
    · rw [h2 j hj, ← hu]; simp [byteCells, byteCell]
    · rw [Hl.out] at hj; omega
  have hone : ∀ u ∈ byteCells l, u.oneCell' = true := by
    intro u hu
    simp only [byteCells, List.mem_map] at hu
    obtain ⟨b, _, rfl⟩ := hu
    rfl
  clear h h2
  go_wp2_with (at_builtin; go_loud (refine wpList_append_own _ rfl _ _ 29 rfl w.heap.size 5 i0 _ 1 1 Try.underlying29 hi hz0 hz1 hz2 rfl (by decide) (.slice (some ⟨w.heap.size, 0, none⟩) 0 0) 0 [] rfl (World.ownsRow_lit w #[] 0 (Nat.le_refl _) (Nat.zero_le _) rfl) ⟨g, 0, none⟩ n c (byteCells l) rfl (by rw [byteCells_length, Hl.out, Nat.mul_one]) hnews hone (by unfold maxLen; omega) (by omega) (by simp) ?_; intro v' w3 hr3 hg3 _))
  go_ret
  rw [Nat.zero_add, List.nil_append] at hr3
  exact ⟨v', rfl, hr3, ((Below.refl _ _).alloc (Nat.le_refl _) _).grown hg3 (by simp) (fun k hk => by simp [Value.ownBlock] at hk; omega)⟩

end Go.Proofs.Ytdcjhpihcfpamaa
