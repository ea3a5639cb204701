/-
  The law SpaceApart: the walk.
-/
import Derived.Test.YtdcjhpihcfpamaaSpA1
namespace Go.Proofs.Ytdcjhpihcfpamaa
open Go.RowKit Go.XK

section

theorem cells_snoc (x : UInt8) (k : Nat) : byteCells (List.replicate k x) ++ [Value.int .u8 (x.toNat : Int)] = byteCells (List.replicate (k + 1) x) := by
  rw [List.replicate_succ', byteCells_append]; rfl

theorem range_cell (a n k : Nat) (h : k < n) : (intCells (List.range' a n))[k]? = some (.int .i64 ((a : Int) + (k : Int))) := by
  unfold intCells
  rw [List.getElem?_map, List.getElem?_range' h]
  simp
theorem used_uu {e a k : Nat} (h : a + k < e) (h2 : e ≤ 76) : usedU 76 (uu e) ((a : Int) + (k : Int)) = true := by
  unfold usedU uu
  rw [decide_eq_true (by omega), decide_eq_true (by omega)]
  rfl

set_option maxRecDepth 1000000 in
set_option maxHeartbeats 4000000 in
theorem law_Apart (n m : Int) (x : UInt8) (w : World) :
    Calls Try.prog 3 #[.int .i64 n, .int .i64 m, .int .u8 (x.toNat : Int)] w fun e w' => e = .returned (.bool true) ∧ Below w.heap.size w w' := by
  obtain ⟨i8, hi8, hz80, hz81, hz82⟩ := info_parts info_u8
  obtain ⟨i3, hi3, hz30, hz31, hz32⟩ := info_parts info_int
  go_enter Try.func3, Try.ntmps3
  go_wp2_with fail
  refine (law_head w).mono ?_
  rintro e w1 ⟨rfl, hB1⟩
  go_wp2_with fail
  refine (law_begun (w := w1) 100 1 (by decide) (by decide) (by decide)).mono ?_
  rintro e w2 ⟨own, ps, pt, pl, pd, T2, L, D, rfl, hs2, hS2, hBB, hnew⟩
  have hL2 : LawB w2.heap.size w1 w2 own pt pl ps 1 76 T2 L D (uu 2) (vApart (ofBytes (List.replicate 512 x)) 0) :=
    ⟨(⟨hs2, hS2, hBB⟩ : LawS w1 w2 own pt pl ps 1 76 T2 L D _ _).congr (fun _ _ => rfl) (fun j _ => by unfold vApart; rw [if_neg (by omega)]), hs2.sp.cells.lt, hnew, Nat.le_refl _⟩
  clear hs2 hS2 hBB hnew
  generalize hF : ofBytes (List.replicate 512 x) = F at *
  have HF := Lib.hid hF; clear hF
  generalize hb0 : w2.heap.size = b0 at *
  have hb02 : b0 ≤ w2.heap.size := Nat.le_of_eq hb0.symm
  clear hb0
  go_wp2_with fail
  go_loopw [11, 12] (fun v i wr => ∃ k : Nat, k ≤ 512 ∧ i = .int .i64 k ∧ LawB b0 w1 wr own pt pl ps 1 76 T2 L D (uu 2) (vApart F 0) ∧ wr.ownsRow b0 5 1 v k (byteCells (List.replicate k x))) (fun _ i _ => 512 - (intOf i).toNat)
  case atStart => exact ⟨0, Nat.zero_le _, rfl, hL2, World.ownsRow_nil _ _ _ _⟩
  case round =>
    obtain ⟨k, hk, rfl, hL3, hr3⟩ := hrel
    clear hL2
    by_cases hlt : k < 512
    · have hsz3 := hL3.z
      have hL3a := hL3.alloc (.cells #[.int .u8 (x.toNat : Int)] 5)
      go_wp2_with (at_builtin; go_loud (refine wpList_append_own _ rfl _ _ 29 rfl b0 5 i8 _ 1 1 Try.underlying29 hi8 hz80 hz81 hz82 rfl (by decide) u11 _ _ rfl (hr3.alloc _) ⟨_, 0, none⟩ 1 1 [.int .u8 (x.toNat : Int)] rfl rfl (new_cells _ _ _ _ (by simp)) (by simp [Value.oneCell']) (by unfold maxLen; omega) (by omega) (by simp; omega) ?_; intro v' w4 hr4 hg4 _))
      go_roundw
      case rel =>
        refine ⟨k + 1, by omega, by go_num, hL3a.grown hg4 (fun b hb => (hr3.lt b hb).1), ?_⟩
        rw [cells_snoc] at hr4
        exact hr4
      case measure => simp [intOf]; omega
    · obtain rfl : k = 512 := by omega
      change wr.ownsRow b0 5 1 u11 512 (fullCells x) at hr3
      obtain ⟨gf, cf, curf, rfl, -, hcf, -⟩ := row_open (row_zero hr3) (by decide)
      have hgf := (hr3.lt gf rfl).1
      have hI3 : ApI b0 w1 own pt pl ps L D F x gf cf 2 0 wr := ⟨T2, hL3, hr3⟩
      clear hL3 hr3
      go_wp2_with fail
      go_loopw [13] (fun i wr => ∃ k : Nat, k ≤ 76 ∧ i = .int .i64 k ∧ ApI b0 w1 own pt pl ps L D F x gf cf 2 k wr) (fun i _ => 76 - (intOf i).toNat)
      case atStart => exact ⟨0, Nat.zero_le _, rfl, hI3⟩
      case round =>
        obtain ⟨k, hk2, rfl, T3, hL4, hr4⟩ := hrel
        clear hI3
        have hBl : (D.seen.length : Int) - L.size = 76 := by have h1 := hL4.l.b; have h2 := hL4.l.s.tl.ld.lt; unfold blocksOf at h1; omega
        have HBl := Lib.hid (log_Blocks hL4.l.s.tl.ld.log hL4.l.s.tl.ld.disk)
        rw [hBl] at HBl
        clear hBl
        go_wp2_with fail
        refine HBl.out.mono ?_
        rintro e w5 ⟨rfl, q, hw⟩
        have hL5 : LawB b0 w1 w5 own pt pl ps 1 76 T3 L D (uu 2) (vApart F k) := hw ▸ hL4.drewN q
        have hr5 : w5.ownsRow b0 5 1 (.slice (some ⟨gf, 0, none⟩) 512 cf) 512 (fullCells x) := hw ▸ hr4
        clear hw HBl hL4 hr4
        by_cases hlt2 : k < 76
        · by_cases hk1 : k = 1
          · subst hk1
            have hL6 := hL5.congr (U' := uu 2) (V' := vApart F (1 + 1)) (fun _ _ => rfl) (fun j _ => vApart_out (.inl rfl) j)
            go_wp2
            go_roundw
            case rel => ((repeat apply Exists.intro); exact ⟨⟨1 + 1, by omega, by go_num, T3, hL6, hr5⟩, rfl⟩)
            case measure => simp [intOf]
          · have hk1' : ((k : Int) != 1) = true := by rw [bne_iff_ne]; omega
            by_cases hk9 : k < 9
            · have hcv := conv_at (bytesAt_row (m := List.replicate 512 x) hr5) 512 cf (List.length_replicate ..)
              rw [HF.out] at hcv
              have hFs : F.size = 512 := by rw [← HF.out, ofBytes_size]; exact List.length_replicate ..
              have HW := Lib.hid (sp_Write hL5.l.s k F (by rw [hL5.l.b]; exact hlt2) (by rw [hL5.l.b]; show ¬ (1 ≤ k ∧ k < 1 + nbOf 76); unfold nbOf; omega) hFs)
              clear hFs
              go_wp2_with fail
              refine HW.out.mono ?_
              rintro e w6 ⟨rfl, hS6, T6, hs6⟩
              have hL6 := (hL5.to (hL5.l.turn hs6 hS6 (by decide)) hS6.size).congr (U' := uu 2) (V' := vApart F (k + 1)) (fun _ _ => rfl) (fun j _ => vApart_in hk1 hk9 j)
              have hr6 := hL5.row hr5 (Nat.le_refl _) hS6 (by decide)
              clear hL5 hr5 hS6 hs6 HW hcv
              go_wp2
              go_roundw
              case rel => ((repeat apply Exists.intro); exact ⟨⟨k + 1, by omega, by go_num, T6, hL6, hr6⟩, rfl⟩)
              case measure => simp [intOf]; omega
            · have hk9' : (9 : Int) ≤ (k : Int) := by omega
              have hL6 := hL5.congr (U' := uu 2) (V' := vApart F (k + 1)) (fun _ _ => rfl) (fun j _ => vApart_out (.inr (by omega)) j)
              go_wp2
              go_roundw
              case rel => exact ⟨k + 1, by omega, by go_num, T3, hL6, hr5⟩
              case measure => simp [intOf]; omega
        · obtain rfl : k = 76 := by omega
          clear hk2
          obtain ⟨hr0, hr1⟩ := leastP_bounds n (show (0 : Int) < 9 by decide)
          have HLn := Lib.hid (fun W => law_least n 9 W (by decide) (by decide))
          obtain ⟨rn, hrn⟩ := Int.eq_ofNat_of_zero_le hr0
          rw [hrn] at HLn hr1
          clear hr0 hrn
          obtain ⟨hr0, hr2⟩ := leastP_bounds m (show (0 : Int) < 9 by decide)
          have HLm := Lib.hid (fun W => law_least m 9 W (by decide) (by decide))
          obtain ⟨rm, hrm⟩ := Int.eq_ofNat_of_zero_le hr0
          rw [hrm] at HLm hr2
          clear hr0 hrm
          have hr1' : rn < 9 := by omega
          have hr2' : rm < 9 := by omega
          clear hr1 hr2
          go_wp2_with fail
          refine (HLn.out _).mono ?_
          rintro e w6 ⟨rfl, rfl⟩
          have HA := Lib.hid (b_Alloc hL5 (1 + rn) (by omega) (by decide) (by omega))
          go_wp2_with fail
          rw [show ((1 : Int) + (rn : Int)) = ((1 + rn : Nat) : Int) by omega]
          refine HA.out.mono ?_
          rintro e w6 ⟨T6, ga, ca, rfl, hL6, hS6, hra6, hca⟩
          have hrf6 := hL5.row hr5 (Nat.le_refl _) hS6 (by rintro (q | q) <;> cases q)
          have hga := (hra6.lt ga rfl).1
          have hgf5 := (hr5.lt gf rfl).2
          clear HA hL5 hS6 hr5
          go_wp2_with fail
          refine (HLm.out _).mono ?_
          rintro e w7 ⟨rfl, rfl⟩
          have HA := Lib.hid (b_Alloc hL6 (1 + rm) (by omega) (by omega) (by omega))
          go_wp2_with fail
          rw [show ((1 : Int) + (rm : Int)) = ((1 + rm : Nat) : Int) by omega]
          refine HA.out.mono ?_
          rintro e w7 ⟨T7, gb, cb, rfl, hL7, hS7, hrb7, hcb⟩
          have hrf7 := hL6.row hrf6 (Nat.le_refl _) hS7 (by rintro (q | q) <;> cases q)
          have hra7 := hL6.row (row_raise hra6 (base' := b0) (fun k hk => by simp only [Value.ownBlock, Option.some.injEq] at hk; have := hL6.z; omega)) (Nat.le_refl _) hS7 (by rintro (q | q) <;> cases q)
          have hgb := (hrb7.lt gb rfl).1
          have hga6 := (hra6.lt ga rfl).2
          clear HA hL6 hS7 hrf6 hra6
          have hna := Lib.hid (List.length_range' (s := 2) (n := 1 + rn) (step := 1))
          have hnb := Lib.hid (List.length_range' (s := 2 + (1 + rn)) (n := 1 + rm) (step := 1))
          have hrb7' := row_raise hrb7 (base' := b0) (fun k hk => by simp only [Value.ownBlock, Option.some.injEq] at hk; have := hL7.z; omega)
          have hgbl := (hrb7.lt gb rfl).2
          clear hrb7
          generalize hlaE : List.range' 2 (1 + rn) = la at *
          generalize hlbE : List.range' (2 + (1 + rn)) (1 + rm) = lb at *
          have HlaE := Lib.hid hlaE; clear hlaE
          have HlbE := Lib.hid hlbE; clear hlbE
          have hz7 := hL7.z
          have hL7a := hL7.alloc (.cells #[] 3)
          have hra7a := hra7.alloc (.cells #[] 3)
          have hca7 := fun j u => hra7a.cells (g := ga) rfl j u
          have hone := intCells_one
          have hlen := intCells_length
          have hnew7 : ∀ (y c q : Nat), y < w7.heap.size → ∀ k, (Value.slice (some ⟨y, 0, none⟩) q c).ownBlock = some k → (Value.slice (some ⟨w7.heap.size, 0, none⟩) 0 0).ownBlock ≠ some k := fun y c q hy k hk e => by
            simp only [Value.ownBlock, Option.some.injEq] at hk e; omega
          have Hnew7 := Lib.hid hnew7; clear hnew7
          have hgal : ga < w7.heap.size := (hra7.lt ga rfl).2
          go_wp2_with (first | (at_builtin; (refine wpList_append_own _ rfl (.tmp 90) (.tmp 91) 33 rfl w7.heap.size 3 i3 _ 1 8 Try.underlying33 hi3 hz30 hz31 hz32 rfl (by decide) (.slice (some ⟨w7.heap.size, 0, none⟩) 0 0) 0 [] rfl (World.ownsRow_lit w7 #[] 0 (Nat.le_refl _) (Nat.zero_le _) rfl) ⟨ga, 0, none⟩ (1 + rn) ca (intCells la) rfl (by rw [hlen, hna.out, Nat.mul_one]) hca7 (hone la) (by unfold maxLen; omega) (by omega) (by simp) ?_; intro vx w8 hrx8 hgx8 _; have hrb8 := row_grown (hrb7'.alloc (.cells #[] 3)) hgx8 (Hnew7.out gb cb _ hgbl); have hca8 := fun j u => (hrb8.alloc (.cells #[] 3)).cells (g := gb) rfl j u)) | (at_builtin; go_loud (refine wpList_append_own _ rfl (.tmp 93) (.tmp 94) 33 rfl w8.heap.size 3 i3 _ 1 8 Try.underlying33 hi3 hz30 hz31 hz32 rfl (by decide) (.slice (some ⟨w8.heap.size, 0, none⟩) 0 0) 0 [] rfl (World.ownsRow_lit w8 #[] 0 (Nat.le_refl _) (Nat.zero_le _) rfl) ⟨gb, 0, none⟩ (1 + rm) cb (intCells lb) rfl (by rw [hlen, hnb.out, Nat.mul_one]) hca8 (hone lb) (by unfold maxLen; omega) (by omega) (by simp) ?_; intro vy w9 hry9 hgy9 _)))
          have hnew8 : ∀ (y c q : Nat), y < w8.heap.size → ∀ k, (Value.slice (some ⟨y, 0, none⟩) q c).ownBlock = some k → (Value.slice (some ⟨w8.heap.size, 0, none⟩) 0 0).ownBlock ≠ some k := fun y c q hy k hk e => by
            simp only [Value.ownBlock, Option.some.injEq] at hk e; omega
          rw [Nat.zero_add, List.nil_append] at hrx8 hry9
          obtain ⟨gx, cx, -, rfl, -, hcx, -⟩ := row_open (row_zero hrx8) (by omega)
          obtain ⟨gy, cy, -, rfl, -, hcy, -⟩ := row_open (row_zero hry9) (by omega)
          have hgx7 := (hrx8.lt gx rfl).1
          have hgx8l := (hrx8.lt gx rfl).2
          have hgy8 := (hry9.lt gy rfl).1
          have hgfl : gf < w7.heap.size := (hrf7.lt gf rfl).2
          have hz78 : w7.heap.size ≤ w8.heap.size := by have := hgx8.size; simp at this; omega
          have hL8 := hL7a.grown hgx8 (fun k hk => by simp only [Value.ownBlock, Option.some.injEq] at hk; omega)
          have hL9 := (hL8.alloc (.cells #[] 3)).grown hgy9 (fun k hk => by simp only [Value.ownBlock, Option.some.injEq] at hk; omega)
          have hrf8 := row_grown (hrf7.alloc (.cells #[] 3)) hgx8 (Hnew7.out gf cf _ hgfl)
          have hra8 := row_grown hra7a hgx8 (Hnew7.out ga ca _ hgal)
          have hR : Rows5 w9 b0 x gf cf gx (1 + rn) cx gy (1 + rm) cy la lb (.slice (some ⟨ga, 0, none⟩) (1 + rn) ca) (1 + rn) (List.replicate 0 (Value.int .i64 (-1)) ++ (intCells la).drop 0) (.slice (some ⟨gb, 0, none⟩) (1 + rm) cb) (1 + rm) (List.replicate 0 (Value.int .i64 (-2)) ++ (intCells lb).drop 0) :=
            ⟨row_grown (hrf8.alloc (.cells #[] 3)) hgy9 (hnew8 gf cf _ (by omega)), row_raise (row_grown (hrx8.alloc (.cells #[] 3)) hgy9 (hnew8 gx cx _ hgx8l)) (fun k hk => by simp only [Value.ownBlock, Option.some.injEq] at hk; omega), row_raise hry9 (fun k hk => by simp only [Value.ownBlock, Option.some.injEq] at hk; omega),
              row_grown (hra8.alloc (.cells #[] 3)) hgy9 (hnew8 ga ca _ (by omega)), row_grown (hrb8.alloc (.cells #[] 3)) hgy9 (hnew8 gb cb _ (by omega)),
              fun e => by simp only [Value.ownBlock, Option.some.injEq] at e; omega, fun e => by simp only [Value.ownBlock, Option.some.injEq] at e; omega, fun e => by simp only [Value.ownBlock, Option.some.injEq] at e; omega, fun e => by simp only [Value.ownBlock, Option.some.injEq] at e; omega,
              fun k e1 e2 => by simp only [Value.ownBlock, Option.some.injEq] at e1 e2; omega⟩
          clear hnew8 Hnew7 hca8 hca7 hone hlen hrf8 hra8 hrf7 hra7 hra7a hrb7' hrb8 hrx8 hry9 hgx8 hgy9 hL7 hL7a hL8
          have hga0 : b0 ≤ ga := (hR.a.lt ga rfl).1
          have hgb0 : b0 ≤ gb := (hR.b.lt gb rfl).1
          have hla : (intCells la).length = 1 + rn := by rw [intCells_length]; exact hna.out
          have hlb : (intCells lb).length = 1 + rm := by rw [intCells_length]; exact hnb.out
          have Hla := Lib.hid hla; clear hla
          have Hlb := Lib.hid hlb; clear hlb
          go_loopw [20] (fun i wr => ∃ k : Nat, k ≤ 1 + rn ∧ i = .int .i64 k ∧ LawB b0 w1 wr own pt pl ps 1 76 T7 L D (uu (2 + (1 + rn) + (1 + rm))) (vApart F 76) ∧ Rows5 wr b0 x gf cf gx (1 + rn) cx gy (1 + rm) cy la lb (.slice (some ⟨ga, 0, none⟩) (1 + rn) ca) (1 + rn) (List.replicate k (Value.int .i64 (-1)) ++ (intCells la).drop k) (.slice (some ⟨gb, 0, none⟩) (1 + rm) cb) (1 + rm) (List.replicate 0 (Value.int .i64 (-2)) ++ (intCells lb).drop 0)) (fun i _ => 1 + rn - (intOf i).toNat)
          case atStart => exact ⟨0, Nat.zero_le _, rfl, hL9, hR⟩
          case round =>
            obtain ⟨k, hk3, rfl, hL10, hR10⟩ := hrel
            clear hL9 hR
            by_cases hlt3 : k < 1 + rn
            · have hset := rep_set (intCells la) (Value.int .i64 (-1)) k (by rw [Hla.out]; exact hlt3)
              have hR11 := hR10.setA k (Value.int .i64 (-1))
              rw [hset] at hR11
              have hcell := hR10.a.cellAt k (by omega)
              have hfz := hR10.a.frozenAt k
              have hL11 := hL10.setCell (a := ⟨ga, k, none⟩) (Value.int .i64 (-1)) hga0
              obtain ⟨vold, hvold⟩ : ∃ v, wr.cell? ⟨ga, k, none⟩ = some v := by
                rw [hcell, List.getElem?_eq_getElem (by rw [List.length_append, List.length_replicate, List.length_drop, Hla.out]; omega)]
                exact ⟨_, rfl⟩
              clear hcell hset hR10 hL10
              have hq1 : (k : Int) < 1 + (rn : Int) := by omega
              go_wp2
              go_roundw
              case rel => exact ⟨k + 1, by omega, by go_num, hL11, hR11⟩
              case measure => simp [intOf]; omega
            · obtain rfl : k = 1 + rn := by omega
              go_wp2_with fail
              have ha0 : List.replicate (1 + rn) (Value.int .i64 (-1)) ++ (intCells la).drop (1 + rn) = List.replicate (1 + rn) (Value.int .i64 (-1)) ++ List.replicate 0 (Value.int .i64 (-3)) := by
                rw [List.drop_eq_nil_of_le (by rw [Hla.out]; exact Nat.le_refl _)]; rfl
              rw [ha0] at hR10
              clear ha0
              go_loopw [21] (fun i wr => ∃ k : Nat, k ≤ 1 + rm ∧ i = .int .i64 k ∧ LawB b0 w1 wr own pt pl ps 1 76 T7 L D (uu (2 + (1 + rn) + (1 + rm))) (vApart F 76) ∧ Rows5 wr b0 x gf cf gx (1 + rn) cx gy (1 + rm) cy la lb (.slice (some ⟨ga, 0, none⟩) (1 + rn) ca) (1 + rn) (List.replicate (1 + rn) (Value.int .i64 (-1)) ++ List.replicate 0 (Value.int .i64 (-3))) (.slice (some ⟨gb, 0, none⟩) (1 + rm) cb) (1 + rm) (List.replicate k (Value.int .i64 (-2)) ++ (intCells lb).drop k)) (fun i _ => 1 + rm - (intOf i).toNat)
              case atStart => exact ⟨0, Nat.zero_le _, rfl, hL10, hR10⟩
              case round =>
                obtain ⟨k, hk4, rfl, hL12, hR12⟩ := hrel
                clear hL10 hR10
                by_cases hlt4 : k < 1 + rm
                · have hset := rep_set (intCells lb) (Value.int .i64 (-2)) k (by rw [Hlb.out]; exact hlt4)
                  have hR13 := hR12.swap.setA k (Value.int .i64 (-2))
                  rw [hset] at hR13
                  have hcell := hR12.b.cellAt k (by omega)
                  have hfz := hR12.b.frozenAt k
                  have hL13 := hL12.setCell (a := ⟨gb, k, none⟩) (Value.int .i64 (-2)) hgb0
                  obtain ⟨vold, hvold⟩ : ∃ v, wr.cell? ⟨gb, k, none⟩ = some v := by
                    rw [hcell, List.getElem?_eq_getElem (by rw [List.length_append, List.length_replicate, List.length_drop, Hlb.out]; omega)]
                    exact ⟨_, rfl⟩
                  clear hcell hset hR12 hL12
                  have hq1 : (k : Int) < 1 + (rm : Int) := by omega
                  go_wp2
                  go_roundw
                  case rel => exact ⟨k + 1, by omega, by go_num, hL13, hR13.swap⟩
                  case measure => simp [intOf]; omega
                · obtain rfl : k = 1 + rm := by omega
                  have hb0' : List.replicate (1 + rm) (Value.int .i64 (-2)) ++ (intCells lb).drop (1 + rm) = List.replicate (1 + rm) (Value.int .i64 (-2)) ++ List.replicate 0 (Value.int .i64 (-4)) := by
                    rw [List.drop_eq_nil_of_le (by rw [Hlb.out]; exact Nat.le_refl _)]; rfl
                  rw [hb0'] at hR12
                  clear hb0'
                  go_wp2_with fail
                  go_loopw [14, 16, 22] (fun va vb i wr => ∃ k : Nat, k ≤ 16 ∧ i = .int .i64 k ∧ LawB b0 w1 wr own pt pl ps 1 76 T7 L D (uu (2 + (1 + rn) + (1 + rm))) (vApart F 76) ∧ Rows5 wr b0 x gf cf gx (1 + rn) cx gy (1 + rm) cy la lb va (1 + rn + k) (List.replicate (1 + rn) (Value.int .i64 (-1)) ++ List.replicate k (Value.int .i64 (-3))) vb (1 + rm + k) (List.replicate (1 + rm) (Value.int .i64 (-2)) ++ List.replicate k (Value.int .i64 (-4)))) (fun _ _ i _ => 16 - (intOf i).toNat)
                  case atStart => exact ⟨0, Nat.zero_le _, rfl, hL12, hR12⟩
                  case round =>
                    obtain ⟨k, hk5, rfl, hL14, hR14⟩ := hrel
                    clear hL12 hR12
                    by_cases hlt5 : k < 16
                    · have hz14 := hL14.z
                      have hsn : ∀ (l : List Value) (v : Value), l ++ List.replicate k v ++ [v] = l ++ List.replicate (k + 1) v := fun l v => by rw [List.append_assoc, List.replicate_succ']
                      have Hsn := Lib.hid hsn; clear hsn
                      go_wp2_with (first | (at_builtin; (refine wpList_append_x rfl (.tmp 118) (.tmp 119) 33 rfl 3 i3 _ 1 8 Try.underlying33 hi3 hz30 hz31 hz32 rfl (by decide) u14 (1 + rn + k) _ rfl (row_zero (hR14.alloc _).a) ⟨_, 0, none⟩ 1 1 [.int .i64 (-3)] rfl rfl (new_cells _ _ _ _ (by simp)) (by simp [Value.oneCell']) (by unfold maxLen; omega) (by omega) ?_; intro a' c' w15 hr15 hg15 hf15; have hR15 := (hR14.alloc (.cells #[.int .i64 (-3)] 3)).appA hr15 hg15 hf15 (by simp; omega); have hL15 := (hL14.alloc (.cells #[.int .i64 (-3)] 3)).grown hg15 (fun b hb => (hR14.a.lt b hb).1); have hz15 := hL15.z)) | (at_builtin; (refine wpList_append_x rfl (.tmp 121) (.tmp 122) 33 rfl 3 i3 _ 1 8 Try.underlying33 hi3 hz30 hz31 hz32 rfl (by decide) u16 (1 + rm + k) _ rfl (row_zero (hR15.alloc _).b) ⟨_, 0, none⟩ 1 1 [.int .i64 (-4)] rfl rfl (new_cells _ _ _ _ (by simp)) (by simp [Value.oneCell']) (by unfold maxLen; omega) (by omega) ?_; intro a'' c'' w16 hr16 hg16 hf16; have hR16 := ((hR15.alloc (.cells #[.int .i64 (-4)] 3)).swap.appA hr16 hg16 hf16 (by simp; omega)).swap; have hL16 := (hL15.alloc (.cells #[.int .i64 (-4)] 3)).grown hg16 (fun b hb => (hR15.b.lt b hb).1))))
                      rw [Hsn.out, Hsn.out] at hR16
                      go_roundw
                      case rel => ((repeat apply Exists.intro); exact ⟨⟨k + 1, by omega, by go_num, hL16, hR16⟩, rfl⟩)
                      case measure => simp [intOf]; omega
                    · obtain rfl : k = 16 := by omega
                      obtain ⟨ga2, ca2, -, rfl, -, hca2, -⟩ := row_open (row_zero hR14.a) (by omega)
                      obtain ⟨gb2, cb2, -, rfl, -, hcb2, -⟩ := row_open (row_zero hR14.b) (by omega)
                      have HA := Lib.hid (b_Alloc hL14 1 (by decide) (by omega) (by decide))
                      go_wp2_with fail
                      refine HA.out.mono ?_
                      rintro e w17 ⟨T17, gc, cc, rfl, hL17, hS17, hrc17, hcc⟩
                      have hR17 := hR14.step hS17 (by rintro (q | q) <;> cases q) hL14.o
                      have hz14 := hL14.z
                      have hrc := row_raise hrc17 (base' := b0) (fun k hk => by simp only [Value.ownBlock, Option.some.injEq] at hk; have := (hrc17.lt k (by simp only [Value.ownBlock]; rw [hk])).1; omega)
                      clear HA hL14 hR14 hS17 hrc17
                      generalize hLa : List.replicate (1 + rn) (Value.int .i64 (-1)) ++ List.replicate 16 (Value.int .i64 (-3)) = La at *
                      generalize hLb : List.replicate (1 + rm) (Value.int .i64 (-2)) ++ List.replicate 16 (Value.int .i64 (-4)) = Lb at *
                      have HLa := Lib.hid hLa; clear hLa
                      have HLb := Lib.hid hLb; clear hLb
                      generalize hee : 2 + (1 + rn) + (1 + rm) + 1 = e0 at *
                      have He0 := Lib.hid hee
                      have he1 : 2 + (1 + rn) + (1 + rm) < e0 := by omega
                      have he2 : e0 ≤ 40 := by omega
                      clear hee
                      go_wp2_with fail
                      go_loopw [25] (fun i wr => ∃ k : Nat, k ≤ 1 + rn ∧ i = .int .i64 k ∧ LawB b0 w1 wr own pt pl ps 1 76 T17 L D (uu e0) (vApart F 76) ∧ Rows5 wr b0 x gf cf gx (1 + rn) cx gy (1 + rm) cy la lb (.slice (some ⟨ga2, 0, none⟩) (1 + rn + 16) ca2) (1 + rn + 16) La (.slice (some ⟨gb2, 0, none⟩) (1 + rm + 16) cb2) (1 + rm + 16) Lb ∧ wr.ownsRow b0 3 1 (.slice (some ⟨gc, 0, none⟩) 1 cc) 1 (intCells (List.range' (2 + (1 + rn) + (1 + rm)) 1))) (fun i _ => 1 + rn - (intOf i).toNat)
                      case atStart => exact ⟨0, Nat.zero_le _, rfl, hL17, hR17, hrc⟩
                      case round =>
                        obtain ⟨k, hk6, rfl, hL18, hR18, hrc18⟩ := hrel
                        clear hL17 hR17 hrc
                        by_cases hlt6 : k < 1 + rn
                        · have hca : wr.cell? ⟨ga2, k, none⟩ = some (.int .i64 (-1)) := by
                            rw [hR18.a.cellAt k (by omega), ← HLa.out, List.getElem?_append_left (by rw [List.length_replicate]; exact hlt6), List.getElem?_replicate, if_pos hlt6]
                          have hcx' : wr.cell? ⟨gx, k, none⟩ = some (.int .i64 ((2 : Int) + (k : Int))) := by
                            rw [hR18.x.cellAt k (by omega), ← HlaE.out]
                            exact range_cell 2 (1 + rn) k hlt6
                          have HU := Lib.hid (law_Used hL18.l ((2 : Int) + (k : Int)) true (used_uu (a := 2) (k := k) (e := e0) (by omega) (by omega)))
                          have hq1 : (k : Int) < 1 + (rn : Int) := by omega
                          have hq2 : (k : Int) < 1 + (rn : Int) + 16 := by omega
                          go_wp2_with fail
                          refine HU.out.mono ?_
                          rintro e w19 ⟨rfl, hL19, hS19⟩
                          have hL19b := hL18.to hL19 hS19.size
                          have hR19 := hR18.step hS19 (by decide) hL18.o
                          have hrc19 := hL18.row hrc18 (Nat.le_refl _) hS19 (by decide)
                          clear HU hca hcx' hL18 hR18 hrc18 hL19 hS19
                          go_wp2
                          go_roundw
                          case rel => exact ⟨k + 1, by omega, by go_num, hL19b, hR19, hrc19⟩
                          case measure => simp [intOf]; omega
                        · obtain rfl : k = 1 + rn := by omega
                          go_wp2_with fail
                          go_loopw [26] (fun i wr => ∃ k : Nat, k ≤ 1 + rm ∧ i = .int .i64 k ∧ LawB b0 w1 wr own pt pl ps 1 76 T17 L D (uu e0) (vApart F 76) ∧ Rows5 wr b0 x gf cf gx (1 + rn) cx gy (1 + rm) cy la lb (.slice (some ⟨ga2, 0, none⟩) (1 + rn + 16) ca2) (1 + rn + 16) La (.slice (some ⟨gb2, 0, none⟩) (1 + rm + 16) cb2) (1 + rm + 16) Lb ∧ wr.ownsRow b0 3 1 (.slice (some ⟨gc, 0, none⟩) 1 cc) 1 (intCells (List.range' (2 + (1 + rn) + (1 + rm)) 1))) (fun i _ => 1 + rm - (intOf i).toNat)
                          case atStart => exact ⟨0, Nat.zero_le _, rfl, hL18, hR18, hrc18⟩
                          case round =>
                            obtain ⟨k, hk7, rfl, hL20, hR20, hrc20⟩ := hrel
                            clear hL18 hR18 hrc18
                            by_cases hlt7 : k < 1 + rm
                            · have hcb' : wr.cell? ⟨gb2, k, none⟩ = some (.int .i64 (-2)) := by
                                rw [hR20.b.cellAt k (by omega), ← HLb.out, List.getElem?_append_left (by rw [List.length_replicate]; exact hlt7), List.getElem?_replicate, if_pos hlt7]
                              have hcy' : wr.cell? ⟨gy, k, none⟩ = some (.int .i64 (((2 + (1 + rn) : Nat) : Int) + (k : Int))) := by
                                rw [hR20.y.cellAt k (by omega), ← HlbE.out]
                                exact range_cell (2 + (1 + rn)) (1 + rm) k hlt7
                              have HU := Lib.hid (law_Used hL20.l (((2 + (1 + rn) : Nat) : Int) + (k : Int)) true (used_uu (a := 2 + (1 + rn)) (k := k) (e := e0) (by omega) (by omega)))
                              generalize (((2 + (1 + rn) : Nat) : Int) + (k : Int)) = yk at *
                              have hq1 : (k : Int) < 1 + (rm : Int) := by omega
                              have hq2 : (k : Int) < 1 + (rm : Int) + 16 := by omega
                              go_wp2_with fail
                              refine HU.out.mono ?_
                              rintro e w21 ⟨rfl, hL21, hS21⟩
                              have hL21b := hL20.to hL21 hS21.size
                              have hR21 := hR20.step hS21 (by decide) hL20.o
                              have hrc21 := hL20.row hrc20 (Nat.le_refl _) hS21 (by decide)
                              clear HU hcb' hcy' hL20 hR20 hrc20 hL21 hS21
                              go_wp2
                              go_roundw
                              case rel => ((repeat apply Exists.intro); exact ⟨⟨k + 1, by omega, by go_num, hL21b, hR21, hrc21⟩, rfl⟩)
                              case measure => simp [intOf]; omega
                            · obtain rfl : k = 1 + rm := by omega
                              have hca3 : wr.cell? ⟨ga2, 1 + rn, none⟩ = some (.int .i64 (-3)) := by
                                rw [hR20.a.cellAt (1 + rn) (by omega), ← HLa.out, List.getElem?_append_right (by rw [List.length_replicate]; exact Nat.le_refl _), List.length_replicate, Nat.sub_self]; rfl
                              have hcb4 : wr.cell? ⟨gb2, 1 + rm, none⟩ = some (.int .i64 (-4)) := by
                                rw [hR20.b.cellAt (1 + rm) (by omega), ← HLb.out, List.getElem?_append_right (by rw [List.length_replicate]; exact Nat.le_refl _), List.length_replicate, Nat.sub_self]; rfl
                              have hq1 : (1 : Int) + (rn : Int) < 1 + (rn : Int) + 16 := by omega
                              have hq2 : (1 : Int) + (rm : Int) < 1 + (rm : Int) + 16 := by omega
                              go_wp2_with fail
                              clear hca3 hcb4
                              go_loopw [27] (fun i wr => ∃ k : Nat, k ≤ 9 ∧ i = .int .i64 k ∧ LawB b0 w1 wr own pt pl ps 1 76 T17 L D (uu e0) (vApart F 76) ∧ Rows5 wr b0 x gf cf gx (1 + rn) cx gy (1 + rm) cy la lb (.slice (some ⟨ga2, 0, none⟩) (1 + rn + 16) ca2) (1 + rn + 16) La (.slice (some ⟨gb2, 0, none⟩) (1 + rm + 16) cb2) (1 + rm + 16) Lb ∧ wr.ownsRow b0 3 1 (.slice (some ⟨gc, 0, none⟩) 1 cc) 1 (intCells (List.range' (2 + (1 + rn) + (1 + rm)) 1))) (fun i _ => 9 - (intOf i).toNat)
                              case atStart => exact ⟨0, Nat.zero_le _, rfl, hL20, hR20, hrc20⟩
                              case round =>
                                obtain ⟨k, hk8, rfl, hL22, hR22, hrc22⟩ := hrel
                                clear hL20 hR20 hrc20
                                by_cases hlt8 : k < 9
                                · by_cases hk1 : k = 1
                                  · subst hk1
                                    have hrd := (read_in hL22.l.s.tl hL22.l.s.ov (n := 1) (by rw [hL22.l.b]; decide)).1
                                    have HR := Lib.hid (tl_Read hL22.l.s.tl ((1 : Nat) : Int))
                                    rw [hrd] at HR
                                    clear hrd
                                    generalize view T17 L D 1 = s1 at *
                                    go_wp2_with fail
                                    refine HR.out.mono ?_
                                    rintro e w23 ⟨rfl, htl23, hS23⟩
                                    have hL23 := hL22.to (hL22.l.turn (hL22.l.s.tl_step htl23 hS23 hL22.l.s.o1) hS23 (by decide)) hS23.size
                                    have hR23 := hR22.step hS23 (by decide) hL22.o
                                    have hrc23 := hL22.row hrc22 (Nat.le_refl _) hS23 (by decide)
                                    clear HR hL22 hR22 hrc22 hS23 htl23
                                    go_wp2
                                    go_roundw
                                    case rel => ((repeat apply Exists.intro); exact ⟨⟨1 + 1, by omega, by go_num, hL23, hR23, hrc23⟩, rfl⟩)
                                    case measure => simp [intOf]
                                  · have hk1' : ((k : Int) != 1) = true := by rw [bne_iff_ne]; omega
                                    have hv : vApart F 76 k = F := by unfold vApart; rw [if_pos ⟨hk1, hlt8, by omega⟩]
                                    have HR := Lib.hid (sp_Read hL22.l.s k (by rw [hL22.l.b]; omega) (by rw [hL22.l.b]; show ¬ (1 ≤ k ∧ k < 1 + nbOf 76); unfold nbOf; omega))
                                    rw [hv] at HR
                                    clear hv
                                    go_wp2_with fail
                                    refine HR.out.mono ?_
                                    rintro e w23 ⟨rfl, hs23, hS23⟩
                                    have hL23 := hL22.to (hL22.l.turn hs23 hS23 (by decide)) hS23.size
                                    have hR23 := hR22.step hS23 (by decide) hL22.o
                                    have hrc23 := hL22.row hrc22 (Nat.le_refl _) hS23 (by decide)
                                    have hcv := conv_at (bytesAt_row (m := List.replicate 512 x) hR23.f) 512 cf (List.length_replicate ..)
                                    rw [HF.out] at hcv
                                    clear HR hL22 hR22 hrc22 hS23 hs23
                                    go_wp2
                                    go_roundw
                                    case rel => ((repeat apply Exists.intro); exact ⟨⟨k + 1, by omega, by go_num, hL23, hR23, hrc23⟩, rfl⟩)
                                    case measure => simp [intOf]; omega
                                · obtain rfl : k = 9 := by omega
                                  have hz22 := hL22.z
                                  have hox := hL22.o gx (hR22.x.lt gx rfl).1
                                  have hoy := hL22.o gy (hR22.y.lt gy rfl).1
                                  have hoc := hL22.o gc (hrc22.lt gc rfl).1
                                  have hlx : la.length = 1 + rn := hna.out
                                  have hly : lb.length = 1 + rm := hnb.out
                                  obtain ⟨U1, hU1, hV1⟩ := freeU_range 76 (1 + rn) 2 (uu e0) (by decide) (by omega) (fun j h1 h2 => by unfold uu; exact decide_eq_true (by omega))
                                  obtain ⟨U2, hU2, hV2⟩ := freeU_range 76 (1 + rm) (2 + (1 + rn)) U1 (by omega) (by omega) (fun j h1 h2 => by
                                    rw [hV1, decide_eq_false (by omega)]; unfold uu; rw [decide_eq_true (by omega)]; rfl)
                                  obtain ⟨U3, hU3, hV3⟩ := freeU_range 76 1 (2 + (1 + rn) + (1 + rm)) U2 (by omega) (by omega) (fun j h1 h2 => by
                                    rw [hV2, hV1, decide_eq_false (by omega), decide_eq_false (by omega)]; unfold uu; rw [decide_eq_true (by omega)]; rfl)
                                  have hU3' : ∀ j, j < 76 → uu 2 j = U3 j := fun j hj => by
                                    rw [hV3, hV2, hV1]
                                    have := He0.out
                                    unfold uu
                                    rw [Bool.eq_iff_iff]
                                    simp only [Bool.and_eq_true, decide_eq_true_eq, Bool.not_eq_true', decide_eq_false_iff_not]
                                    omega
                                  rw [HlaE.out] at hU1
                                  rw [HlbE.out] at hU2
                                  clear hV1 hV2 hV3
                                  have HU1 := Lib.hid hU1; clear hU1
                                  have HU2 := Lib.hid hU2; clear hU2
                                  have HU3 := Lib.hid hU3; clear hU3
                                  have HU3' := Lib.hid hU3'; clear hU3'
                                  have Hox := Lib.hid hox; clear hox
                                  have Hoy := Lib.hid hoy; clear hoy
                                  have Hoc := Lib.hid hoc; clear hoc
                                  have HFx := Lib.hid (law_Free hL22.l (some ⟨gx, 0, none⟩) (1 + rn) cx (la.map fun (y : Nat) => (y : Int)) (by rw [List.length_map]; exact hlx) (by omega) hcx (argI_row hR22.x (by rw [Hox.out]; decide) (by rw [Hox.out]; decide)) U1 HU1.out)
                                  have Hlx := Lib.hid hlx; clear hlx
                                  have Hly := Lib.hid hly; clear hly
                                  go_wp2_with fail
                                  refine HFx.out.mono ?_
                                  rintro e w24 ⟨T24, rfl, hL24, hS24⟩
                                  have hR24 := hR22.step hS24 (by rintro (q | q) <;> cases q) hL22.o
                                  have hrc24 := hL22.row hrc22 (Nat.le_refl _) hS24 (by rintro (q | q) <;> cases q)
                                  have hL24b := hL22.to hL24 hS24.size
                                  clear HFx hL22 hR22 hrc22 hS24 hL24
                                  have HFy := Lib.hid (law_Free hL24b.l (some ⟨gy, 0, none⟩) (1 + rm) cy (lb.map fun (y : Nat) => (y : Int)) (by rw [List.length_map]; exact Hly.out) (by omega) hcy (argI_row hR24.y (by rw [Hoy.out]; decide) (by rw [Hoy.out]; decide)) U2 HU2.out)
                                  go_wp2_with fail
                                  refine HFy.out.mono ?_
                                  rintro e w25 ⟨T25, rfl, hL25, hS25⟩
                                  have hrc25 := hL24b.row hrc24 (Nat.le_refl _) hS25 (by rintro (q | q) <;> cases q)
                                  have hL25b := hL24b.to hL25 hS25.size
                                  clear HFy hL24b hR24 hrc24 hS25 hL25
                                  have HFc := Lib.hid (law_Free hL25b.l (some ⟨gc, 0, none⟩) 1 cc ((List.range' (2 + (1 + rn) + (1 + rm)) 1).map fun (y : Nat) => (y : Int)) (by rw [List.length_map, List.length_range']) (by decide) hcc (argI_row hrc25 (by rw [Hoc.out]; decide) (by rw [Hoc.out]; decide)) U3 HU3.out)
                                  go_wp2_with fail
                                  refine HFc.out.mono ?_
                                  rintro e w26 ⟨T26, rfl, hL26, hS26⟩
                                  have hL26b := hL26.congr (U' := uu 2) (V' := vApart F 76) HU3'.out (fun _ _ => rfl)
                                  clear HFc hL25b hrc25 hS26 hL26
                                  have HLf := Lib.hid (law_Left hL26b 74 (by rw [freeL_uu 2 (by decide), List.length_range']; rfl))
                                  go_wp2_with fail
                                  refine HLf.out.mono ?_
                                  rintro e w27 ⟨rfl, hL27, -⟩
                                  clear HLf hL26b
                                  have hBl : (D.seen.length : Int) - L.size = 76 := by have h1 := hL27.b; have h2 := hL27.s.tl.ld.lt; unfold blocksOf at h1; omega
                                  have HBl := Lib.hid (log_Blocks hL27.s.tl.ld.log hL27.s.tl.ld.disk)
                                  rw [hBl] at HBl
                                  clear hBl
                                  go_wp2_with fail
                                  refine HBl.out.mono ?_
                                  rintro e w28 ⟨rfl, q, hw⟩
                                  have hL28 := hL27.drewN hw
                                  clear hw HBl hL27
                                  go_wp2
                                  go_ret
                                  have hst := hL28.st
                                  exact ⟨rfl, hB1.trans ⟨hst.os, hst.tape, hst.output, hst.size, fun b hb => hst.same b (Nat.lt_of_lt_of_le hb hB1.size) (fun k => k)⟩⟩

end
end Go.Proofs.Ytdcjhpihcfpamaa
