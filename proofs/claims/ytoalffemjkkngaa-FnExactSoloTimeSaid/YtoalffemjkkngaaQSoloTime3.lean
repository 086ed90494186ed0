/- What is proved: fnExactSoloTime_row_holds, without further conditions; this text holds part 4 of 5 of its proof. -/

import Derived.Test.YtoalffemjkkngaaQSoloTime2
section
namespace Go.Proofs.Ytoalffemjkkngaa.PA
open Go.RowKit Go.Proofs.YtoalffemjkkngaaW.PrintWords Go.Proofs.YtoalffemjkkngaaW.PrintLast Go.Proofs.YtoalffemjkkngaaW.PrintMore
attribute [local go_sem] max2_int min2_int max_two min_two max_three min_three max_four min_four
set_option linter.unusedVariables false
set_option linter.unusedSimpArgs false
def impl_ValidTurns.l0 : Nat → List (S53) → List (S53) → Int → Int → Option (Bool)
 | 0, _, _, _, _ => none
 | k + 1, x0, x8, x9, x10 => if x10 < x9 then (if 0 ≤ x10 then (if x10 < (x8.length : Int) then ((impl_Turn_valid.f k ((rd_T53 x8 x10).f0) ((rd_T53 x8 x10).f1) ((rd_T53 x8 x10).f2)).bind fun t261 => (if t261 = true then (if x10 > 0 then (if 0 ≤ (wrap64 (x10 - 1)) then (if (wrap64 (x10 - 1)) < (x0.length : Int) then ((impl_compareTurns.f k ((rd_T53 x0 (wrap64 (x10 - 1))).f0) ((rd_T53 x0 (wrap64 (x10 - 1))).f1) ((rd_T53 x0 (wrap64 (x10 - 1))).f2) ((rd_T53 x8 x10).f0) ((rd_T53 x8 x10).f1) ((rd_T53 x8 x10).f2)).bind fun t263 => (if t263 ≥ 0 then (some false) else (impl_ValidTurns.l0 k x0 x8 x9 (wrap64 (x10 + 1))))) else (none)) else (none)) else (impl_ValidTurns.l0 k x0 x8 x9 (wrap64 (x10 + 1)))) else (some false))) else (none)) else (none)) else (some true)
def impl_ValidTurns.f (k : Nat) (l0 : List (S53)) : Option (Bool) := if (l0.length : Int) > 24 then (some false) else (impl_ValidTurns.l0 k l0 l0 (l0.length : Int) 0)
theorem impl_ValidTurns.mono_l : ∀ k, (∀ y0 y1 y2 y3, LeO (impl_ValidTurns.l0 k y0 y1 y2 y3) (impl_ValidTurns.l0 (k + 1) y0 y1 y2 y3))
 | 0 => fun _ _ _ _ r h => by simp [impl_ValidTurns.l0] at h
 | k + 1 => by
  have ih0 := impl_ValidTurns.mono_l k
  ·intro y0 y1 y2 y3
   unfold impl_ValidTurns.l0
   repeat' first
   | (with_reducible exact ih0 _ _ _ _)
   | (with_reducible exact impl_Turn_valid.mono _ _ _ _)
   | (with_reducible exact impl_compareTurns.mono _ _ _ _ _ _ _)
   | (with_reducible exact LeO.refl _)
   | (with_reducible exact LeO.none _)
   | (with_reducible refine LeO.ite ?_ ?_)
   | (with_reducible refine LeO.bind ?_ (fun _ => ?_))
theorem impl_ValidTurns.mono : ∀ a0 k, LeO (impl_ValidTurns.f k a0) (impl_ValidTurns.f (k + 1) a0) := by
 intro a0 k
 have ih0 := impl_ValidTurns.mono_l k
 unfold impl_ValidTurns.f
 repeat' first
   | (with_reducible exact ih0 _ _ _ _)
   | (with_reducible exact impl_Turn_valid.mono _ _ _ _)
   | (with_reducible exact impl_compareTurns.mono _ _ _ _ _ _ _)
   | (with_reducible exact LeO.refl _)
   | (with_reducible exact LeO.none _)
   | (with_reducible refine LeO.ite ?_ ?_)
   | (with_reducible refine LeO.bind ?_ (fun _ => ?_))
def impl_ValidTurns.T6 : Bool × List (List Nat × List Nat) := (true, [([], []), ([0], [0]), ([1], [1]), ([2, 1], [2]), ([3], [3]), ([4, 3], [3, 4]), ([5, 3, 3], [3, 5]), ([6], [6]), ([6], [6]), ([8, 6], [6, 8]), ([7, 9, 6], [6, 7, 9]), ([10, 6], [6, 10]), ([6], [6]), ([11, 12, 6, 6], [6, 11, 12]), ([13, 6], [6, 13]), ([6, 14, 3], [3, 6, 14]), ([3, 15], [3, 15])])
def impl_ValidTurns.B6 : List Nat := [0, 1, 3, 7, 15, 31, 63, 127, 127, 383, 1023, 2047, 127, 8191, 16383, 32767, 65535]
theorem impl_ValidTurns.tab6 : rtab .any (opsOf Try.f29 6) = impl_ValidTurns.T6 := by kernel_rfl
theorem impl_ValidTurns.bits6 : waitsOk impl_ValidTurns.T6.2 impl_ValidTurns.B6 = true := by kernel_rfl
set_option maxHeartbeats 8000000 in
set_option maxRecDepth 100000 in
theorem impl_ValidTurns.calls (k : Nat) (A0 : Option Addr) (c0 : Nat) (l0 : List (S53)) (r : Bool) (w : World) (hr0 : Kd.C k53 w A0 l0.length l0) (hc0 : l0.length ≤ c0) (h : impl_ValidTurns.f k l0 = some r) :
  Calls Try.prog 29 #[.slice A0 l0.length c0] w fun e w' => e = .returned (.bool r) ∧ Below w.heap.size w w' := by
 have hu53 := Try.underlying53
 have HR0 := Aside0.mk hr0
 have HC0 := Aside0.mk hc0
 clear hr0 hc0
 have HB := Aside0.mk (Below.refl w.heap.size w)
 have H : (if (l0.length : Int) > 24 then (some false) else (impl_ValidTurns.l0 k l0 l0 (l0.length : Int) 0)) = some r := h
 clear h
 by_cases c2 : (l0.length : Int) > 24
 ·rw [if_pos c2] at H
  have c2b0 : decide (24 < (l0.length : Int)) = true := decide_eq_true c2
  have c2b1 : decide (24 < l0.length) = true := decide_eq_true (by omega)
  clear c2
  obtain rfl := Option.some.inj H
  go_enter Try.func29, Try.ntmps29
  go_wp2
  go_ret
  exact ⟨re_, bw_⟩
 ·rw [if_neg c2] at H
  have c2b0 : decide (24 < (l0.length : Int)) = false := decide_eq_false c2
  have c2b1 : decide (24 < l0.length) = false := decide_eq_false (by omega)
  clear c2
  have H' := Aside0.mk H
  clear H
  go_enter Try.func29, Try.ntmps29
  go_wp2
  go_loopg [10] k (fun kq v10 w' => ∃ (x10_1 : Int), v10 = .int .i64 x10_1 ∧ Aside0 (impl_ValidTurns.l0 kq l0 l0 (l0.length : Int) x10_1 = some r) ∧ Aside0 (kq ≤ k) ∧ Aside0 (Below w.heap.size w w'))
  case atStart => exact ⟨(0), rs_, H', ⟨Nat.le_refl _⟩, ⟨bw_⟩⟩
  case round =>
   clear H'
   try clear c2
   try clear c2b0
   try clear c2b1
   try clear p2
   obtain ⟨x10_1, rfl, HA, HK1, HB⟩ := hrel
   cases gk with
   | zero => exact absurd HA.out (by simp [impl_ValidTurns.l0])
   | succ k1 =>
    have H := HA.out
    clear HA
    simp only [impl_ValidTurns.l0] at H
    by_cases c3 : x10_1 < (l0.length : Int)
    ·rw [if_pos c3] at H
     have c3b0 : decide (x10_1 < (l0.length : Int)) = true := decide_eq_true c3
     clear c3
     by_cases c4 : 0 ≤ x10_1
     ·rw [if_pos c4] at H
      have c4b0 : decide (0 ≤ x10_1) = true := decide_eq_true c4
      clear c4
      by_cases c5 : x10_1 < (l0.length : Int)
      ·rw [if_pos c5] at H
       have c5b0 : decide (x10_1 < (l0.length : Int)) = true := decide_eq_true c5
       clear c5
       replace H := Option.bind_eq_some_iff.mp H
       obtain ⟨t261, A60, H⟩ := H
       replace H : (if t261 = true then (if x10_1 > 0 then (if 0 ≤ (wrap64 (x10_1 - 1)) then (if (wrap64 (x10_1 - 1)) < (l0.length : Int) then ((impl_compareTurns.f k1 ((rd_T53 l0 (wrap64 (x10_1 - 1))).f0) ((rd_T53 l0 (wrap64 (x10_1 - 1))).f1) ((rd_T53 l0 (wrap64 (x10_1 - 1))).f2) ((rd_T53 l0 x10_1).f0) ((rd_T53 l0 x10_1).f1) ((rd_T53 l0 x10_1).f2)).bind fun t263 => (if t263 ≥ 0 then (some false) else (impl_ValidTurns.l0 k1 l0 l0 (l0.length : Int) (wrap64 (x10_1 + 1))))) else (none)) else (none)) else (impl_ValidTurns.l0 k1 l0 l0 (l0.length : Int) (wrap64 (x10_1 + 1)))) else (some false)) = some r := H
       have A6 := Aside0.mk A60
       clear A60
       by_cases c7 : t261 = true
       ·subst c7
        have H1 : (if x10_1 > 0 then (if 0 ≤ (wrap64 (x10_1 - 1)) then (if (wrap64 (x10_1 - 1)) < (l0.length : Int) then ((impl_compareTurns.f k1 ((rd_T53 l0 (wrap64 (x10_1 - 1))).f0) ((rd_T53 l0 (wrap64 (x10_1 - 1))).f1) ((rd_T53 l0 (wrap64 (x10_1 - 1))).f2) ((rd_T53 l0 x10_1).f0) ((rd_T53 l0 x10_1).f1) ((rd_T53 l0 x10_1).f2)).bind fun t263 => (if t263 ≥ 0 then (some false) else (impl_ValidTurns.l0 k1 l0 l0 (l0.length : Int) (wrap64 (x10_1 + 1))))) else (none)) else (none)) else (impl_ValidTurns.l0 k1 l0 l0 (l0.length : Int) (wrap64 (x10_1 + 1)))) = some r := by rw [if_pos rfl] at H; exact H
        clear H
        have H := H1
        clear H1
        by_cases c8 : x10_1 > 0
        ·rw [if_pos c8] at H
         have c8b0 : decide (0 < x10_1) = true := decide_eq_true c8
         clear c8
         obtain ⟨ji9, hji9⟩ : ∃ j_ : Int, (wrap64 (x10_1 - 1)) = j_ := ⟨_, rfl⟩
         replace H : (if 0 ≤ (ji9) then (if (ji9) < (l0.length : Int) then ((impl_compareTurns.f k1 ((rd_T53 l0 (ji9)).f0) ((rd_T53 l0 (ji9)).f1) ((rd_T53 l0 (ji9)).f2) ((rd_T53 l0 x10_1).f0) ((rd_T53 l0 x10_1).f1) ((rd_T53 l0 x10_1).f2)).bind fun t263 => (if t263 ≥ 0 then (some false) else (impl_ValidTurns.l0 k1 l0 l0 (l0.length : Int) (wrap64 (x10_1 + 1))))) else (none)) else (none)) = some r := by first | (rw [hji9] at H; exact H) | (simp only [hji9] at H ⊢; exact H)
         (try rw [hji9] at A6)
         have hji9w : (IntKind.i64.wrap (x10_1 - 1)) = ji9 := (i64_w _).trans hji9
         by_cases c10 : 0 ≤ (ji9)
         ·rw [if_pos c10] at H
          have c10b0 : decide (0 ≤ (ji9)) = true := decide_eq_true c10
          clear c10
          by_cases c11 : (ji9) < (l0.length : Int)
          ·rw [if_pos c11] at H
           have c11b0 : decide ((ji9) < (l0.length : Int)) = true := decide_eq_true c11
           clear c11
           replace H := Option.bind_eq_some_iff.mp H
           obtain ⟨t263, A120, H⟩ := H
           replace H : (if t263 ≥ 0 then (some false) else (impl_ValidTurns.l0 k1 l0 l0 (l0.length : Int) (wrap64 (x10_1 + 1)))) = some r := H
           have A12 := Aside0.mk A120
           clear A120
           by_cases c13 : t263 ≥ 0
           ·rw [if_pos c13] at H
            have c13b0 : decide (0 ≤ t263) = true := decide_eq_true c13
            clear c13
            obtain rfl := Option.some.inj H
            have p259 : 0 ≤ (x10_1 : Int) := of_decide_eq_true as_
            have q259 : x10_1 < (l0.length : Int) := of_decide_eq_true as_
            obtain ⟨ad259, e259, hx259_0, hx259_1, hx259_2⟩ := at_T53 HR0.out x10_1 p259 q259
            cases e259
            replace hx259_0 := (HB.out.cell (World.block_lt_of_cell? w _ hx259_0)).trans hx259_0
            replace hx259_1 := (HB.out.cell (World.block_lt_of_cell? w _ hx259_1)).trans hx259_1
            replace hx259_2 := (HB.out.cell (World.block_lt_of_cell? w _ hx259_2)).trans hx259_2
            replace p259 := eq_true p259
            replace q259 := eq_true q259
            try go_wp2_with (first | ((with_reducible refine gate_dst (N := 4) rfl ?_); refine box_event ?hg (N := 4) ?hd (cs := #[.string (⟨#[]⟩ : ByteArray), .int .i64 0, .int .i64 0]) (t := 53) ?hr ?_; (case hd => rfl); (case hg => rfl); (case hr => first | (go_simp; done) | (go_simp; rfl)); intro gb260 hg w14 hbox hb; have n0_ := Aside0.mk (below_step bw_ hb); have n1_ := Aside0.mk (hbox); have n2_ := Aside0.mk ((by rw [hg]; exact (below_size bw_) : w.heap.size ≤ gb260)); have n3_ := Aside0.mk ((by rw [hg]; exact (below_size bw_) : w.heap.size ≤ gb260)); clear HB; have HB := n0_; have BK260 := n1_; have GW260 := n2_; have GE260 := n3_; clear n0_ n1_ n2_ n3_; clear hb hbox hg; have hcz15_0 : w14.cell? ⟨gb260, 0, none⟩ = some (.string (⟨#[]⟩ : ByteArray)) := (blk_cell BK260.out 0).trans rfl; have hcz15_1 : w14.cell? ⟨gb260, 1, none⟩ = some (.int .i64 0) := (blk_cell BK260.out 1).trans rfl; have hcz15_2 : w14.cell? ⟨gb260, 2, none⟩ = some (.int .i64 0) := (blk_cell BK260.out 2).trans rfl; have hfz15_0 := blk_frozen BK260.out 0; have hfz15_1 := blk_frozen BK260.out 1; have hfz15_2 := blk_frozen BK260.out 2))
            have n0_ : Aside0 ((((w14.setCell ⟨gb260, 0, none⟩ (.string ((rd_T53 l0 x10_1).f0))).setCell ⟨gb260, 1, none⟩ (.int .i64 ((rd_T53 l0 x10_1).f1))).setCell ⟨gb260, 2, none⟩ (.int .i64 ((rd_T53 l0 x10_1).f2))).heap[gb260]? = some (.cells #[.string ((rd_T53 l0 x10_1).f0), .int .i64 ((rd_T53 l0 x10_1).f1), .int .i64 ((rd_T53 l0 x10_1).f2)] 53 (0, 0))) := ⟨by (with_reducible repeat (first | refine blk_drewN ?_ _ | refine blk_drew ?_ | refine blk_alloc ?_ _)); refine blk_put (cs := #[.string ((rd_T53 l0 x10_1).f0), .int .i64 ((rd_T53 l0 x10_1).f1), .int .i64 0]) ?_ 2 _ rfl; (with_reducible repeat (first | refine blk_drewN ?_ _ | refine blk_drew ?_ | refine blk_alloc ?_ _)); refine blk_put (cs := #[.string ((rd_T53 l0 x10_1).f0), .int .i64 0, .int .i64 0]) ?_ 1 _ rfl; (with_reducible repeat (first | refine blk_drewN ?_ _ | refine blk_drew ?_ | refine blk_alloc ?_ _)); refine blk_put (cs := #[.string (⟨#[]⟩ : ByteArray), .int .i64 0, .int .i64 0]) ?_ 0 _ rfl; (with_reducible repeat (first | refine blk_drewN ?_ _ | refine blk_drew ?_ | refine blk_alloc ?_ _)); exact BK260.out⟩
            have n1_ : Aside0 (Below w.heap.size w (((w14.setCell ⟨gb260, 0, none⟩ (.string ((rd_T53 l0 x10_1).f0))).setCell ⟨gb260, 1, none⟩ (.int .i64 ((rd_T53 l0 x10_1).f1))).setCell ⟨gb260, 2, none⟩ (.int .i64 ((rd_T53 l0 x10_1).f2)))) := ⟨bw_⟩
            (try clear BK260)
            (try clear HB)
            generalize (((w14.setCell ⟨gb260, 0, none⟩ (.string ((rd_T53 l0 x10_1).f0))).setCell ⟨gb260, 1, none⟩ (.int .i64 ((rd_T53 l0 x10_1).f1))).setCell ⟨gb260, 2, none⟩ (.int .i64 ((rd_T53 l0 x10_1).f2))) = w16 at n0_ n1_ ⊢
            have BK260 := n0_
            have HB := n1_
            clear n0_ n1_
            have n0_ := Aside0.mk (blk_drew BK260.out)
            have n1_ := Aside0.mk (below_drew1 HB.out)
            clear BK260
            clear HB
            have BK260 := n0_
            have HB := n1_
            clear n0_ n1_
            have p262 : 0 ≤ ((ji9) : Int) := of_decide_eq_true as_
            have q262 : (ji9) < (l0.length : Int) := of_decide_eq_true as_
            obtain ⟨ad262, e262, hx262_0, hx262_1, hx262_2⟩ := at_T53 HR0.out (ji9) p262 q262
            have hw262_2 := hx262_2
            have hw262_1 := hx262_1
            have hw262_0 := hx262_0
            obtain rfl : ad259 = ad262 := (by injection e262)
            replace hx262_0 := (HB.out.cell (World.block_lt_of_cell? w _ hx262_0)).trans hx262_0
            replace hx262_1 := (HB.out.cell (World.block_lt_of_cell? w _ hx262_1)).trans hx262_1
            replace hx262_2 := (HB.out.cell (World.block_lt_of_cell? w _ hx262_2)).trans hx262_2
            replace p262 := eq_true p262
            replace q262 := eq_true q262
            refine start_ (n := 17) (S := fun w' => w'.cell? ⟨gb260, 0, none⟩ = some (.string ((rd_T53 l0 x10_1).f0)) ∧ w'.cell? ⟨gb260, 1, none⟩ = some (.int .i64 ((rd_T53 l0 x10_1).f1)) ∧ w'.cell? ⟨gb260, 2, none⟩ = some (.int .i64 ((rd_T53 l0 x10_1).f2)) ∧ w'.cell? (ad259.add (((ji9)).toNat * 3)) = some (.string ((rd_T53 l0 (ji9)).f0)) ∧ w'.cell? ⟨(ad259.add (((ji9)).toNat * 3)).block, (ad259.add (((ji9)).toNat * 3)).off + 1, none⟩ = some (.int .i64 ((rd_T53 l0 (ji9)).f1)) ∧ w'.cell? ⟨(ad259.add (((ji9)).toNat * 3)).block, (ad259.add (((ji9)).toNat * 3)).off + 2, none⟩ = some (.int .i64 ((rd_T53 l0 (ji9)).f2))) (ds := []) #[false, false, false, false, false, false, false, false, false, false, false, false, false, false, false, false, false] (by kernel_rfl) rfl rfl ⟨(blk_cell BK260.out 0).trans rfl, (blk_cell BK260.out 1).trans rfl, (blk_cell BK260.out 2).trans rfl, ((HB.out.cell (World.block_lt_of_cell? w _ hw262_0)).trans hw262_0), ((HB.out.cell (World.block_lt_of_cell? w _ hw262_1)).trans hw262_1), ((HB.out.cell (World.block_lt_of_cell? w _ hw262_2)).trans hw262_2)⟩ (fun hHeld => ?_); refine with_tabW impl_ValidTurns.tab6 impl_ValidTurns.bits6 (fun HT_ HW_ => ?_)
            generalize w16.drew = w17 at BK260 HB hx262_0 hx262_1 hx262_2 hHeld ⊢
            refine take_ (i := 0) (N := some 15) (v := ?_) (a' := ?_) #[true, false, false, false, false, false, false, false, false, false, false, false, false, false, false, false, false] rfl rfl (take_ofW HT_.out HW_.out (by kernel_rfl)) (fun _ _ _ h => h) (Or.inl ⟨by rfl, ?_⟩) hHeld ?_ ?_
            rotate_left
            ·rintro w' ⟨s0, s1, s2, s3, s4, s5⟩
             go_simp
             with_reducible rfl
            rotate_left
            ·simp only [Act.put, List.setIfInBounds_toArray, List.set_cons_zero, List.set_cons_succ, i64_w, i32_w]
             rfl
            refine one_ (i := 1) (N := some 16) #[true, true, false, false, false, false, false, false, false, false, false, false, false, false, false, false, false] rfl rfl (one_of HT_.out (by kernel_rfl)) (by decide) (fun K hK => ?_)
            refine goes_ Try.func36 (by kernel_rfl) rfl #[.agg #[.string ((rd_T53 l0 x10_1).f0), .int .i64 ((rd_T53 l0 x10_1).f1), .int .i64 ((rd_T53 l0 x10_1).f2)]] (by rfl) rfl rfl ma_ ?_
            with_reducible refine (impl_Turn_valid.calls k1 ((rd_T53 l0 x10_1).f0) ((rd_T53 l0 x10_1).f1) ((rd_T53 l0 x10_1).f2) true _ A6.out).mono ?_
            rintro e w18 ⟨rfl, hb⟩
            refine ⟨_, rfl, ?_⟩
            have n0_ := Aside0.mk (blk_below (g := gb260) (o := .cells #[.string ((rd_T53 l0 x10_1).f0), .int .i64 ((rd_T53 l0 x10_1).f1), .int .i64 ((rd_T53 l0 x10_1).f2)] 53 (0, 0)) (bk_ BK260.out) hb)
            have n1_ := Aside0.mk (below_step bw_ hb)
            clear BK260
            clear HB
            have BK260 := n0_
            have HB := n1_
            clear n0_ n1_
            (try clear hb)
            (try clear hb2)
            (try clear hk)
            (try clear hi)
            refine hK.out _ _ ⟨(blk_cell BK260.out 0).trans rfl, (blk_cell BK260.out 1).trans rfl, (blk_cell BK260.out 2).trans rfl, ((HB.out.cell (World.block_lt_of_cell? w _ hw262_0)).trans hw262_0), ((HB.out.cell (World.block_lt_of_cell? w _ hw262_1)).trans hw262_1), ((HB.out.cell (World.block_lt_of_cell? w _ hw262_2)).trans hw262_2)⟩ (fun hHeld => ?_)
            clear hK K
            refine norm_ (a' := ?_) ?_ ?_
            rotate_left
            ·show Act.put _ (some 16) _ = _
             simp only [Act.put, List.setIfInBounds_toArray, List.set_cons_zero, List.set_cons_succ, i64_w, i32_w]
             rfl
            refine pure_ (i := 2) (N := some 17) (v := ?_) (a' := ?_) #[true, true, true, false, false, false, false, false, false, false, false, false, false, false, false, false, false] rfl rfl (any_of HT_.out (by kernel_rfl)) (fun _ _ _ h => h) (Or.inl ⟨by rfl, ?_⟩) ?_ ?_
            rotate_left
            ·intro w'
             go_simp
             with_reducible rfl
            rotate_left
            ·simp only [Act.put, List.setIfInBounds_toArray, List.set_cons_zero, List.set_cons_succ, i64_w, i32_w]
             rfl
            refine pure_ (i := 3) (N := some 18) (v := ?_) (a' := ?_) #[true, true, true, true, false, false, false, false, false, false, false, false, false, false, false, false, false] rfl rfl (any_of HT_.out (by kernel_rfl)) (fun _ _ _ h => h) (Or.inl ⟨by rfl, ?_⟩) ?_ ?_
            rotate_left
            ·intro w'
             go_simp
             with_reducible rfl
            rotate_left
            ·simp only [Act.put, List.setIfInBounds_toArray, List.set_cons_zero, List.set_cons_succ, i64_w, i32_w]
             rfl
            refine pure_ (i := 4) (N := some 19) (v := ?_) (a' := ?_) #[true, true, true, true, true, false, false, false, false, false, false, false, false, false, false, false, false] rfl rfl (any_of HT_.out (by kernel_rfl)) (fun _ _ _ h => h) (Or.inl ⟨by rfl, ?_⟩) ?_ ?_
            rotate_left
            ·intro w'
             go_simp
             with_reducible rfl
            rotate_left
            ·simp only [Act.put, List.setIfInBounds_toArray, List.set_cons_zero, List.set_cons_succ, i64_w, i32_w]
             rfl
            refine pure_ (i := 5) (N := some 20) (v := ?_) (a' := ?_) #[true, true, true, true, true, true, false, false, false, false, false, false, false, false, false, false, false] rfl rfl (any_of HT_.out (by kernel_rfl)) (fun _ _ _ h => h) (Or.inl ⟨by rfl, ?_⟩) ?_ ?_
            rotate_left
            ·intro w'
             go_simp
             with_reducible rfl
            rotate_left
            ·simp only [Act.put, List.setIfInBounds_toArray, List.set_cons_zero, List.set_cons_succ, i64_w, i32_w]
             rfl
            refine pure_ (i := 6) (N := some 21) (v := ?_) (a' := ?_) #[true, true, true, true, true, true, true, false, false, false, false, false, false, false, false, false, false] rfl rfl (any_of HT_.out (by kernel_rfl)) (fun _ _ _ h => h) (Or.inl ⟨by rfl, ?_⟩) ?_ ?_
            rotate_left
            ·intro w'
             go_simp
             with_reducible rfl
            rotate_left
            ·simp only [Act.put, List.setIfInBounds_toArray, List.set_cons_zero, List.set_cons_succ, i64_w, i32_w]
             rfl
            refine pure_ (i := 7) (N := some 22) (v := ?_) (a' := ?_) #[true, true, true, true, true, true, true, true, false, false, false, false, false, false, false, false, false] rfl rfl (any_of HT_.out (by kernel_rfl)) (fun _ _ _ h => h) (Or.inl ⟨by rfl, ?_⟩) ?_ ?_
            rotate_left
            ·intro w'
             go_simp
             with_reducible rfl
            rotate_left
            ·simp only [Act.put, List.setIfInBounds_toArray, List.set_cons_zero, List.set_cons_succ, i64_w, i32_w]
             rfl
            refine pure_ (i := 8) (N := some 23) (v := ?_) (a' := ?_) #[true, true, true, true, true, true, true, true, true, false, false, false, false, false, false, false, false] rfl rfl (any_of HT_.out (by kernel_rfl)) (fun _ _ _ h => h) (Or.inl ⟨by rfl, ?_⟩) ?_ ?_
            rotate_left
            ·intro w'
             go_simp
             with_reducible rfl
            rotate_left
            ·simp only [Act.put, List.setIfInBounds_toArray, List.set_cons_zero, List.set_cons_succ, i64_w, i32_w]
             rfl
            refine pure_ (i := 9) (N := some 24) (v := ?_) (a' := ?_) #[true, true, true, true, true, true, true, true, true, true, false, false, false, false, false, false, false] rfl rfl (any_of HT_.out (by kernel_rfl)) (fun _ _ _ h => h) (Or.inl ⟨by rfl, ?_⟩) ?_ ?_
            rotate_left
            ·intro w'
             go_simp
             with_reducible rfl
            rotate_left
            ·simp only [Act.put, List.setIfInBounds_toArray, List.set_cons_zero, List.set_cons_succ, i64_w, i32_w]
             rfl
            refine pure_ (i := 10) (N := some 25) (v := ?_) (a' := ?_) #[true, true, true, true, true, true, true, true, true, true, true, false, false, false, false, false, false] rfl rfl (any_of HT_.out (by kernel_rfl)) (fun _ _ _ h => h) (Or.inl ⟨by rfl, ?_⟩) ?_ ?_
            rotate_left
            ·intro w'
             go_simp
             with_reducible rfl
            rotate_left
            ·simp only [Act.put, List.setIfInBounds_toArray, List.set_cons_zero, List.set_cons_succ, i64_w, i32_w]
             rfl
            refine take_ (i := 11) (N := some 26) (v := ?_) (a' := ?_) #[true, true, true, true, true, true, true, true, true, true, true, true, false, false, false, false, false] rfl rfl (take_ofW HT_.out HW_.out (by kernel_rfl)) (fun _ _ _ h => h) (Or.inl ⟨by rfl, ?_⟩) hHeld ?_ ?_
            rotate_left
            ·rintro w' ⟨s0, s1, s2, s3, s4, s5⟩
             go_simp
             with_reducible rfl
            rotate_left
            ·simp only [Act.put, List.setIfInBounds_toArray, List.set_cons_zero, List.set_cons_succ, i64_w, i32_w]
             rfl
            refine take_ (i := 12) (N := some 27) (v := ?_) (a' := ?_) #[true, true, true, true, true, true, true, true, true, true, true, true, true, false, false, false, false] rfl rfl (take_ofW HT_.out HW_.out (by kernel_rfl)) (fun _ _ _ h => h) (Or.inl ⟨by rfl, ?_⟩) hHeld ?_ ?_
            rotate_left
            ·rintro w' ⟨s0, s1, s2, s3, s4, s5⟩
             go_simp
             with_reducible rfl
            rotate_left
            ·simp only [Act.put, List.setIfInBounds_toArray, List.set_cons_zero, List.set_cons_succ, i64_w, i32_w]
             rfl
            refine one_ (i := 13) (N := some 28) #[true, true, true, true, true, true, true, true, true, true, true, true, true, true, false, false, false] rfl rfl (one_of HT_.out (by kernel_rfl)) (by decide) (fun K hK => ?_)
            refine goes_ Try.func38 (by kernel_rfl) rfl #[.agg #[.string ((rd_T53 l0 (ji9)).f0), .int .i64 ((rd_T53 l0 (ji9)).f1), .int .i64 ((rd_T53 l0 (ji9)).f2)], .agg #[.string ((rd_T53 l0 x10_1).f0), .int .i64 ((rd_T53 l0 x10_1).f1), .int .i64 ((rd_T53 l0 x10_1).f2)]] (by rfl) rfl rfl (by (try simp only [List.map_toArray, List.map_cons, List.map_nil]); first | done | (simp only [hji9]; rfl) | rfl | (simp only [List.length_drop, List.length_take]; rfl)) ?_
            with_reducible refine (impl_compareTurns.calls k1 ((rd_T53 l0 (ji9)).f0) ((rd_T53 l0 (ji9)).f1) ((rd_T53 l0 (ji9)).f2) ((rd_T53 l0 x10_1).f0) ((rd_T53 l0 x10_1).f1) ((rd_T53 l0 x10_1).f2) t263 _ A12.out).mono ?_
            rintro e w19 ⟨rfl, hb⟩
            refine ⟨_, rfl, ?_⟩
            have n0_ := Aside0.mk (blk_below (g := gb260) (o := .cells #[.string ((rd_T53 l0 x10_1).f0), .int .i64 ((rd_T53 l0 x10_1).f1), .int .i64 ((rd_T53 l0 x10_1).f2)] 53 (0, 0)) (bk_ BK260.out) hb)
            have n1_ := Aside0.mk (below_step bw_ hb)
            clear BK260
            clear HB
            have BK260 := n0_
            have HB := n1_
            clear n0_ n1_
            (try clear hb)
            (try clear hb2)
            (try clear hk)
            (try clear hi)
            refine hK.out _ _ ⟨(blk_cell BK260.out 0).trans rfl, (blk_cell BK260.out 1).trans rfl, (blk_cell BK260.out 2).trans rfl, ((HB.out.cell (World.block_lt_of_cell? w _ hw262_0)).trans hw262_0), ((HB.out.cell (World.block_lt_of_cell? w _ hw262_1)).trans hw262_1), ((HB.out.cell (World.block_lt_of_cell? w _ hw262_2)).trans hw262_2)⟩ (fun hHeld => ?_)
            clear hK K
            refine norm_ (a' := ?_) ?_ ?_
            rotate_left
            ·show Act.put _ (some 28) _ = _
             simp only [Act.put, List.setIfInBounds_toArray, List.set_cons_zero, List.set_cons_succ, i64_w, i32_w]
             rfl
            refine pure_ (i := 14) (N := some 29) (v := ?_) (a' := ?_) #[true, true, true, true, true, true, true, true, true, true, true, true, true, true, true, false, false] rfl rfl (any_of HT_.out (by kernel_rfl)) (fun _ _ _ h => h) (Or.inl ⟨by rfl, ?_⟩) ?_ ?_
            rotate_left
            ·intro w'
             go_simp
             with_reducible rfl
            rotate_left
            ·simp only [Act.put, List.setIfInBounds_toArray, List.set_cons_zero, List.set_cons_succ, i64_w, i32_w]
             rfl
            refine pure_ (i := 15) (N := some 30) (v := ?_) (a' := ?_) #[true, true, true, true, true, true, true, true, true, true, true, true, true, true, true, true, false] rfl rfl (any_of HT_.out (by kernel_rfl)) (fun _ _ _ h => h) (Or.inl ⟨by rfl, ?_⟩) ?_ ?_
            rotate_left
            ·intro w'
             go_simp
             with_reducible rfl
            rotate_left
            ·simp only [Act.put, List.setIfInBounds_toArray, List.set_cons_zero, List.set_cons_succ, i64_w, i32_w]
             rfl
            refine pure_ (i := 16) (N := some 31) (v := ?_) (a' := ?_) #[true, true, true, true, true, true, true, true, true, true, true, true, true, true, true, true, true] rfl rfl (any_of HT_.out (by kernel_rfl)) (fun _ _ _ h => h) (Or.inl ⟨by rfl, ?_⟩) ?_ ?_
            rotate_left
            ·intro w'
             go_simp
             with_reducible rfl
            rotate_left
            ·simp only [Act.put, List.setIfInBounds_toArray, List.set_cons_zero, List.set_cons_succ, i64_w, i32_w]
             rfl
            refine done_ (done_of HT_.out (by kernel_rfl)) ?_
            try go_wp2
            go_ret
            exact ⟨by first | rfl | (simp [errW_none, errW_some] <;> rfl) | (simp only [← hji9]; first | rfl | (simp [errW_none, errW_some] <;> rfl)) | (simp [*, errW_none, errW_some] <;> rfl), bw_⟩
           ·rw [if_neg c13] at H
            have c13b0 : decide (0 ≤ t263) = false := decide_eq_false c13
            clear c13
            have H' := Aside0.mk H
            clear H
            have p259 : 0 ≤ (x10_1 : Int) := of_decide_eq_true as_
            have q259 : x10_1 < (l0.length : Int) := of_decide_eq_true as_
            obtain ⟨ad259, e259, hx259_0, hx259_1, hx259_2⟩ := at_T53 HR0.out x10_1 p259 q259
            cases e259
            replace hx259_0 := (HB.out.cell (World.block_lt_of_cell? w _ hx259_0)).trans hx259_0
            replace hx259_1 := (HB.out.cell (World.block_lt_of_cell? w _ hx259_1)).trans hx259_1
            replace hx259_2 := (HB.out.cell (World.block_lt_of_cell? w _ hx259_2)).trans hx259_2
            replace p259 := eq_true p259
            replace q259 := eq_true q259
            try go_wp2_with (first | ((with_reducible refine gate_dst (N := 4) rfl ?_); refine box_event ?hg (N := 4) ?hd (cs := #[.string (⟨#[]⟩ : ByteArray), .int .i64 0, .int .i64 0]) (t := 53) ?hr ?_; (case hd => rfl); (case hg => rfl); (case hr => first | (go_simp; done) | (go_simp; rfl)); intro gb260 hg w20 hbox hb; have n0_ := Aside0.mk (below_step bw_ hb); have n1_ := Aside0.mk (hbox); have n2_ := Aside0.mk ((by rw [hg]; exact (below_size bw_) : w.heap.size ≤ gb260)); have n3_ := Aside0.mk ((by rw [hg]; exact (below_size bw_) : w.heap.size ≤ gb260)); clear HB; have HB := n0_; have BK260 := n1_; have GW260 := n2_; have GE260 := n3_; clear n0_ n1_ n2_ n3_; clear hb hbox hg; have hcz21_0 : w20.cell? ⟨gb260, 0, none⟩ = some (.string (⟨#[]⟩ : ByteArray)) := (blk_cell BK260.out 0).trans rfl; have hcz21_1 : w20.cell? ⟨gb260, 1, none⟩ = some (.int .i64 0) := (blk_cell BK260.out 1).trans rfl; have hcz21_2 : w20.cell? ⟨gb260, 2, none⟩ = some (.int .i64 0) := (blk_cell BK260.out 2).trans rfl; have hfz21_0 := blk_frozen BK260.out 0; have hfz21_1 := blk_frozen BK260.out 1; have hfz21_2 := blk_frozen BK260.out 2))
            have n0_ : Aside0 ((((w20.setCell ⟨gb260, 0, none⟩ (.string ((rd_T53 l0 x10_1).f0))).setCell ⟨gb260, 1, none⟩ (.int .i64 ((rd_T53 l0 x10_1).f1))).setCell ⟨gb260, 2, none⟩ (.int .i64 ((rd_T53 l0 x10_1).f2))).heap[gb260]? = some (.cells #[.string ((rd_T53 l0 x10_1).f0), .int .i64 ((rd_T53 l0 x10_1).f1), .int .i64 ((rd_T53 l0 x10_1).f2)] 53 (0, 0))) := ⟨by (with_reducible repeat (first | refine blk_drewN ?_ _ | refine blk_drew ?_ | refine blk_alloc ?_ _)); refine blk_put (cs := #[.string ((rd_T53 l0 x10_1).f0), .int .i64 ((rd_T53 l0 x10_1).f1), .int .i64 0]) ?_ 2 _ rfl; (with_reducible repeat (first | refine blk_drewN ?_ _ | refine blk_drew ?_ | refine blk_alloc ?_ _)); refine blk_put (cs := #[.string ((rd_T53 l0 x10_1).f0), .int .i64 0, .int .i64 0]) ?_ 1 _ rfl; (with_reducible repeat (first | refine blk_drewN ?_ _ | refine blk_drew ?_ | refine blk_alloc ?_ _)); refine blk_put (cs := #[.string (⟨#[]⟩ : ByteArray), .int .i64 0, .int .i64 0]) ?_ 0 _ rfl; (with_reducible repeat (first | refine blk_drewN ?_ _ | refine blk_drew ?_ | refine blk_alloc ?_ _)); exact BK260.out⟩
            have n1_ : Aside0 (Below w.heap.size w (((w20.setCell ⟨gb260, 0, none⟩ (.string ((rd_T53 l0 x10_1).f0))).setCell ⟨gb260, 1, none⟩ (.int .i64 ((rd_T53 l0 x10_1).f1))).setCell ⟨gb260, 2, none⟩ (.int .i64 ((rd_T53 l0 x10_1).f2)))) := ⟨bw_⟩
            (try clear BK260)
            (try clear HB)
            generalize (((w20.setCell ⟨gb260, 0, none⟩ (.string ((rd_T53 l0 x10_1).f0))).setCell ⟨gb260, 1, none⟩ (.int .i64 ((rd_T53 l0 x10_1).f1))).setCell ⟨gb260, 2, none⟩ (.int .i64 ((rd_T53 l0 x10_1).f2))) = w22 at n0_ n1_ ⊢
            have BK260 := n0_
            have HB := n1_
            clear n0_ n1_
            have n0_ := Aside0.mk (blk_drew BK260.out)
            have n1_ := Aside0.mk (below_drew1 HB.out)
            clear BK260
            clear HB
            have BK260 := n0_
            have HB := n1_
            clear n0_ n1_
            have p262 : 0 ≤ ((ji9) : Int) := of_decide_eq_true as_
            have q262 : (ji9) < (l0.length : Int) := of_decide_eq_true as_
            obtain ⟨ad262, e262, hx262_0, hx262_1, hx262_2⟩ := at_T53 HR0.out (ji9) p262 q262
            have hw262_2 := hx262_2
            have hw262_1 := hx262_1
            have hw262_0 := hx262_0
            obtain rfl : ad259 = ad262 := (by injection e262)
            replace hx262_0 := (HB.out.cell (World.block_lt_of_cell? w _ hx262_0)).trans hx262_0
            replace hx262_1 := (HB.out.cell (World.block_lt_of_cell? w _ hx262_1)).trans hx262_1
            replace hx262_2 := (HB.out.cell (World.block_lt_of_cell? w _ hx262_2)).trans hx262_2
            replace p262 := eq_true p262
            replace q262 := eq_true q262
            refine start_ (n := 17) (S := fun w' => w'.cell? ⟨gb260, 0, none⟩ = some (.string ((rd_T53 l0 x10_1).f0)) ∧ w'.cell? ⟨gb260, 1, none⟩ = some (.int .i64 ((rd_T53 l0 x10_1).f1)) ∧ w'.cell? ⟨gb260, 2, none⟩ = some (.int .i64 ((rd_T53 l0 x10_1).f2)) ∧ w'.cell? (ad259.add (((ji9)).toNat * 3)) = some (.string ((rd_T53 l0 (ji9)).f0)) ∧ w'.cell? ⟨(ad259.add (((ji9)).toNat * 3)).block, (ad259.add (((ji9)).toNat * 3)).off + 1, none⟩ = some (.int .i64 ((rd_T53 l0 (ji9)).f1)) ∧ w'.cell? ⟨(ad259.add (((ji9)).toNat * 3)).block, (ad259.add (((ji9)).toNat * 3)).off + 2, none⟩ = some (.int .i64 ((rd_T53 l0 (ji9)).f2))) (ds := []) #[false, false, false, false, false, false, false, false, false, false, false, false, false, false, false, false, false] (by kernel_rfl) rfl rfl ⟨(blk_cell BK260.out 0).trans rfl, (blk_cell BK260.out 1).trans rfl, (blk_cell BK260.out 2).trans rfl, ((HB.out.cell (World.block_lt_of_cell? w _ hw262_0)).trans hw262_0), ((HB.out.cell (World.block_lt_of_cell? w _ hw262_1)).trans hw262_1), ((HB.out.cell (World.block_lt_of_cell? w _ hw262_2)).trans hw262_2)⟩ (fun hHeld => ?_); refine with_tabW impl_ValidTurns.tab6 impl_ValidTurns.bits6 (fun HT_ HW_ => ?_)
            generalize w22.drew = w23 at BK260 HB hx262_0 hx262_1 hx262_2 hHeld ⊢
            refine take_ (i := 0) (N := some 15) (v := ?_) (a' := ?_) #[true, false, false, false, false, false, false, false, false, false, false, false, false, false, false, false, false] rfl rfl (take_ofW HT_.out HW_.out (by kernel_rfl)) (fun _ _ _ h => h) (Or.inl ⟨by rfl, ?_⟩) hHeld ?_ ?_
            rotate_left
            ·rintro w' ⟨s0, s1, s2, s3, s4, s5⟩
             go_simp
             with_reducible rfl
            rotate_left
            ·simp only [Act.put, List.setIfInBounds_toArray, List.set_cons_zero, List.set_cons_succ, i64_w, i32_w]
             rfl
            refine one_ (i := 1) (N := some 16) #[true, true, false, false, false, false, false, false, false, false, false, false, false, false, false, false, false] rfl rfl (one_of HT_.out (by kernel_rfl)) (by decide) (fun K hK => ?_)
            refine goes_ Try.func36 (by kernel_rfl) rfl #[.agg #[.string ((rd_T53 l0 x10_1).f0), .int .i64 ((rd_T53 l0 x10_1).f1), .int .i64 ((rd_T53 l0 x10_1).f2)]] (by rfl) rfl rfl ma_ ?_
            with_reducible refine (impl_Turn_valid.calls k1 ((rd_T53 l0 x10_1).f0) ((rd_T53 l0 x10_1).f1) ((rd_T53 l0 x10_1).f2) true _ A6.out).mono ?_
            rintro e w24 ⟨rfl, hb⟩
            refine ⟨_, rfl, ?_⟩
            have n0_ := Aside0.mk (blk_below (g := gb260) (o := .cells #[.string ((rd_T53 l0 x10_1).f0), .int .i64 ((rd_T53 l0 x10_1).f1), .int .i64 ((rd_T53 l0 x10_1).f2)] 53 (0, 0)) (bk_ BK260.out) hb)
            have n1_ := Aside0.mk (below_step bw_ hb)
            clear BK260
            clear HB
            have BK260 := n0_
            have HB := n1_
            clear n0_ n1_
            (try clear hb)
            (try clear hb2)
            (try clear hk)
            (try clear hi)
            refine hK.out _ _ ⟨(blk_cell BK260.out 0).trans rfl, (blk_cell BK260.out 1).trans rfl, (blk_cell BK260.out 2).trans rfl, ((HB.out.cell (World.block_lt_of_cell? w _ hw262_0)).trans hw262_0), ((HB.out.cell (World.block_lt_of_cell? w _ hw262_1)).trans hw262_1), ((HB.out.cell (World.block_lt_of_cell? w _ hw262_2)).trans hw262_2)⟩ (fun hHeld => ?_)
            clear hK K
            refine norm_ (a' := ?_) ?_ ?_
            rotate_left
            ·show Act.put _ (some 16) _ = _
             simp only [Act.put, List.setIfInBounds_toArray, List.set_cons_zero, List.set_cons_succ, i64_w, i32_w]
             rfl
            refine pure_ (i := 2) (N := some 17) (v := ?_) (a' := ?_) #[true, true, true, false, false, false, false, false, false, false, false, false, false, false, false, false, false] rfl rfl (any_of HT_.out (by kernel_rfl)) (fun _ _ _ h => h) (Or.inl ⟨by rfl, ?_⟩) ?_ ?_
            rotate_left
            ·intro w'
             go_simp
             with_reducible rfl
            rotate_left
            ·simp only [Act.put, List.setIfInBounds_toArray, List.set_cons_zero, List.set_cons_succ, i64_w, i32_w]
             rfl
            refine pure_ (i := 3) (N := some 18) (v := ?_) (a' := ?_) #[true, true, true, true, false, false, false, false, false, false, false, false, false, false, false, false, false] rfl rfl (any_of HT_.out (by kernel_rfl)) (fun _ _ _ h => h) (Or.inl ⟨by rfl, ?_⟩) ?_ ?_
            rotate_left
            ·intro w'
             go_simp
             with_reducible rfl
            rotate_left
            ·simp only [Act.put, List.setIfInBounds_toArray, List.set_cons_zero, List.set_cons_succ, i64_w, i32_w]
             rfl
            refine pure_ (i := 4) (N := some 19) (v := ?_) (a' := ?_) #[true, true, true, true, true, false, false, false, false, false, false, false, false, false, false, false, false] rfl rfl (any_of HT_.out (by kernel_rfl)) (fun _ _ _ h => h) (Or.inl ⟨by rfl, ?_⟩) ?_ ?_
            rotate_left
            ·intro w'
             go_simp
             with_reducible rfl
            rotate_left
            ·simp only [Act.put, List.setIfInBounds_toArray, List.set_cons_zero, List.set_cons_succ, i64_w, i32_w]
             rfl
            refine pure_ (i := 5) (N := some 20) (v := ?_) (a' := ?_) #[true, true, true, true, true, true, false, false, false, false, false, false, false, false, false, false, false] rfl rfl (any_of HT_.out (by kernel_rfl)) (fun _ _ _ h => h) (Or.inl ⟨by rfl, ?_⟩) ?_ ?_
            rotate_left
            ·intro w'
             go_simp
             with_reducible rfl
            rotate_left
            ·simp only [Act.put, List.setIfInBounds_toArray, List.set_cons_zero, List.set_cons_succ, i64_w, i32_w]
             rfl
            refine pure_ (i := 6) (N := some 21) (v := ?_) (a' := ?_) #[true, true, true, true, true, true, true, false, false, false, false, false, false, false, false, false, false] rfl rfl (any_of HT_.out (by kernel_rfl)) (fun _ _ _ h => h) (Or.inl ⟨by rfl, ?_⟩) ?_ ?_
            rotate_left
            ·intro w'
             go_simp
             with_reducible rfl
            rotate_left
            ·simp only [Act.put, List.setIfInBounds_toArray, List.set_cons_zero, List.set_cons_succ, i64_w, i32_w]
             rfl
            refine pure_ (i := 7) (N := some 22) (v := ?_) (a' := ?_) #[true, true, true, true, true, true, true, true, false, false, false, false, false, false, false, false, false] rfl rfl (any_of HT_.out (by kernel_rfl)) (fun _ _ _ h => h) (Or.inl ⟨by rfl, ?_⟩) ?_ ?_
            rotate_left
            ·intro w'
             go_simp
             with_reducible rfl
            rotate_left
            ·simp only [Act.put, List.setIfInBounds_toArray, List.set_cons_zero, List.set_cons_succ, i64_w, i32_w]
             rfl
            refine pure_ (i := 8) (N := some 23) (v := ?_) (a' := ?_) #[true, true, true, true, true, true, true, true, true, false, false, false, false, false, false, false, false] rfl rfl (any_of HT_.out (by kernel_rfl)) (fun _ _ _ h => h) (Or.inl ⟨by rfl, ?_⟩) ?_ ?_
            rotate_left
            ·intro w'
             go_simp
             with_reducible rfl
            rotate_left
            ·simp only [Act.put, List.setIfInBounds_toArray, List.set_cons_zero, List.set_cons_succ, i64_w, i32_w]
             rfl
            refine pure_ (i := 9) (N := some 24) (v := ?_) (a' := ?_) #[true, true, true, true, true, true, true, true, true, true, false, false, false, false, false, false, false] rfl rfl (any_of HT_.out (by kernel_rfl)) (fun _ _ _ h => h) (Or.inl ⟨by rfl, ?_⟩) ?_ ?_
            rotate_left
            ·intro w'
             go_simp
             with_reducible rfl
            rotate_left
            ·simp only [Act.put, List.setIfInBounds_toArray, List.set_cons_zero, List.set_cons_succ, i64_w, i32_w]
             rfl
            refine pure_ (i := 10) (N := some 25) (v := ?_) (a' := ?_) #[true, true, true, true, true, true, true, true, true, true, true, false, false, false, false, false, false] rfl rfl (any_of HT_.out (by kernel_rfl)) (fun _ _ _ h => h) (Or.inl ⟨by rfl, ?_⟩) ?_ ?_
            rotate_left
            ·intro w'
             go_simp
             with_reducible rfl
            rotate_left
            ·simp only [Act.put, List.setIfInBounds_toArray, List.set_cons_zero, List.set_cons_succ, i64_w, i32_w]
             rfl
            refine take_ (i := 11) (N := some 26) (v := ?_) (a' := ?_) #[true, true, true, true, true, true, true, true, true, true, true, true, false, false, false, false, false] rfl rfl (take_ofW HT_.out HW_.out (by kernel_rfl)) (fun _ _ _ h => h) (Or.inl ⟨by rfl, ?_⟩) hHeld ?_ ?_
            rotate_left
            ·rintro w' ⟨s0, s1, s2, s3, s4, s5⟩
             go_simp
             with_reducible rfl
            rotate_left
            ·simp only [Act.put, List.setIfInBounds_toArray, List.set_cons_zero, List.set_cons_succ, i64_w, i32_w]
             rfl
            refine take_ (i := 12) (N := some 27) (v := ?_) (a' := ?_) #[true, true, true, true, true, true, true, true, true, true, true, true, true, false, false, false, false] rfl rfl (take_ofW HT_.out HW_.out (by kernel_rfl)) (fun _ _ _ h => h) (Or.inl ⟨by rfl, ?_⟩) hHeld ?_ ?_
            rotate_left
            ·rintro w' ⟨s0, s1, s2, s3, s4, s5⟩
             go_simp
             with_reducible rfl
            rotate_left
            ·simp only [Act.put, List.setIfInBounds_toArray, List.set_cons_zero, List.set_cons_succ, i64_w, i32_w]
             rfl
            refine one_ (i := 13) (N := some 28) #[true, true, true, true, true, true, true, true, true, true, true, true, true, true, false, false, false] rfl rfl (one_of HT_.out (by kernel_rfl)) (by decide) (fun K hK => ?_)
            refine goes_ Try.func38 (by kernel_rfl) rfl #[.agg #[.string ((rd_T53 l0 (ji9)).f0), .int .i64 ((rd_T53 l0 (ji9)).f1), .int .i64 ((rd_T53 l0 (ji9)).f2)], .agg #[.string ((rd_T53 l0 x10_1).f0), .int .i64 ((rd_T53 l0 x10_1).f1), .int .i64 ((rd_T53 l0 x10_1).f2)]] (by rfl) rfl rfl (by (try simp only [List.map_toArray, List.map_cons, List.map_nil]); first | done | (simp only [hji9]; rfl) | rfl | (simp only [List.length_drop, List.length_take]; rfl)) ?_
            with_reducible refine (impl_compareTurns.calls k1 ((rd_T53 l0 (ji9)).f0) ((rd_T53 l0 (ji9)).f1) ((rd_T53 l0 (ji9)).f2) ((rd_T53 l0 x10_1).f0) ((rd_T53 l0 x10_1).f1) ((rd_T53 l0 x10_1).f2) t263 _ A12.out).mono ?_
            rintro e w25 ⟨rfl, hb⟩
            refine ⟨_, rfl, ?_⟩
            have n0_ := Aside0.mk (blk_below (g := gb260) (o := .cells #[.string ((rd_T53 l0 x10_1).f0), .int .i64 ((rd_T53 l0 x10_1).f1), .int .i64 ((rd_T53 l0 x10_1).f2)] 53 (0, 0)) (bk_ BK260.out) hb)
            have n1_ := Aside0.mk (below_step bw_ hb)
            clear BK260
            clear HB
            have BK260 := n0_
            have HB := n1_
            clear n0_ n1_
            (try clear hb)
            (try clear hb2)
            (try clear hk)
            (try clear hi)
            refine hK.out _ _ ⟨(blk_cell BK260.out 0).trans rfl, (blk_cell BK260.out 1).trans rfl, (blk_cell BK260.out 2).trans rfl, ((HB.out.cell (World.block_lt_of_cell? w _ hw262_0)).trans hw262_0), ((HB.out.cell (World.block_lt_of_cell? w _ hw262_1)).trans hw262_1), ((HB.out.cell (World.block_lt_of_cell? w _ hw262_2)).trans hw262_2)⟩ (fun hHeld => ?_)
            clear hK K
            refine norm_ (a' := ?_) ?_ ?_
            rotate_left
            ·show Act.put _ (some 28) _ = _
             simp only [Act.put, List.setIfInBounds_toArray, List.set_cons_zero, List.set_cons_succ, i64_w, i32_w]
             rfl
            refine pure_ (i := 14) (N := some 29) (v := ?_) (a' := ?_) #[true, true, true, true, true, true, true, true, true, true, true, true, true, true, true, false, false] rfl rfl (any_of HT_.out (by kernel_rfl)) (fun _ _ _ h => h) (Or.inl ⟨by rfl, ?_⟩) ?_ ?_
            rotate_left
            ·intro w'
             go_simp
             with_reducible rfl
            rotate_left
            ·simp only [Act.put, List.setIfInBounds_toArray, List.set_cons_zero, List.set_cons_succ, i64_w, i32_w]
             rfl
            refine pure_ (i := 15) (N := some 30) (v := ?_) (a' := ?_) #[true, true, true, true, true, true, true, true, true, true, true, true, true, true, true, true, false] rfl rfl (any_of HT_.out (by kernel_rfl)) (fun _ _ _ h => h) (Or.inl ⟨by rfl, ?_⟩) ?_ ?_
            rotate_left
            ·intro w'
             go_simp
             with_reducible rfl
            rotate_left
            ·simp only [Act.put, List.setIfInBounds_toArray, List.set_cons_zero, List.set_cons_succ, i64_w, i32_w]
             rfl
            refine pure_ (i := 16) (N := some 31) (v := ?_) (a' := ?_) #[true, true, true, true, true, true, true, true, true, true, true, true, true, true, true, true, true] rfl rfl (any_of HT_.out (by kernel_rfl)) (fun _ _ _ h => h) (Or.inl ⟨by rfl, ?_⟩) ?_ ?_
            rotate_left
            ·intro w'
             go_simp
             with_reducible rfl
            rotate_left
            ·simp only [Act.put, List.setIfInBounds_toArray, List.set_cons_zero, List.set_cons_succ, i64_w, i32_w]
             rfl
            refine done_ (done_of HT_.out (by kernel_rfl)) ?_
            try go_wp2
            go_roundg k1
            case measure => have := HK1.out; omega
            case rel => exact ⟨(wrap64 (x10_1 + 1)), rs_, H', ⟨by have := HK1.out; omega⟩, ⟨bw_⟩⟩
          ·rw [if_neg c11] at H
           exact absurd H (by simp)
         ·rw [if_neg c10] at H
          exact absurd H (by simp)
        ·rw [if_neg c8] at H
         have c8b0 : decide (0 < x10_1) = false := decide_eq_false c8
         clear c8
         have H' := Aside0.mk H
         clear H
         have p259 : 0 ≤ (x10_1 : Int) := of_decide_eq_true as_
         have q259 : x10_1 < (l0.length : Int) := of_decide_eq_true as_
         obtain ⟨ad259, e259, hx259_0, hx259_1, hx259_2⟩ := at_T53 HR0.out x10_1 p259 q259
         cases e259
         replace hx259_0 := (HB.out.cell (World.block_lt_of_cell? w _ hx259_0)).trans hx259_0
         replace hx259_1 := (HB.out.cell (World.block_lt_of_cell? w _ hx259_1)).trans hx259_1
         replace hx259_2 := (HB.out.cell (World.block_lt_of_cell? w _ hx259_2)).trans hx259_2
         replace p259 := eq_true p259
         replace q259 := eq_true q259
         try go_wp2_with (first | ((with_reducible refine gate_dst (N := 4) rfl ?_); refine box_event ?hg (N := 4) ?hd (cs := #[.string (⟨#[]⟩ : ByteArray), .int .i64 0, .int .i64 0]) (t := 53) ?hr ?_; (case hd => rfl); (case hg => rfl); (case hr => first | (go_simp; done) | (go_simp; rfl)); intro gb260 hg w26 hbox hb; have n0_ := Aside0.mk (below_step bw_ hb); have n1_ := Aside0.mk (hbox); have n2_ := Aside0.mk ((by rw [hg]; exact (below_size bw_) : w.heap.size ≤ gb260)); have n3_ := Aside0.mk ((by rw [hg]; exact (below_size bw_) : w.heap.size ≤ gb260)); clear HB; have HB := n0_; have BK260 := n1_; have GW260 := n2_; have GE260 := n3_; clear n0_ n1_ n2_ n3_; clear hb hbox hg; have hcz27_0 : w26.cell? ⟨gb260, 0, none⟩ = some (.string (⟨#[]⟩ : ByteArray)) := (blk_cell BK260.out 0).trans rfl; have hcz27_1 : w26.cell? ⟨gb260, 1, none⟩ = some (.int .i64 0) := (blk_cell BK260.out 1).trans rfl; have hcz27_2 : w26.cell? ⟨gb260, 2, none⟩ = some (.int .i64 0) := (blk_cell BK260.out 2).trans rfl; have hfz27_0 := blk_frozen BK260.out 0; have hfz27_1 := blk_frozen BK260.out 1; have hfz27_2 := blk_frozen BK260.out 2))
         have n0_ : Aside0 ((((w26.setCell ⟨gb260, 0, none⟩ (.string ((rd_T53 l0 x10_1).f0))).setCell ⟨gb260, 1, none⟩ (.int .i64 ((rd_T53 l0 x10_1).f1))).setCell ⟨gb260, 2, none⟩ (.int .i64 ((rd_T53 l0 x10_1).f2))).heap[gb260]? = some (.cells #[.string ((rd_T53 l0 x10_1).f0), .int .i64 ((rd_T53 l0 x10_1).f1), .int .i64 ((rd_T53 l0 x10_1).f2)] 53 (0, 0))) := ⟨by (with_reducible repeat (first | refine blk_drewN ?_ _ | refine blk_drew ?_ | refine blk_alloc ?_ _)); refine blk_put (cs := #[.string ((rd_T53 l0 x10_1).f0), .int .i64 ((rd_T53 l0 x10_1).f1), .int .i64 0]) ?_ 2 _ rfl; (with_reducible repeat (first | refine blk_drewN ?_ _ | refine blk_drew ?_ | refine blk_alloc ?_ _)); refine blk_put (cs := #[.string ((rd_T53 l0 x10_1).f0), .int .i64 0, .int .i64 0]) ?_ 1 _ rfl; (with_reducible repeat (first | refine blk_drewN ?_ _ | refine blk_drew ?_ | refine blk_alloc ?_ _)); refine blk_put (cs := #[.string (⟨#[]⟩ : ByteArray), .int .i64 0, .int .i64 0]) ?_ 0 _ rfl; (with_reducible repeat (first | refine blk_drewN ?_ _ | refine blk_drew ?_ | refine blk_alloc ?_ _)); exact BK260.out⟩
         have n1_ : Aside0 (Below w.heap.size w (((w26.setCell ⟨gb260, 0, none⟩ (.string ((rd_T53 l0 x10_1).f0))).setCell ⟨gb260, 1, none⟩ (.int .i64 ((rd_T53 l0 x10_1).f1))).setCell ⟨gb260, 2, none⟩ (.int .i64 ((rd_T53 l0 x10_1).f2)))) := ⟨bw_⟩
         (try clear BK260)
         (try clear HB)
         generalize (((w26.setCell ⟨gb260, 0, none⟩ (.string ((rd_T53 l0 x10_1).f0))).setCell ⟨gb260, 1, none⟩ (.int .i64 ((rd_T53 l0 x10_1).f1))).setCell ⟨gb260, 2, none⟩ (.int .i64 ((rd_T53 l0 x10_1).f2))) = w28 at n0_ n1_ ⊢
         have BK260 := n0_
         have HB := n1_
         clear n0_ n1_
         have n0_ := Aside0.mk (blk_drew BK260.out)
         have n1_ := Aside0.mk (below_drew1 HB.out)
         clear BK260
         clear HB
         have BK260 := n0_
         have HB := n1_
         clear n0_ n1_
         refine start_ (n := 17) (S := fun w' => w'.cell? ⟨gb260, 0, none⟩ = some (.string ((rd_T53 l0 x10_1).f0)) ∧ w'.cell? ⟨gb260, 1, none⟩ = some (.int .i64 ((rd_T53 l0 x10_1).f1)) ∧ w'.cell? ⟨gb260, 2, none⟩ = some (.int .i64 ((rd_T53 l0 x10_1).f2))) (ds := []) #[false, false, false, false, false, false, false, false, false, false, false, false, false, false, false, false, false] (by kernel_rfl) rfl rfl ⟨(blk_cell BK260.out 0).trans rfl, (blk_cell BK260.out 1).trans rfl, (blk_cell BK260.out 2).trans rfl⟩ (fun hHeld => ?_); refine with_tabW impl_ValidTurns.tab6 impl_ValidTurns.bits6 (fun HT_ HW_ => ?_)
         generalize w28.drew = w29 at BK260 HB hHeld ⊢
         refine take_ (i := 0) (N := some 15) (v := ?_) (a' := ?_) #[true, false, false, false, false, false, false, false, false, false, false, false, false, false, false, false, false] rfl rfl (take_ofW HT_.out HW_.out (by kernel_rfl)) (fun _ _ _ h => h) (Or.inl ⟨by rfl, ?_⟩) hHeld ?_ ?_
         rotate_left
         ·rintro w' ⟨s0, s1, s2⟩
          go_simp
          with_reducible rfl
         rotate_left
         ·simp only [Act.put, List.setIfInBounds_toArray, List.set_cons_zero, List.set_cons_succ, i64_w, i32_w]
          rfl
         refine one_ (i := 1) (N := some 16) #[true, true, false, false, false, false, false, false, false, false, false, false, false, false, false, false, false] rfl rfl (one_of HT_.out (by kernel_rfl)) (by decide) (fun K hK => ?_)
         refine goes_ Try.func36 (by kernel_rfl) rfl #[.agg #[.string ((rd_T53 l0 x10_1).f0), .int .i64 ((rd_T53 l0 x10_1).f1), .int .i64 ((rd_T53 l0 x10_1).f2)]] (by rfl) rfl rfl ma_ ?_
         with_reducible refine (impl_Turn_valid.calls k1 ((rd_T53 l0 x10_1).f0) ((rd_T53 l0 x10_1).f1) ((rd_T53 l0 x10_1).f2) true _ A6.out).mono ?_
         rintro e w30 ⟨rfl, hb⟩
         refine ⟨_, rfl, ?_⟩
         have n0_ := Aside0.mk (blk_below (g := gb260) (o := .cells #[.string ((rd_T53 l0 x10_1).f0), .int .i64 ((rd_T53 l0 x10_1).f1), .int .i64 ((rd_T53 l0 x10_1).f2)] 53 (0, 0)) (bk_ BK260.out) hb)
         have n1_ := Aside0.mk (below_step bw_ hb)
         clear BK260
         clear HB
         have BK260 := n0_
         have HB := n1_
         clear n0_ n1_
         (try clear hb)
         (try clear hb2)
         (try clear hk)
         (try clear hi)
         refine hK.out _ _ ⟨(blk_cell BK260.out 0).trans rfl, (blk_cell BK260.out 1).trans rfl, (blk_cell BK260.out 2).trans rfl⟩ (fun hHeld => ?_)
         clear hK K
         refine norm_ (a' := ?_) ?_ ?_
         rotate_left
         ·show Act.put _ (some 16) _ = _
          simp only [Act.put, List.setIfInBounds_toArray, List.set_cons_zero, List.set_cons_succ, i64_w, i32_w]
          rfl
         refine pure_ (i := 2) (N := some 17) (v := ?_) (a' := ?_) #[true, true, true, false, false, false, false, false, false, false, false, false, false, false, false, false, false] rfl rfl (any_of HT_.out (by kernel_rfl)) (fun _ _ _ h => h) (Or.inl ⟨by rfl, ?_⟩) ?_ ?_
         rotate_left
         ·intro w'
          go_simp
          with_reducible rfl
         rotate_left
         ·simp only [Act.put, List.setIfInBounds_toArray, List.set_cons_zero, List.set_cons_succ, i64_w, i32_w]
          rfl
         refine pure_ (i := 3) (N := some 18) (v := ?_) (a' := ?_) #[true, true, true, true, false, false, false, false, false, false, false, false, false, false, false, false, false] rfl rfl (any_of HT_.out (by kernel_rfl)) (fun _ _ _ h => h) (Or.inl ⟨by rfl, ?_⟩) ?_ ?_
         rotate_left
         ·intro w'
          go_simp
          with_reducible rfl
         rotate_left
         ·simp only [Act.put, List.setIfInBounds_toArray, List.set_cons_zero, List.set_cons_succ, i64_w, i32_w]
          rfl
         refine pure_ (i := 4) (N := some 19) (v := ?_) (a' := ?_) #[true, true, true, true, true, false, false, false, false, false, false, false, false, false, false, false, false] rfl rfl (any_of HT_.out (by kernel_rfl)) (fun _ _ _ h => h) (Or.inl ⟨by rfl, ?_⟩) ?_ ?_
         rotate_left
         ·intro w'
          go_simp
          with_reducible rfl
         rotate_left
         ·simp only [Act.put, List.setIfInBounds_toArray, List.set_cons_zero, List.set_cons_succ, i64_w, i32_w]
          rfl
         refine pure_ (i := 5) (N := some 20) (v := ?_) (a' := ?_) #[true, true, true, true, true, true, false, false, false, false, false, false, false, false, false, false, false] rfl rfl (any_of HT_.out (by kernel_rfl)) (fun _ _ _ h => h) (Or.inl ⟨by rfl, ?_⟩) ?_ ?_
         rotate_left
         ·intro w'
          go_simp
          with_reducible rfl
         rotate_left
         ·simp only [Act.put, List.setIfInBounds_toArray, List.set_cons_zero, List.set_cons_succ, i64_w, i32_w]
          rfl
         refine pure_ (i := 6) (N := some 21) (v := ?_) (a' := ?_) #[true, true, true, true, true, true, true, false, false, false, false, false, false, false, false, false, false] rfl rfl (any_of HT_.out (by kernel_rfl)) (fun _ _ _ h => h) (Or.inl ⟨by rfl, ?_⟩) ?_ ?_
         rotate_left
         ·intro w'
          go_simp
          with_reducible rfl
         rotate_left
         ·simp only [Act.put, List.setIfInBounds_toArray, List.set_cons_zero, List.set_cons_succ, i64_w, i32_w]
          rfl
         refine pure_ (i := 7) (N := some 22) (v := undef) (a' := ?_) #[true, true, true, true, true, true, true, true, false, false, false, false, false, false, false, false, false] rfl rfl (any_of HT_.out (by kernel_rfl)) (fun _ _ _ h => h) (Or.inr ⟨by rfl, rfl⟩) ?_ ?_
         rotate_left
         ·simp only [Act.put, List.setIfInBounds_toArray, List.set_cons_zero, List.set_cons_succ, i64_w, i32_w]
          rfl
         refine pure_ (i := 8) (N := some 23) (v := undef) (a' := ?_) #[true, true, true, true, true, true, true, true, true, false, false, false, false, false, false, false, false] rfl rfl (any_of HT_.out (by kernel_rfl)) (fun _ _ _ h => h) (Or.inr ⟨by rfl, rfl⟩) ?_ ?_
         rotate_left
         ·simp only [Act.put, List.setIfInBounds_toArray, List.set_cons_zero, List.set_cons_succ, i64_w, i32_w]
          rfl
         refine pure_ (i := 9) (N := some 24) (v := undef) (a' := ?_) #[true, true, true, true, true, true, true, true, true, true, false, false, false, false, false, false, false] rfl rfl (any_of HT_.out (by kernel_rfl)) (fun _ _ _ h => h) (Or.inr ⟨by rfl, rfl⟩) ?_ ?_
         rotate_left
         ·simp only [Act.put, List.setIfInBounds_toArray, List.set_cons_zero, List.set_cons_succ, i64_w, i32_w]
          rfl
         refine pure_ (i := 10) (N := some 25) (v := undef) (a' := ?_) #[true, true, true, true, true, true, true, true, true, true, true, false, false, false, false, false, false] rfl rfl (any_of HT_.out (by kernel_rfl)) (fun _ _ _ h => h) (Or.inr ⟨by rfl, rfl⟩) ?_ ?_
         rotate_left
         ·simp only [Act.put, List.setIfInBounds_toArray, List.set_cons_zero, List.set_cons_succ, i64_w, i32_w]
          rfl
         refine pure_ (i := 11) (N := some 26) (v := undef) (a' := ?_) #[true, true, true, true, true, true, true, true, true, true, true, true, false, false, false, false, false] rfl rfl (any_of HT_.out (by kernel_rfl)) (fun _ _ _ h => h) (Or.inr ⟨by rfl, rfl⟩) ?_ ?_
         rotate_left
         ·simp only [Act.put, List.setIfInBounds_toArray, List.set_cons_zero, List.set_cons_succ, i64_w, i32_w]
          rfl
         refine pure_ (i := 12) (N := some 27) (v := undef) (a' := ?_) #[true, true, true, true, true, true, true, true, true, true, true, true, true, false, false, false, false] rfl rfl (any_of HT_.out (by kernel_rfl)) (fun _ _ _ h => h) (Or.inr ⟨by rfl, rfl⟩) ?_ ?_
         rotate_left
         ·simp only [Act.put, List.setIfInBounds_toArray, List.set_cons_zero, List.set_cons_succ, i64_w, i32_w]
          rfl
         refine pure_ (i := 13) (N := some 28) (v := undef) (a' := ?_) #[true, true, true, true, true, true, true, true, true, true, true, true, true, true, false, false, false] rfl rfl (any_of HT_.out (by kernel_rfl)) (fun _ _ _ h => h) (Or.inr ⟨by rfl, rfl⟩) ?_ ?_
         rotate_left
         ·simp only [Act.put, List.setIfInBounds_toArray, List.set_cons_zero, List.set_cons_succ, i64_w, i32_w]
          rfl
         refine pure_ (i := 14) (N := some 29) (v := undef) (a' := ?_) #[true, true, true, true, true, true, true, true, true, true, true, true, true, true, true, false, false] rfl rfl (any_of HT_.out (by kernel_rfl)) (fun _ _ _ h => h) (Or.inr ⟨by rfl, rfl⟩) ?_ ?_
         rotate_left
         ·simp only [Act.put, List.setIfInBounds_toArray, List.set_cons_zero, List.set_cons_succ, i64_w, i32_w]
          rfl
         refine pure_ (i := 15) (N := some 30) (v := ?_) (a' := ?_) #[true, true, true, true, true, true, true, true, true, true, true, true, true, true, true, true, false] rfl rfl (any_of HT_.out (by kernel_rfl)) (fun _ _ _ h => h) (Or.inl ⟨by rfl, ?_⟩) ?_ ?_
         rotate_left
         ·intro w'
          go_simp
          with_reducible rfl
         rotate_left
         ·simp only [Act.put, List.setIfInBounds_toArray, List.set_cons_zero, List.set_cons_succ, i64_w, i32_w]
          rfl
         refine pure_ (i := 16) (N := some 31) (v := ?_) (a' := ?_) #[true, true, true, true, true, true, true, true, true, true, true, true, true, true, true, true, true] rfl rfl (any_of HT_.out (by kernel_rfl)) (fun _ _ _ h => h) (Or.inl ⟨by rfl, ?_⟩) ?_ ?_
         rotate_left
         ·intro w'
          go_simp
          with_reducible rfl
         rotate_left
         ·simp only [Act.put, List.setIfInBounds_toArray, List.set_cons_zero, List.set_cons_succ, i64_w, i32_w]
          rfl
         refine done_ (done_of HT_.out (by kernel_rfl)) ?_
         try go_wp2
         go_roundg k1
         case measure => have := HK1.out; omega
         case rel => exact ⟨(wrap64 (x10_1 + 1)), rs_, H', ⟨by have := HK1.out; omega⟩, ⟨bw_⟩⟩
       ·replace c7 := Bool.eq_false_iff.mpr c7
        subst c7
        have H1 : (some false) = some r := by rw [if_neg (show ¬ (false = true) by decide)] at H; exact H
        clear H
        have H := H1
        clear H1
        obtain rfl := Option.some.inj H
        have p259 : 0 ≤ (x10_1 : Int) := of_decide_eq_true as_
        have q259 : x10_1 < (l0.length : Int) := of_decide_eq_true as_
        obtain ⟨ad259, e259, hx259_0, hx259_1, hx259_2⟩ := at_T53 HR0.out x10_1 p259 q259
        cases e259
        replace hx259_0 := (HB.out.cell (World.block_lt_of_cell? w _ hx259_0)).trans hx259_0
        replace hx259_1 := (HB.out.cell (World.block_lt_of_cell? w _ hx259_1)).trans hx259_1
        replace hx259_2 := (HB.out.cell (World.block_lt_of_cell? w _ hx259_2)).trans hx259_2
        replace p259 := eq_true p259
        replace q259 := eq_true q259
        try go_wp2_with (first | ((with_reducible refine gate_dst (N := 4) rfl ?_); refine box_event ?hg (N := 4) ?hd (cs := #[.string (⟨#[]⟩ : ByteArray), .int .i64 0, .int .i64 0]) (t := 53) ?hr ?_; (case hd => rfl); (case hg => rfl); (case hr => first | (go_simp; done) | (go_simp; rfl)); intro gb260 hg w31 hbox hb; have n0_ := Aside0.mk (below_step bw_ hb); have n1_ := Aside0.mk (hbox); have n2_ := Aside0.mk ((by rw [hg]; exact (below_size bw_) : w.heap.size ≤ gb260)); have n3_ := Aside0.mk ((by rw [hg]; exact (below_size bw_) : w.heap.size ≤ gb260)); clear HB; have HB := n0_; have BK260 := n1_; have GW260 := n2_; have GE260 := n3_; clear n0_ n1_ n2_ n3_; clear hb hbox hg; have hcz32_0 : w31.cell? ⟨gb260, 0, none⟩ = some (.string (⟨#[]⟩ : ByteArray)) := (blk_cell BK260.out 0).trans rfl; have hcz32_1 : w31.cell? ⟨gb260, 1, none⟩ = some (.int .i64 0) := (blk_cell BK260.out 1).trans rfl; have hcz32_2 : w31.cell? ⟨gb260, 2, none⟩ = some (.int .i64 0) := (blk_cell BK260.out 2).trans rfl; have hfz32_0 := blk_frozen BK260.out 0; have hfz32_1 := blk_frozen BK260.out 1; have hfz32_2 := blk_frozen BK260.out 2))
        have n0_ : Aside0 ((((w31.setCell ⟨gb260, 0, none⟩ (.string ((rd_T53 l0 x10_1).f0))).setCell ⟨gb260, 1, none⟩ (.int .i64 ((rd_T53 l0 x10_1).f1))).setCell ⟨gb260, 2, none⟩ (.int .i64 ((rd_T53 l0 x10_1).f2))).heap[gb260]? = some (.cells #[.string ((rd_T53 l0 x10_1).f0), .int .i64 ((rd_T53 l0 x10_1).f1), .int .i64 ((rd_T53 l0 x10_1).f2)] 53 (0, 0))) := ⟨by (with_reducible repeat (first | refine blk_drewN ?_ _ | refine blk_drew ?_ | refine blk_alloc ?_ _)); refine blk_put (cs := #[.string ((rd_T53 l0 x10_1).f0), .int .i64 ((rd_T53 l0 x10_1).f1), .int .i64 0]) ?_ 2 _ rfl; (with_reducible repeat (first | refine blk_drewN ?_ _ | refine blk_drew ?_ | refine blk_alloc ?_ _)); refine blk_put (cs := #[.string ((rd_T53 l0 x10_1).f0), .int .i64 0, .int .i64 0]) ?_ 1 _ rfl; (with_reducible repeat (first | refine blk_drewN ?_ _ | refine blk_drew ?_ | refine blk_alloc ?_ _)); refine blk_put (cs := #[.string (⟨#[]⟩ : ByteArray), .int .i64 0, .int .i64 0]) ?_ 0 _ rfl; (with_reducible repeat (first | refine blk_drewN ?_ _ | refine blk_drew ?_ | refine blk_alloc ?_ _)); exact BK260.out⟩
        have n1_ : Aside0 (Below w.heap.size w (((w31.setCell ⟨gb260, 0, none⟩ (.string ((rd_T53 l0 x10_1).f0))).setCell ⟨gb260, 1, none⟩ (.int .i64 ((rd_T53 l0 x10_1).f1))).setCell ⟨gb260, 2, none⟩ (.int .i64 ((rd_T53 l0 x10_1).f2)))) := ⟨bw_⟩
        (try clear BK260)
        (try clear HB)
        generalize (((w31.setCell ⟨gb260, 0, none⟩ (.string ((rd_T53 l0 x10_1).f0))).setCell ⟨gb260, 1, none⟩ (.int .i64 ((rd_T53 l0 x10_1).f1))).setCell ⟨gb260, 2, none⟩ (.int .i64 ((rd_T53 l0 x10_1).f2))) = w33 at n0_ n1_ ⊢
        have BK260 := n0_
        have HB := n1_
        clear n0_ n1_
        have n0_ := Aside0.mk (blk_drew BK260.out)
        have n1_ := Aside0.mk (below_drew1 HB.out)
        clear BK260
        clear HB
        have BK260 := n0_
        have HB := n1_
        clear n0_ n1_
        refine start_ (n := 17) (S := fun w' => w'.cell? ⟨gb260, 0, none⟩ = some (.string ((rd_T53 l0 x10_1).f0)) ∧ w'.cell? ⟨gb260, 1, none⟩ = some (.int .i64 ((rd_T53 l0 x10_1).f1)) ∧ w'.cell? ⟨gb260, 2, none⟩ = some (.int .i64 ((rd_T53 l0 x10_1).f2))) (ds := []) #[false, false, false, false, false, false, false, false, false, false, false, false, false, false, false, false, false] (by kernel_rfl) rfl rfl ⟨(blk_cell BK260.out 0).trans rfl, (blk_cell BK260.out 1).trans rfl, (blk_cell BK260.out 2).trans rfl⟩ (fun hHeld => ?_); refine with_tabW impl_ValidTurns.tab6 impl_ValidTurns.bits6 (fun HT_ HW_ => ?_)
        generalize w33.drew = w34 at BK260 HB hHeld ⊢
        refine take_ (i := 0) (N := some 15) (v := ?_) (a' := ?_) #[true, false, false, false, false, false, false, false, false, false, false, false, false, false, false, false, false] rfl rfl (take_ofW HT_.out HW_.out (by kernel_rfl)) (fun _ _ _ h => h) (Or.inl ⟨by rfl, ?_⟩) hHeld ?_ ?_
        rotate_left
        ·rintro w' ⟨s0, s1, s2⟩
         go_simp
         with_reducible rfl
        rotate_left
        ·simp only [Act.put, List.setIfInBounds_toArray, List.set_cons_zero, List.set_cons_succ, i64_w, i32_w]
         rfl
        refine one_ (i := 1) (N := some 16) #[true, true, false, false, false, false, false, false, false, false, false, false, false, false, false, false, false] rfl rfl (one_of HT_.out (by kernel_rfl)) (by decide) (fun K hK => ?_)
        refine goes_ Try.func36 (by kernel_rfl) rfl #[.agg #[.string ((rd_T53 l0 x10_1).f0), .int .i64 ((rd_T53 l0 x10_1).f1), .int .i64 ((rd_T53 l0 x10_1).f2)]] (by rfl) rfl rfl ma_ ?_
        with_reducible refine (impl_Turn_valid.calls k1 ((rd_T53 l0 x10_1).f0) ((rd_T53 l0 x10_1).f1) ((rd_T53 l0 x10_1).f2) false _ A6.out).mono ?_
        rintro e w35 ⟨rfl, hb⟩
        refine ⟨_, rfl, ?_⟩
        have n0_ := Aside0.mk (blk_below (g := gb260) (o := .cells #[.string ((rd_T53 l0 x10_1).f0), .int .i64 ((rd_T53 l0 x10_1).f1), .int .i64 ((rd_T53 l0 x10_1).f2)] 53 (0, 0)) (bk_ BK260.out) hb)
        have n1_ := Aside0.mk (below_step bw_ hb)
        clear BK260
        clear HB
        have BK260 := n0_
        have HB := n1_
        clear n0_ n1_
        (try clear hb)
        (try clear hb2)
        (try clear hk)
        (try clear hi)
        refine hK.out _ _ ⟨(blk_cell BK260.out 0).trans rfl, (blk_cell BK260.out 1).trans rfl, (blk_cell BK260.out 2).trans rfl⟩ (fun hHeld => ?_)
        clear hK K
        refine norm_ (a' := ?_) ?_ ?_
        rotate_left
        ·show Act.put _ (some 16) _ = _
         simp only [Act.put, List.setIfInBounds_toArray, List.set_cons_zero, List.set_cons_succ, i64_w, i32_w]
         rfl
        refine pure_ (i := 2) (N := some 17) (v := ?_) (a' := ?_) #[true, true, true, false, false, false, false, false, false, false, false, false, false, false, false, false, false] rfl rfl (any_of HT_.out (by kernel_rfl)) (fun _ _ _ h => h) (Or.inl ⟨by rfl, ?_⟩) ?_ ?_
        rotate_left
        ·intro w'
         go_simp
         with_reducible rfl
        rotate_left
        ·simp only [Act.put, List.setIfInBounds_toArray, List.set_cons_zero, List.set_cons_succ, i64_w, i32_w]
         rfl
        refine pure_ (i := 3) (N := some 18) (v := ?_) (a' := ?_) #[true, true, true, true, false, false, false, false, false, false, false, false, false, false, false, false, false] rfl rfl (any_of HT_.out (by kernel_rfl)) (fun _ _ _ h => h) (Or.inl ⟨by rfl, ?_⟩) ?_ ?_
        rotate_left
        ·intro w'
         go_simp
         with_reducible rfl
        rotate_left
        ·simp only [Act.put, List.setIfInBounds_toArray, List.set_cons_zero, List.set_cons_succ, i64_w, i32_w]
         rfl
        refine pure_ (i := 4) (N := some 19) (v := undef) (a' := ?_) #[true, true, true, true, true, false, false, false, false, false, false, false, false, false, false, false, false] rfl rfl (any_of HT_.out (by kernel_rfl)) (fun _ _ _ h => h) (Or.inr ⟨by rfl, rfl⟩) ?_ ?_
        rotate_left
        ·simp only [Act.put, List.setIfInBounds_toArray, List.set_cons_zero, List.set_cons_succ, i64_w, i32_w]
         rfl
        refine pure_ (i := 5) (N := some 20) (v := undef) (a' := ?_) #[true, true, true, true, true, true, false, false, false, false, false, false, false, false, false, false, false] rfl rfl (any_of HT_.out (by kernel_rfl)) (fun _ _ _ h => h) (Or.inr ⟨by rfl, rfl⟩) ?_ ?_
        rotate_left
        ·simp only [Act.put, List.setIfInBounds_toArray, List.set_cons_zero, List.set_cons_succ, i64_w, i32_w]
         rfl
        refine pure_ (i := 6) (N := some 21) (v := undef) (a' := ?_) #[true, true, true, true, true, true, true, false, false, false, false, false, false, false, false, false, false] rfl rfl (any_of HT_.out (by kernel_rfl)) (fun _ _ _ h => h) (Or.inr ⟨by rfl, rfl⟩) ?_ ?_
        rotate_left
        ·simp only [Act.put, List.setIfInBounds_toArray, List.set_cons_zero, List.set_cons_succ, i64_w, i32_w]
         rfl
        refine pure_ (i := 7) (N := some 22) (v := undef) (a' := ?_) #[true, true, true, true, true, true, true, true, false, false, false, false, false, false, false, false, false] rfl rfl (any_of HT_.out (by kernel_rfl)) (fun _ _ _ h => h) (Or.inr ⟨by rfl, rfl⟩) ?_ ?_
        rotate_left
        ·simp only [Act.put, List.setIfInBounds_toArray, List.set_cons_zero, List.set_cons_succ, i64_w, i32_w]
         rfl
        refine pure_ (i := 8) (N := some 23) (v := undef) (a' := ?_) #[true, true, true, true, true, true, true, true, true, false, false, false, false, false, false, false, false] rfl rfl (any_of HT_.out (by kernel_rfl)) (fun _ _ _ h => h) (Or.inr ⟨by rfl, rfl⟩) ?_ ?_
        rotate_left
        ·simp only [Act.put, List.setIfInBounds_toArray, List.set_cons_zero, List.set_cons_succ, i64_w, i32_w]
         rfl
        refine pure_ (i := 9) (N := some 24) (v := undef) (a' := ?_) #[true, true, true, true, true, true, true, true, true, true, false, false, false, false, false, false, false] rfl rfl (any_of HT_.out (by kernel_rfl)) (fun _ _ _ h => h) (Or.inr ⟨by rfl, rfl⟩) ?_ ?_
        rotate_left
        ·simp only [Act.put, List.setIfInBounds_toArray, List.set_cons_zero, List.set_cons_succ, i64_w, i32_w]
         rfl
        refine pure_ (i := 10) (N := some 25) (v := undef) (a' := ?_) #[true, true, true, true, true, true, true, true, true, true, true, false, false, false, false, false, false] rfl rfl (any_of HT_.out (by kernel_rfl)) (fun _ _ _ h => h) (Or.inr ⟨by rfl, rfl⟩) ?_ ?_
        rotate_left
        ·simp only [Act.put, List.setIfInBounds_toArray, List.set_cons_zero, List.set_cons_succ, i64_w, i32_w]
         rfl
        refine pure_ (i := 11) (N := some 26) (v := undef) (a' := ?_) #[true, true, true, true, true, true, true, true, true, true, true, true, false, false, false, false, false] rfl rfl (any_of HT_.out (by kernel_rfl)) (fun _ _ _ h => h) (Or.inr ⟨by rfl, rfl⟩) ?_ ?_
        rotate_left
        ·simp only [Act.put, List.setIfInBounds_toArray, List.set_cons_zero, List.set_cons_succ, i64_w, i32_w]
         rfl
        refine pure_ (i := 12) (N := some 27) (v := undef) (a' := ?_) #[true, true, true, true, true, true, true, true, true, true, true, true, true, false, false, false, false] rfl rfl (any_of HT_.out (by kernel_rfl)) (fun _ _ _ h => h) (Or.inr ⟨by rfl, rfl⟩) ?_ ?_
        rotate_left
        ·simp only [Act.put, List.setIfInBounds_toArray, List.set_cons_zero, List.set_cons_succ, i64_w, i32_w]
         rfl
        refine pure_ (i := 13) (N := some 28) (v := undef) (a' := ?_) #[true, true, true, true, true, true, true, true, true, true, true, true, true, true, false, false, false] rfl rfl (any_of HT_.out (by kernel_rfl)) (fun _ _ _ h => h) (Or.inr ⟨by rfl, rfl⟩) ?_ ?_
        rotate_left
        ·simp only [Act.put, List.setIfInBounds_toArray, List.set_cons_zero, List.set_cons_succ, i64_w, i32_w]
         rfl
        refine pure_ (i := 14) (N := some 29) (v := undef) (a' := ?_) #[true, true, true, true, true, true, true, true, true, true, true, true, true, true, true, false, false] rfl rfl (any_of HT_.out (by kernel_rfl)) (fun _ _ _ h => h) (Or.inr ⟨by rfl, rfl⟩) ?_ ?_
        rotate_left
        ·simp only [Act.put, List.setIfInBounds_toArray, List.set_cons_zero, List.set_cons_succ, i64_w, i32_w]
         rfl
        refine pure_ (i := 15) (N := some 30) (v := undef) (a' := ?_) #[true, true, true, true, true, true, true, true, true, true, true, true, true, true, true, true, false] rfl rfl (any_of HT_.out (by kernel_rfl)) (fun _ _ _ h => h) (Or.inr ⟨by rfl, rfl⟩) ?_ ?_
        rotate_left
        ·simp only [Act.put, List.setIfInBounds_toArray, List.set_cons_zero, List.set_cons_succ, i64_w, i32_w]
         rfl
        refine pure_ (i := 16) (N := some 31) (v := ?_) (a' := ?_) #[true, true, true, true, true, true, true, true, true, true, true, true, true, true, true, true, true] rfl rfl (any_of HT_.out (by kernel_rfl)) (fun _ _ _ h => h) (Or.inl ⟨by rfl, ?_⟩) ?_ ?_
        rotate_left
        ·intro w'
         go_simp
         with_reducible rfl
        rotate_left
        ·simp only [Act.put, List.setIfInBounds_toArray, List.set_cons_zero, List.set_cons_succ, i64_w, i32_w]
         rfl
        refine done_ (done_of HT_.out (by kernel_rfl)) ?_
        try go_wp2
        go_ret
        exact ⟨re_, bw_⟩
      ·rw [if_neg c5] at H
       exact absurd H (by simp)
     ·rw [if_neg c4] at H
      exact absurd H (by simp)
    ·rw [if_neg c3] at H
     have c3b0 : decide (x10_1 < (l0.length : Int)) = false := decide_eq_false c3
     clear c3
     obtain rfl := Option.some.inj H
     go_wp2
     go_ret
     exact ⟨re_, bw_⟩
def impl_Turn_end.f (a0_0 : ByteArray) (a0_1 : Int) (a0_2 : Int) : Option (Int) := some (wrap64 (a0_1 + a0_2))
set_option maxHeartbeats 8000000 in
set_option maxRecDepth 100000 in
theorem impl_Turn_end.calls (a0_0 : ByteArray) (a0_1 : Int) (a0_2 : Int) (r : Int) (w : World) (h : impl_Turn_end.f a0_0 a0_1 a0_2 = some r) :
  Calls Try.prog 34 #[.agg #[.string a0_0, .int .i64 a0_1, .int .i64 a0_2]] w fun e w' => e = .returned (.int .i64 r) ∧ Below w.heap.size w w' := by
 have hu53 := Try.underlying53
 have HB := Aside0.mk (Below.refl w.heap.size w)
 have H : (some (wrap64 (a0_1 + a0_2))) = some r := h
 clear h
 obtain rfl := Option.some.inj H
 go_enter Try.func34, Try.ntmps34
 go_wp2_with (first | ((with_reducible refine gate_dst (N := 1) rfl ?_); refine box_event ?hg (N := 1) ?hd (cs := #[.string a0_0, .int .i64 a0_1, .int .i64 a0_2]) (t := 53) ?hr ?_; (case hd => rfl); (case hg => rfl); (case hr => first | (go_simp; done) | (go_simp; rfl)); intro gb264 hg w2 hbox hb; have n0_ := Aside0.mk (below_step bw_ hb); have n1_ := Aside0.mk (hbox); have n2_ := Aside0.mk ((by rw [hg]; exact (below_size bw_) : w.heap.size ≤ gb264)); have n3_ := Aside0.mk ((by rw [hg]; exact (below_size bw_) : w.heap.size ≤ gb264)); clear HB; have HB := n0_; have BK264 := n1_; have GW264 := n2_; have GE264 := n3_; clear n0_ n1_ n2_ n3_; clear hb hbox hg; have hcz3_0 : w2.cell? ⟨gb264, 0, none⟩ = some (.string a0_0) := (blk_cell BK264.out 0).trans rfl; have hcz3_1 : w2.cell? ⟨gb264, 1, none⟩ = some (.int .i64 a0_1) := (blk_cell BK264.out 1).trans rfl; have hcz3_2 : w2.cell? ⟨gb264, 2, none⟩ = some (.int .i64 a0_2) := (blk_cell BK264.out 2).trans rfl; have hfz3_0 := blk_frozen BK264.out 0; have hfz3_1 := blk_frozen BK264.out 1; have hfz3_2 := blk_frozen BK264.out 2))
 go_ret
 exact ⟨re_, bw_⟩
end Go.Proofs.Ytoalffemjkkngaa.PA
end
section
namespace Go.Proofs.Ytoalffemjkkngaa.PA
open Go.RowKit Go.Proofs.YtoalffemjkkngaaW.PrintWords Go.Proofs.YtoalffemjkkngaaW.PrintLast Go.Proofs.YtoalffemjkkngaaW.PrintMore
attribute [local go_sem] max2_int min2_int max_two min_two max_three min_three max_four min_four
set_option linter.unusedVariables false
set_option linter.unusedSimpArgs false
def sortS (xs : List ByteArray) : List ByteArray := ((xs.map (·.data.toList)).mergeSort fun x y => decide (x ≤ y)).map fun l => ⟨l.toArray⟩
def compS (xs : List ByteArray) : List ByteArray := (Lib.compact (xs.map (·.data.toList))).map fun l => ⟨l.toArray⟩
theorem map_back (l : List (List UInt8)) : (l.map fun x => (⟨x.toArray⟩ : ByteArray)).map Value.string = l.map encStr := by
 rw [List.map_map]
 apply List.map_congr_left
 intro x _
 rfl
theorem sortS_length (xs : List ByteArray) : (sortS xs).length = xs.length := by simp [sortS]
theorem below_grow {B : Nat} {w0 w : World} (os : Array Obj) (h : Below B w0 w) (hB : B ≤ w.heap.size) : Below B w0 (Go.Sort.grow w os) :=
 ⟨h.os, h.tape, h.output, by have := h.size; simp [Go.Sort.grow]; omega, fun k hk => by
  rw [← h.block k hk]
  simp only [Go.Sort.grow]
  rw [Array.getElem?_append_left (by omega)]⟩
theorem sort_w (v : Value) (xs : List ByteArray) (w0 w : World) (hR : Kd.R Kd.string 9 w w0.heap.size (fun _ => True) v xs) (hB : Below w0.heap.size w0 w) (hl : xs.length ≤ 1000000) :
  Calls Try.prog 63 #[v] w fun e w' => e = .returned (.tuple #[]) ∧ Kd.R Kd.string 9 w' w0.heap.size (fun _ => True) v (sortS xs) ∧ Below w0.heap.size w0 w' := by
 have ho := Kd.own_of_R hR
 have he : encs Value.string xs = (xs.map (·.data.toList)).map encStr := (Lib.map_encStr xs).symm
 rw [he] at ho
 by_cases hv : v = .slice none 0 0
 ·subst hv
  have hx : xs = [] := by
   obtain ⟨_, _, h1, _⟩ := Kd.R_reads hR
   injection h1 with _ h2 _
   exact List.eq_nil_of_length_eq_zero h2.symm
  subst hx
  refine (Try.slices_Sort_string_none none 0 w).mono ?_
  rintro e w' ⟨rfl, rfl⟩
  have e0 : sortS [] = [] := by simp [sortS]
  rw [e0]
  exact ⟨rfl, Kd.R_nil _ _ _ _ _, hB⟩
 ·obtain ⟨g, cap, rfl, hg0, hg1, hn, hm, hz, hH⟩ := Lib.holds_of_ownsRow ho hv
  have hc := Try.slices_Sort_string g 0 cap (xs.map (·.data.toList)) w hH hg1 (by rw [List.length_map]; omega)
  rw [List.length_map] at hc
  refine hc.mono ?_
  rintro e w' ⟨rfl, n, os, rfl⟩
  have hl2 : ((xs.map (·.data.toList)).mergeSort fun x y => decide (x ≤ y)).length = xs.length := by simp
  have h1 := Lib.ownsRow_putRow (q := n) (k := xs.length) ho hl2 (Nat.le_refl _)
  rw [List.take_of_length_le (by omega)] at h1
  have h2 := Lib.below_putRow (enc := encStr) (q := n) (d := ((xs.map (·.data.toList)).mergeSort fun x y => decide (x ≤ y)).toArray) hB hg0
  have hsz : (Go.Sort.putRow encStr (Go.Sort.ahead w n) g 0 ((xs.map (·.data.toList)).mergeSort fun x y => decide (x ≤ y)).toArray).heap.size = w.heap.size := by simp [Go.Sort.putRow, Go.Sort.mapBlock, Go.Sort.ahead]
  refine ⟨rfl, ?_, below_grow os h2 (by rw [hsz]; exact hB.size)⟩
  refine Kd.R_of_own ?_ (fun k _ => trivial)
  rw [sortS_length]
  have h3 := own_move (w1 := Go.Sort.grow (Go.Sort.putRow encStr (Go.Sort.ahead w n) g 0 ((xs.map (·.data.toList)).mergeSort fun x y => decide (x ≤ y)).toArray) os) h1 (fun k hk => by
   have hk2 : g = k := by simpa [Value.ownBlock] using hk
   subst hk2
   simp only [Go.Sort.grow]
   rw [Array.getElem?_append_left (by rw [hsz]; exact hg1)])
  have e2 : encs Value.string (sortS xs) = ((xs.map (·.data.toList)).mergeSort fun x y => decide (x ≤ y)).map encStr := map_back _
  rw [e2]
  exact h3
theorem compact_w (v : Value) (xs : List ByteArray) (w0 w : World) (hR : Kd.R Kd.string 9 w w0.heap.size (fun _ => True) v xs) (hB : Below w0.heap.size w0 w) (hl : xs.length ≤ 1000000) :
  Calls Try.prog 64 #[v] w fun e w' => ∃ v', e = .returned v' ∧ Kd.R Kd.string 9 w' w0.heap.size (fun _ => True) v' (compS xs) ∧ Below w0.heap.size w0 w' := by
 have ho := Kd.own_of_R hR
 have he : encs Value.string xs = (xs.map (·.data.toList)).map encStr := (Lib.map_encStr xs).symm
 rw [he] at ho
 by_cases hv : v = .slice none 0 0
 ·subst hv
  have hx : xs = [] := by
   obtain ⟨_, _, h1, _⟩ := Kd.R_reads hR
   injection h1 with _ h2 _
   exact List.eq_nil_of_length_eq_zero h2.symm
  subst hx
  refine (Try.slices_Compact_string_empty none 0 w).mono ?_
  rintro e w' ⟨rfl, rfl⟩
  have e0 : compS [] = [] := by simp [compS, Lib.compact, Lib.compactUpTo]
  rw [e0]
  exact ⟨_, rfl, Kd.R_nil _ _ _ _ _, hB⟩
 ·obtain ⟨g, cap, rfl, hg0, hg1, hn, hm, hz, hH⟩ := Lib.holds_of_ownsRow ho hv
  have hc := Try.slices_Compact_string g 0 cap (xs.map (·.data.toList)) w hH (by rw [List.length_map]; omega) (by rw [List.length_map]; exact hn)
  rw [List.length_map] at hc
  refine hc.mono ?_
  rintro e w' ⟨rfl, q, rfl⟩
  have hcl := Lib.compact_length_le (xs.map (·.data.toList))
  rw [List.length_map] at hcl
  have h1 := Lib.ownsRow_putRow (q := q) (k := (Lib.compact (xs.map (·.data.toList))).length) (ys := Lib.compact (xs.map (·.data.toList)) ++ List.replicate (xs.length - (Lib.compact (xs.map (·.data.toList))).length) []) ho (by rw [List.length_append, List.length_replicate]; omega) hcl
  rw [List.take_left' rfl] at h1
  refine ⟨_, rfl, ?_, Lib.below_putRow hB hg0⟩
  refine Kd.R_of_own ?_ (fun k _ => trivial)
  have e1 : (compS xs).length = (Lib.compact (xs.map (·.data.toList))).length := by simp [compS]
  have e2 : encs Value.string (compS xs) = (Lib.compact (xs.map (·.data.toList))).map encStr := map_back _
  rw [e1, e2]
  exact h1
def impl_playersAt.l0 : Nat → Int → List ByteArray → List (S53) → Int → Int → Option (List ByteArray)
 | 0, _, _, _, _, _ => none
 | k + 1, x1, x5, x8, x9, x10 => if x10 < x9 then (if 0 ≤ x10 then (if x10 < (x8.length : Int) then ((impl_Turn_end.f ((rd_T53 x8 x10).f0) ((rd_T53 x8 x10).f1) ((rd_T53 x8 x10).f2)).bind fun t401 => ((impl_within.f x1 ((rd_T53 x8 x10).f1) (wrap64 (t401 - 1))).bind fun t402 => (if t402 = true then (if x5.length < 8796093022208 then (impl_playersAt.l0 k x1 (x5 ++ [(rd_T53 x8 x10).f0]) x8 x9 (wrap64 (x10 + 1))) else (none)) else (impl_playersAt.l0 k x1 x5 x8 x9 (wrap64 (x10 + 1)))))) else (none)) else (none)) else (some x5)
def impl_playersAt.g (k : Nat) (l0 : List (S53)) (a1 : Int) : Option (List ByteArray) := impl_playersAt.l0 k a1 ([] : List ByteArray) l0 (l0.length : Int) 0
theorem impl_playersAt.mono_l : ∀ k, (∀ y0 y1 y2 y3 y4, LeO (impl_playersAt.l0 k y0 y1 y2 y3 y4) (impl_playersAt.l0 (k + 1) y0 y1 y2 y3 y4))
 | 0 => fun _ _ _ _ _ r h => by simp [impl_playersAt.l0] at h
 | k + 1 => by
  have ih0 := impl_playersAt.mono_l k
  ·intro y0 y1 y2 y3 y4
   unfold impl_playersAt.l0
   repeat' first
   | (with_reducible exact ih0 _ _ _ _ _)
   | (with_reducible exact LeO.refl _)
   | (with_reducible exact LeO.none _)
   | (with_reducible refine LeO.ite ?_ ?_)
   | (with_reducible refine LeO.bind ?_ (fun _ => ?_))
theorem impl_playersAt.gmono : ∀ a0 a1 k, LeO (impl_playersAt.g k a0 a1) (impl_playersAt.g (k + 1) a0 a1) := by
 intro a0 a1 k
 have ih0 := impl_playersAt.mono_l k
 unfold impl_playersAt.g
 repeat' first
   | (with_reducible exact ih0 _ _ _ _ _)
   | (with_reducible exact LeO.refl _)
   | (with_reducible exact LeO.none _)
   | (with_reducible refine LeO.ite ?_ ?_)
   | (with_reducible refine LeO.bind ?_ (fun _ => ?_))
def impl_playersAt.f (k : Nat) (l0 : List (S53)) (a1 : Int) : Option (List ByteArray) := (impl_playersAt.g k l0 a1).bind fun xs => if xs.length ≤ 1000000 then some (compS (sortS xs)) else none
theorem impl_playersAt.mono : ∀ a0 a1 k, LeO (impl_playersAt.f k a0 a1) (impl_playersAt.f (k + 1) a0 a1) := by
 intro a0 a1 k
 unfold impl_playersAt.f
 exact LeO.bind (impl_playersAt.gmono _ _ k) (fun _ => LeO.refl _)
set_option maxHeartbeats 8000000 in
set_option maxRecDepth 100000 in
theorem impl_playersAt.calls (k : Nat) (A0 : Option Addr) (c0 : Nat) (l0 : List (S53)) (a1 : Int) (r : List ByteArray) (w : World) (hr0 : Kd.C k53 w A0 l0.length l0) (hc0 : l0.length ≤ c0) (h : impl_playersAt.f k l0 a1 = some r) :
  Calls Try.prog 48 #[.slice A0 l0.length c0, .int .i64 a1] w fun e w' => ∃ v0_ : Value, e = .returned (v0_) ∧ Kd.R Kd.string 9 w' w.heap.size (fun _ => True) v0_ r ∧ Below w.heap.size w w' := by
 unfold impl_playersAt.f at h
 obtain ⟨r0, h0, h1⟩ := Option.bind_eq_some_iff.mp h
 clear h
 by_cases hs : r0.length ≤ 1000000
 ·rw [if_pos hs] at h1
  obtain rfl := Option.some.inj h1
  clear h1
  have HS := Aside0.mk hs
  clear hs
  have hu53 := Try.underlying53
  have HR0 := Aside0.mk hr0
  have HC0 := Aside0.mk hc0
  clear hr0 hc0
  have HB := Aside0.mk (Below.refl w.heap.size w)
  have H : (impl_playersAt.l0 k a1 ([] : List ByteArray) l0 (l0.length : Int) 0) = some r0 := h0
  clear h0
  have H' := Aside0.mk H
  clear H
  go_enter Try.func48, Try.ntmps48
  go_wp2
  go_loopg [5, 10] k (fun kq v5 v10 w' => ∃ (x5_1 : List ByteArray) (x10_1 : Int), v10 = .int .i64 x10_1 ∧ Aside0 (impl_playersAt.l0 kq a1 x5_1 l0 (l0.length : Int) x10_1 = some r0) ∧ Aside0 (kq ≤ k) ∧ Aside0 (Kd.R Kd.string 9 w' w.heap.size (fun _ => True) v5 x5_1) ∧ Aside0 (Below w.heap.size w w'))
  case atStart => exact ⟨(([] : List ByteArray)), (0), rs_, H', ⟨Nat.le_refl _⟩, ⟨rn_⟩, ⟨bw_⟩⟩
  case round =>
   clear H'
   try clear p2
   obtain ⟨x5_1, x10_1, rfl, HA, HK1, HO_5, HB⟩ := hrel
   cases gk with
   | zero => exact absurd HA.out (by simp [impl_playersAt.l0])
   | succ k1 =>
    have H := HA.out
    clear HA
    simp only [impl_playersAt.l0] at H
    by_cases c3 : x10_1 < (l0.length : Int)
    ·rw [if_pos c3] at H
     have c3b0 : decide (x10_1 < (l0.length : Int)) = true := decide_eq_true c3
     clear c3
     by_cases c4 : 0 ≤ x10_1
     ·rw [if_pos c4] at H
      have c4b0 : decide (0 ≤ x10_1) = true := decide_eq_true c4
      clear c4
      by_cases c5 : x10_1 < (l0.length : Int)
      ·rw [if_pos c5] at H
       have c5b0 : decide (x10_1 < (l0.length : Int)) = true := decide_eq_true c5
       clear c5
       replace H := Option.bind_eq_some_iff.mp H
       obtain ⟨t401, A60, H⟩ := H
       replace H : ((impl_within.f a1 ((rd_T53 l0 x10_1).f1) (wrap64 (t401 - 1))).bind fun t402 => (if t402 = true then (if x5_1.length < 8796093022208 then (impl_playersAt.l0 k1 a1 (x5_1 ++ [(rd_T53 l0 x10_1).f0]) l0 (l0.length : Int) (wrap64 (x10_1 + 1))) else (none)) else (impl_playersAt.l0 k1 a1 x5_1 l0 (l0.length : Int) (wrap64 (x10_1 + 1))))) = some r0 := H
       have A6 := Aside0.mk A60
       clear A60
       replace H := Option.bind_eq_some_iff.mp H
       obtain ⟨t402, A70, H⟩ := H
       replace H : (if t402 = true then (if x5_1.length < 8796093022208 then (impl_playersAt.l0 k1 a1 (x5_1 ++ [(rd_T53 l0 x10_1).f0]) l0 (l0.length : Int) (wrap64 (x10_1 + 1))) else (none)) else (impl_playersAt.l0 k1 a1 x5_1 l0 (l0.length : Int) (wrap64 (x10_1 + 1)))) = some r0 := H
       have A7 := Aside0.mk A70
       clear A70
       by_cases c8 : t402 = true
       ·subst c8
        have H1 : (if x5_1.length < 8796093022208 then (impl_playersAt.l0 k1 a1 (x5_1 ++ [(rd_T53 l0 x10_1).f0]) l0 (l0.length : Int) (wrap64 (x10_1 + 1))) else (none)) = some r0 := by rw [if_pos rfl] at H; exact H
        clear H
        have H := H1
        clear H1
        by_cases c9 : x5_1.length < 8796093022208
        ·rw [if_pos c9] at H
         have LMc9 := Aside0.mk c9
         clear c9
         obtain ⟨y403, hy403⟩ : ∃ y_ : List ByteArray, y_ = (x5_1 ++ [(rd_T53 l0 x10_1).f0]) := ⟨_, rfl⟩
         replace H : (impl_playersAt.l0 k1 a1 y403 l0 (l0.length : Int) (wrap64 (x10_1 + 1))) = some r0 := by first | (rw [hy403]; with_reducible exact H) | (have H2_ := (Option.bind_some _ _).symm.trans H; rw [hy403]; with_reducible exact H2_) | (have H2_ := (Option.bind_some _ _).symm.trans H; with_reducible exact H2_) | with_reducible exact H | (rw [hy403]; exact H) | exact H
         have Ny403 := Aside0.mk hy403
         clear hy403
         have H' := Aside0.mk H
         clear H
         have p399 : 0 ≤ (x10_1 : Int) := of_decide_eq_true as_
         have q399 : x10_1 < (l0.length : Int) := of_decide_eq_true as_
         obtain ⟨ad399, e399, hx399_0, hx399_1, hx399_2⟩ := at_T53 HR0.out x10_1 p399 q399
         cases e399
         replace hx399_0 := (HB.out.cell (World.block_lt_of_cell? w _ hx399_0)).trans hx399_0
         replace hx399_1 := (HB.out.cell (World.block_lt_of_cell? w _ hx399_1)).trans hx399_1
         replace hx399_2 := (HB.out.cell (World.block_lt_of_cell? w _ hx399_2)).trans hx399_2
         replace p399 := eq_true p399
         replace q399 := eq_true q399
         try go_wp2_with (first | ((with_reducible refine gate_dst (N := 7) rfl ?_); refine box_event ?hg (N := 7) ?hd (cs := #[.string (⟨#[]⟩ : ByteArray), .int .i64 0, .int .i64 0]) (t := 53) ?hr ?_; (case hd => rfl); (case hg => rfl); (case hr => first | (go_simp; done) | (go_simp; rfl)); intro gb400 hg w10 hbox hb; have n0_ := Aside0.mk (Kd.R_below (kr_ HO_5.out) hb); have n1_ := Aside0.mk (below_step bw_ hb); have n2_ := Aside0.mk (hbox); have n3_ := Aside0.mk ((by rw [hg]; exact (below_size bw_) : w.heap.size ≤ gb400)); have n4_ := Aside0.mk ((by rw [hg]; exact (below_size bw_) : w.heap.size ≤ gb400)); clear HO_5; clear HB; have HO_5 := n0_; have HB := n1_; have BK400 := n2_; have GW400 := n3_; have GE400 := n4_; clear n0_ n1_ n2_ n3_ n4_; clear hb hbox hg; have hcz11_0 : w10.cell? ⟨gb400, 0, none⟩ = some (.string (⟨#[]⟩ : ByteArray)) := (blk_cell BK400.out 0).trans rfl; have hcz11_1 : w10.cell? ⟨gb400, 1, none⟩ = some (.int .i64 0) := (blk_cell BK400.out 1).trans rfl; have hcz11_2 : w10.cell? ⟨gb400, 2, none⟩ = some (.int .i64 0) := (blk_cell BK400.out 2).trans rfl; have hfz11_0 := blk_frozen BK400.out 0; have hfz11_1 := blk_frozen BK400.out 1; have hfz11_2 := blk_frozen BK400.out 2))
         have n0_ : Aside0 (Kd.R Kd.string 9 (((w10.setCell ⟨gb400, 0, none⟩ (.string ((rd_T53 l0 x10_1).f0))).setCell ⟨gb400, 1, none⟩ (.int .i64 ((rd_T53 l0 x10_1).f1))).setCell ⟨gb400, 2, none⟩ (.int .i64 ((rd_T53 l0 x10_1).f2))) w.heap.size (fun _ => True) u5 x5_1) := ⟨by (with_reducible repeat (first | apply Kd.R_alloc | apply Kd.R_drewN | apply Kd.R_drew)); exact Kd.R_mono (Kd.R_far (p := ⟨gb400, 2, none⟩) (Kd.R_far (p := ⟨gb400, 1, none⟩) (Kd.R_far (p := ⟨gb400, 0, none⟩) (Kd.R_types HO_5.out BK400.out (by decide)) (fun _ hk => hk.2) (.string ((rd_T53 l0 x10_1).f0))) (fun _ hk => hk.2) (.int .i64 ((rd_T53 l0 x10_1).f1))) (fun _ hk => hk.2) (.int .i64 ((rd_T53 l0 x10_1).f2))) (fun _ hk => trivial)⟩
         have n1_ : Aside0 ((((w10.setCell ⟨gb400, 0, none⟩ (.string ((rd_T53 l0 x10_1).f0))).setCell ⟨gb400, 1, none⟩ (.int .i64 ((rd_T53 l0 x10_1).f1))).setCell ⟨gb400, 2, none⟩ (.int .i64 ((rd_T53 l0 x10_1).f2))).heap[gb400]? = some (.cells #[.string ((rd_T53 l0 x10_1).f0), .int .i64 ((rd_T53 l0 x10_1).f1), .int .i64 ((rd_T53 l0 x10_1).f2)] 53 (0, 0))) := ⟨by (with_reducible repeat (first | refine blk_drewN ?_ _ | refine blk_drew ?_ | refine blk_alloc ?_ _)); refine blk_put (cs := #[.string ((rd_T53 l0 x10_1).f0), .int .i64 ((rd_T53 l0 x10_1).f1), .int .i64 0]) ?_ 2 _ rfl; (with_reducible repeat (first | refine blk_drewN ?_ _ | refine blk_drew ?_ | refine blk_alloc ?_ _)); refine blk_put (cs := #[.string ((rd_T53 l0 x10_1).f0), .int .i64 0, .int .i64 0]) ?_ 1 _ rfl; (with_reducible repeat (first | refine blk_drewN ?_ _ | refine blk_drew ?_ | refine blk_alloc ?_ _)); refine blk_put (cs := #[.string (⟨#[]⟩ : ByteArray), .int .i64 0, .int .i64 0]) ?_ 0 _ rfl; (with_reducible repeat (first | refine blk_drewN ?_ _ | refine blk_drew ?_ | refine blk_alloc ?_ _)); exact BK400.out⟩
         have n2_ : Aside0 (Below w.heap.size w (((w10.setCell ⟨gb400, 0, none⟩ (.string ((rd_T53 l0 x10_1).f0))).setCell ⟨gb400, 1, none⟩ (.int .i64 ((rd_T53 l0 x10_1).f1))).setCell ⟨gb400, 2, none⟩ (.int .i64 ((rd_T53 l0 x10_1).f2)))) := ⟨bw_⟩
         (try clear HO_5)
         (try clear BK400)
         (try clear HB)
         generalize (((w10.setCell ⟨gb400, 0, none⟩ (.string ((rd_T53 l0 x10_1).f0))).setCell ⟨gb400, 1, none⟩ (.int .i64 ((rd_T53 l0 x10_1).f1))).setCell ⟨gb400, 2, none⟩ (.int .i64 ((rd_T53 l0 x10_1).f2))) = w12 at n0_ n1_ n2_ ⊢
         have HO_5 := n0_
         have BK400 := n1_
         have HB := n2_
         clear n0_ n1_ n2_
         have n0_ := Aside0.mk (Kd.R_drew HO_5.out)
         have n1_ := Aside0.mk (blk_drew BK400.out)
         have n2_ := Aside0.mk (below_drew1 HB.out)
         clear HO_5
         clear BK400
         clear HB
         have HO_5 := n0_
         have BK400 := n1_
         have HB := n2_
         clear n0_ n1_ n2_
         refine start_ (n := 7) (S := fun w' => w'.cell? ⟨gb400, 0, none⟩ = some (.string ((rd_T53 l0 x10_1).f0)) ∧ w'.cell? ⟨gb400, 1, none⟩ = some (.int .i64 ((rd_T53 l0 x10_1).f1)) ∧ w'.cell? ⟨gb400, 2, none⟩ = some (.int .i64 ((rd_T53 l0 x10_1).f2))) (ds := []) #[false, false, false, false, false, false, false] (by kernel_rfl) rfl rfl ⟨(blk_cell BK400.out 0).trans rfl, (blk_cell BK400.out 1).trans rfl, (blk_cell BK400.out 2).trans rfl⟩ (fun hHeld => ?_)
         generalize w12.drew = w13 at HO_5 BK400 HB hHeld ⊢
         refine pure_ (i := 0) (N := some 14) (v := ?_) (a' := ?_) #[true, false, false, false, false, false, false] rfl rfl (by kernel_rfl) (fun _ _ _ h => h) (Or.inl ⟨by rfl, ?_⟩) ?_ ?_
         rotate_left
         ·intro w'
          go_simp
          with_reducible rfl
         rotate_left
         ·simp only [Act.put, List.setIfInBounds_toArray, List.set_cons_zero, List.set_cons_succ, i64_w, i32_w]
          rfl
         refine pure_ (i := 1) (N := some 15) (v := ?_) (a' := ?_) #[true, true, false, false, false, false, false] rfl rfl (by kernel_rfl) (fun _ _ _ h => h) (Or.inl ⟨by rfl, ?_⟩) ?_ ?_
         rotate_left
         ·intro w'
          go_simp
          with_reducible rfl
         rotate_left
         ·simp only [Act.put, List.setIfInBounds_toArray, List.set_cons_zero, List.set_cons_succ, i64_w, i32_w]
          rfl
         refine take_ (i := 2) (N := some 16) (v := ?_) (a' := ?_) #[true, true, true, false, false, false, false] rfl rfl (by kernel_rfl) (fun _ _ _ h => h) (Or.inl ⟨by rfl, ?_⟩) hHeld ?_ ?_
         rotate_left
         ·rintro w' ⟨s0, s1, s2⟩
          go_simp
          with_reducible rfl
         rotate_left
         ·simp only [Act.put, List.setIfInBounds_toArray, List.set_cons_zero, List.set_cons_succ, i64_w, i32_w]
          rfl
         refine take_ (i := 3) (N := some 17) (v := ?_) (a' := ?_) #[true, true, true, true, false, false, false] rfl rfl (by kernel_rfl) (fun _ _ _ h => h) (Or.inl ⟨by rfl, ?_⟩) hHeld ?_ ?_
         rotate_left
         ·rintro w' ⟨s0, s1, s2⟩
          go_simp
          with_reducible rfl
         rotate_left
         ·simp only [Act.put, List.setIfInBounds_toArray, List.set_cons_zero, List.set_cons_succ, i64_w, i32_w]
          rfl
         refine one_ (i := 4) (N := some 18) #[true, true, true, true, true, false, false] rfl rfl (by kernel_rfl) (by decide) (fun K hK => ?_)
         refine goes_ Try.func34 (by kernel_rfl) rfl #[.agg #[.string ((rd_T53 l0 x10_1).f0), .int .i64 ((rd_T53 l0 x10_1).f1), .int .i64 ((rd_T53 l0 x10_1).f2)]] (by rfl) rfl rfl ma_ ?_
         with_reducible refine (impl_Turn_end.calls ((rd_T53 l0 x10_1).f0) ((rd_T53 l0 x10_1).f1) ((rd_T53 l0 x10_1).f2) t401 _ A6.out).mono ?_
         rintro e w14 ⟨rfl, hb⟩
         refine ⟨_, rfl, ?_⟩
         have n0_ := Aside0.mk (Kd.R_below (kr_ HO_5.out) hb)
         have n1_ := Aside0.mk (blk_below (g := gb400) (o := .cells #[.string ((rd_T53 l0 x10_1).f0), .int .i64 ((rd_T53 l0 x10_1).f1), .int .i64 ((rd_T53 l0 x10_1).f2)] 53 (0, 0)) (bk_ BK400.out) hb)
         have n2_ := Aside0.mk (below_step bw_ hb)
         clear HO_5
         clear BK400
         clear HB
         have HO_5 := n0_
         have BK400 := n1_
         have HB := n2_
         clear n0_ n1_ n2_
         (try clear hb)
         (try clear hb2)
         (try clear hk)
         (try clear hi)
         refine hK.out _ _ ⟨(blk_cell BK400.out 0).trans rfl, (blk_cell BK400.out 1).trans rfl, (blk_cell BK400.out 2).trans rfl⟩ (fun hHeld => ?_)
         clear hK K
         refine norm_ (a' := ?_) ?_ ?_
         rotate_left
         ·show Act.put _ (some 18) _ = _
          simp only [Act.put, List.setIfInBounds_toArray, List.set_cons_zero, List.set_cons_succ, i64_w, i32_w]
          rfl
         refine pure_ (i := 5) (N := some 19) (v := ?_) (a' := ?_) #[true, true, true, true, true, true, false] rfl rfl (by kernel_rfl) (fun _ _ _ h => h) (Or.inl ⟨by rfl, ?_⟩) ?_ ?_
         rotate_left
         ·intro w'
          go_simp
          with_reducible rfl
         rotate_left
         ·simp only [Act.put, List.setIfInBounds_toArray, List.set_cons_zero, List.set_cons_succ, i64_w, i32_w]
          rfl
         refine one_ (i := 6) (N := some 20) #[true, true, true, true, true, true, true] rfl rfl (by kernel_rfl) (by decide) (fun K hK => ?_)
         refine goes_ Try.func31 (by kernel_rfl) rfl #[.int .i64 a1, .int .i64 ((rd_T53 l0 x10_1).f1), .int .i64 (wrap64 (t401 - 1))] (by rfl) rfl rfl ma_ ?_
         with_reducible refine (impl_within.calls a1 ((rd_T53 l0 x10_1).f1) (wrap64 (t401 - 1)) true _ A7.out).mono ?_
         rintro e w' ⟨rfl, ⟨nd, rfl⟩⟩
         refine ⟨_, rfl, ?_⟩
         refine hK.out _ _ ⟨(blk_cell BK400.out 0).trans rfl, (blk_cell BK400.out 1).trans rfl, (blk_cell BK400.out 2).trans rfl⟩ (fun hHeld => ?_)
         clear hK K
         refine norm_ (a' := ?_) ?_ ?_
         rotate_left
         ·show Act.put _ (some 20) _ = _
          simp only [Act.put, List.setIfInBounds_toArray, List.set_cons_zero, List.set_cons_succ, i64_w, i32_w]
          rfl
         refine done_ (by kernel_rfl) ?_
         have hcz15_0 : w14.cell? ⟨gb400, 0, none⟩ = some (.string ((rd_T53 l0 x10_1).f0)) := (blk_cell BK400.out 0).trans rfl
         have hcz15_1 : w14.cell? ⟨gb400, 1, none⟩ = some (.int .i64 ((rd_T53 l0 x10_1).f1)) := (blk_cell BK400.out 1).trans rfl
         have hcz15_2 : w14.cell? ⟨gb400, 2, none⟩ = some (.int .i64 ((rd_T53 l0 x10_1).f2)) := (blk_cell BK400.out 2).trans rfl
         have hfz15_0 := blk_frozen BK400.out 0
         have hfz15_1 := blk_frozen BK400.out 1
         have hfz15_2 := blk_frozen BK400.out 2
         try go_wp2_with (first | ((with_reducible refine gate_builtin (b := .append) (xs := #[.tmp 21, .tmp 24]) rfl ?_); at_builtin; refine Kd.R_append Kd.string (w0 := w) w.heap.size rfl (.tmp 21) (.tmp 24) 71 9 (.string ⟨#[]⟩) 16 rfl Try.underlying71 info9 rfl (by decide) (by omega) u5 x5_1 ((rd_T53 l0 x10_1).f0) [.string ((rd_T53 l0 x10_1).f0)] (fun _ => True) (fun _ => False) rfl rfl ?aP (fun _ hk => hk.elim) ?aF ?aO ?aB ?aS ?aL ?_; (case aP => exact rfl); (case aB => exact bw_); (case aF => exact (fun _ _ => trivial)); (case aO => exact (kr_ HO_5.out)); (case aS => exact (below_size bw_)); (case aL => have := LMc9.out; omega); intro v404 w16 ho hb hg hat; rw [← Ny403.out] at ho; have n0_ := Aside0.mk (blk_grown (g := gb400) (o := .cells #[.string ((rd_T53 l0 x10_1).f0), .int .i64 ((rd_T53 l0 x10_1).f1), .int .i64 ((rd_T53 l0 x10_1).f2)] 53 (0, 0)) (bk_ BK400.out) hg (Kd.R_ne HO_5.out BK400.out (by decide))); have n1_ := Aside0.mk (hb); have n2_ := Aside0.mk (ho); clear BK400; clear HB; clear HO_5; have BK400 := n0_; have HB := n1_; have HO405 := n2_; clear n0_ n1_ n2_; clear ho hb hg hat))
         go_roundg k1
         case measure => have := HK1.out; omega
         case rel => exact ⟨(y403), (wrap64 (x10_1 + 1)), rs_, H', ⟨by have := HK1.out; omega⟩, ⟨kr_ HO405.out⟩, ⟨bw_⟩⟩
        ·rw [if_neg c9] at H
         exact absurd H (by simp)
       ·replace c8 := Bool.eq_false_iff.mpr c8
        subst c8
        have H1 : (impl_playersAt.l0 k1 a1 x5_1 l0 (l0.length : Int) (wrap64 (x10_1 + 1))) = some r0 := by rw [if_neg (show ¬ (false = true) by decide)] at H; exact H
        clear H
        have H := H1
        clear H1
        have H' := Aside0.mk H
        clear H
        have p399 : 0 ≤ (x10_1 : Int) := of_decide_eq_true as_
        have q399 : x10_1 < (l0.length : Int) := of_decide_eq_true as_
        obtain ⟨ad399, e399, hx399_0, hx399_1, hx399_2⟩ := at_T53 HR0.out x10_1 p399 q399
        cases e399
        replace hx399_0 := (HB.out.cell (World.block_lt_of_cell? w _ hx399_0)).trans hx399_0
        replace hx399_1 := (HB.out.cell (World.block_lt_of_cell? w _ hx399_1)).trans hx399_1
        replace hx399_2 := (HB.out.cell (World.block_lt_of_cell? w _ hx399_2)).trans hx399_2
        replace p399 := eq_true p399
        replace q399 := eq_true q399
        try go_wp2_with (first | ((with_reducible refine gate_dst (N := 7) rfl ?_); refine box_event ?hg (N := 7) ?hd (cs := #[.string (⟨#[]⟩ : ByteArray), .int .i64 0, .int .i64 0]) (t := 53) ?hr ?_; (case hd => rfl); (case hg => rfl); (case hr => first | (go_simp; done) | (go_simp; rfl)); intro gb400 hg w17 hbox hb; have n0_ := Aside0.mk (Kd.R_below (kr_ HO_5.out) hb); have n1_ := Aside0.mk (below_step bw_ hb); have n2_ := Aside0.mk (hbox); have n3_ := Aside0.mk ((by rw [hg]; exact (below_size bw_) : w.heap.size ≤ gb400)); have n4_ := Aside0.mk ((by rw [hg]; exact (below_size bw_) : w.heap.size ≤ gb400)); clear HO_5; clear HB; have HO_5 := n0_; have HB := n1_; have BK400 := n2_; have GW400 := n3_; have GE400 := n4_; clear n0_ n1_ n2_ n3_ n4_; clear hb hbox hg; have hcz18_0 : w17.cell? ⟨gb400, 0, none⟩ = some (.string (⟨#[]⟩ : ByteArray)) := (blk_cell BK400.out 0).trans rfl; have hcz18_1 : w17.cell? ⟨gb400, 1, none⟩ = some (.int .i64 0) := (blk_cell BK400.out 1).trans rfl; have hcz18_2 : w17.cell? ⟨gb400, 2, none⟩ = some (.int .i64 0) := (blk_cell BK400.out 2).trans rfl; have hfz18_0 := blk_frozen BK400.out 0; have hfz18_1 := blk_frozen BK400.out 1; have hfz18_2 := blk_frozen BK400.out 2))
        have n0_ : Aside0 (Kd.R Kd.string 9 (((w17.setCell ⟨gb400, 0, none⟩ (.string ((rd_T53 l0 x10_1).f0))).setCell ⟨gb400, 1, none⟩ (.int .i64 ((rd_T53 l0 x10_1).f1))).setCell ⟨gb400, 2, none⟩ (.int .i64 ((rd_T53 l0 x10_1).f2))) w.heap.size (fun _ => True) u5 x5_1) := ⟨by (with_reducible repeat (first | apply Kd.R_alloc | apply Kd.R_drewN | apply Kd.R_drew)); exact Kd.R_mono (Kd.R_far (p := ⟨gb400, 2, none⟩) (Kd.R_far (p := ⟨gb400, 1, none⟩) (Kd.R_far (p := ⟨gb400, 0, none⟩) (Kd.R_types HO_5.out BK400.out (by decide)) (fun _ hk => hk.2) (.string ((rd_T53 l0 x10_1).f0))) (fun _ hk => hk.2) (.int .i64 ((rd_T53 l0 x10_1).f1))) (fun _ hk => hk.2) (.int .i64 ((rd_T53 l0 x10_1).f2))) (fun _ hk => trivial)⟩
        have n1_ : Aside0 ((((w17.setCell ⟨gb400, 0, none⟩ (.string ((rd_T53 l0 x10_1).f0))).setCell ⟨gb400, 1, none⟩ (.int .i64 ((rd_T53 l0 x10_1).f1))).setCell ⟨gb400, 2, none⟩ (.int .i64 ((rd_T53 l0 x10_1).f2))).heap[gb400]? = some (.cells #[.string ((rd_T53 l0 x10_1).f0), .int .i64 ((rd_T53 l0 x10_1).f1), .int .i64 ((rd_T53 l0 x10_1).f2)] 53 (0, 0))) := ⟨by (with_reducible repeat (first | refine blk_drewN ?_ _ | refine blk_drew ?_ | refine blk_alloc ?_ _)); refine blk_put (cs := #[.string ((rd_T53 l0 x10_1).f0), .int .i64 ((rd_T53 l0 x10_1).f1), .int .i64 0]) ?_ 2 _ rfl; (with_reducible repeat (first | refine blk_drewN ?_ _ | refine blk_drew ?_ | refine blk_alloc ?_ _)); refine blk_put (cs := #[.string ((rd_T53 l0 x10_1).f0), .int .i64 0, .int .i64 0]) ?_ 1 _ rfl; (with_reducible repeat (first | refine blk_drewN ?_ _ | refine blk_drew ?_ | refine blk_alloc ?_ _)); refine blk_put (cs := #[.string (⟨#[]⟩ : ByteArray), .int .i64 0, .int .i64 0]) ?_ 0 _ rfl; (with_reducible repeat (first | refine blk_drewN ?_ _ | refine blk_drew ?_ | refine blk_alloc ?_ _)); exact BK400.out⟩
        have n2_ : Aside0 (Below w.heap.size w (((w17.setCell ⟨gb400, 0, none⟩ (.string ((rd_T53 l0 x10_1).f0))).setCell ⟨gb400, 1, none⟩ (.int .i64 ((rd_T53 l0 x10_1).f1))).setCell ⟨gb400, 2, none⟩ (.int .i64 ((rd_T53 l0 x10_1).f2)))) := ⟨bw_⟩
        (try clear HO_5)
        (try clear BK400)
        (try clear HB)
        generalize (((w17.setCell ⟨gb400, 0, none⟩ (.string ((rd_T53 l0 x10_1).f0))).setCell ⟨gb400, 1, none⟩ (.int .i64 ((rd_T53 l0 x10_1).f1))).setCell ⟨gb400, 2, none⟩ (.int .i64 ((rd_T53 l0 x10_1).f2))) = w19 at n0_ n1_ n2_ ⊢
        have HO_5 := n0_
        have BK400 := n1_
        have HB := n2_
        clear n0_ n1_ n2_
        have n0_ := Aside0.mk (Kd.R_drew HO_5.out)
        have n1_ := Aside0.mk (blk_drew BK400.out)
        have n2_ := Aside0.mk (below_drew1 HB.out)
        clear HO_5
        clear BK400
        clear HB
        have HO_5 := n0_
        have BK400 := n1_
        have HB := n2_
        clear n0_ n1_ n2_
        refine start_ (n := 7) (S := fun w' => w'.cell? ⟨gb400, 0, none⟩ = some (.string ((rd_T53 l0 x10_1).f0)) ∧ w'.cell? ⟨gb400, 1, none⟩ = some (.int .i64 ((rd_T53 l0 x10_1).f1)) ∧ w'.cell? ⟨gb400, 2, none⟩ = some (.int .i64 ((rd_T53 l0 x10_1).f2))) (ds := []) #[false, false, false, false, false, false, false] (by kernel_rfl) rfl rfl ⟨(blk_cell BK400.out 0).trans rfl, (blk_cell BK400.out 1).trans rfl, (blk_cell BK400.out 2).trans rfl⟩ (fun hHeld => ?_)
        generalize w19.drew = w20 at HO_5 BK400 HB hHeld ⊢
        refine pure_ (i := 0) (N := some 14) (v := ?_) (a' := ?_) #[true, false, false, false, false, false, false] rfl rfl (by kernel_rfl) (fun _ _ _ h => h) (Or.inl ⟨by rfl, ?_⟩) ?_ ?_
        rotate_left
        ·intro w'
         go_simp
         with_reducible rfl
        rotate_left
        ·simp only [Act.put, List.setIfInBounds_toArray, List.set_cons_zero, List.set_cons_succ, i64_w, i32_w]
         rfl
        refine pure_ (i := 1) (N := some 15) (v := ?_) (a' := ?_) #[true, true, false, false, false, false, false] rfl rfl (by kernel_rfl) (fun _ _ _ h => h) (Or.inl ⟨by rfl, ?_⟩) ?_ ?_
        rotate_left
        ·intro w'
         go_simp
         with_reducible rfl
        rotate_left
        ·simp only [Act.put, List.setIfInBounds_toArray, List.set_cons_zero, List.set_cons_succ, i64_w, i32_w]
         rfl
        refine take_ (i := 2) (N := some 16) (v := ?_) (a' := ?_) #[true, true, true, false, false, false, false] rfl rfl (by kernel_rfl) (fun _ _ _ h => h) (Or.inl ⟨by rfl, ?_⟩) hHeld ?_ ?_
        rotate_left
        ·rintro w' ⟨s0, s1, s2⟩
         go_simp
         with_reducible rfl
        rotate_left
        ·simp only [Act.put, List.setIfInBounds_toArray, List.set_cons_zero, List.set_cons_succ, i64_w, i32_w]
         rfl
        refine take_ (i := 3) (N := some 17) (v := ?_) (a' := ?_) #[true, true, true, true, false, false, false] rfl rfl (by kernel_rfl) (fun _ _ _ h => h) (Or.inl ⟨by rfl, ?_⟩) hHeld ?_ ?_
        rotate_left
        ·rintro w' ⟨s0, s1, s2⟩
         go_simp
         with_reducible rfl
        rotate_left
        ·simp only [Act.put, List.setIfInBounds_toArray, List.set_cons_zero, List.set_cons_succ, i64_w, i32_w]
         rfl
        refine one_ (i := 4) (N := some 18) #[true, true, true, true, true, false, false] rfl rfl (by kernel_rfl) (by decide) (fun K hK => ?_)
        refine goes_ Try.func34 (by kernel_rfl) rfl #[.agg #[.string ((rd_T53 l0 x10_1).f0), .int .i64 ((rd_T53 l0 x10_1).f1), .int .i64 ((rd_T53 l0 x10_1).f2)]] (by rfl) rfl rfl ma_ ?_
        with_reducible refine (impl_Turn_end.calls ((rd_T53 l0 x10_1).f0) ((rd_T53 l0 x10_1).f1) ((rd_T53 l0 x10_1).f2) t401 _ A6.out).mono ?_
        rintro e w21 ⟨rfl, hb⟩
        refine ⟨_, rfl, ?_⟩
        have n0_ := Aside0.mk (Kd.R_below (kr_ HO_5.out) hb)
        have n1_ := Aside0.mk (blk_below (g := gb400) (o := .cells #[.string ((rd_T53 l0 x10_1).f0), .int .i64 ((rd_T53 l0 x10_1).f1), .int .i64 ((rd_T53 l0 x10_1).f2)] 53 (0, 0)) (bk_ BK400.out) hb)
        have n2_ := Aside0.mk (below_step bw_ hb)
        clear HO_5
        clear BK400
        clear HB
        have HO_5 := n0_
        have BK400 := n1_
        have HB := n2_
        clear n0_ n1_ n2_
        (try clear hb)
        (try clear hb2)
        (try clear hk)
        (try clear hi)
        refine hK.out _ _ ⟨(blk_cell BK400.out 0).trans rfl, (blk_cell BK400.out 1).trans rfl, (blk_cell BK400.out 2).trans rfl⟩ (fun hHeld => ?_)
        clear hK K
        refine norm_ (a' := ?_) ?_ ?_
        rotate_left
        ·show Act.put _ (some 18) _ = _
         simp only [Act.put, List.setIfInBounds_toArray, List.set_cons_zero, List.set_cons_succ, i64_w, i32_w]
         rfl
        refine pure_ (i := 5) (N := some 19) (v := ?_) (a' := ?_) #[true, true, true, true, true, true, false] rfl rfl (by kernel_rfl) (fun _ _ _ h => h) (Or.inl ⟨by rfl, ?_⟩) ?_ ?_
        rotate_left
        ·intro w'
         go_simp
         with_reducible rfl
        rotate_left
        ·simp only [Act.put, List.setIfInBounds_toArray, List.set_cons_zero, List.set_cons_succ, i64_w, i32_w]
         rfl
        refine one_ (i := 6) (N := some 20) #[true, true, true, true, true, true, true] rfl rfl (by kernel_rfl) (by decide) (fun K hK => ?_)
        refine goes_ Try.func31 (by kernel_rfl) rfl #[.int .i64 a1, .int .i64 ((rd_T53 l0 x10_1).f1), .int .i64 (wrap64 (t401 - 1))] (by rfl) rfl rfl ma_ ?_
        with_reducible refine (impl_within.calls a1 ((rd_T53 l0 x10_1).f1) (wrap64 (t401 - 1)) false _ A7.out).mono ?_
        rintro e w' ⟨rfl, ⟨nd, rfl⟩⟩
        refine ⟨_, rfl, ?_⟩
        refine hK.out _ _ ⟨(blk_cell BK400.out 0).trans rfl, (blk_cell BK400.out 1).trans rfl, (blk_cell BK400.out 2).trans rfl⟩ (fun hHeld => ?_)
        clear hK K
        refine norm_ (a' := ?_) ?_ ?_
        rotate_left
        ·show Act.put _ (some 20) _ = _
         simp only [Act.put, List.setIfInBounds_toArray, List.set_cons_zero, List.set_cons_succ, i64_w, i32_w]
         rfl
        refine done_ (by kernel_rfl) ?_
        try go_wp2
        go_roundg k1
        case measure => have := HK1.out; omega
        case rel => exact ⟨(x5_1), (wrap64 (x10_1 + 1)), rs_, H', ⟨by have := HK1.out; omega⟩, ⟨kr_ HO_5.out⟩, ⟨bw_⟩⟩
      ·rw [if_neg c5] at H
       exact absurd H (by simp)
     ·rw [if_neg c4] at H
      exact absurd H (by simp)
    ·rw [if_neg c3] at H
     have c3b0 : decide (x10_1 < (l0.length : Int)) = false := decide_eq_false c3
     clear c3
     obtain rfl := Option.some.inj H
     go_wp2_with (first | (go_at_call 63; (with_reducible refine (sort_w _ _ w _ HO_5.out HB.out HS.out).mono ?_); rintro e w8 ⟨rfl, ho, hb⟩; have n1_ := Aside0.mk ho; have n2_ := Aside0.mk hb; clear ho hb HO_5 HB; have HO_S := n1_; have HB := n2_; clear n1_ n2_) | (go_at_call 64; (with_reducible refine (compact_w _ _ w _ HO_S.out HB.out (by have := HS.out; rw [sortS_length]; exact this)).mono ?_); rintro e w9 ⟨v9, rfl, ho, hb⟩; have n1_ := Aside0.mk ho; have n2_ := Aside0.mk hb; clear ho hb HO_S HB; have HO_C := n1_; have HB := n2_; clear n1_ n2_))
     go_ret
     exact ⟨_, rfl, HO_C.out, HB.out⟩
 ·rw [if_neg hs] at h1
  cases h1
set_option maxHeartbeats 8000000 in
set_option maxRecDepth 100000 in
theorem impl_SoloTime1_w (a : ByteArray) (n m : Int) (p : ByteArray) (B1 : Nat) (w : World) (c1 : w.cell? ⟨B1, 0, none⟩ = some (.string p)) :
  Calls Try.prog 46 #[.agg #[.string a, .int .i64 n, .int .i64 m], .pointer (some ⟨B1, 0, none⟩)] w fun e w' => e = .returned (.bool (a.toList == p.toList)) ∧ Below w.heap.size w w' := by
 have C1 := Aside0.mk c1
 clear c1
 have HB := Aside0.mk (Below.refl w.heap.size w)
 go_enter Try.func46, Try.ntmps46
 go_wp2_with ((with_reducible refine gate_dst (N := 2) rfl ?_); refine box_event ?hg (N := 2) ?hd (cs := #[.string a, .int .i64 n, .int .i64 m]) (t := 53) ?hr ?_; (case hd => rfl); (case hg => rfl); (case hr => first | (go_simp; done) | (go_simp; rfl)); intro gb3 hg w3 hbox hb; have n1_ := Aside0.mk (below_step HB.out hb); clear HB; have HB := n1_; have hz0 : w3.cell? ⟨gb3, 0, none⟩ = some (.string a) := (blk_cell hbox 0).trans rfl; have hz1 := (HB.out.cell (World.block_lt_of_cell? w _ C1.out)).trans C1.out; clear n1_ hg hbox hb)
 repeat (go_quiet (fail); try go_wp2)
 go_ret
 exact ⟨rfl, bw_⟩
set_option maxHeartbeats 8000000 in
set_option maxRecDepth 100000 in
theorem slices_IndexFunc_turn_w (g : Nat) (lb : Array Value) (p : S53 → Bool) (eg : ∀ args w, (callFunc g args).run Try.prog w = .ok (.enter g args) w) (A : Option Addr) (c : Nat) (l : List S53) (w : World)
  (hp : ∀ (W : World) (x : S53), Below w.heap.size w W → Calls Try.prog g (#[.agg #[.string x.f0, .int .i64 x.f1, .int .i64 x.f2]] ++ lb) W fun e w' => e = .returned (.bool (p x)) ∧ Below W.heap.size W w') (hl : l.length ≤ 2000000) (hr : Kd.C k53 w A l.length l) :
  Calls Try.prog 62 #[.slice A l.length c, .func (.func g) #[] lb] w fun e w' => (∃ r : Int, e = .returned (.int .i64 r) ∧ (0 ≤ r ↔ l.any p = true)) ∧ Below w.heap.size w w' := by
 have HR0 := Aside0.mk hr
 have HB := Aside0.mk (Below.refl w.heap.size w)
 have HL := Aside0.mk hl
 have HP := Aside0.mk hp
 clear hr hl hp
 go_enter Try.func62, Try.ntmps62
 go_wp2
 go_loopg [5, 8] l.length (fun gg _ v8 wr => ∃ i : Nat, v8 = .int .i64 i ∧ Aside0 (i ≤ l.length ∧ l.length - i ≤ gg ∧ (l.take i).any p = false) ∧ Aside0 (Below w.heap.size w wr))
 case atStart => exact ⟨0, rfl, ⟨Nat.zero_le _, by omega, by simp⟩, HB⟩
 case round =>
  obtain ⟨i, rfl, A1, HB⟩ := hrel
  by_cases hlt : (i : Int) < (l.length : Int)
  ·have c4b0 : decide ((i : Int) < (l.length : Int)) = true := decide_eq_true hlt
   have p1 : 0 ≤ (i : Int) := by omega
   have q1 : (i : Int) < (l.length : Int) := hlt
   obtain ⟨ad, e, hx0, hx1, hx2⟩ := at_T53 HR0.out (i : Int) p1 q1
   cases e
   rw [Int.toNat_natCast] at hx0 hx1 hx2
   have hil : i < l.length := by omega
   have hxl : rd_T53 l (i : Int) = l[i] := by simp [rd_T53, List.getD_eq_getElem?_getD, List.getElem?_eq_getElem hil]
   have htake : (l.take (i + 1)).any p = ((l.take i).any p || p (rd_T53 l (i : Int))) := by
    rw [List.take_succ_eq_append_getElem hil, List.any_append, hxl]
    simp
   have hmem : p (rd_T53 l (i : Int)) = true → l.any p = true := fun h => List.any_eq_true.2 ⟨_, hxl ▸ List.getElem_mem hil, h⟩
   clear hxl
   generalize rd_T53 l (i : Int) = x at hx0 hx1 hx2 htake hmem
   have HLI := Aside0.mk (And.intro htake (And.intro hmem hil))
   clear htake hmem
   replace hx0 := (HB.out.cell (World.block_lt_of_cell? w _ hx0)).trans hx0
   replace hx1 := (HB.out.cell (World.block_lt_of_cell? w _ hx1)).trans hx1
   replace hx2 := (HB.out.cell (World.block_lt_of_cell? w _ hx2)).trans hx2
   replace p1 := eq_true p1
   replace q1 := eq_true q1
   clear hil hlt
   have hc := fun W hW => HP.out W x hW
   cases hq : p x with
   | true =>
    rw [hq] at hc
    go_wp2_with (go_at_fn g; refine (hc _ HB.out).mono ?_; rintro e w' ⟨rfl, hb⟩)
    first | go_ret2 | go_ret
    refine ⟨⟨_, rfl, ?_⟩, ?_⟩
    ·rw [HLI.out.2.1 hq]
     simp
    ·exact below_step HB.out hb
   | false =>
    rw [hq] at hc
    go_wp2_with (go_at_fn g; refine (hc _ HB.out).mono ?_; rintro e w' ⟨rfl, hb⟩)
    have n1_ := Aside0.mk (below_step HB.out hb)
    go_roundg (l.length - (i + 1))
    case measure => have := A1.out; have := HLI.out.2.2; omega
    case rel =>
     have hll := HL.out
     have hii := HLI.out.2.2
     have hw : wrap64 ((i : Int) + 1) = ((i + 1 : Nat) : Int) := by unfold wrap64; omega
     exact ⟨i + 1, by rw [hw], ⟨by omega, by omega, by rw [HLI.out.1, A1.out.2.2, hq]; rfl⟩, n1_⟩
  ·have c4b0 : decide ((i : Int) < (l.length : Int)) = false := decide_eq_false hlt
   have hend := A1.out.2.2
   rw [List.take_of_length_le (by omega)] at hend
   go_wp2
   first | go_ret2 | go_ret
   refine ⟨⟨_, rfl, ?_⟩, HB.out⟩
   first | omega | (simp only [hend]; simp) | simp
set_option maxHeartbeats 8000000 in
set_option maxRecDepth 100000 in
theorem slices_ContainsFunc_turn_w (g : Nat) (lb : Array Value) (p : S53 → Bool) (eg : ∀ args w, (callFunc g args).run Try.prog w = .ok (.enter g args) w) (A : Option Addr) (c : Nat) (l : List S53) (w : World)
  (hp : ∀ (W : World) (x : S53), Below w.heap.size w W → Calls Try.prog g (#[.agg #[.string x.f0, .int .i64 x.f1, .int .i64 x.f2]] ++ lb) W fun e w' => e = .returned (.bool (p x)) ∧ Below W.heap.size W w') (hl : l.length ≤ 2000000) (hr : Kd.C k53 w A l.length l) :
  Calls Try.prog 45 #[.slice A l.length c, .func (.func g) #[] lb] w fun e w' => e = .returned (.bool (l.any p)) ∧ Below w.heap.size w w' := by
 have hk := slices_IndexFunc_turn_w g lb p eg A c l w hp hl hr
 clear hr hp
 generalize l.any p = B at hk ⊢
 go_enter Try.func45, Try.ntmps45
 go_wp2_with (go_at_call 62; refine hk.mono ?_; rintro e w' ⟨⟨r, rfl, hr2⟩, hb⟩)
 go_ret
 refine ⟨?_, hb⟩
 cases B <;> simp_all
theorem equal1_w (v : Value) (ps : List ByteArray) (p : ByteArray) (base : Nat) (b2 c2 : Nat) (W : World) (hR : Kd.R Kd.string 9 W base (fun _ => True) v ps) (hc : W.cell? ⟨b2, 0, none⟩ = some (.string p)) :
  Calls Try.prog 47 #[v, .slice (some ⟨b2, 0, none⟩) 1 c2] W fun e w' => e = .returned (.bool (decide (ps = [p]))) ∧ ∃ q, w' = W.drewN q := by
 by_cases h1 : ps.length = 1
 ·obtain ⟨g, cap, rfl, _⟩ := Kd.R_form hR (by omega)
  have hrd := (Kd.R_reads' hR).2.2
  rw [h1]
  have hcell : W.cell? ⟨g, 0, none⟩ = some (.string (ps.getD 0 ByteArray.empty)) := by
   obtain ⟨ad, e, hx⟩ := Kd.at_string hrd 0 (by omega) (by omega)
   injection e with e
   subst e
   simpa [Addr.add_zero', rdOf] using hx
  have hk := Try.slices_Equal_string g 0 1 cap b2 0 1 c2 ps [p] W (by omega) (by simp) (by omega) (by omega) (fun j hj => by
   have : j = 0 := by omega
   subst this
   exact hcell) (fun j hj => by
   have : j = 0 := by simpa using hj
   subst this
   exact hc)
  refine hk.mono ?_
  rintro e w' ⟨rfl, q, rfl⟩
  refine ⟨?_, q, rfl⟩
  rw [List.take_of_length_le (by omega), List.take_of_length_le (by simp)]
 ·obtain ⟨A, c, rfl, _, _⟩ := Kd.R_reads hR
  refine (Try.slices_Equal_string_lens A (some ⟨b2, 0, none⟩) ps.length c 1 c2 W h1).mono ?_
  rintro e w' ⟨rfl, rfl⟩
  refine ⟨?_, 0, rfl⟩
  rw [decide_eq_false (fun e => h1 (by rw [e]; rfl))]
def impl_SoloTime.l0 : Nat → List S53 → ByteArray → Int → Int → Option (Int × Int)
 | 0, _, _, _, _ => none
 | k + 1, l, p, x6, x17 => if x17 < 20000 then ((impl_playersAt.f k l x17).bind fun ps => (if decide (ps = [p]) = true then (impl_SoloTime.l0 k l p (wrap64 (x6 + 1)) (wrap64 (x17 + 1))) else (impl_SoloTime.l0 k l p x6 (wrap64 (x17 + 1))))) else (some (x6, 0))
def impl_SoloTime.f (k : Nat) (l0 : List (S53)) (a1 : ByteArray) : Option (Int × Int) := (impl_ValidTurns.f k l0).bind fun v => if v = true then (if l0.length ≤ 2000000 then (if (l0.any fun t => t.f0.toList == a1.toList) = true then impl_SoloTime.l0 k l0 a1 0 0 else some (0, 3)) else none) else some (0, 1)
theorem impl_SoloTime.mono_l : ∀ k, (∀ y0 y1 y2 y3, LeO (impl_SoloTime.l0 k y0 y1 y2 y3) (impl_SoloTime.l0 (k + 1) y0 y1 y2 y3))
 | 0 => fun _ _ _ _ r h => by simp [impl_SoloTime.l0] at h
 | k + 1 => by
  have ih0 := impl_SoloTime.mono_l k
  intro y0 y1 y2 y3
  unfold impl_SoloTime.l0
  repeat' first
   | (with_reducible exact ih0 _ _ _ _)
   | (with_reducible exact impl_playersAt.mono _ _ _)
   | (with_reducible exact LeO.refl _)
   | (with_reducible refine LeO.ite ?_ ?_)
   | (with_reducible refine LeO.bind ?_ (fun _ => ?_))
theorem impl_SoloTime.mono : ∀ a0 a1 k, LeO (impl_SoloTime.f k a0 a1) (impl_SoloTime.f (k + 1) a0 a1) := by
 intro a0 a1 k
 unfold impl_SoloTime.f
 repeat' first
  | (with_reducible exact impl_SoloTime.mono_l _ _ _ _ _)
  | (with_reducible exact impl_ValidTurns.mono _ _)
  | (with_reducible exact LeO.refl _)
  | (with_reducible exact LeO.none _)
  | (with_reducible refine LeO.ite ?_ ?_)
  | (with_reducible refine LeO.bind ?_ (fun _ => ?_))
set_option maxHeartbeats 1000000 in
set_option maxRecDepth 100000 in
theorem impl_SoloTime.calls (k : Nat) (A0 : Option Addr) (c0 : Nat) (l0 : List (S53)) (a1 : ByteArray) (r1 : Int) (r2 : Int) (w : World) (hr0 : Kd.C k53 w A0 l0.length l0) (hc0 : l0.length ≤ c0) (h : impl_SoloTime.f k l0 a1 = some (r1, r2)) :
  Calls Try.prog 17 #[.slice A0 l0.length c0, .string a1] w fun e w' => e = .returned (.tuple #[.int .i64 r1, .int .i64 r2]) ∧ Below w.heap.size w w' := by
 have HB := Aside0.mk (Below.refl w.heap.size w)
 have HR0 := Aside0.mk hr0
 have HC0 := Aside0.mk hc0
 clear hr0 hc0
 have eg : ∀ args w, (callFunc 46 args).run Try.prog w = .ok (.enter 46 args) w := enters_of Try.func46 (by kernel_rfl) rfl
 unfold impl_SoloTime.f at h
 replace h := Option.bind_eq_some_iff.mp h
 obtain ⟨v, hv, h⟩ := h
 have VT := Aside0.mk (fun (W : World) (hW : Below w.heap.size w W) => impl_ValidTurns.calls k A0 c0 l0 v W (Kd.C_below HR0.out hW) HC0.out hv)
 clear hv
 cases v with
 | false =>
  simp only [Bool.false_eq_true, if_false, Option.some.injEq, Prod.mk.injEq] at h
  obtain ⟨rfl, rfl⟩ := h
  go_enter Try.func17, Try.ntmps17
  go_wp2_with (first
   | ((with_reducible refine gate_dst (N := 3) rfl ?_); refine box_event ?hg (N := 3) ?hd (cs := #[.string a1]) (t := 9) ?hr ?_; (case hd => rfl); (case hg => rfl); (case hr => first | (go_simp; done) | (go_simp; rfl)); intro gb3 hg w3 hbox hb; have n1_ := Aside0.mk (below_step HB.out hb); have BK3 := Aside0.mk hbox; clear HB; have HB := n1_; clear n1_ hg hbox hb)
   | (go_at_call 29; (with_reducible refine (VT.out _ HB.out).mono ?_); rintro e w4 ⟨rfl, hb⟩; have n1_ := Aside0.mk (below_step HB.out hb); clear HB hb; have HB := n1_; clear n1_))
  go_ret2
  exact ⟨rfl, HB.out⟩
 | true =>
  simp only [if_true] at h
  by_cases hl : l0.length ≤ 2000000
  ·rw [if_pos hl] at h
   have CF := Aside0.mk (fun (W : World) (hW : Below w.heap.size w W) (B1 : Nat) (c1 : W.cell? ⟨B1, 0, none⟩ = some (.string a1)) => slices_ContainsFunc_turn_w 46 #[.pointer (some ⟨B1, 0, none⟩)] (fun t => t.f0.toList == a1.toList) eg A0 c0 l0 W (fun V x hV => impl_SoloTime1_w x.f0 x.f1 x.f2 a1 B1 V ((hV.cell (World.block_lt_of_cell? W _ c1)).trans c1)) hl (Kd.C_below HR0.out hW))
   clear hl
   generalize (l0.any fun t => t.f0.toList == a1.toList) = found at h CF
   cases found with
   | false =>
    simp only [Bool.false_eq_true, if_false, Option.some.injEq, Prod.mk.injEq] at h
    obtain ⟨rfl, rfl⟩ := h
    go_enter Try.func17, Try.ntmps17
    go_wp2_with (first
     | ((with_reducible refine gate_dst (N := 3) rfl ?_); refine box_event ?hg (N := 3) ?hd (cs := #[.string a1]) (t := 9) ?hr ?_; (case hd => rfl); (case hg => rfl); (case hr => first | (go_simp; done) | (go_simp; rfl)); intro gb3 hg w3 hbox hb; have n1_ := Aside0.mk (below_step HB.out hb); have BK3 := Aside0.mk hbox; clear HB; have HB := n1_; clear n1_ hg hbox hb)
     | (go_at_call 29; (with_reducible refine (VT.out _ HB.out).mono ?_); rintro e w4 ⟨rfl, hb⟩; have n1_ := Aside0.mk (below_step HB.out hb); have n2_ := Aside0.mk (blk_below BK3.out hb); clear HB BK3 hb; have HB := n1_; have BK3 := n2_; clear n1_ n2_)
     | (go_at_call 45; (with_reducible refine (CF.out _ HB.out gb3 ((blk_cell BK3.out 0).trans rfl)).mono ?_); rintro e w5 ⟨rfl, hb⟩; have n1_ := Aside0.mk (below_step HB.out hb); have n2_ := Aside0.mk (blk_below BK3.out hb); clear HB BK3 hb; have HB := n1_; have BK3 := n2_; clear n1_ n2_))
    go_ret2
    exact ⟨rfl, HB.out⟩
   | true =>
    simp only [if_true] at h
    have H' := Aside0.mk h
    clear h
    go_enter Try.func17, Try.ntmps17
    go_wp2_with (first
     | ((with_reducible refine gate_dst (N := 3) rfl ?_); refine box_event ?hg (N := 3) ?hd (cs := #[.string a1]) (t := 9) ?hr ?_; (case hd => rfl); (case hg => rfl); (case hr => first | (go_simp; done) | (go_simp; rfl)); intro gb3 hg w3 hbox hb; have GE3 := Aside0.mk (show w.heap.size ≤ gb3 by rw [hg]; exact HB.out.size); have n1_ := Aside0.mk (below_step HB.out hb); have BK3 := Aside0.mk hbox; clear HB; have HB := n1_; clear n1_ hg hbox hb)
     | (go_at_call 29; (with_reducible refine (VT.out _ HB.out).mono ?_); rintro e w4 ⟨rfl, hb⟩; have n1_ := Aside0.mk (below_step HB.out hb); have n2_ := Aside0.mk (blk_below BK3.out hb); clear HB BK3 hb; have HB := n1_; have BK3 := n2_; clear n1_ n2_)
     | (go_at_call 45; (with_reducible refine (CF.out _ HB.out gb3 ((blk_cell BK3.out 0).trans rfl)).mono ?_); rintro e w5 ⟨rfl, hb⟩; have n1_ := Aside0.mk (below_step HB.out hb); have n2_ := Aside0.mk (blk_below BK3.out hb); clear HB BK3 hb; have HB := n1_; have BK3 := n2_; clear n1_ n2_))
    go_loopg [6, 7, 17] k (fun kq v6 _ v17 wr => ∃ (x6 x17 : Int), v6 = .int .i64 x6 ∧ v17 = .int .i64 x17 ∧ Aside0 (impl_SoloTime.l0 kq l0 a1 x6 x17 = some (r1, r2)) ∧ Aside0 (kq ≤ k) ∧ Aside0 (wr.heap[gb3]? = some (.cells #[.string a1] 9 (0, 0))) ∧ Aside0 (Below w.heap.size w wr))
    case atStart => exact ⟨0, 0, rfl, rfl, H', ⟨Nat.le_refl _⟩, BK3, HB⟩
    case round =>
     obtain ⟨x6, x17, rfl, rfl, HA, HK1, BK3, HB⟩ := hrel
     cases gk with
     | zero => exact absurd HA.out (by simp [impl_SoloTime.l0])
     | succ k1 =>
      have H := HA.out
      clear HA
      simp only [impl_SoloTime.l0] at H
      by_cases c4 : x17 < 20000
      ·rw [if_pos c4] at H
       have c4b0 : decide (x17 < 20000) = true := decide_eq_true c4
       clear c4
       replace H := Option.bind_eq_some_iff.mp H
       obtain ⟨ps, hps, H⟩ := H
       have PA := Aside0.mk (fun (W : World) (hW : Below w.heap.size w W) => impl_playersAt.calls k1 A0 c0 l0 x17 ps W (Kd.C_below HR0.out hW) HC0.out hps)
       clear hps
       have EQ := Aside0.mk (fun (v : Value) (b2 c2 : Nat) (W : World) (hR : Kd.R Kd.string 9 W w.heap.size (fun _ => True) v ps) (hc : W.cell? ⟨b2, 0, none⟩ = some (.string a1)) => equal1_w v ps a1 w.heap.size b2 c2 W hR hc)
       generalize decide (ps = [a1]) = same at H EQ
       have hz : wr.cell? ⟨gb3, 0, none⟩ = some (.string a1) := (blk_cell BK3.out 0).trans rfl
       cases same with
       | true =>
        simp only [if_true] at H
        have H' := Aside0.mk H
        clear H
        go_wp2
        go_region_held3 (fun w' => w'.cell? ⟨gb3, 0, none⟩ = some (.string a1)) (go_keep)
         (first
          | (go_at_call 48; go_loud ((with_reducible refine (PA.out _ bw_).mono ?_); rintro e w8 ⟨v8, rfl, ho, hb⟩; have HO8 : Aside0 (Kd.R Kd.string 9 w8 w.heap.size (fun _ => True) v8 ps) := ⟨Kd.R_lower ho (below_size bw_)⟩; have HB8 := Aside0.mk (below_step bw_ hb); have Hb8 := Aside0.mk hb; have BK8 : Aside0 (w8.heap[gb3]? = some (.cells #[.string a1] 9 (0, 0))) := ⟨blk_below (bk_ BK3.out) hb⟩; have hz8 : w8.cell? ⟨gb3, 0, none⟩ = some (.string a1) := (blk_cell BK8.out 0).trans rfl; clear ho hb))
          | (go_at_call 47; go_loud (refine (EQ.out _ _ _ _ (kr_ HO8.out) (by first | (simp; done) | exact ((Hb8.out.cell (by simp)).trans (by simp)))).mono ?_); rintro e w9 ⟨rfl, nq, rfl⟩))
        all_goals go_wp2
        all_goals (go_roundg k1; (case measure => have := HK1.out; omega); (case rel => exact ⟨wrap64 (x6 + 1), wrap64 (x17 + 1), rfl, rfl, H', ⟨by have := HK1.out; omega⟩, ⟨bk_ BK8.out⟩, ⟨by repeat (first | (with_reducible first | exact HB8.out | apply below_alloc | apply pw_below_drewN | apply below_drew1) | exact HB8.out)⟩⟩))
       | false =>
        simp only [Bool.false_eq_true, if_false] at H
        have H' := Aside0.mk H
        clear H
        go_wp2
        go_region_held3 (fun w' => w'.cell? ⟨gb3, 0, none⟩ = some (.string a1)) (go_keep)
         (first
          | (go_at_call 48; go_loud ((with_reducible refine (PA.out _ bw_).mono ?_); rintro e w8 ⟨v8, rfl, ho, hb⟩; have HO8 : Aside0 (Kd.R Kd.string 9 w8 w.heap.size (fun _ => True) v8 ps) := ⟨Kd.R_lower ho (below_size bw_)⟩; have HB8 := Aside0.mk (below_step bw_ hb); have Hb8 := Aside0.mk hb; have BK8 : Aside0 (w8.heap[gb3]? = some (.cells #[.string a1] 9 (0, 0))) := ⟨blk_below (bk_ BK3.out) hb⟩; have hz8 : w8.cell? ⟨gb3, 0, none⟩ = some (.string a1) := (blk_cell BK8.out 0).trans rfl; clear ho hb))
          | (go_at_call 47; go_loud (refine (EQ.out _ _ _ _ (kr_ HO8.out) (by first | (simp; done) | exact ((Hb8.out.cell (by simp)).trans (by simp)))).mono ?_); rintro e w9 ⟨rfl, nq, rfl⟩))
        all_goals go_wp2
        all_goals (go_roundg k1; (case measure => have := HK1.out; omega); (case rel => exact ⟨x6, wrap64 (x17 + 1), rfl, rfl, H', ⟨by have := HK1.out; omega⟩, ⟨bk_ BK8.out⟩, ⟨by repeat (first | (with_reducible first | exact HB8.out | apply below_alloc | apply pw_below_drewN | apply below_drew1) | exact HB8.out)⟩⟩))
      ·rw [if_neg c4] at H
       have c4b0 : decide (x17 < 20000) = false := decide_eq_false c4
       clear c4
       simp only [Option.some.injEq, Prod.mk.injEq] at H
       obtain ⟨rfl, rfl⟩ := H
       go_wp2
       go_ret2
       exact ⟨rfl, HB.out⟩
  ·rw [if_neg hl] at h
   cases h
end Go.Proofs.Ytoalffemjkkngaa.PA
end
section
namespace Go.Proofs.Ytoalffemjkkngaa.PA
open Go.RowKit Go.Proofs.YtoalffemjkkngaaW.PrintWords Go.Proofs.YtoalffemjkkngaaW.PrintLast Go.Proofs.YtoalffemjkkngaaW.PrintMore
attribute [local go_sem] max2_int min2_int max_two min_two max_three min_three max_four min_four
set_option linter.unusedVariables false
set_option linter.unusedSimpArgs false
def laws_FnExactSoloTime.j0 : Nat → List (S42) → List (S53) → Bool → Option (Bool)
 | 0, _, _, _ => none
 | k + 1, x0, x8, x41 => if x41 = true then (some false) else ((laws_toTurnS.f k x0).bind fun t276 => ((laws_eqTurnS.f k x8 t276).bind fun t279 => (if t279 = true then (some true) else (some false))))
def laws_FnExactSoloTime.f (k : Nat) (l0 : List (S42)) (a1 : ByteArray) : Option (Bool) := if (a1.size : Int) > 1048576 then (some true) else ((laws_szTurnS.f k l0 1048576).bind fun t265 => (if t265 < 0 then (some true) else ((laws_toTurnS.f k l0).bind fun t266 => ((spec_SoloTime.f k t266 a1).bind fun bt269 => ((laws_toTurnS.f k l0).bind fun t271 => ((impl_SoloTime.f k t271 a1).bind fun bt274 => (if bt274.1 = bt269.1 then (laws_FnExactSoloTime.j0 k l0 t271 (bt274.2 != bt269.2)) else (laws_FnExactSoloTime.j0 k l0 t271 true))))))))
theorem laws_FnExactSoloTime.mono_l : ∀ k, (∀ y0 y1 y2, LeO (laws_FnExactSoloTime.j0 k y0 y1 y2) (laws_FnExactSoloTime.j0 (k + 1) y0 y1 y2))
 | 0 => fun _ _ _ r h => by simp [laws_FnExactSoloTime.j0] at h
 | k + 1 => by
  have ih0 := laws_FnExactSoloTime.mono_l k
  ·intro y0 y1 y2
   unfold laws_FnExactSoloTime.j0
   repeat' first
   | (with_reducible exact ih0 _ _ _)
   | (with_reducible exact impl_SoloTime.mono _ _ _)
   | (with_reducible exact laws_eqTurnS.mono _ _ _)
   | (with_reducible exact laws_szTurnS.mono _ _ _)
   | (with_reducible exact laws_toTurnS.mono _ _)
   | (with_reducible exact spec_SoloTime.mono _ _ _)
   | (with_reducible exact LeO.refl _)
   | (with_reducible exact LeO.none _)
   | (with_reducible refine LeO.ite ?_ ?_)
   | (with_reducible refine LeO.bind ?_ (fun _ => ?_))
theorem laws_FnExactSoloTime.mono : ∀ a0 a1 k, LeO (laws_FnExactSoloTime.f k a0 a1) (laws_FnExactSoloTime.f (k + 1) a0 a1) := by
 intro a0 a1 k
 have ih0 := laws_FnExactSoloTime.mono_l k
 unfold laws_FnExactSoloTime.f
 repeat' first
   | (with_reducible exact ih0 _ _ _)
   | (with_reducible exact impl_SoloTime.mono _ _ _)
   | (with_reducible exact laws_eqTurnS.mono _ _ _)
   | (with_reducible exact laws_szTurnS.mono _ _ _)
   | (with_reducible exact laws_toTurnS.mono _ _)
   | (with_reducible exact spec_SoloTime.mono _ _ _)
   | (with_reducible exact LeO.refl _)
   | (with_reducible exact LeO.none _)
   | (with_reducible refine LeO.ite ?_ ?_)
   | (with_reducible refine LeO.bind ?_ (fun _ => ?_))
set_option maxHeartbeats 8000000 in
set_option maxRecDepth 100000 in
theorem laws_FnExactSoloTime.calls (k : Nat) (A0 : Option Addr) (c0 : Nat) (l0 : List (S42)) (a1 : ByteArray) (r : Bool) (w : World) (hr0 : Kd.C k42 w A0 l0.length l0) (hc0 : l0.length ≤ c0) (h : laws_FnExactSoloTime.f k l0 a1 = some r) :
  Calls Try.prog 4 #[.slice A0 l0.length c0, .string a1] w fun e w' => e = .returned (.bool r) ∧ Below w.heap.size w w' := by
 have HR0 := Aside0.mk hr0
 have HC0 := Aside0.mk hc0
 clear hr0 hc0
 have HB := Aside0.mk (Below.refl w.heap.size w)
 have H : (if (a1.size : Int) > 1048576 then (some true) else ((laws_szTurnS.f k l0 1048576).bind fun t265 => (if t265 < 0 then (some true) else ((laws_toTurnS.f k l0).bind fun t266 => ((spec_SoloTime.f k t266 a1).bind fun bt269 => ((laws_toTurnS.f k l0).bind fun t271 => ((impl_SoloTime.f k t271 a1).bind fun bt274 => (if bt274.1 = bt269.1 then (laws_FnExactSoloTime.j0 k l0 t271 (bt274.2 != bt269.2)) else (laws_FnExactSoloTime.j0 k l0 t271 true))))))))) = some r := h
 clear h
 by_cases c3 : (a1.size : Int) > 1048576
 ·rw [if_pos c3] at H
  have c3b0 : decide (1048576 < (a1.size : Int)) = true := decide_eq_true c3
  have c3b1 : decide (1048576 < a1.size) = true := decide_eq_true (by omega)
  clear c3
  obtain rfl := Option.some.inj H
  go_enter Try.func4, Try.ntmps4
  go_wp2
  go_ret
  exact ⟨re_, bw_⟩
 ·rw [if_neg c3] at H
  have c3b0 : decide (1048576 < (a1.size : Int)) = false := decide_eq_false c3
  have c3b1 : decide (1048576 < a1.size) = false := decide_eq_false (by omega)
  clear c3
  replace H := Option.bind_eq_some_iff.mp H
  obtain ⟨t265, A40, H⟩ := H
  replace H : (if t265 < 0 then (some true) else ((laws_toTurnS.f k l0).bind fun t266 => ((spec_SoloTime.f k t266 a1).bind fun bt269 => ((laws_toTurnS.f k l0).bind fun t271 => ((impl_SoloTime.f k t271 a1).bind fun bt274 => (if bt274.1 = bt269.1 then (laws_FnExactSoloTime.j0 k l0 t271 (bt274.2 != bt269.2)) else (laws_FnExactSoloTime.j0 k l0 t271 true))))))) = some r := H
  have A4 := Aside0.mk A40
  clear A40
  by_cases c5 : t265 < 0
  ·rw [if_pos c5] at H
   have c5b0 : decide (t265 < 0) = true := decide_eq_true c5
   clear c5
   obtain rfl := Option.some.inj H
   go_enter Try.func4, Try.ntmps4
   go_wp2_with (first | ((with_reducible refine gate_callee (f := 5) rfl ?_); refine goesL_ (some 16) rfl rfl Try.func5 (by kernel_rfl) rfl #[.slice A0 l0.length c0, .int .i64 1048576] rfl ma_ ?_; (with_reducible refine (laws_szTurnS.calls k _ _ l0 1048576 t265 _ ?side1 ?side2 A4.out).mono ?_); (case side1 => repeat (first | exact HR0.out | (with_reducible refine Kd.C_alloc ?_ _) | (with_reducible refine Kd.C_drewN ?_ _) | (with_reducible refine Kd.C_drew ?_))); (case side2 => exact HC0.out); rintro e w6 ⟨rfl, hb⟩; refine ⟨_, rfl, ?_⟩; have n0_ := Aside0.mk (below_step bw_ hb); clear HB; have HB := n0_; clear n0_; (try clear hb); (try clear hb2); (try clear hk); (try clear hi)))
   go_ret
   exact ⟨re_, bw_⟩
  ·rw [if_neg c5] at H
   have c5b0 : decide (t265 < 0) = false := decide_eq_false c5
   clear c5
   replace H := Option.bind_eq_some_iff.mp H
   obtain ⟨t266, A70, H⟩ := H
   replace H : ((spec_SoloTime.f k t266 a1).bind fun bt269 => ((laws_toTurnS.f k l0).bind fun t271 => ((impl_SoloTime.f k t271 a1).bind fun bt274 => (if bt274.1 = bt269.1 then (laws_FnExactSoloTime.j0 k l0 t271 (bt274.2 != bt269.2)) else (laws_FnExactSoloTime.j0 k l0 t271 true))))) = some r := H
   have A7 := Aside0.mk A70
   clear A70
   replace H := Option.bind_eq_some_iff.mp H
   obtain ⟨⟨t269, t270⟩, A80, H⟩ := H
   replace H : ((laws_toTurnS.f k l0).bind fun t271 => ((impl_SoloTime.f k t271 a1).bind fun bt274 => (if bt274.1 = t269 then (laws_FnExactSoloTime.j0 k l0 t271 (bt274.2 != t270)) else (laws_FnExactSoloTime.j0 k l0 t271 true)))) = some r := H
   have A8 := Aside0.mk A80
   clear A80
   replace H := Option.bind_eq_some_iff.mp H
   obtain ⟨t271, A90, H⟩ := H
   replace H : ((impl_SoloTime.f k t271 a1).bind fun bt274 => (if bt274.1 = t269 then (laws_FnExactSoloTime.j0 k l0 t271 (bt274.2 != t270)) else (laws_FnExactSoloTime.j0 k l0 t271 true))) = some r := H
   have A9 := Aside0.mk A90
   clear A90
   replace H := Option.bind_eq_some_iff.mp H
   obtain ⟨⟨t274, t275⟩, A100, H⟩ := H
   replace H : (if t274 = t269 then (laws_FnExactSoloTime.j0 k l0 t271 (t275 != t270)) else (laws_FnExactSoloTime.j0 k l0 t271 true)) = some r := H
   have A10 := Aside0.mk A100
   clear A100
   have HC11 := Aside0.mk H
   clear H
   go_enter Try.func4, Try.ntmps4
   go_upto_region 10 with (first | ((with_reducible refine gate_callee (f := 5) rfl ?_); refine goesL_ (some 16) rfl rfl Try.func5 (by kernel_rfl) rfl #[.slice A0 l0.length c0, .int .i64 1048576] rfl ma_ ?_; (with_reducible refine (laws_szTurnS.calls k _ _ l0 1048576 t265 _ ?side1 ?side2 A4.out).mono ?_); (case side1 => repeat (first | exact HR0.out | (with_reducible refine Kd.C_alloc ?_ _) | (with_reducible refine Kd.C_drewN ?_ _) | (with_reducible refine Kd.C_drew ?_))); (case side2 => exact HC0.out); rintro e w12 ⟨rfl, hb⟩; refine ⟨_, rfl, ?_⟩; have n0_ := Aside0.mk (below_step bw_ hb); clear HB; have HB := n0_; clear n0_; (try clear hb); (try clear hb2); (try clear hk); (try clear hi)) | ((with_reducible refine gate_callee (f := 8) rfl ?_); refine goesL_ (some 21) rfl rfl Try.func8 (by kernel_rfl) rfl #[.slice A0 l0.length c0] rfl ma_ ?_; (with_reducible refine (laws_toTurnS.calls k _ _ l0 t266 _ ?side1 ?side2 A7.out).mono ?_); (case side1 => repeat (first | exact (Kd.C_below HR0.out HB.out) | (with_reducible refine Kd.C_alloc ?_ _) | (with_reducible refine Kd.C_drewN ?_ _) | (with_reducible refine Kd.C_drew ?_))); (case side2 => exact HC0.out); rintro e w13 ⟨v267, rfl, ho0, hb⟩; refine ⟨_, rfl, ?_⟩; have n0_ := Aside0.mk (Kd.R_lower ho0 (below_size bw_)); have n1_ := Aside0.mk (below_step bw_ hb); clear HB; have HO268 := n0_; have HB := n1_; clear n0_ n1_; (try clear hb); (try clear hb2); (try clear hk); (try clear hi); (try clear ho0); obtain ⟨Ao14, co14, eo14⟩ := Kd.R_slice HO268.out; subst eo14) | ((with_reducible refine gate_callee (f := 16) rfl ?_); refine goesL_ (some 23) rfl rfl Try.func16 (by kernel_rfl) rfl #[.slice Ao14 t266.length co14, .string a1] rfl ma_ ?_; (with_reducible refine (spec_SoloTime.calls k _ _ t266 a1 t269 t270 _ ?side1 ?side2 A8.out).mono ?_); (case side1 => repeat (first | exact (Kd.R_reads' HO268.out).2.2 | (with_reducible refine Kd.C_alloc ?_ _) | (with_reducible refine Kd.C_drewN ?_ _) | (with_reducible refine Kd.C_drew ?_))); (case side2 => exact (Kd.R_reads' HO268.out).2.1); rintro e w15 ⟨rfl, hb⟩; refine ⟨_, rfl, ?_⟩; have n0_ := Aside0.mk (Kd.R_below (kr_ HO268.out) hb); have n1_ := Aside0.mk (below_step bw_ hb); clear HO268; clear HB; have HO268 := n0_; have HB := n1_; clear n0_ n1_; (try clear hb); (try clear hb2); (try clear hk); (try clear hi)) | ((with_reducible refine gate_callee (f := 8) rfl ?_); refine goesL_ (some 27) rfl rfl Try.func8 (by kernel_rfl) rfl #[.slice A0 l0.length c0] rfl ma_ ?_; (with_reducible refine (laws_toTurnS.calls k _ _ l0 t271 _ ?side1 ?side2 A9.out).mono ?_); (case side1 => repeat (first | exact (Kd.C_below HR0.out HB.out) | (with_reducible refine Kd.C_alloc ?_ _) | (with_reducible refine Kd.C_drewN ?_ _) | (with_reducible refine Kd.C_drew ?_))); (case side2 => exact HC0.out); rintro e w16 ⟨v272, rfl, ho0, hb⟩; refine ⟨_, rfl, ?_⟩; have n0_ := Aside0.mk (Kd.R_elder' (kr_ HO268.out) (Kd.R_base ho0) hb); have n1_ := Aside0.mk (Kd.R_lower (Kd.R_new' ho0 (Kd.R_lt (kr_ HO268.out))) (below_size bw_)); have n2_ := Aside0.mk (below_step bw_ hb); clear HO268; clear HB; have HO268 := n0_; have HO273 := n1_; have HB := n2_; clear n0_ n1_ n2_; (try clear hb); (try clear hb2); (try clear hk); (try clear hi); (try clear ho0); obtain ⟨Ao17, co17, eo17⟩ := Kd.R_slice HO273.out; subst eo17) | ((with_reducible refine gate_callee (f := 17) rfl ?_); refine goesL_ (some 31) rfl rfl Try.func17 (by kernel_rfl) rfl #[.slice Ao17 t271.length co17, .string a1] rfl ma_ ?_; (with_reducible refine (impl_SoloTime.calls k _ _ t271 a1 t274 t275 _ ?side1 ?side2 A10.out).mono ?_); (case side1 => repeat (first | exact (Kd.R_reads' HO273.out).2.2 | (with_reducible refine Kd.C_alloc ?_ _) | (with_reducible refine Kd.C_drewN ?_ _) | (with_reducible refine Kd.C_drew ?_))); (case side2 => exact (Kd.R_reads' HO273.out).2.1); rintro e w18 ⟨rfl, hb⟩; refine ⟨_, rfl, ?_⟩; have n0_ := Aside0.mk (Kd.R_below (kr_ HO268.out) hb); have n1_ := Aside0.mk (Kd.R_below (kr_ HO273.out) hb); have n2_ := Aside0.mk (below_step bw_ hb); clear HO268; clear HO273; clear HB; have HO268 := n0_; have HO273 := n1_; have HB := n2_; clear n0_ n1_ n2_; (try clear hb); (try clear hb2); (try clear hk); (try clear hi)))
   (try simp only [Act.put, List.setIfInBounds_toArray, List.set_cons_zero, List.set_cons_succ])
   go_cut [41] (fun v41 wc => ∃ (kq : Nat) (x41_10 : Bool), v41 = .bool x41_10 ∧ Aside0 (laws_FnExactSoloTime.j0 kq l0 t271 x41_10 = some r) ∧ Aside0 (kq ≤ k) ∧ Aside0 (Kd.R k53 53 wc w.heap.size (fun _ => True) (.slice Ao17 t271.length co17) t271) ∧ Aside0 (Below w.heap.size w wc))
   case first =>
    have H := HC11.out
    clear HC11
    by_cases c19 : t274 = t269
    ·rw [if_pos c19] at H
     have c19b0 : (t274 == t269) = true := beq_iff_eq.mpr c19
     have c19b1 : (t274 != t269) = false := bne_eq_false_iff_eq.mpr c19
     clear c19
     (first | rw [c19b0] | (simp only [i64_w, i32_w]; rw [c19b0]) | skip)
     have H' := Aside0.mk H
     clear H
     go_wp2
     go_meet
     case rel => exact ⟨_, ((t275 != t270)), rs_, H', ⟨on_⟩, ⟨by (with_reducible repeat (first | apply Kd.R_alloc | apply Kd.R_drewN | apply Kd.R_drew)); exact Kd.R_mono HO273.out (fun _ hk => trivial)⟩, ⟨bw_⟩⟩
    ·rw [if_neg c19] at H
     have c19b0 : (t274 == t269) = false := beq_eq_false_iff_ne.mpr c19
     have c19b1 : (t274 != t269) = true := bne_iff_ne.mpr c19
     (first | rw [c19b0] | (simp only [i64_w, i32_w]; rw [c19b0]) | skip)
     have H' := Aside0.mk H
     clear H
     go_wp2
     go_meet
     case rel => exact ⟨_, (true), rs_, H', ⟨on_⟩, ⟨by (with_reducible repeat (first | apply Kd.R_alloc | apply Kd.R_drewN | apply Kd.R_drew)); exact Kd.R_mono HO273.out (fun _ hk => trivial)⟩, ⟨bw_⟩⟩
   case rest =>
    clear HC11
    try clear c1
    try clear p2
    try clear c3
    try clear c3b0
    try clear c3b1
    try clear c4
    try clear c5
    try clear c5b0
    try clear c8
    try clear c16
    try clear c17
    try clear c19
    try clear c19b0
    try clear c19b1
    obtain ⟨kq, x41_10, rfl, HA, HJ10, HO_8, HB⟩ := hcut
    cases kq with
    | zero => exact absurd HA.out (by simp [laws_FnExactSoloTime.j0])
    | succ kj10 =>
     have H := HA.out
     clear HA
     simp only [laws_FnExactSoloTime.j0] at H
     by_cases c20 : x41_10 = true
     ·subst c20
      have H1 : (some false) = some r := by rw [if_pos rfl] at H; exact H
      clear H
      have H := H1
      clear H1
      obtain rfl := Option.some.inj H
      go_wp2
      go_ret
      exact ⟨re_, bw_⟩
     ·replace c20 := Bool.eq_false_iff.mpr c20
      subst c20
      have H1 : ((laws_toTurnS.f kj10 l0).bind fun t276 => ((laws_eqTurnS.f kj10 t271 t276).bind fun t279 => (if t279 = true then (some true) else (some false)))) = some r := by rw [if_neg (show ¬ (false = true) by decide)] at H; exact H
      clear H
      have H := H1
      clear H1
      replace H := Option.bind_eq_some_iff.mp H
      obtain ⟨t276, A210, H⟩ := H
      replace H : ((laws_eqTurnS.f kj10 t271 t276).bind fun t279 => (if t279 = true then (some true) else (some false))) = some r := H
      have A21 := Aside0.mk A210
      clear A210
      replace H := Option.bind_eq_some_iff.mp H
      obtain ⟨t279, A220, H⟩ := H
      replace H : (if t279 = true then (some true) else (some false)) = some r := H
      have A22 := Aside0.mk A220
      clear A220
      by_cases c23 : t279 = true
      ·subst c23
       have H1 : (some true) = some r := by rw [if_pos rfl] at H; exact H
       clear H
       have H := H1
       clear H1
       obtain rfl := Option.some.inj H
       go_wp2_with (first | ((with_reducible refine gate_callee (f := 8) rfl ?_); refine goesL_ (some 44) rfl rfl Try.func8 (by kernel_rfl) rfl #[.slice A0 l0.length c0] rfl ma_ ?_; (with_reducible refine (laws_toTurnS.calls kj10 _ _ l0 t276 _ ?side1 ?side2 A21.out).mono ?_); (case side1 => repeat (first | exact (Kd.C_below HR0.out HB.out) | (with_reducible refine Kd.C_alloc ?_ _) | (with_reducible refine Kd.C_drewN ?_ _) | (with_reducible refine Kd.C_drew ?_))); (case side2 => exact HC0.out); rintro e w24 ⟨v277, rfl, ho0, hb⟩; refine ⟨_, rfl, ?_⟩; have n0_ := Aside0.mk (Kd.R_elder' (kr_ HO_8.out) (Kd.R_base ho0) hb); have n1_ := Aside0.mk (Kd.R_lower (Kd.R_new' ho0 (Kd.R_lt (kr_ HO_8.out))) (below_size bw_)); have n2_ := Aside0.mk (below_step bw_ hb); clear HO_8; clear HB; have HO_8 := n0_; have HO278 := n1_; have HB := n2_; clear n0_ n1_ n2_; (try clear hb); (try clear hb2); (try clear hk); (try clear hi); (try clear ho0); obtain ⟨Ao25, co25, eo25⟩ := Kd.R_slice HO278.out; subst eo25) | ((with_reducible refine gate_callee (f := 11) rfl ?_); refine goesL_ (some 45) rfl rfl Try.func11 (by kernel_rfl) rfl #[.slice Ao17 t271.length co17, .slice Ao25 t276.length co25] rfl ma_ ?_; (with_reducible refine (laws_eqTurnS.calls kj10 _ _ t271 _ _ t276 true _ ?side1 ?side2 ?side3 ?side4 A22.out).mono ?_); (case side1 => repeat (first | exact (Kd.R_reads' HO_8.out).2.2 | (with_reducible refine Kd.C_alloc ?_ _) | (with_reducible refine Kd.C_drewN ?_ _) | (with_reducible refine Kd.C_drew ?_))); (case side2 => exact (Kd.R_reads' HO_8.out).2.1); (case side3 => repeat (first | exact (Kd.R_reads' HO278.out).2.2 | (with_reducible refine Kd.C_alloc ?_ _) | (with_reducible refine Kd.C_drewN ?_ _) | (with_reducible refine Kd.C_drew ?_))); (case side4 => exact (Kd.R_reads' HO278.out).2.1); rintro e w26 ⟨rfl, hb⟩; refine ⟨_, rfl, ?_⟩; have n0_ := Aside0.mk (Kd.R_below (kr_ HO_8.out) hb); have n1_ := Aside0.mk (Kd.R_below (kr_ HO278.out) hb); have n2_ := Aside0.mk (below_step bw_ hb); clear HO_8; clear HO278; clear HB; have HO_8 := n0_; have HO278 := n1_; have HB := n2_; clear n0_ n1_ n2_; (try clear hb); (try clear hb2); (try clear hk); (try clear hi)))
       go_ret
       exact ⟨re_, bw_⟩
      ·replace c23 := Bool.eq_false_iff.mpr c23
       subst c23
       have H1 : (some false) = some r := by rw [if_neg (show ¬ (false = true) by decide)] at H; exact H
       clear H
       have H := H1
       clear H1
       obtain rfl := Option.some.inj H
       go_wp2_with (first | ((with_reducible refine gate_callee (f := 8) rfl ?_); refine goesL_ (some 44) rfl rfl Try.func8 (by kernel_rfl) rfl #[.slice A0 l0.length c0] rfl ma_ ?_; (with_reducible refine (laws_toTurnS.calls kj10 _ _ l0 t276 _ ?side1 ?side2 A21.out).mono ?_); (case side1 => repeat (first | exact (Kd.C_below HR0.out HB.out) | (with_reducible refine Kd.C_alloc ?_ _) | (with_reducible refine Kd.C_drewN ?_ _) | (with_reducible refine Kd.C_drew ?_))); (case side2 => exact HC0.out); rintro e w27 ⟨v277, rfl, ho0, hb⟩; refine ⟨_, rfl, ?_⟩; have n0_ := Aside0.mk (Kd.R_elder' (kr_ HO_8.out) (Kd.R_base ho0) hb); have n1_ := Aside0.mk (Kd.R_lower (Kd.R_new' ho0 (Kd.R_lt (kr_ HO_8.out))) (below_size bw_)); have n2_ := Aside0.mk (below_step bw_ hb); clear HO_8; clear HB; have HO_8 := n0_; have HO278 := n1_; have HB := n2_; clear n0_ n1_ n2_; (try clear hb); (try clear hb2); (try clear hk); (try clear hi); (try clear ho0); obtain ⟨Ao28, co28, eo28⟩ := Kd.R_slice HO278.out; subst eo28) | ((with_reducible refine gate_callee (f := 11) rfl ?_); refine goesL_ (some 45) rfl rfl Try.func11 (by kernel_rfl) rfl #[.slice Ao17 t271.length co17, .slice Ao28 t276.length co28] rfl ma_ ?_; (with_reducible refine (laws_eqTurnS.calls kj10 _ _ t271 _ _ t276 false _ ?side1 ?side2 ?side3 ?side4 A22.out).mono ?_); (case side1 => repeat (first | exact (Kd.R_reads' HO_8.out).2.2 | (with_reducible refine Kd.C_alloc ?_ _) | (with_reducible refine Kd.C_drewN ?_ _) | (with_reducible refine Kd.C_drew ?_))); (case side2 => exact (Kd.R_reads' HO_8.out).2.1); (case side3 => repeat (first | exact (Kd.R_reads' HO278.out).2.2 | (with_reducible refine Kd.C_alloc ?_ _) | (with_reducible refine Kd.C_drewN ?_ _) | (with_reducible refine Kd.C_drew ?_))); (case side4 => exact (Kd.R_reads' HO278.out).2.1); rintro e w29 ⟨rfl, hb⟩; refine ⟨_, rfl, ?_⟩; have n0_ := Aside0.mk (Kd.R_below (kr_ HO_8.out) hb); have n1_ := Aside0.mk (Kd.R_below (kr_ HO278.out) hb); have n2_ := Aside0.mk (below_step bw_ hb); clear HO_8; clear HO278; clear HB; have HO_8 := n0_; have HO278 := n1_; have HB := n2_; clear n0_ n1_ n2_; (try clear hb); (try clear hb2); (try clear hk); (try clear hi)))
       go_ret
       exact ⟨re_, bw_⟩
end Go.Proofs.Ytoalffemjkkngaa.PA
end
