/- What is proved: fnExactRetuneText_card, without further conditions; this text holds part 3 of 4 of its proof. -/

import Derived.Test.YtgklofginkafgaaGreatDoorQRetuneText1
section
namespace Go.Proofs.YtgklofginkafgaaGreatDoor.PS
open Go.RowKit Go.Proofs.YtgklofginkafgaaGreatDoorW.PrintWords Go.Proofs.YtgklofginkafgaaGreatDoorW.PrintLast Go.Proofs.YtgklofginkafgaaGreatDoorW.PrintMore
attribute [local go_sem] max2_int min2_int max_two min_two max_three min_three max_four min_four
set_option linter.unusedVariables false
set_option linter.unusedSimpArgs false
def impl_notesIn.l0 : Nat → Int → Int → List ByteArray → List (S70) → Int → Int → Option (ByteArray)
 | 0, _, _, _, _, _, _ => none
 | k + 1, x0, x1, x7, x10, x11, x12 => if x12 < x11 then (if 0 ≤ x12 then (if x12 < (x10.length : Int) then ((impl_pitchIn.f x0 x1 ((rd_T70 x10 x12).f0)).bind fun t191 => (if t191.size + 1 ≤ 9223372036854775807 then ((impl_Decimal.f ((rd_T70 x10 x12).f1)).bind fun t192 => (if (t191 ++ (⟨#[58]⟩ : ByteArray)).size + t192.size ≤ 9223372036854775807 then (if x7.length < 8796093022208 then (impl_notesIn.l0 k x0 x1 (x7 ++ [(t191 ++ (⟨#[58]⟩ : ByteArray)) ++ t192]) x10 x11 (wrap64 (x12 + 1))) else (none)) else (none))) else (none))) else (none)) else (none)) else ((strings_Join.f x7 (⟨#[32]⟩ : ByteArray)).bind fun t196 => (some t196))
def impl_notesIn.f (k : Nat) (a0 : Int) (a1 : Int) (l2 : List (S70)) : Option (ByteArray) := impl_notesIn.l0 k a0 a1 ([] : List ByteArray) l2 (l2.length : Int) 0
theorem impl_notesIn.mono_l : ∀ k, (∀ y0 y1 y2 y3 y4 y5, LeO (impl_notesIn.l0 k y0 y1 y2 y3 y4 y5) (impl_notesIn.l0 (k + 1) y0 y1 y2 y3 y4 y5))
 | 0 => fun _ _ _ _ _ _ r h => by simp [impl_notesIn.l0] at h
 | k + 1 => by
  have ih0 := impl_notesIn.mono_l k
  ·intro y0 y1 y2 y3 y4 y5
   unfold impl_notesIn.l0
   repeat' first
   | (with_reducible exact ih0 _ _ _ _ _ _)
   | (with_reducible exact LeO.refl _)
   | (with_reducible exact LeO.none _)
   | (with_reducible refine LeO.ite ?_ ?_)
   | (with_reducible refine LeO.bind ?_ (fun _ => ?_))
theorem impl_notesIn.mono : ∀ a0 a1 a2 k, LeO (impl_notesIn.f k a0 a1 a2) (impl_notesIn.f (k + 1) a0 a1 a2) := by
 intro a0 a1 a2 k
 have ih0 := impl_notesIn.mono_l k
 unfold impl_notesIn.f
 repeat' first
   | (with_reducible exact ih0 _ _ _ _ _ _)
   | (with_reducible exact LeO.refl _)
   | (with_reducible exact LeO.none _)
   | (with_reducible refine LeO.ite ?_ ?_)
   | (with_reducible refine LeO.bind ?_ (fun _ => ?_))
def impl_notesIn.T5 : Bool × List (List Nat × List Nat) := (true, [([], []), ([], []), ([], []), ([], []), ([3], [3]), ([1, 2, 4], [1, 2, 4]), ([5], [5]), ([], []), ([7], [7]), ([8, 5], [8]), ([6, 9], [6, 9]), ([10], [10]), ([0, 11, 9], [0, 11]), ([12, 12, 0, 1, 2, 3, 4, 5, 6, 7, 8, 9, 10, 11, 12], [0, 12])])
def impl_notesIn.B5 : List Nat := [0, 0, 0, 0, 8, 30, 62, 0, 128, 446, 1022, 2046, 4095, 8191]
theorem impl_notesIn.tab5 : rtab .any (opsOf Tryz.f39 5) = impl_notesIn.T5 := by kernel_rfl
theorem impl_notesIn.bits5 : waitsOk impl_notesIn.T5.2 impl_notesIn.B5 = true := by kernel_rfl
set_option maxHeartbeats 8000000 in
set_option maxRecDepth 100000 in
theorem impl_notesIn.calls (k : Nat) (a0 : Int) (a1 : Int) (A2 : Option Addr) (c2 : Nat) (l2 : List (S70)) (r : ByteArray) (w : World) (hr2 : Kd.C k70 w A2 l2.length l2) (hc2 : l2.length ≤ c2) (hL : Lv w) (h : impl_notesIn.f k a0 a1 l2 = some r) :
  Calls Tryz.prog 39 #[.int .i64 a0, .int .i64 a1, .slice A2 l2.length c2] w fun e w' => e = .returned (.string r) ∧ Below w.heap.size w w' := by
 have hu70 := Tryz.underlying70
 have HR2 := Aside0.mk hr2
 have HC2 := Aside0.mk hc2
 clear hr2 hc2
 have HB := Aside0.mk (Below.refl w.heap.size w)
 have H : (impl_notesIn.l0 k a0 a1 ([] : List ByteArray) l2 (l2.length : Int) 0) = some r := h
 clear h
 have H' := Aside0.mk H
 clear H
 go_enter Tryz.func39, Tryz.ntmps39
 go_wp2
 go_loopg [7, 12] k (fun kq v7 v12 w' => ∃ (x7_1 : List ByteArray) (x12_1 : Int), v12 = .int .i64 x12_1 ∧ Aside0 (impl_notesIn.l0 kq a0 a1 x7_1 l2 (l2.length : Int) x12_1 = some r) ∧ Aside0 (kq ≤ k) ∧ Aside0 (Kd.R Kd.string 9 w' w.heap.size (fun _ => True) v7 x7_1) ∧ Aside0 (Below w.heap.size w w'))
 case atStart => exact ⟨(([] : List ByteArray)), (0), rs_, H', ⟨Nat.le_refl _⟩, ⟨rn_⟩, ⟨bw_⟩⟩
 case round =>
  clear H'
  try clear c2
  try clear p2
  try clear c3
  obtain ⟨x7_1, x12_1, rfl, HA, HK1, HO_7, HB⟩ := hrel
  cases gk with
  | zero => exact absurd HA.out (by simp [impl_notesIn.l0])
  | succ k1 =>
   have H := HA.out
   clear HA
   simp only [impl_notesIn.l0] at H
   by_cases c4 : x12_1 < (l2.length : Int)
   ·rw [if_pos c4] at H
    have c4b0 : decide (x12_1 < (l2.length : Int)) = true := decide_eq_true c4
    clear c4
    by_cases c5 : 0 ≤ x12_1
    ·rw [if_pos c5] at H
     have c5b0 : decide (0 ≤ x12_1) = true := decide_eq_true c5
     clear c5
     by_cases c6 : x12_1 < (l2.length : Int)
     ·rw [if_pos c6] at H
      have c6b0 : decide (x12_1 < (l2.length : Int)) = true := decide_eq_true c6
      clear c6
      replace H := Option.bind_eq_some_iff.mp H
      obtain ⟨t191, A70, H⟩ := H
      replace H : (if t191.size + 1 ≤ 9223372036854775807 then ((impl_Decimal.f ((rd_T70 l2 x12_1).f1)).bind fun t192 => (if (t191 ++ (⟨#[58]⟩ : ByteArray)).size + t192.size ≤ 9223372036854775807 then (if x7_1.length < 8796093022208 then (impl_notesIn.l0 k1 a0 a1 (x7_1 ++ [(t191 ++ (⟨#[58]⟩ : ByteArray)) ++ t192]) l2 (l2.length : Int) (wrap64 (x12_1 + 1))) else (none)) else (none))) else (none)) = some r := H
      have A7 := Aside0.mk A70
      clear A70
      by_cases c8 : t191.size + 1 ≤ 9223372036854775807
      ·rw [if_pos c8] at H
       have c8b0 := eq_true c8
       have c8b1 : decide (t191.size + 1 ≤ 9223372036854775807) = true := decide_eq_true c8
       try have c8b2 : (9223372036854775807 < t191.size + 1) = False := eq_false (Nat.not_lt.2 c8)
       replace H := Option.bind_eq_some_iff.mp H
       obtain ⟨t192, A90, H⟩ := H
       replace H : (if (t191 ++ (⟨#[58]⟩ : ByteArray)).size + t192.size ≤ 9223372036854775807 then (if x7_1.length < 8796093022208 then (impl_notesIn.l0 k1 a0 a1 (x7_1 ++ [(t191 ++ (⟨#[58]⟩ : ByteArray)) ++ t192]) l2 (l2.length : Int) (wrap64 (x12_1 + 1))) else (none)) else (none)) = some r := H
       have A9 := Aside0.mk A90
       clear A90
       by_cases c10 : (t191 ++ (⟨#[58]⟩ : ByteArray)).size + t192.size ≤ 9223372036854775807
       ·rw [if_pos c10] at H
        have c10b0 := eq_true c10
        have c10b1 : decide ((t191 ++ (⟨#[58]⟩ : ByteArray)).size + t192.size ≤ 9223372036854775807) = true := decide_eq_true c10
        try have c10b2 : (9223372036854775807 < (t191 ++ (⟨#[58]⟩ : ByteArray)).size + t192.size) = False := eq_false (Nat.not_lt.2 c10)
        have c10b3 := c10
        (try simp only [ByteArray.size_append] at c10b3)
        (try simp only [show (⟨#[58]⟩ : ByteArray).size = 1 from rfl] at c10b3)
        (try have c10b4 := eq_false (Nat.not_lt.2 c10b3))
        by_cases c11 : x7_1.length < 8796093022208
        ·rw [if_pos c11] at H
         have LMc11 := Aside0.mk c11
         clear c11
         obtain ⟨y193, hy193⟩ : ∃ y_ : List ByteArray, y_ = (x7_1 ++ [(t191 ++ (⟨#[58]⟩ : ByteArray)) ++ t192]) := ⟨_, rfl⟩
         replace H : (impl_notesIn.l0 k1 a0 a1 y193 l2 (l2.length : Int) (wrap64 (x12_1 + 1))) = some r := by first | (rw [hy193]; with_reducible exact H) | (have H2_ := (Option.bind_some _ _).symm.trans H; rw [hy193]; with_reducible exact H2_) | (have H2_ := (Option.bind_some _ _).symm.trans H; with_reducible exact H2_) | with_reducible exact H | (rw [hy193]; exact H) | exact H
         have Ny193 := Aside0.mk hy193
         clear hy193
         have H' := Aside0.mk H
         clear H
         have p189 : 0 ≤ (x12_1 : Int) := of_decide_eq_true as_
         have q189 : x12_1 < (l2.length : Int) := of_decide_eq_true as_
         obtain ⟨ad189, e189, hx189_0, hx189_1⟩ := at_T70 HR2.out x12_1 p189 q189
         cases e189
         replace hx189_0 := (HB.out.cell (World.block_lt_of_cell? w _ hx189_0)).trans hx189_0
         replace hx189_1 := (HB.out.cell (World.block_lt_of_cell? w _ hx189_1)).trans hx189_1
         replace p189 := eq_true p189
         replace q189 := eq_true q189
         try go_wp2_with (first | ((with_reducible refine gate_dst (N := 9) rfl ?_); refine box_event ?hg (N := 9) ?hd (cs := #[.int .i64 0, .int .i64 0]) (t := 70) ?hr ?_; (case hd => rfl); (case hg => rfl); (case hr => first | (go_simp; done) | (go_simp; rfl)); intro gb190 hg w12 hbox hb; have n0_ := Aside0.mk (Kd.R_below (kr_ HO_7.out) hb); have n1_ := Aside0.mk (below_step bw_ hb); have n2_ := Aside0.mk (hbox); have n3_ := Aside0.mk ((by rw [hg]; exact (below_size bw_) : w.heap.size ≤ gb190)); have n4_ := Aside0.mk ((by rw [hg]; exact (below_size bw_) : w.heap.size ≤ gb190)); clear HO_7; clear HB; have HO_7 := n0_; have HB := n1_; have BK190 := n2_; have GW190 := n3_; have GE190 := n4_; clear n0_ n1_ n2_ n3_ n4_; clear hb hbox hg; have hcz13_0 : w12.cell? ⟨gb190, 0, none⟩ = some (.int .i64 0) := (blk_cell BK190.out 0).trans rfl; have hcz13_1 : w12.cell? ⟨gb190, 1, none⟩ = some (.int .i64 0) := (blk_cell BK190.out 1).trans rfl; have hfz13_0 := blk_frozen BK190.out 0; have hfz13_1 := blk_frozen BK190.out 1))
         have n0_ : Aside0 (Kd.R Kd.string 9 ((w12.setCell ⟨gb190, 0, none⟩ (.int .i64 ((rd_T70 l2 x12_1).f0))).setCell ⟨gb190, 1, none⟩ (.int .i64 ((rd_T70 l2 x12_1).f1))) w.heap.size (fun _ => True) u7 x7_1) := ⟨by (with_reducible repeat (first | apply Kd.R_alloc | apply Kd.R_drewN | apply Kd.R_drew)); exact Kd.R_mono (Kd.R_far (p := ⟨gb190, 1, none⟩) (Kd.R_far (p := ⟨gb190, 0, none⟩) (Kd.R_types HO_7.out BK190.out (by decide)) (fun _ hk => hk.2) (.int .i64 ((rd_T70 l2 x12_1).f0))) (fun _ hk => hk.2) (.int .i64 ((rd_T70 l2 x12_1).f1))) (fun _ hk => trivial)⟩
         have n1_ : Aside0 (((w12.setCell ⟨gb190, 0, none⟩ (.int .i64 ((rd_T70 l2 x12_1).f0))).setCell ⟨gb190, 1, none⟩ (.int .i64 ((rd_T70 l2 x12_1).f1))).heap[gb190]? = some (.cells #[.int .i64 ((rd_T70 l2 x12_1).f0), .int .i64 ((rd_T70 l2 x12_1).f1)] 70 (0, 0))) := ⟨by (with_reducible repeat (first | refine blk_drewN ?_ _ | refine blk_drew ?_ | refine blk_alloc ?_ _)); refine blk_put (cs := #[.int .i64 ((rd_T70 l2 x12_1).f0), .int .i64 0]) ?_ 1 _ rfl; (with_reducible repeat (first | refine blk_drewN ?_ _ | refine blk_drew ?_ | refine blk_alloc ?_ _)); refine blk_put (cs := #[.int .i64 0, .int .i64 0]) ?_ 0 _ rfl; (with_reducible repeat (first | refine blk_drewN ?_ _ | refine blk_drew ?_ | refine blk_alloc ?_ _)); exact BK190.out⟩
         have n2_ : Aside0 (Below w.heap.size w ((w12.setCell ⟨gb190, 0, none⟩ (.int .i64 ((rd_T70 l2 x12_1).f0))).setCell ⟨gb190, 1, none⟩ (.int .i64 ((rd_T70 l2 x12_1).f1)))) := ⟨bw_⟩
         (try clear HO_7)
         (try clear BK190)
         (try clear HB)
         generalize ((w12.setCell ⟨gb190, 0, none⟩ (.int .i64 ((rd_T70 l2 x12_1).f0))).setCell ⟨gb190, 1, none⟩ (.int .i64 ((rd_T70 l2 x12_1).f1))) = w14 at n0_ n1_ n2_ ⊢
         have HO_7 := n0_
         have BK190 := n1_
         have HB := n2_
         clear n0_ n1_ n2_
         have n0_ := Aside0.mk (Kd.R_drew HO_7.out)
         have n1_ := Aside0.mk (blk_drew BK190.out)
         have n2_ := Aside0.mk (below_drew1 HB.out)
         clear HO_7
         clear BK190
         clear HB
         have HO_7 := n0_
         have BK190 := n1_
         have HB := n2_
         clear n0_ n1_ n2_
         refine start_ (n := 14) (S := fun w' => w'.cell? ⟨gb190, 0, none⟩ = some (.int .i64 ((rd_T70 l2 x12_1).f0)) ∧ w'.cell? ⟨gb190, 1, none⟩ = some (.int .i64 ((rd_T70 l2 x12_1).f1))) (ds := []) #[false, false, false, false, false, false, false, false, false, false, false, false, false, false] (by kernel_rfl) rfl rfl ⟨(blk_cell BK190.out 0).trans rfl, (blk_cell BK190.out 1).trans rfl⟩ (fun hHeld => ?_); refine with_tabW impl_notesIn.tab5 impl_notesIn.bits5 (fun HT_ HW_ => ?_)
         generalize w14.drew = w15 at HO_7 BK190 HB hHeld ⊢
         refine pure_ (i := 0) (N := some 16) (v := ?_) (a' := ?_) #[true, false, false, false, false, false, false, false, false, false, false, false, false, false] rfl rfl (any_of HT_.out (by kernel_rfl)) (fun _ _ _ h => h) (Or.inl ⟨by rfl, ?_⟩) ?_ ?_
         rotate_left
         ·intro w'
          go_simp
          with_reducible rfl
         rotate_left
         ·simp only [Act.put, List.setIfInBounds_toArray, List.set_cons_zero, List.set_cons_succ, i64_w, i32_w]
          rfl
         refine pure_ (i := 1) (N := some 17) (v := ?_) (a' := ?_) #[true, true, false, false, false, false, false, false, false, false, false, false, false, false] rfl rfl (any_of HT_.out (by kernel_rfl)) (fun _ _ _ h => h) (Or.inl ⟨by rfl, ?_⟩) ?_ ?_
         rotate_left
         ·intro w'
          go_simp
          with_reducible rfl
         rotate_left
         ·simp only [Act.put, List.setIfInBounds_toArray, List.set_cons_zero, List.set_cons_succ, i64_w, i32_w]
          rfl
         refine pure_ (i := 2) (N := some 18) (v := ?_) (a' := ?_) #[true, true, true, false, false, false, false, false, false, false, false, false, false, false] rfl rfl (any_of HT_.out (by kernel_rfl)) (fun _ _ _ h => h) (Or.inl ⟨by rfl, ?_⟩) ?_ ?_
         rotate_left
         ·intro w'
          go_simp
          with_reducible rfl
         rotate_left
         ·simp only [Act.put, List.setIfInBounds_toArray, List.set_cons_zero, List.set_cons_succ, i64_w, i32_w]
          rfl
         refine pure_ (i := 3) (N := some 19) (v := ?_) (a' := ?_) #[true, true, true, true, false, false, false, false, false, false, false, false, false, false] rfl rfl (any_of HT_.out (by kernel_rfl)) (fun _ _ _ h => h) (Or.inl ⟨by rfl, ?_⟩) ?_ ?_
         rotate_left
         ·intro w'
          go_simp
          with_reducible rfl
         rotate_left
         ·simp only [Act.put, List.setIfInBounds_toArray, List.set_cons_zero, List.set_cons_succ, i64_w, i32_w]
          rfl
         refine pure_ (i := 7) (N := some 23) (v := ?_) (a' := ?_) #[true, true, true, true, false, false, false, true, false, false, false, false, false, false] rfl rfl (any_of HT_.out (by kernel_rfl)) (fun _ _ _ h => h) (Or.inl ⟨by rfl, ?_⟩) ?_ ?_
         rotate_left
         ·intro w'
          go_simp
          with_reducible rfl
         rotate_left
         ·simp only [Act.put, List.setIfInBounds_toArray, List.set_cons_zero, List.set_cons_succ, i64_w, i32_w]
          rfl
         refine take_ (i := 4) (N := some 20) (v := ?_) (a' := ?_) #[true, true, true, true, true, false, false, true, false, false, false, false, false, false] rfl rfl (take_ofW HT_.out HW_.out (by kernel_rfl)) (fun _ _ _ h => h) (Or.inl ⟨by rfl, ?_⟩) hHeld ?_ ?_
         rotate_left
         ·rintro w' ⟨s0, s1⟩
          go_simp
          with_reducible rfl
         rotate_left
         ·simp only [Act.put, List.setIfInBounds_toArray, List.set_cons_zero, List.set_cons_succ, i64_w, i32_w]
          rfl
         refine take_ (i := 8) (N := some 24) (v := ?_) (a' := ?_) #[true, true, true, true, true, false, false, true, true, false, false, false, false, false] rfl rfl (take_ofW HT_.out HW_.out (by kernel_rfl)) (fun _ _ _ h => h) (Or.inl ⟨by rfl, ?_⟩) hHeld ?_ ?_
         rotate_left
         ·rintro w' ⟨s0, s1⟩
          go_simp
          with_reducible rfl
         rotate_left
         ·simp only [Act.put, List.setIfInBounds_toArray, List.set_cons_zero, List.set_cons_succ, i64_w, i32_w]
          rfl
         refine one_ (i := 5) (N := some 21) #[true, true, true, true, true, true, false, true, true, false, false, false, false, false] rfl rfl (one_of HT_.out (by kernel_rfl)) (by decide) (fun K hK => ?_)
         refine goes_ Tryz.func32 (by kernel_rfl) rfl #[.int .i64 a0, .int .i64 a1, .int .i64 ((rd_T70 l2 x12_1).f0)] (by rfl) rfl rfl ma_ ?_
         with_reducible refine (impl_pitchIn.calls a0 a1 ((rd_T70 l2 x12_1).f0) t191 _ ?side1 A7.out).mono ?_
         (case side1 => exact Lv.below hL bw_)
         rintro e w16 ⟨rfl, hb⟩
         refine ⟨_, rfl, ?_⟩
         have n0_ := Aside0.mk (Kd.R_below (kr_ HO_7.out) hb)
         have n1_ := Aside0.mk (blk_below (g := gb190) (o := .cells #[.int .i64 ((rd_T70 l2 x12_1).f0), .int .i64 ((rd_T70 l2 x12_1).f1)] 70 (0, 0)) (bk_ BK190.out) hb)
         have n2_ := Aside0.mk (below_step bw_ hb)
         clear HO_7
         clear BK190
         clear HB
         have HO_7 := n0_
         have BK190 := n1_
         have HB := n2_
         clear n0_ n1_ n2_
         (try clear hb)
         (try clear hb2)
         (try clear hk)
         (try clear hi)
         refine hK.out _ _ ⟨(blk_cell BK190.out 0).trans rfl, (blk_cell BK190.out 1).trans rfl⟩ (fun hHeld => ?_)
         clear hK K
         refine norm_ (a' := ?_) ?_ ?_
         rotate_left
         ·show Act.put _ (some 21) _ = _
          simp only [Act.put, List.setIfInBounds_toArray, List.set_cons_zero, List.set_cons_succ, i64_w, i32_w]
          rfl
         refine pure_ (i := 6) (N := some 22) (v := ?_) (a' := ?_) #[true, true, true, true, true, true, true, true, true, false, false, false, false, false] rfl rfl (any_of HT_.out (by kernel_rfl)) (fun _ _ _ h => h) (Or.inl ⟨by rfl, ?_⟩) ?_ ?_
         rotate_left
         ·intro w'
          go_simp
          with_reducible rfl
         rotate_left
         ·simp only [Act.put, List.setIfInBounds_toArray, List.set_cons_zero, List.set_cons_succ, i64_w, i32_w]
          rfl
         refine one_ (i := 9) (N := some 25) #[true, true, true, true, true, true, true, true, true, true, false, false, false, false] rfl rfl (one_of HT_.out (by kernel_rfl)) (by decide) (fun K hK => ?_)
         refine goes_ Tryz.func56 (by kernel_rfl) rfl #[.int .i64 ((rd_T70 l2 x12_1).f1)] (by rfl) rfl rfl ma_ ?_
         with_reducible refine (impl_Decimal.calls ((rd_T70 l2 x12_1).f1) t192 _ ?side1 A9.out).mono ?_
         (case side1 => exact Lv.below hL bw_)
         rintro e w17 ⟨rfl, hb⟩
         refine ⟨_, rfl, ?_⟩
         have n0_ := Aside0.mk (Kd.R_below (kr_ HO_7.out) hb)
         have n1_ := Aside0.mk (blk_below (g := gb190) (o := .cells #[.int .i64 ((rd_T70 l2 x12_1).f0), .int .i64 ((rd_T70 l2 x12_1).f1)] 70 (0, 0)) (bk_ BK190.out) hb)
         have n2_ := Aside0.mk (below_step bw_ hb)
         clear HO_7
         clear BK190
         clear HB
         have HO_7 := n0_
         have BK190 := n1_
         have HB := n2_
         clear n0_ n1_ n2_
         (try clear hb)
         (try clear hb2)
         (try clear hk)
         (try clear hi)
         refine hK.out _ _ ⟨(blk_cell BK190.out 0).trans rfl, (blk_cell BK190.out 1).trans rfl⟩ (fun hHeld => ?_)
         clear hK K
         refine norm_ (a' := ?_) ?_ ?_
         rotate_left
         ·show Act.put _ (some 25) _ = _
          simp only [Act.put, List.setIfInBounds_toArray, List.set_cons_zero, List.set_cons_succ, i64_w, i32_w]
          rfl
         refine pure_ (i := 10) (N := some 26) (v := ?_) (a' := ?_) #[true, true, true, true, true, true, true, true, true, true, true, false, false, false] rfl rfl (any_of HT_.out (by kernel_rfl)) (fun _ _ _ h => h) (Or.inl ⟨by rfl, ?_⟩) ?_ ?_
         rotate_left
         ·intro w'
          go_simp
          with_reducible rfl
         rotate_left
         ·simp only [Act.put, List.setIfInBounds_toArray, List.set_cons_zero, List.set_cons_succ, i64_w, i32_w]
          rfl
         refine one_ (i := 11) (N := some 27) #[true, true, true, true, true, true, true, true, true, true, true, true, false, false] rfl rfl (one_of HT_.out (by kernel_rfl)) (by decide) (fun K hK => ?_)
         refine value_ (w1 := ?_) (v := ?_) (by rfl) rfl ?_ ?_
         rotate_left 2
         ·go_simp
          constructor
          ·rfl
          ·rfl
         refine hK.out _ _ ⟨(blk_cell (blk_alloc BK190.out _) 0).trans rfl, (blk_cell (blk_alloc BK190.out _) 1).trans rfl⟩ (fun hHeld => ?_)
         clear hK K
         refine norm_ (a' := ?_) ?_ ?_
         rotate_left
         ·show Act.put _ (some 27) _ = _
          simp only [Act.put, List.setIfInBounds_toArray, List.set_cons_zero, List.set_cons_succ, i64_w, i32_w]
          rfl
         refine one_ (i := 12) (N := some 28) #[true, true, true, true, true, true, true, true, true, true, true, true, true, false] rfl rfl (one_of HT_.out (by kernel_rfl)) (by decide) (fun K hK => ?_)
         refine Kd.R_append_step Kd.string (w0 := w) w.heap.size (by rfl) (.tmp 16) (.tmp 27) 84 9 (.string ⟨#[]⟩) 16 rfl Tryz.underlying84 info9 rfl (by decide) (by omega) u7 x7_1 ((t191 ++ (⟨#[58]⟩ : ByteArray)) ++ t192) [.string ((t191 ++ (⟨#[58]⟩ : ByteArray)) ++ t192)] (fun _ => True) (fun _ => False) rfl rfl ?aP (fun _ hk => hk.elim) ?aF ?aO ?aB ?aS ?aL ?_
         (case aP => exact rfl)
         (case aB => exact bw_)
         (case aF => exact (fun _ _ => trivial))
         (case aO => exact (kr_ HO_7.out))
         (case aS => exact (below_size bw_))
         (case aL => have := LMc11.out; omega)
         intro v194 w18 ho hb hg hat
         rw [← Ny193.out] at ho
         have n0_ := Aside0.mk (blk_grown (g := gb190) (o := .cells #[.int .i64 ((rd_T70 l2 x12_1).f0), .int .i64 ((rd_T70 l2 x12_1).f1)] 70 (0, 0)) (bk_ BK190.out) hg (Kd.R_ne HO_7.out BK190.out (by decide)))
         have n1_ := Aside0.mk (hb)
         have n2_ := Aside0.mk (ho)
         clear BK190
         clear HB
         clear HO_7
         have BK190 := n0_
         have HB := n1_
         have HO195 := n2_
         clear n0_ n1_ n2_
         clear ho hb hg hat
         refine hK.out _ _ ⟨(blk_cell BK190.out 0).trans rfl, (blk_cell BK190.out 1).trans rfl⟩ (fun hHeld => ?_)
         clear hK K
         refine norm_ (a' := ?_) ?_ ?_
         rotate_left
         ·show Act.put _ (some 28) _ = _
          simp only [Act.put, List.setIfInBounds_toArray, List.set_cons_zero, List.set_cons_succ, i64_w, i32_w]
          rfl
         refine pure_ (i := 13) (N := some 7) (v := ?_) (a' := ?_) #[true, true, true, true, true, true, true, true, true, true, true, true, true, true] rfl rfl (any_of HT_.out (by kernel_rfl)) (fun _ _ _ h => h) (Or.inl ⟨by rfl, ?_⟩) ?_ ?_
         rotate_left
         ·intro w'
          go_simp
          with_reducible rfl
         rotate_left
         ·simp only [Act.put, List.setIfInBounds_toArray, List.set_cons_zero, List.set_cons_succ, i64_w, i32_w]
          rfl
         refine done_ (done_of HT_.out (by kernel_rfl)) ?_
         try go_wp2
         go_roundg k1
         case measure => have := HK1.out; omega
         case rel => exact ⟨(y193), (wrap64 (x12_1 + 1)), rs_, H', ⟨by have := HK1.out; omega⟩, ⟨kr_ HO195.out⟩, ⟨bw_⟩⟩
        ·rw [if_neg c11] at H
         exact absurd H (by simp)
       ·rw [if_neg c10] at H
        exact absurd H (by simp)
      ·rw [if_neg c8] at H
       exact absurd H (by simp)
     ·rw [if_neg c6] at H
      exact absurd H (by simp)
    ·rw [if_neg c5] at H
     exact absurd H (by simp)
   ·rw [if_neg c4] at H
    have c4b0 : decide (x12_1 < (l2.length : Int)) = false := decide_eq_false c4
    clear c4
    replace H := Option.bind_eq_some_iff.mp H
    obtain ⟨t196, A190, H⟩ := H
    replace H : (some t196) = some r := H
    have A19 := Aside0.mk A190
    clear A190
    obtain rfl := Option.some.inj H
    obtain ⟨Ao20, co20, eo20⟩ := Kd.R_slice HO_7.out
    subst eo20
    go_wp2_with (first | ((with_reducible refine gate_callee (f := 61) rfl ?_); refine goesL_ (some 31) rfl rfl Tryz.func61 (by kernel_rfl) rfl #[.slice Ao20 x7_1.length co20, .string (⟨#[32]⟩ : ByteArray)] rfl ma_ ?_; (with_reducible refine (strings_Join.calls _ _ x7_1 (⟨#[32]⟩ : ByteArray) t196 _ ?side1 ?side2 A19.out).mono ?_); (case side1 => repeat (first | exact (Kd.R_reads' HO_7.out).2.2 | (with_reducible refine Kd.C_alloc ?_ _) | (with_reducible refine Kd.C_drewN ?_ _) | (with_reducible refine Kd.C_drew ?_))); (case side2 => exact (Kd.R_reads' HO_7.out).2.1); rintro e w21 ⟨rfl, hb⟩; refine ⟨_, rfl, ?_⟩; have n0_ := Aside0.mk (Kd.R_below (kr_ HO_7.out) hb); have n1_ := Aside0.mk (below_step bw_ hb); clear HO_7; clear HB; have HO_7 := n0_; have HB := n1_; clear n0_ n1_; (try clear hb); (try clear hb2); (try clear hk); (try clear hi)))
    go_ret
    exact ⟨re_, bw_⟩
def leastP (p : Int → Bool) : Int → Nat → Int × Bool
 | _, 0 => (0, false)
 | lo, n + 1 => if p lo then (lo, true) else leastP p (lo + 1) n
theorem impl_least_w (g : Nat) (lb : Array Value) (p : Int → Bool) (eg : ∀ args w, (callFunc g args).run Tryz.prog w = .ok (.enter g args) w) (lo hi : Int) (n : Nat) (hhi : hi = lo + n - 1) (hlo : -1000 ≤ lo ∧ lo ≤ 1000) (hn : n ≤ 1000) (w : World)
  (hp : ∀ (W : World) (x : Int), Below w.heap.size w W → lo ≤ x → x ≤ hi → Calls Tryz.prog g (#[.int .i64 x] ++ lb) W fun e w' => e = .returned (.bool (p x)) ∧ Below W.heap.size W w') :
  Calls Tryz.prog 34 #[.int .i64 lo, .int .i64 hi, .func (.func g) #[] lb] w fun e w' => e = .returned (.tuple #[.int .i64 (leastP p lo n).1, .bool (leastP p lo n).2]) ∧ Below w.heap.size w w' := by
 obtain ⟨r1, r2, hr⟩ : ∃ r1 r2, leastP p lo n = (r1, r2) := ⟨_, _, rfl⟩
 rw [hr]
 have HR := Aside0.mk (And.intro hhi (And.intro hlo (And.intro hn hr)))
 have HP := Aside0.mk hp
 clear hr hp hhi hlo hn
 go_enter Tryz.func34, Tryz.ntmps34
 go_wp2
 go_loopg [8] n (fun gg s8 wr => ∃ (x : Int) (k : Nat), s8 = .int .i64 x ∧ Below w.heap.size w wr ∧ Aside (k ≤ n ∧ n - k ≤ gg ∧ x = lo + k ∧ leastP p x (n - k) = (r1, r2)))
 case atStart => exact ⟨lo, 0, rfl, Below.refl _ w, ⟨Nat.zero_le _, by omega, by simp, by simpa using HR.out.2.2.2⟩⟩
 case round =>
  obtain ⟨x, k, rfl, hB, A⟩ := hrel
  obtain ⟨b1, b2⟩ : -1000 ≤ x ∧ x ≤ 3000 := by
   have a := A.out
   have b := HR.out
   omega
  by_cases hle : x ≤ hi
  ·obtain ⟨m, hm⟩ : ∃ m, n - k = m + 1 := ⟨n - k - 1, by have a := A.out; have b := HR.out; omega⟩
   have hstep : leastP p x (n - k) = if p x then (x, true) else leastP p (x + 1) m := by rw [hm]; rfl
   have hlox : lo ≤ x := by have a := A.out; omega
   have hcall := fun W hW => HP.out W x hW hlox hle
   have HC := Aside0.mk (And.intro hm (And.intro hstep hlox))
   clear hm hstep hlox
   cases hq : p x with
   | true =>
    rw [hq] at hcall
    go_wp2_with (go_at_fn g; refine (hcall _ (by first | exact hB | exact pw_below_drewN hB _)).mono ?_; rintro e w' ⟨rfl, hb⟩)
    first | go_ret2 | go_ret
    have e1 := A.out.2.2.2
    rw [HC.out.2.1, hq] at e1
    simp only [if_true, Prod.mk.injEq] at e1
    obtain ⟨rfl, rfl⟩ := e1
    exact ⟨rfl, below_then hB hB.size hb⟩
   | false =>
    rw [hq] at hcall
    go_wp2_with (go_at_fn g; refine (hcall _ (by first | exact hB | exact pw_below_drewN hB _)).mono ?_; rintro e w' ⟨rfl, hb⟩)
    go_roundg m
    case measure => have a := A.out; have b := HC.out.1; omega
    case rel =>
     refine ⟨x + 1, k + 1, by go_num, below_then hB hB.size hb, ?_⟩
     have a := A.out
     have c := HC.out
     refine ⟨by omega, by omega, by omega, ?_⟩
     have e1 := a.2.2.2
     rw [c.2.1, hq] at e1
     rw [show n - (k + 1) = m by omega]
     simpa using e1
  ·go_wp2
   first | go_ret2 | go_ret
   have a := A.out
   have b := HR.out
   have e1 := a.2.2.2
   rw [show n - k = 0 by omega] at e1
   injection e1 with e2 e3
   subst e2
   subst e3
   exact ⟨rfl, hB⟩
def readPitchIn1_T : Bool × List (List Nat × List Nat) := (true, [([], []), ([], []), ([], []), ([0, 1, 2], [0, 1, 2]), ([], []), ([3, 4], [3, 4]), ([5, 3, 0, 1, 2, 3, 4, 5], [5])])
def readPitchIn1_B : List Nat := [0, 0, 0, 7, 0, 31, 63]
theorem readPitchIn1_tab : rtab .any (opsOf Tryz.f59 1) = readPitchIn1_T := by kernel_rfl
theorem readPitchIn1_bits : waitsOk readPitchIn1_T.2 readPitchIn1_B = true := by kernel_rfl
def ReadHeld (w : World) (B1 B2 B3 : Nat) (s k : Int) (t : ByteArray) (W : World) : Prop :=
 W.cell? ⟨B1, 0, none⟩ = some (.int .i64 s) ∧ W.cell? ⟨B2, 0, none⟩ = some (.int .i64 k) ∧ W.cell? ⟨B3, 0, none⟩ = some (.string t) ∧ Below w.heap.size w W ∧ Lv W
theorem read_held {w W V : World} {B1 B2 B3 : Nat} {s k : Int} {t : ByteArray} (h : ReadHeld w B1 B2 B3 s k t W) (hb : Below W.heap.size W V) : ReadHeld w B1 B2 B3 s k t V :=
 ⟨(hb.cell (World.block_lt_of_cell? W _ h.1)).trans h.1, (hb.cell (World.block_lt_of_cell? W _ h.2.1)).trans h.2.1, (hb.cell (World.block_lt_of_cell? W _ h.2.2.1)).trans h.2.2.1, below_then h.2.2.2.1 h.2.2.2.1.size hb, h.2.2.2.2.below hb⟩
set_option maxHeartbeats 8000000 in
set_option maxRecDepth 100000 in
theorem impl_readPitchIn1_w (x s k : Int) (t Y : ByteArray) (B1 B2 B3 : Nat) (w : World) (hL : Lv w) (ht : ∀ V, Lv V → Calls Tryz.prog 32 #[.int .i64 s, .int .i64 k, .int .i64 x] V fun e w' => e = .returned (.string Y) ∧ Below V.heap.size V w')
  (c1 : w.cell? ⟨B1, 0, none⟩ = some (.int .i64 s)) (c2 : w.cell? ⟨B2, 0, none⟩ = some (.int .i64 k)) (c3 : w.cell? ⟨B3, 0, none⟩ = some (.string t)) :
  Calls Tryz.prog 59 #[.int .i64 x, .pointer (some ⟨B1, 0, none⟩), .pointer (some ⟨B2, 0, none⟩), .pointer (some ⟨B3, 0, none⟩)] w fun e w' => e = .returned (.bool (Y.toList == t.toList)) ∧ Below w.heap.size w w' := by
 go_enter Tryz.func59, Tryz.ntmps59
 go_wp2
 refine start_ (n := 7) (S := ReadHeld w B1 B2 B3 s k t) (ds := []) #[false, false, false, false, false, false, false] (by kernel_rfl) rfl rfl ⟨by simpa using c1, by simpa using c2, by simpa using c3, below_drew1 (Below.refl _ w), hL.below (below_drew1 (Below.refl _ w))⟩ (fun hHeld => ?_)
 refine with_tabW readPitchIn1_tab readPitchIn1_bits (fun HT_ HW_ => ?_)
 generalize World.drew _ = wS at hHeld ⊢
 refine pure_ (i := 2) (N := some 8) (v := ?_) (a' := ?_) #[false, false, true, false, false, false, false] rfl rfl (any_of HT_.out (by kernel_rfl)) (fun _ _ _ h => h) (Or.inl ⟨by rfl, ?_⟩) ?_ ?_
 rotate_left
 ·intro w'
  go_simp
  with_reducible rfl
 rotate_left
 ·simp only [Act.put, List.setIfInBounds_toArray, List.set_cons_zero, List.set_cons_succ, i64_w, i32_w]
  rfl
 refine take_ (i := 0) (N := some 6) (v := ?_) (a' := ?_) #[true, false, true, false, false, false, false] rfl rfl (take_ofW HT_.out HW_.out (by kernel_rfl)) (fun _ _ _ h => h) (Or.inl ⟨by rfl, ?_⟩) hHeld ?_ ?_
 rotate_left
 ·rintro w' ⟨s0, s1, s2, _⟩
  go_simp
  with_reducible rfl
 rotate_left
 ·simp only [Act.put, List.setIfInBounds_toArray, List.set_cons_zero, List.set_cons_succ, i64_w, i32_w]
  rfl
 refine take_ (i := 1) (N := some 7) (v := ?_) (a' := ?_) #[true, true, true, false, false, false, false] rfl rfl (take_ofW HT_.out HW_.out (by kernel_rfl)) (fun _ _ _ h => h) (Or.inl ⟨by rfl, ?_⟩) hHeld ?_ ?_
 rotate_left
 ·rintro w' ⟨s0, s1, s2, _⟩
  go_simp
  with_reducible rfl
 rotate_left
 ·simp only [Act.put, List.setIfInBounds_toArray, List.set_cons_zero, List.set_cons_succ, i64_w, i32_w]
  rfl
 refine take_ (i := 4) (N := some 10) (v := ?_) (a' := ?_) #[true, true, true, false, true, false, false] rfl rfl (take_ofW HT_.out HW_.out (by kernel_rfl)) (fun _ _ _ h => h) (Or.inl ⟨by rfl, ?_⟩) hHeld ?_ ?_
 rotate_left
 ·rintro w' ⟨s0, s1, s2, _⟩
  go_simp
  with_reducible rfl
 rotate_left
 ·simp only [Act.put, List.setIfInBounds_toArray, List.set_cons_zero, List.set_cons_succ, i64_w, i32_w]
  rfl
 refine one_ (i := 3) (N := some 9) #[true, true, true, true, true, false, false] rfl rfl (one_of HT_.out (by kernel_rfl)) (by decide) (fun K hK => ?_)
 refine goes_ Tryz.func32 (by kernel_rfl) rfl #[.int .i64 s, .int .i64 k, .int .i64 x] (by rfl) rfl rfl (by (try simp only [List.map_toArray, List.map_cons, List.map_nil]); first | done | rfl) ?_
 refine (ht _ hHeld.2.2.2.2).mono ?_
 rintro e w8 ⟨rfl, hB8⟩
 refine ⟨_, rfl, ?_⟩
 refine hK.out _ _ (read_held hHeld hB8) (fun hHeld => ?_)
 clear hK K hB8
 refine norm_ (a' := ?_) ?_ ?_
 rotate_left
 ·show Act.put _ (some 9) _ = _
  simp only [Act.put, List.setIfInBounds_toArray, List.set_cons_zero, List.set_cons_succ, i64_w, i32_w]
  rfl
 refine pure_ (i := 5) (N := some 11) (v := ?_) (a' := ?_) #[true, true, true, true, true, true, false] rfl rfl (any_of HT_.out (by kernel_rfl)) (fun _ _ _ h => h) (Or.inl ⟨by rfl, ?_⟩) ?_ ?_
 rotate_left
 ·intro w'
  go_simp
  with_reducible rfl
 rotate_left
 ·simp only [Act.put, List.setIfInBounds_toArray, List.set_cons_zero, List.set_cons_succ, i64_w, i32_w]
  rfl
 refine pure_ (i := 6) (N := some 5) (v := ?_) (a' := ?_) #[true, true, true, true, true, true, true] rfl rfl (any_of HT_.out (by kernel_rfl)) (fun _ _ _ h => h) (Or.inl ⟨by rfl, ?_⟩) ?_ ?_
 rotate_left
 ·intro w'
  go_simp
  with_reducible rfl
 rotate_left
 ·simp only [Act.put, List.setIfInBounds_toArray, List.set_cons_zero, List.set_cons_succ, i64_w, i32_w]
  rfl
 refine done_ (done_of HT_.out (by kernel_rfl)) ?_
 try go_wp2
 go_ret
 exact ⟨rfl, hHeld.2.2.2.1⟩
theorem box3 (w : World) (va vb vc : Value) (ta tb tc : Nat) :
  (((w.alloc (.cells #[va] ta (0, 0))).alloc (.cells #[vb] tb (0, 0))).alloc (.cells #[vc] tc (0, 0))).cell? ⟨w.heap.size, 0, none⟩ = some va ∧
  (((w.alloc (.cells #[va] ta (0, 0))).alloc (.cells #[vb] tb (0, 0))).alloc (.cells #[vc] tc (0, 0))).cell? ⟨w.heap.size + 1, 0, none⟩ = some vb ∧
  (((w.alloc (.cells #[va] ta (0, 0))).alloc (.cells #[vb] tb (0, 0))).alloc (.cells #[vc] tc (0, 0))).cell? ⟨w.heap.size + 2, 0, none⟩ = some vc := by
 have h2 := blk_new (w.alloc (.cells #[va] ta (0, 0))) (.cells #[vb] tb (0, 0))
 have h3 := blk_new ((w.alloc (.cells #[va] ta (0, 0))).alloc (.cells #[vb] tb (0, 0))) (.cells #[vc] tc (0, 0))
 have e2 : (w.alloc (.cells #[va] ta (0, 0))).heap.size = w.heap.size + 1 := by simp
 have e3 : ((w.alloc (.cells #[va] ta (0, 0))).alloc (.cells #[vb] tb (0, 0))).heap.size = w.heap.size + 2 := by simp
 rw [e2] at h2
 rw [e3] at h3
 exact ⟨(blk_cell (blk_alloc (blk_alloc (blk_new w _) _) _) 0).trans rfl, (blk_cell (blk_alloc h2 _) 0).trans rfl, (blk_cell h3 0).trans rfl⟩
def impl_readPitchIn.f (a0 : Int) (a1 : Int) (a2 : ByteArray) : Option (Int × Bool) := if 0 ≤ a1 ∧ a1 ≤ 11 then some (leastP (fun p => (pitchB a0 a1 p).toList == a2.toList) (-12) 36) else none
set_option maxHeartbeats 8000000 in
set_option maxRecDepth 100000 in
theorem impl_readPitchIn.calls (a0 : Int) (a1 : Int) (a2 : ByteArray) (r1 : Int) (r2 : Bool) (w : World) (hL : Lv w) (h : impl_readPitchIn.f a0 a1 a2 = some (r1, r2)) :
  Calls Tryz.prog 33 #[.int .i64 a0, .int .i64 a1, .string a2] w fun e w' => e = .returned (.tuple #[.int .i64 r1, .bool r2]) ∧ Below w.heap.size w w' := by
 unfold impl_readPitchIn.f at h
 by_cases hb : 0 ≤ a1 ∧ a1 ≤ 11
 ·rw [if_pos hb] at h
  have hr := Option.some.inj h
  clear h
  have eg : ∀ args w, (callFunc 59 args).run Tryz.prog w = .ok (.enter 59 args) w := enters_of Tryz.func59 (by kernel_rfl) rfl
  have hk := fun V hp => impl_least_w 59 #[.pointer (some ⟨w.heap.size, 0, none⟩), .pointer (some ⟨w.heap.size + 1, 0, none⟩), .pointer (some ⟨w.heap.size + 2, 0, none⟩)] (fun p => (pitchB a0 a1 p).toList == a2.toList) eg (-12) 23 36 (by omega) (by omega) (by omega) V hp
  rw [hr] at hk
  have hclo := fun x (x0 : -12 ≤ x) (x1 : x ≤ 23) W hW c1 c2 c3 => impl_readPitchIn1_w x a0 a1 a2 (pitchB a0 a1 x) w.heap.size (w.heap.size + 1) (w.heap.size + 2) W hW (fun V hV => impl_pitchIn.calls a0 a1 x _ V hV (if_pos ⟨hb.1, hb.2, x0, x1⟩)) c1 c2 c3
  have hb0 : ∀ a b c, Below w.heap.size w (((w.alloc a).alloc b).alloc c) := fun a b c => (((Below.refl w.heap.size w).alloc (Nat.le_refl _) a).alloc (o := b) (by simp)).alloc (o := c) (by simp <;> omega)
  have hlv := fun a b c => hL.below (hb0 a b c)
  have HK := Aside0.mk hk
  have HL := Aside0.mk hclo
  have HB0 := Aside0.mk hb0
  have HLV := Aside0.mk hlv
  clear hk hclo hr hb0 hlv
  go_enter Tryz.func33, Tryz.ntmps33
  go_wp2_with (go_at_call 34; go_loud (refine (HK.out _ (fun W x hb h0 h1 => HL.out x h0 h1 W ((HLV.out _ _ _).below hb) ((hb.cell (p := ⟨w.heap.size, 0, none⟩) (by simp <;> omega)).trans (box3 w _ _ _ _ _ _).1) ((hb.cell (p := ⟨w.heap.size + 1, 0, none⟩) (by simp <;> omega)).trans (box3 w _ _ _ _ _ _).2.1) ((hb.cell (p := ⟨w.heap.size + 2, 0, none⟩) (by simp <;> omega)).trans (box3 w _ _ _ _ _ _).2.2))).mono ?_); rintro e w' ⟨rfl, hb'⟩)
  first | go_ret2 | go_ret
  exact ⟨rfl, below_then (HB0.out _ _ _) (HB0.out _ _ _).size hb'⟩
 ·rw [if_neg hb] at h
  cases h
def impl_lengthOk.f (a0 : Int) : Option (Bool) := (impl_within.f a0 1 64).bind fun t197 => (some t197)
set_option maxHeartbeats 8000000 in
set_option maxRecDepth 100000 in
theorem impl_lengthOk.calls (a0 : Int) (r : Bool) (w : World) (h : impl_lengthOk.f a0 = some r) :
  Calls Tryz.prog 60 #[.int .i64 a0] w fun e w' => e = .returned (.bool r) ∧ Drawn0 w w' := by
 have H : ((impl_within.f a0 1 64).bind fun t197 => (some t197)) = some r := h
 clear h
 replace H := Option.bind_eq_some_iff.mp H
 obtain ⟨t197, A20, H⟩ := H
 replace H : (some t197) = some r := H
 have A2 := Aside0.mk A20
 clear A20
 obtain rfl := Option.some.inj H
 go_enter Tryz.func60, Tryz.ntmps60
 go_wp2_with (first | ((with_reducible refine gate_callee (f := 36) rfl ?_); refine goesL_ (some 4) rfl rfl Tryz.func36 (by kernel_rfl) rfl #[.int .i64 a0, .int .i64 1, .int .i64 64] rfl ma_ ?_; (with_reducible refine (impl_within.calls a0 1 64 t197 _ A2.out).mono ?_); rintro e w' ⟨rfl, ⟨nd, rfl⟩⟩; refine ⟨_, rfl, ?_⟩))
 go_ret
 exact ⟨rs_, dr_⟩
def impl_ValidMelody.l0 : Nat → List (S70) → Int → Int → Option (Bool)
 | 0, _, _, _ => none
 | k + 1, x8, x9, x10 => if x10 < x9 then (if 0 ≤ x10 then (if x10 < (x8.length : Int) then ((impl_pitchOk.f ((rd_T70 x8 x10).f0)).bind fun t200 => (if t200 = true then ((impl_lengthOk.f ((rd_T70 x8 x10).f1)).bind fun t201 => (if t201 = true then (impl_ValidMelody.l0 k x8 x9 (wrap64 (x10 + 1))) else (some false))) else (some false))) else (none)) else (none)) else (some true)
def impl_ValidMelody.f (k : Nat) (l0 : List (S70)) : Option (Bool) := if (l0.length : Int) > 48 then (some false) else (impl_ValidMelody.l0 k l0 (l0.length : Int) 0)
theorem impl_ValidMelody.mono_l : ∀ k, (∀ y0 y1 y2, LeO (impl_ValidMelody.l0 k y0 y1 y2) (impl_ValidMelody.l0 (k + 1) y0 y1 y2))
 | 0 => fun _ _ _ r h => by simp [impl_ValidMelody.l0] at h
 | k + 1 => by
  have ih0 := impl_ValidMelody.mono_l k
  ·intro y0 y1 y2
   unfold impl_ValidMelody.l0
   repeat' first
   | (with_reducible exact ih0 _ _ _)
   | (with_reducible exact LeO.refl _)
   | (with_reducible exact LeO.none _)
   | (with_reducible refine LeO.ite ?_ ?_)
   | (with_reducible refine LeO.bind ?_ (fun _ => ?_))
theorem impl_ValidMelody.mono : ∀ a0 k, LeO (impl_ValidMelody.f k a0) (impl_ValidMelody.f (k + 1) a0) := by
 intro a0 k
 have ih0 := impl_ValidMelody.mono_l k
 unfold impl_ValidMelody.f
 repeat' first
   | (with_reducible exact ih0 _ _ _)
   | (with_reducible exact LeO.refl _)
   | (with_reducible exact LeO.none _)
   | (with_reducible refine LeO.ite ?_ ?_)
   | (with_reducible refine LeO.bind ?_ (fun _ => ?_))
set_option maxHeartbeats 8000000 in
set_option maxRecDepth 100000 in
theorem impl_ValidMelody.calls (k : Nat) (A0 : Option Addr) (c0 : Nat) (l0 : List (S70)) (r : Bool) (w : World) (hr0 : Kd.C k70 w A0 l0.length l0) (hc0 : l0.length ≤ c0) (h : impl_ValidMelody.f k l0 = some r) :
  Calls Tryz.prog 38 #[.slice A0 l0.length c0] w fun e w' => e = .returned (.bool r) ∧ Below w.heap.size w w' := by
 have hu70 := Tryz.underlying70
 have HR0 := Aside0.mk hr0
 have HC0 := Aside0.mk hc0
 clear hr0 hc0
 have HB := Aside0.mk (Below.refl w.heap.size w)
 have H : (if (l0.length : Int) > 48 then (some false) else (impl_ValidMelody.l0 k l0 (l0.length : Int) 0)) = some r := h
 clear h
 by_cases c2 : (l0.length : Int) > 48
 ·rw [if_pos c2] at H
  have c2b0 : decide (48 < (l0.length : Int)) = true := decide_eq_true c2
  have c2b1 : decide (48 < l0.length) = true := decide_eq_true (by omega)
  clear c2
  obtain rfl := Option.some.inj H
  go_enter Tryz.func38, Tryz.ntmps38
  go_wp2
  go_ret
  exact ⟨re_, bw_⟩
 ·rw [if_neg c2] at H
  have c2b0 : decide (48 < (l0.length : Int)) = false := decide_eq_false c2
  have c2b1 : decide (48 < l0.length) = false := decide_eq_false (by omega)
  clear c2
  have H' := Aside0.mk H
  clear H
  go_enter Tryz.func38, Tryz.ntmps38
  go_wp2
  go_loopg [10] k (fun kq v10 w' => ∃ (x10_1 : Int), v10 = .int .i64 x10_1 ∧ Aside0 (impl_ValidMelody.l0 kq l0 (l0.length : Int) x10_1 = some r) ∧ Aside0 (kq ≤ k) ∧ Aside0 (Below w.heap.size w w'))
  case atStart => exact ⟨(0), rs_, H', ⟨Nat.le_refl _⟩, ⟨bw_⟩⟩
  case round =>
   clear H'
   try clear c2
   try clear c2b0
   try clear c2b1
   try clear p2
   obtain ⟨x10_1, rfl, HA, HK1, HB⟩ := hrel
   cases gk with
   | zero => exact absurd HA.out (by simp [impl_ValidMelody.l0])
   | succ k1 =>
    have H := HA.out
    clear HA
    simp only [impl_ValidMelody.l0] at H
    by_cases c3 : x10_1 < (l0.length : Int)
    ·rw [if_pos c3] at H
     have c3b0 : decide (x10_1 < (l0.length : Int)) = true := decide_eq_true c3
     clear c3
     by_cases c4 : 0 ≤ x10_1
     ·rw [if_pos c4] at H
      have c4b0 : decide (0 ≤ x10_1) = true := decide_eq_true c4
      clear c4
      by_cases c5 : x10_1 < (l0.length : Int)
      ·rw [if_pos c5] at H
       have c5b0 : decide (x10_1 < (l0.length : Int)) = true := decide_eq_true c5
       clear c5
       replace H := Option.bind_eq_some_iff.mp H
       obtain ⟨t200, A60, H⟩ := H
       replace H : (if t200 = true then ((impl_lengthOk.f ((rd_T70 l0 x10_1).f1)).bind fun t201 => (if t201 = true then (impl_ValidMelody.l0 k1 l0 (l0.length : Int) (wrap64 (x10_1 + 1))) else (some false))) else (some false)) = some r := H
       have A6 := Aside0.mk A60
       clear A60
       by_cases c7 : t200 = true
       ·subst c7
        have H1 : ((impl_lengthOk.f ((rd_T70 l0 x10_1).f1)).bind fun t201 => (if t201 = true then (impl_ValidMelody.l0 k1 l0 (l0.length : Int) (wrap64 (x10_1 + 1))) else (some false))) = some r := by rw [if_pos rfl] at H; exact H
        clear H
        have H := H1
        clear H1
        replace H := Option.bind_eq_some_iff.mp H
        obtain ⟨t201, A80, H⟩ := H
        replace H : (if t201 = true then (impl_ValidMelody.l0 k1 l0 (l0.length : Int) (wrap64 (x10_1 + 1))) else (some false)) = some r := H
        have A8 := Aside0.mk A80
        clear A80
        by_cases c9 : t201 = true
        ·subst c9
         have H1 : (impl_ValidMelody.l0 k1 l0 (l0.length : Int) (wrap64 (x10_1 + 1))) = some r := by rw [if_pos rfl] at H; exact H
         clear H
         have H := H1
         clear H1
         have H' := Aside0.mk H
         clear H
         have p198 : 0 ≤ (x10_1 : Int) := of_decide_eq_true as_
         have q198 : x10_1 < (l0.length : Int) := of_decide_eq_true as_
         obtain ⟨ad198, e198, hx198_0, hx198_1⟩ := at_T70 HR0.out x10_1 p198 q198
         cases e198
         replace hx198_0 := (HB.out.cell (World.block_lt_of_cell? w _ hx198_0)).trans hx198_0
         replace hx198_1 := (HB.out.cell (World.block_lt_of_cell? w _ hx198_1)).trans hx198_1
         replace p198 := eq_true p198
         replace q198 := eq_true q198
         go_wp2_with (first | ((with_reducible refine gate_dst (N := 4) rfl ?_); refine box_event ?hg (N := 4) ?hd (cs := #[.int .i64 0, .int .i64 0]) (t := 70) ?hr ?_; (case hd => rfl); (case hg => rfl); (case hr => first | (go_simp; done) | (go_simp; rfl)); intro gb199 hg w10 hbox hb; have n0_ := Aside0.mk (below_step bw_ hb); have n1_ := Aside0.mk (hbox); have n2_ := Aside0.mk ((by rw [hg]; exact (below_size bw_) : w.heap.size ≤ gb199)); have n3_ := Aside0.mk ((by rw [hg]; exact (below_size bw_) : w.heap.size ≤ gb199)); clear HB; have HB := n0_; have BK199 := n1_; have GW199 := n2_; have GE199 := n3_; clear n0_ n1_ n2_ n3_; clear hb hbox hg; have hcz11_0 : w10.cell? ⟨gb199, 0, none⟩ = some (.int .i64 0) := (blk_cell BK199.out 0).trans rfl; have hcz11_1 : w10.cell? ⟨gb199, 1, none⟩ = some (.int .i64 0) := (blk_cell BK199.out 1).trans rfl; have hfz11_0 := blk_frozen BK199.out 0; have hfz11_1 := blk_frozen BK199.out 1) | ((with_reducible refine gate_callee (f := 31) rfl ?_); refine goesL_ (some 16) rfl rfl Tryz.func31 (by kernel_rfl) rfl #[.int .i64 ((rd_T70 l0 x10_1).f0)] rfl ma_ ?_; (with_reducible refine (impl_pitchOk.calls ((rd_T70 l0 x10_1).f0) true _ A6.out).mono ?_); rintro e w' ⟨rfl, ⟨nd, rfl⟩⟩; refine ⟨_, rfl, ?_⟩) | (go_at_call 60; (with_reducible refine (impl_lengthOk.calls ((rd_T70 l0 x10_1).f1) true _ A8.out).mono ?_); rintro e w' ⟨rfl, ⟨nd, rfl⟩⟩))
         go_roundg k1
         case measure => have := HK1.out; omega
         case rel => exact ⟨(wrap64 (x10_1 + 1)), rs_, H', ⟨by have := HK1.out; omega⟩, ⟨bw_⟩⟩
        ·replace c9 := Bool.eq_false_iff.mpr c9
         subst c9
         have H1 : (some false) = some r := by rw [if_neg (show ¬ (false = true) by decide)] at H; exact H
         clear H
         have H := H1
         clear H1
         obtain rfl := Option.some.inj H
         have p198 : 0 ≤ (x10_1 : Int) := of_decide_eq_true as_
         have q198 : x10_1 < (l0.length : Int) := of_decide_eq_true as_
         obtain ⟨ad198, e198, hx198_0, hx198_1⟩ := at_T70 HR0.out x10_1 p198 q198
         cases e198
         replace hx198_0 := (HB.out.cell (World.block_lt_of_cell? w _ hx198_0)).trans hx198_0
         replace hx198_1 := (HB.out.cell (World.block_lt_of_cell? w _ hx198_1)).trans hx198_1
         replace p198 := eq_true p198
         replace q198 := eq_true q198
         go_wp2_with (first | ((with_reducible refine gate_dst (N := 4) rfl ?_); refine box_event ?hg (N := 4) ?hd (cs := #[.int .i64 0, .int .i64 0]) (t := 70) ?hr ?_; (case hd => rfl); (case hg => rfl); (case hr => first | (go_simp; done) | (go_simp; rfl)); intro gb199 hg w12 hbox hb; have n0_ := Aside0.mk (below_step bw_ hb); have n1_ := Aside0.mk (hbox); have n2_ := Aside0.mk ((by rw [hg]; exact (below_size bw_) : w.heap.size ≤ gb199)); have n3_ := Aside0.mk ((by rw [hg]; exact (below_size bw_) : w.heap.size ≤ gb199)); clear HB; have HB := n0_; have BK199 := n1_; have GW199 := n2_; have GE199 := n3_; clear n0_ n1_ n2_ n3_; clear hb hbox hg; have hcz13_0 : w12.cell? ⟨gb199, 0, none⟩ = some (.int .i64 0) := (blk_cell BK199.out 0).trans rfl; have hcz13_1 : w12.cell? ⟨gb199, 1, none⟩ = some (.int .i64 0) := (blk_cell BK199.out 1).trans rfl; have hfz13_0 := blk_frozen BK199.out 0; have hfz13_1 := blk_frozen BK199.out 1) | ((with_reducible refine gate_callee (f := 31) rfl ?_); refine goesL_ (some 16) rfl rfl Tryz.func31 (by kernel_rfl) rfl #[.int .i64 ((rd_T70 l0 x10_1).f0)] rfl ma_ ?_; (with_reducible refine (impl_pitchOk.calls ((rd_T70 l0 x10_1).f0) true _ A6.out).mono ?_); rintro e w' ⟨rfl, ⟨nd, rfl⟩⟩; refine ⟨_, rfl, ?_⟩) | (go_at_call 60; (with_reducible refine (impl_lengthOk.calls ((rd_T70 l0 x10_1).f1) false _ A8.out).mono ?_); rintro e w' ⟨rfl, ⟨nd, rfl⟩⟩))
         go_ret
         exact ⟨re_, bw_⟩
       ·replace c7 := Bool.eq_false_iff.mpr c7
        subst c7
        have H1 : (some false) = some r := by rw [if_neg (show ¬ (false = true) by decide)] at H; exact H
        clear H
        have H := H1
        clear H1
        obtain rfl := Option.some.inj H
        have p198 : 0 ≤ (x10_1 : Int) := of_decide_eq_true as_
        have q198 : x10_1 < (l0.length : Int) := of_decide_eq_true as_
        obtain ⟨ad198, e198, hx198_0, hx198_1⟩ := at_T70 HR0.out x10_1 p198 q198
        cases e198
        replace hx198_0 := (HB.out.cell (World.block_lt_of_cell? w _ hx198_0)).trans hx198_0
        replace hx198_1 := (HB.out.cell (World.block_lt_of_cell? w _ hx198_1)).trans hx198_1
        replace p198 := eq_true p198
        replace q198 := eq_true q198
        go_wp2_with (first | ((with_reducible refine gate_dst (N := 4) rfl ?_); refine box_event ?hg (N := 4) ?hd (cs := #[.int .i64 0, .int .i64 0]) (t := 70) ?hr ?_; (case hd => rfl); (case hg => rfl); (case hr => first | (go_simp; done) | (go_simp; rfl)); intro gb199 hg w14 hbox hb; have n0_ := Aside0.mk (below_step bw_ hb); have n1_ := Aside0.mk (hbox); have n2_ := Aside0.mk ((by rw [hg]; exact (below_size bw_) : w.heap.size ≤ gb199)); have n3_ := Aside0.mk ((by rw [hg]; exact (below_size bw_) : w.heap.size ≤ gb199)); clear HB; have HB := n0_; have BK199 := n1_; have GW199 := n2_; have GE199 := n3_; clear n0_ n1_ n2_ n3_; clear hb hbox hg; have hcz15_0 : w14.cell? ⟨gb199, 0, none⟩ = some (.int .i64 0) := (blk_cell BK199.out 0).trans rfl; have hcz15_1 : w14.cell? ⟨gb199, 1, none⟩ = some (.int .i64 0) := (blk_cell BK199.out 1).trans rfl; have hfz15_0 := blk_frozen BK199.out 0; have hfz15_1 := blk_frozen BK199.out 1) | ((with_reducible refine gate_callee (f := 31) rfl ?_); refine goesL_ (some 16) rfl rfl Tryz.func31 (by kernel_rfl) rfl #[.int .i64 ((rd_T70 l0 x10_1).f0)] rfl ma_ ?_; (with_reducible refine (impl_pitchOk.calls ((rd_T70 l0 x10_1).f0) false _ A6.out).mono ?_); rintro e w' ⟨rfl, ⟨nd, rfl⟩⟩; refine ⟨_, rfl, ?_⟩))
        go_ret
        exact ⟨re_, bw_⟩
      ·rw [if_neg c5] at H
       exact absurd H (by simp)
     ·rw [if_neg c4] at H
      exact absurd H (by simp)
    ·rw [if_neg c3] at H
     have c3b0 : decide (x10_1 < (l0.length : Int)) = false := decide_eq_false c3
     clear c3
     obtain rfl := Option.some.inj H
     go_wp2
     go_ret
     exact ⟨re_, bw_⟩
def strings_SplitN.f (a0 : ByteArray) (a1 : ByteArray) (a2 : Int) : Option (List ByteArray) := if a0.size < 4294967281 ∧ 1 ≤ a1.size ∧ 1 ≤ a2 ∧ a2 ≤ 1000000 then some (Lib.splitB a1 0 (min a2.toNat (a0.size + 1) - 1) a0) else none
theorem strings_SplitN.calls (a0 : ByteArray) (a1 : ByteArray) (a2 : Int) (r : List ByteArray) (w : World) (hL : Lv w) (h : strings_SplitN.f a0 a1 a2 = some r) :
  Calls Tryz.prog 62 #[.string a0, .string a1, .int .i64 a2] w fun e w' => ∃ v0_ : Value, e = .returned (v0_) ∧ Kd.R Kd.string 9 w' w.heap.size (fun _ => True) v0_ r ∧ Below w.heap.size w w' := by
 unfold strings_SplitN.f at h
 by_cases hb : a0.size < 4294967281 ∧ 1 ≤ a1.size ∧ 1 ≤ a2 ∧ a2 ≤ 1000000
 ·rw [if_pos hb] at h
  obtain rfl := Option.some.inj h
  obtain ⟨b1, b2, b3, b4⟩ := hb
  obtain ⟨n, rfl⟩ : ∃ n : Nat, a2 = (n : Int) := ⟨a2.toNat, by omega⟩
  obtain ⟨m, hm⟩ := hL.ml
  rw [Int.toNat_natCast]
  have hle := Lib.splitB_length_le a1 0 (min n (a0.size + 1) - 1) a0
  refine (Tryz.strings_SplitN a0 a1 n m w b1 hm b2 (by omega) (by omega)).mono ?_
  rintro e w' ⟨rfl, rfl⟩
  refine ⟨_, rfl, Kd.R_of_own ⟨by rw [encs_length, Nat.mul_one], .inr ⟨w.heap.size, _, _, rfl, Nat.le_refl _, blk_new w _, by omega, by simp only [maxLen]; omega, ?_, ?_⟩⟩ (fun k _ => trivial), below_alloc (Below.refl _ w) _⟩
  ·rw [Lib.cellsOf_size (by omega), Nat.mul_one]
  ·rw [Nat.mul_one]
   unfold Lib.cellsOf
   rw [List.take_left' (by rw [List.length_map])]
   rfl
 ·rw [if_neg hb] at h
  cases h
def strings_Cut.f (a0 : ByteArray) (a1 : ByteArray) : Option (ByteArray × ByteArray × Bool) := if a0.size < 4294967281 then some (⟨(Lib.cut a0.data.toList a1.data.toList).1.toArray⟩, ⟨(Lib.cut a0.data.toList a1.data.toList).2.1.toArray⟩, (Lib.cut a0.data.toList a1.data.toList).2.2) else none
theorem strings_Cut.calls (a0 : ByteArray) (a1 : ByteArray) (r1 : ByteArray) (r2 : ByteArray) (r3 : Bool) (w : World) (hL : Lv w) (h : strings_Cut.f a0 a1 = some (r1, r2, r3)) :
  Calls Tryz.prog 63 #[.string a0, .string a1] w fun e w' => e = .returned (.tuple #[.string r1, .string r2, .bool r3]) ∧ Below w.heap.size w w' := by
 unfold strings_Cut.f at h
 by_cases hb : a0.size < 4294967281
 ·rw [if_pos hb] at h
  obtain ⟨rfl, h2⟩ := Prod.mk.inj (Option.some.inj h)
  obtain ⟨rfl, rfl⟩ := Prod.mk.inj h2
  obtain ⟨m, hm⟩ := hL.ml
  refine (Tryz.strings_Cut a0 a1 m w hb hm).mono ?_
  rintro e w' ⟨rfl, n, rfl⟩
  exact ⟨rfl, pw_below_drewN (Below.refl _ w) n⟩
 ·rw [if_neg hb] at h
  cases h
def readDecB (a0 : ByteArray) : Int × Bool :=
 match Lib.parseIntB 64 a0.data.toList with
 | .ok n => if 18 < (Lib.trimPrefix a0.data.toList [45]).length then (0, false) else if (Lib.itoa n) = a0.data.toList then (n, true) else (0, false)
 | _ => (0, false)
theorem parseIntB_range (s : List UInt8) (v : Int) (h : Lib.parseIntB 64 s = .ok v) : -9223372036854775808 ≤ v ∧ v ≤ 9223372036854775807 := by
 unfold Lib.parseIntB at h
 cases s with
 | nil => cases h
 | cons c r =>
  simp only at h
  split at h
  ·cases h
  ·cases h
  ·rename_i u _
   split at h
   ·cases h
   ·split at h
    ·cases h
    ·injection h with h
     subst h
     simp only [Nat.reducePow, Nat.reduceSub] at *
     split <;> omega
def impl_ReadDecimal.f (a0 : ByteArray) : Option (Int × Bool) := if a0.size ≤ 281474976710656 then some (readDecB a0) else none
set_option maxHeartbeats 8000000 in
set_option maxRecDepth 100000 in
theorem impl_ReadDecimal.calls (a0 : ByteArray) (r1 : Int) (r2 : Bool) (w : World) (hL : Lv w) (h : impl_ReadDecimal.f a0 = some (r1, r2)) :
  Calls Tryz.prog 64 #[.string a0] w fun e w' => e = .returned (.tuple #[.int .i64 r1, .bool r2]) ∧ Below w.heap.size w w' := by
 unfold impl_ReadDecimal.f at h
 by_cases hb : a0.size ≤ 281474976710656
 ·rw [if_pos hb] at h
  have hr := Option.some.inj h
  clear h
  unfold readDecB at hr
  cases hp : Lib.parseIntB 64 a0.data.toList with
  | ok v =>
   rw [hp] at hr
   obtain ⟨v0, v1⟩ := parseIntB_range _ v hp
   have hP : ∀ V, Calls Tryz.prog 85 #[.string a0, .int .i64 10, .int .i64 64] V fun e w' => e = .returned (.tuple #[.int .i64 v, .nilIface]) ∧ Below V.heap.size V w' := fun V => by
    refine (Tryz.strconv_ParseInt_10_at64_ok a0 (by omega) v hp V).mono ?_
    rintro e w' ⟨rfl, rfl | ⟨t, rfl⟩⟩
    ·exact ⟨rfl, Below.refl _ _⟩
    ·exact ⟨rfl, rfl, rfl, rfl, by rw [Lib.bytesWorld_size]; omega, fun k hk => Lib.bytesWorld_at_old _ _ _ k (by omega)⟩
   have hT := fun V => Tryz.strings_TrimPrefix a0 ⟨#[45]⟩ V
   have hD : ∀ V, Lv V → Calls Tryz.prog 56 #[.int .i64 v] V fun e w' => e = .returned (.string ⟨(Lib.itoa v).toArray⟩) ∧ Below V.heap.size V w' := fun V hV => impl_Decimal.calls v _ V hV (if_pos ⟨v0, v1⟩)
   rw [show (⟨#[45]⟩ : ByteArray).data.toList = [45] from rfl] at hT
   have hLT : (⟨(Lib.trimPrefix a0.data.toList [45]).toArray⟩ : ByteArray).size = (Lib.trimPrefix a0.data.toList [45]).length := by simp [ByteArray.size]
   simp only at hr
   generalize Lib.trimPrefix a0.data.toList [45] = T at hr hT hLT
   generalize hTB : (⟨T.toArray⟩ : ByteArray) = TB at hT hLT
   clear hTB
   generalize hI : (⟨(Lib.itoa v).toArray⟩ : ByteArray) = I at hD
   have hIl : I.toList = Lib.itoa v := by rw [← hI, ByteArray.toList_eq]
   have ha0 : a0.toList = a0.data.toList := ByteArray.toList_eq a0
   clear hI hp
   by_cases h18 : 18 < T.length
   ·rw [if_pos h18] at hr
    obtain ⟨rfl, rfl⟩ := Prod.mk.inj hr
    have f1 : decide (18 < TB.size) = true := decide_eq_true (by omega)
    have f2 : decide ((18 : Int) < (TB.size : Int)) = true := decide_eq_true (by omega)
    go_enter Tryz.func64, Tryz.ntmps64
    go_wp2_with (first | (go_at_call 85; refine (hP _).mono ?_; rintro e w1 ⟨rfl, hb1⟩) | (go_at_call 86; refine (hT _).mono ?_; rintro e w2 ⟨rfl, rfl⟩))
    go_ret2
    exact ⟨rfl, hb1⟩
   ·rw [if_neg h18] at hr
    have f1 : decide (18 < TB.size) = false := decide_eq_false (by omega)
    have f2 : decide ((18 : Int) < (TB.size : Int)) = false := decide_eq_false (by omega)
    by_cases hE : Lib.itoa v = a0.data.toList
    ·rw [if_pos hE] at hr
     obtain ⟨rfl, rfl⟩ := Prod.mk.inj hr
     have g1 : I.toList = a0.toList := by rw [hIl, ha0, hE]
     have g2 : (I.toList == a0.toList) = true := beq_iff_eq.mpr g1
     have g3 : (I.toList != a0.toList) = false := bne_eq_false_iff_eq.mpr g1
     have g5 : (Lib.itoa v == a0.data.toList) = true := beq_iff_eq.mpr hE
     have g6 : (Lib.itoa v != a0.data.toList) = false := bne_eq_false_iff_eq.mpr hE
     go_enter Tryz.func64, Tryz.ntmps64
     go_wp2_with (first | (go_at_call 85; refine (hP _).mono ?_; rintro e w1 ⟨rfl, hb1⟩) | (go_at_call 86; refine (hT _).mono ?_; rintro e w2 ⟨rfl, rfl⟩) | (go_at_call 56; refine (hD _ (hL.below hb1)).mono ?_; rintro e w2 ⟨rfl, hb2⟩))
     go_ret2
     exact ⟨rfl, below_then hb1 hb1.size hb2⟩
    ·rw [if_neg hE] at hr
     obtain ⟨rfl, rfl⟩ := Prod.mk.inj hr
     have g1 : ¬ I.toList = a0.toList := by rw [hIl, ha0]; exact hE
     have g2 : (I.toList == a0.toList) = false := beq_eq_false_iff_ne.mpr g1
     have g3 : (I.toList != a0.toList) = true := bne_iff_ne.mpr g1
     have g5 : (Lib.itoa v == a0.data.toList) = false := beq_eq_false_iff_ne.mpr hE
     have g6 : (Lib.itoa v != a0.data.toList) = true := bne_iff_ne.mpr hE
     go_enter Tryz.func64, Tryz.ntmps64
     go_wp2_with (first | (go_at_call 85; refine (hP _).mono ?_; rintro e w1 ⟨rfl, hb1⟩) | (go_at_call 86; refine (hT _).mono ?_; rintro e w2 ⟨rfl, rfl⟩) | (go_at_call 56; refine (hD _ (hL.below hb1)).mono ?_; rintro e w2 ⟨rfl, hb2⟩))
     go_ret2
     exact ⟨rfl, below_then hb1 hb1.size hb2⟩
  | _ =>
   rw [hp] at hr
   obtain ⟨rfl, rfl⟩ := Prod.mk.inj hr
   have hP : ∀ V, Lv V → Calls Tryz.prog 85 #[.string a0, .int .i64 10, .int .i64 64] V fun e w' => (∃ (n : Int) (tp : TypeId) (p : Value), e = .returned (.tuple #[.int .i64 n, .iface tp p])) ∧ Below V.heap.size V w' := fun V hV => by
    obtain ⟨_, _, ⟨t3, p3, h3⟩, ⟨t4, p4, h4⟩⟩ := hV
    first
     | (refine (Tryz.strconv_ParseInt_10_at64_syntax_var a0 hb hp t3 p3 V h3).mono ?_; rintro e w' ⟨N, rfl, _, _, hbw⟩; exact ⟨⟨_, _, _, rfl⟩, hbw⟩)
     | (refine (Tryz.strconv_ParseInt_10_at64_range_var a0 hb hp t4 p4 V h4).mono ?_; rintro e w' ⟨N, rfl, _, _, hbw⟩; exact ⟨⟨_, _, _, rfl⟩, hbw⟩)
   clear hp
   go_enter Tryz.func64, Tryz.ntmps64
   go_wp2_with (go_at_call 85; refine (hP _ (by first | exact hL | exact hL.drewN _)).mono ?_; rintro e w1 ⟨⟨n, tp, p, rfl⟩, hb1⟩)
   go_ret2
   exact ⟨rfl, hb1⟩
 ·rw [if_neg hb] at h
  cases h
end Go.Proofs.YtgklofginkafgaaGreatDoor.PS
end
section
namespace Go.Proofs.YtgklofginkafgaaGreatDoor.PS
open Go.RowKit Go.Proofs.YtgklofginkafgaaGreatDoorW.PrintWords Go.Proofs.YtgklofginkafgaaGreatDoorW.PrintLast Go.Proofs.YtgklofginkafgaaGreatDoorW.PrintMore
attribute [local go_sem] max2_int min2_int max_two min_two max_three min_three max_four min_four
set_option linter.unusedVariables false
set_option linter.unusedSimpArgs false
def impl_readNotesIn.l0 : Nat → Int → Int → List (S70) → List ByteArray → Int → Int → Option ((List (S70)) × Bool)
 | 0, _, _, _, _, _, _ => none
 | k + 1, x0, x1, x8, x21, x22, x23 => if x23 < x22 then (if 0 ≤ x23 then (if x23 < (x21.length : Int) then ((strings_Cut.f (rdOf ByteArray.empty x21 x23) (⟨#[58]⟩ : ByteArray)).bind fun bt207 => ((impl_readPitchIn.f x0 x1 bt207.1).bind fun bt210 => ((impl_ReadDecimal.f bt207.2.1).bind fun bt212 => (if bt210.2 = true then (if bt212.2 = true then (if x8.length < 8796093022208 then (impl_readNotesIn.l0 k x0 x1 (x8 ++ [(⟨bt210.1, bt212.1⟩ : S70)]) x21 x22 (wrap64 (x23 + 1))) else (none)) else (some (([] : List (S70)), false))) else (some (([] : List (S70)), false)))))) else (none)) else (none)) else ((impl_ValidMelody.f k x8).bind fun t205 => (some (x8, t205)))
def impl_readNotesIn.f (k : Nat) (a0 : Int) (a1 : Int) (a2 : ByteArray) : Option ((List (S70)) × Bool) := if a2.toList = ([] : List UInt8) then (some (([] : List (S70)), true)) else ((strings_SplitN.f a2 (⟨#[32]⟩ : ByteArray) 49).bind fun t202 => (impl_readNotesIn.l0 k a0 a1 ([] : List (S70)) t202 (t202.length : Int) 0))
theorem impl_readNotesIn.mono_l : ∀ k, (∀ y0 y1 y2 y3 y4 y5, LeO (impl_readNotesIn.l0 k y0 y1 y2 y3 y4 y5) (impl_readNotesIn.l0 (k + 1) y0 y1 y2 y3 y4 y5))
 | 0 => fun _ _ _ _ _ _ r h => by simp [impl_readNotesIn.l0] at h
 | k + 1 => by
  have ih0 := impl_readNotesIn.mono_l k
  ·intro y0 y1 y2 y3 y4 y5
   unfold impl_readNotesIn.l0
   repeat' first
   | (with_reducible exact ih0 _ _ _ _ _ _)
   | (with_reducible exact impl_ValidMelody.mono _ _)
   | (with_reducible exact LeO.refl _)
   | (with_reducible exact LeO.none _)
   | (with_reducible refine LeO.ite ?_ ?_)
   | (with_reducible refine LeO.bind ?_ (fun _ => ?_))
theorem impl_readNotesIn.mono : ∀ a0 a1 a2 k, LeO (impl_readNotesIn.f k a0 a1 a2) (impl_readNotesIn.f (k + 1) a0 a1 a2) := by
 intro a0 a1 a2 k
 have ih0 := impl_readNotesIn.mono_l k
 unfold impl_readNotesIn.f
 repeat' first
   | (with_reducible exact ih0 _ _ _ _ _ _)
   | (with_reducible exact impl_ValidMelody.mono _ _)
   | (with_reducible exact LeO.refl _)
   | (with_reducible exact LeO.none _)
   | (with_reducible refine LeO.ite ?_ ?_)
   | (with_reducible refine LeO.bind ?_ (fun _ => ?_))
set_option maxHeartbeats 8000000 in
set_option maxRecDepth 100000 in
theorem impl_readNotesIn.calls (k : Nat) (a0 : Int) (a1 : Int) (a2 : ByteArray) (r1 : List (S70)) (r2 : Bool) (w : World) (hL : Lv w) (h : impl_readNotesIn.f k a0 a1 a2 = some (r1, r2)) :
  Calls Tryz.prog 40 #[.int .i64 a0, .int .i64 a1, .string a2] w fun e w' => ∃ v0_ : Value, e = .returned (.tuple #[v0_, .bool r2]) ∧ Kd.R k70 70 w' w.heap.size (fun _ => True) v0_ r1 ∧ Below w.heap.size w w' := by
 have hu70 := Tryz.underlying70
 have HB := Aside0.mk (Below.refl w.heap.size w)
 have H : (if a2.toList = ([] : List UInt8) then (some (([] : List (S70)), true)) else ((strings_SplitN.f a2 (⟨#[32]⟩ : ByteArray) 49).bind fun t202 => (impl_readNotesIn.l0 k a0 a1 ([] : List (S70)) t202 (t202.length : Int) 0))) = some (r1, r2) := h
 clear h
 by_cases c4 : a2.toList = ([] : List UInt8)
 ·rw [if_pos c4] at H
  have c4b0 : (a2.toList == ([] : List UInt8)) = true := beq_iff_eq.mpr c4
  have c4b1 : (a2.toList != ([] : List UInt8)) = false := bne_eq_false_iff_eq.mpr c4
  clear c4
  simp only [Option.some.injEq, Prod.mk.injEq] at H
  obtain ⟨rfl, rfl⟩ := H
  go_enter Tryz.func40, Tryz.ntmps40
  go_wp2
  go_ret2
  exact ⟨_, re_, rn_, bw_⟩
 ·rw [if_neg c4] at H
  have c4b0 : (a2.toList == ([] : List UInt8)) = false := beq_eq_false_iff_ne.mpr c4
  have c4b1 : (a2.toList != ([] : List UInt8)) = true := bne_iff_ne.mpr c4
  replace H := Option.bind_eq_some_iff.mp H
  obtain ⟨t202, A50, H⟩ := H
  replace H : (impl_readNotesIn.l0 k a0 a1 ([] : List (S70)) t202 (t202.length : Int) 0) = some (r1, r2) := H
  have A5 := Aside0.mk A50
  clear A50
  have H' := Aside0.mk H
  clear H
  go_enter Tryz.func40, Tryz.ntmps40
  go_wp2_with (first | ((with_reducible refine gate_callee (f := 62) rfl ?_); refine goesL_ (some 21) rfl rfl Tryz.func62 (by kernel_rfl) rfl #[.string a2, .string (⟨#[32]⟩ : ByteArray), .int .i64 49] rfl ma_ ?_; (with_reducible refine (strings_SplitN.calls a2 (⟨#[32]⟩ : ByteArray) 49 t202 _ ?side1 A5.out).mono ?_); (case side1 => exact Lv.below hL bw_); rintro e w6 ⟨v203, rfl, ho0, hb⟩; refine ⟨_, rfl, ?_⟩; have n0_ := Aside0.mk (Kd.R_lower ho0 (below_size bw_)); have n1_ := Aside0.mk (below_step bw_ hb); clear HB; have HO204 := n0_; have HB := n1_; clear n0_ n1_; (try clear hb); (try clear hb2); (try clear hk); (try clear hi); (try clear ho0); obtain ⟨Ao7, co7, eo7⟩ := Kd.R_slice HO204.out; subst eo7))
  go_loopg [8, 23] k (fun kq v8 v23 w' => ∃ (x8_1 : List (S70)) (x23_1 : Int), v23 = .int .i64 x23_1 ∧ Aside0 (impl_readNotesIn.l0 kq a0 a1 x8_1 t202 (t202.length : Int) x23_1 = some (r1, r2)) ∧ Aside0 (kq ≤ k) ∧ Aside0 (Kd.R k70 70 w' w.heap.size (fun _ => True) v8 x8_1) ∧ Aside0 (Kd.R Kd.string 9 w' w.heap.size (fun _ => True) (.slice Ao7 t202.length co7) t202) ∧ Aside0 (Below w.heap.size w w'))
  case atStart => exact ⟨(([] : List (S70))), (0), rs_, H', ⟨Nat.le_refl _⟩, ⟨rn_⟩, ⟨kr_ HO204.out⟩, ⟨bw_⟩⟩
  case round =>
   clear H'
   try clear p2
   try clear c4
   try clear c4b0
   try clear c4b1
   try clear c6
   obtain ⟨x8_1, x23_1, rfl, HA, HK1, HO_8, HO_21, HB⟩ := hrel
   cases gk with
   | zero => exact absurd HA.out (by simp [impl_readNotesIn.l0])
   | succ k1 =>
    have H := HA.out
    clear HA
    simp only [impl_readNotesIn.l0] at H
    by_cases c8 : x23_1 < (t202.length : Int)
    ·rw [if_pos c8] at H
     have c8b0 : decide (x23_1 < (t202.length : Int)) = true := decide_eq_true c8
     clear c8
     by_cases c9 : 0 ≤ x23_1
     ·rw [if_pos c9] at H
      have c9b0 : decide (0 ≤ x23_1) = true := decide_eq_true c9
      clear c9
      by_cases c10 : x23_1 < (t202.length : Int)
      ·rw [if_pos c10] at H
       have c10b0 : decide (x23_1 < (t202.length : Int)) = true := decide_eq_true c10
       clear c10
       replace H := Option.bind_eq_some_iff.mp H
       obtain ⟨⟨t207, t208, t209⟩, A110, H⟩ := H
       replace H : ((impl_readPitchIn.f a0 a1 t207).bind fun bt210 => ((impl_ReadDecimal.f t208).bind fun bt212 => (if bt210.2 = true then (if bt212.2 = true then (if x8_1.length < 8796093022208 then (impl_readNotesIn.l0 k1 a0 a1 (x8_1 ++ [(⟨bt210.1, bt212.1⟩ : S70)]) t202 (t202.length : Int) (wrap64 (x23_1 + 1))) else (none)) else (some (([] : List (S70)), false))) else (some (([] : List (S70)), false))))) = some (r1, r2) := H
       have A11 := Aside0.mk A110
       clear A110
       replace H := Option.bind_eq_some_iff.mp H
       obtain ⟨⟨t210, t211⟩, A120, H⟩ := H
       replace H : ((impl_ReadDecimal.f t208).bind fun bt212 => (if t211 = true then (if bt212.2 = true then (if x8_1.length < 8796093022208 then (impl_readNotesIn.l0 k1 a0 a1 (x8_1 ++ [(⟨t210, bt212.1⟩ : S70)]) t202 (t202.length : Int) (wrap64 (x23_1 + 1))) else (none)) else (some (([] : List (S70)), false))) else (some (([] : List (S70)), false)))) = some (r1, r2) := H
       have A12 := Aside0.mk A120
       clear A120
       replace H := Option.bind_eq_some_iff.mp H
       obtain ⟨⟨t212, t213⟩, A130, H⟩ := H
       replace H : (if t211 = true then (if t213 = true then (if x8_1.length < 8796093022208 then (impl_readNotesIn.l0 k1 a0 a1 (x8_1 ++ [(⟨t210, t212⟩ : S70)]) t202 (t202.length : Int) (wrap64 (x23_1 + 1))) else (none)) else (some (([] : List (S70)), false))) else (some (([] : List (S70)), false))) = some (r1, r2) := H
       have A13 := Aside0.mk A130
       clear A130
       by_cases c14 : t211 = true
       ·subst c14
        have H1 : (if t213 = true then (if x8_1.length < 8796093022208 then (impl_readNotesIn.l0 k1 a0 a1 (x8_1 ++ [(⟨t210, t212⟩ : S70)]) t202 (t202.length : Int) (wrap64 (x23_1 + 1))) else (none)) else (some (([] : List (S70)), false))) = some (r1, r2) := by rw [if_pos rfl] at H; exact H
        clear H
        have H := H1
        clear H1
        by_cases c15 : t213 = true
        ·subst c15
         have H1 : (if x8_1.length < 8796093022208 then (impl_readNotesIn.l0 k1 a0 a1 (x8_1 ++ [(⟨t210, t212⟩ : S70)]) t202 (t202.length : Int) (wrap64 (x23_1 + 1))) else (none)) = some (r1, r2) := by rw [if_pos rfl] at H; exact H
         clear H
         have H := H1
         clear H1
         by_cases c16 : x8_1.length < 8796093022208
         ·rw [if_pos c16] at H
          have LMc16 := Aside0.mk c16
          clear c16
          obtain ⟨y214, hy214⟩ : ∃ y_ : List (S70), y_ = (x8_1 ++ [(⟨t210, t212⟩ : S70)]) := ⟨_, rfl⟩
          replace H : (impl_readNotesIn.l0 k1 a0 a1 y214 t202 (t202.length : Int) (wrap64 (x23_1 + 1))) = some (r1, r2) := by first | (rw [hy214]; with_reducible exact H) | (have H2_ := (Option.bind_some _ _).symm.trans H; rw [hy214]; with_reducible exact H2_) | (have H2_ := (Option.bind_some _ _).symm.trans H; with_reducible exact H2_) | with_reducible exact H | (rw [hy214]; exact H) | exact H
          have Ny214 := Aside0.mk hy214
          clear hy214
          have H' := Aside0.mk H
          clear H
          have p206 : 0 ≤ (x23_1 : Int) := of_decide_eq_true as_
          have q206 : x23_1 < (t202.length : Int) := of_decide_eq_true as_
          obtain ⟨ad206, e206, hx206_0⟩ := Kd.at_string (Kd.R_reads' HO_21.out).2.2 x23_1 p206 q206
          cases e206
          replace p206 := eq_true p206
          replace q206 := eq_true q206
          go_wp2_with (first | ((with_reducible refine gate_callee (f := 63) rfl ?_); refine goesL_ (some 29) rfl rfl Tryz.func63 (by kernel_rfl) rfl #[.string (rdOf ByteArray.empty t202 x23_1), .string (⟨#[58]⟩ : ByteArray)] rfl ma_ ?_; (with_reducible refine (strings_Cut.calls (rdOf ByteArray.empty t202 x23_1) (⟨#[58]⟩ : ByteArray) t207 t208 t209 _ ?side1 A11.out).mono ?_); (case side1 => exact Lv.below hL bw_); rintro e w17 ⟨rfl, hb⟩; refine ⟨_, rfl, ?_⟩; have n0_ := Aside0.mk (Kd.R_below (kr_ HO_8.out) hb); have n1_ := Aside0.mk (Kd.R_below (kr_ HO_21.out) hb); have n2_ := Aside0.mk (below_step bw_ hb); clear HO_8; clear HO_21; clear HB; have HO_8 := n0_; have HO_21 := n1_; have HB := n2_; clear n0_ n1_ n2_; (try clear hb); (try clear hb2); (try clear hk); (try clear hi)) | ((with_reducible refine gate_callee (f := 33) rfl ?_); refine goesL_ (some 37) rfl rfl Tryz.func33 (by kernel_rfl) rfl #[.int .i64 a0, .int .i64 a1, .string t207] rfl ma_ ?_; (with_reducible refine (impl_readPitchIn.calls a0 a1 t207 t210 true _ ?side1 A12.out).mono ?_); (case side1 => exact Lv.below hL bw_); rintro e w18 ⟨rfl, hb⟩; refine ⟨_, rfl, ?_⟩; have n0_ := Aside0.mk (Kd.R_below (kr_ HO_8.out) hb); have n1_ := Aside0.mk (Kd.R_below (kr_ HO_21.out) hb); have n2_ := Aside0.mk (below_step bw_ hb); clear HO_8; clear HO_21; clear HB; have HO_8 := n0_; have HO_21 := n1_; have HB := n2_; clear n0_ n1_ n2_; (try clear hb); (try clear hb2); (try clear hk); (try clear hi)) | ((with_reducible refine gate_callee (f := 64) rfl ?_); refine goesL_ (some 42) rfl rfl Tryz.func64 (by kernel_rfl) rfl #[.string t208] rfl ma_ ?_; (with_reducible refine (impl_ReadDecimal.calls t208 t212 true _ ?side1 A13.out).mono ?_); (case side1 => exact Lv.below hL bw_); rintro e w19 ⟨rfl, hb⟩; refine ⟨_, rfl, ?_⟩; have n0_ := Aside0.mk (Kd.R_below (kr_ HO_8.out) hb); have n1_ := Aside0.mk (Kd.R_below (kr_ HO_21.out) hb); have n2_ := Aside0.mk (below_step bw_ hb); clear HO_8; clear HO_21; clear HB; have HO_8 := n0_; have HO_21 := n1_; have HB := n2_; clear n0_ n1_ n2_; (try clear hb); (try clear hb2); (try clear hk); (try clear hi)) | ((with_reducible refine gate_builtin (b := .append) (xs := #[.tmp 51, .tmp 55]) rfl ?_); at_builtin; refine Kd.R_append k70 (w0 := w) w.heap.size rfl (.tmp 51) (.tmp 55) 34 70 (.agg #[(.int .i64 0), (.int .i64 0)]) 16 rfl Tryz.underlying34 info70 rfl (by decide) (by omega) u8 x8_1 (⟨t210, t212⟩ : S70) [.int .i64 t210, .int .i64 t212] (fun _ => True) (fun _ => False) rfl rfl ?aP (fun _ hk => hk.elim) ?aF ?aO ?aB ?aS ?aL ?_; (case aP => exact k70_mkM _ _ _ (⟨t210, t212⟩ : S70)); (case aB => exact bw_); (case aF => exact (fun _ _ => trivial)); (case aO => exact (kr_ HO_8.out)); (case aS => exact (below_size bw_)); (case aL => have := LMc16.out; omega); intro v215 w20 ho hb hg hat; rw [← Ny214.out] at ho; have n0_ := Aside0.mk (Kd.R_over' (kr_ HO_21.out) (Kd.R_typed (kr_ HO_8.out)) (by decide) hg); have n1_ := Aside0.mk (hb); have n2_ := Aside0.mk (ho); clear HO_21; clear HB; clear HO_8; have HO_21 := n0_; have HB := n1_; have HO216 := n2_; clear n0_ n1_ n2_; clear ho hb hg hat))
          go_roundg k1
          case measure => have := HK1.out; omega
          case rel => exact ⟨(y214), (wrap64 (x23_1 + 1)), rs_, H', ⟨by have := HK1.out; omega⟩, ⟨kr_ HO216.out⟩, ⟨kr_ HO_21.out⟩, ⟨bw_⟩⟩
         ·rw [if_neg c16] at H
          exact absurd H (by simp)
        ·replace c15 := Bool.eq_false_iff.mpr c15
         subst c15
         have H1 : (some (([] : List (S70)), false)) = some (r1, r2) := by rw [if_neg (show ¬ (false = true) by decide)] at H; exact H
         clear H
         have H := H1
         clear H1
         simp only [Option.some.injEq, Prod.mk.injEq] at H
         obtain ⟨rfl, rfl⟩ := H
         have p206 : 0 ≤ (x23_1 : Int) := of_decide_eq_true as_
         have q206 : x23_1 < (t202.length : Int) := of_decide_eq_true as_
         obtain ⟨ad206, e206, hx206_0⟩ := Kd.at_string (Kd.R_reads' HO_21.out).2.2 x23_1 p206 q206
         cases e206
         replace p206 := eq_true p206
         replace q206 := eq_true q206
         go_wp2_with (first | ((with_reducible refine gate_callee (f := 63) rfl ?_); refine goesL_ (some 29) rfl rfl Tryz.func63 (by kernel_rfl) rfl #[.string (rdOf ByteArray.empty t202 x23_1), .string (⟨#[58]⟩ : ByteArray)] rfl ma_ ?_; (with_reducible refine (strings_Cut.calls (rdOf ByteArray.empty t202 x23_1) (⟨#[58]⟩ : ByteArray) t207 t208 t209 _ ?side1 A11.out).mono ?_); (case side1 => exact Lv.below hL bw_); rintro e w21 ⟨rfl, hb⟩; refine ⟨_, rfl, ?_⟩; have n0_ := Aside0.mk (Kd.R_below (kr_ HO_8.out) hb); have n1_ := Aside0.mk (Kd.R_below (kr_ HO_21.out) hb); have n2_ := Aside0.mk (below_step bw_ hb); clear HO_8; clear HO_21; clear HB; have HO_8 := n0_; have HO_21 := n1_; have HB := n2_; clear n0_ n1_ n2_; (try clear hb); (try clear hb2); (try clear hk); (try clear hi)) | ((with_reducible refine gate_callee (f := 33) rfl ?_); refine goesL_ (some 37) rfl rfl Tryz.func33 (by kernel_rfl) rfl #[.int .i64 a0, .int .i64 a1, .string t207] rfl ma_ ?_; (with_reducible refine (impl_readPitchIn.calls a0 a1 t207 t210 true _ ?side1 A12.out).mono ?_); (case side1 => exact Lv.below hL bw_); rintro e w22 ⟨rfl, hb⟩; refine ⟨_, rfl, ?_⟩; have n0_ := Aside0.mk (Kd.R_below (kr_ HO_8.out) hb); have n1_ := Aside0.mk (Kd.R_below (kr_ HO_21.out) hb); have n2_ := Aside0.mk (below_step bw_ hb); clear HO_8; clear HO_21; clear HB; have HO_8 := n0_; have HO_21 := n1_; have HB := n2_; clear n0_ n1_ n2_; (try clear hb); (try clear hb2); (try clear hk); (try clear hi)) | ((with_reducible refine gate_callee (f := 64) rfl ?_); refine goesL_ (some 42) rfl rfl Tryz.func64 (by kernel_rfl) rfl #[.string t208] rfl ma_ ?_; (with_reducible refine (impl_ReadDecimal.calls t208 t212 false _ ?side1 A13.out).mono ?_); (case side1 => exact Lv.below hL bw_); rintro e w23 ⟨rfl, hb⟩; refine ⟨_, rfl, ?_⟩; have n0_ := Aside0.mk (Kd.R_below (kr_ HO_8.out) hb); have n1_ := Aside0.mk (Kd.R_below (kr_ HO_21.out) hb); have n2_ := Aside0.mk (below_step bw_ hb); clear HO_8; clear HO_21; clear HB; have HO_8 := n0_; have HO_21 := n1_; have HB := n2_; clear n0_ n1_ n2_; (try clear hb); (try clear hb2); (try clear hk); (try clear hi)))
         go_ret2
         exact ⟨_, re_, rn_, bw_⟩
       ·replace c14 := Bool.eq_false_iff.mpr c14
        subst c14
        have H1 : (some (([] : List (S70)), false)) = some (r1, r2) := by rw [if_neg (show ¬ (false = true) by decide)] at H; exact H
        clear H
        have H := H1
        clear H1
        simp only [Option.some.injEq, Prod.mk.injEq] at H
        obtain ⟨rfl, rfl⟩ := H
        have p206 : 0 ≤ (x23_1 : Int) := of_decide_eq_true as_
        have q206 : x23_1 < (t202.length : Int) := of_decide_eq_true as_
        obtain ⟨ad206, e206, hx206_0⟩ := Kd.at_string (Kd.R_reads' HO_21.out).2.2 x23_1 p206 q206
        cases e206
        replace p206 := eq_true p206
        replace q206 := eq_true q206
        go_wp2_with (first | ((with_reducible refine gate_callee (f := 63) rfl ?_); refine goesL_ (some 29) rfl rfl Tryz.func63 (by kernel_rfl) rfl #[.string (rdOf ByteArray.empty t202 x23_1), .string (⟨#[58]⟩ : ByteArray)] rfl ma_ ?_; (with_reducible refine (strings_Cut.calls (rdOf ByteArray.empty t202 x23_1) (⟨#[58]⟩ : ByteArray) t207 t208 t209 _ ?side1 A11.out).mono ?_); (case side1 => exact Lv.below hL bw_); rintro e w24 ⟨rfl, hb⟩; refine ⟨_, rfl, ?_⟩; have n0_ := Aside0.mk (Kd.R_below (kr_ HO_8.out) hb); have n1_ := Aside0.mk (Kd.R_below (kr_ HO_21.out) hb); have n2_ := Aside0.mk (below_step bw_ hb); clear HO_8; clear HO_21; clear HB; have HO_8 := n0_; have HO_21 := n1_; have HB := n2_; clear n0_ n1_ n2_; (try clear hb); (try clear hb2); (try clear hk); (try clear hi)) | ((with_reducible refine gate_callee (f := 33) rfl ?_); refine goesL_ (some 37) rfl rfl Tryz.func33 (by kernel_rfl) rfl #[.int .i64 a0, .int .i64 a1, .string t207] rfl ma_ ?_; (with_reducible refine (impl_readPitchIn.calls a0 a1 t207 t210 false _ ?side1 A12.out).mono ?_); (case side1 => exact Lv.below hL bw_); rintro e w25 ⟨rfl, hb⟩; refine ⟨_, rfl, ?_⟩; have n0_ := Aside0.mk (Kd.R_below (kr_ HO_8.out) hb); have n1_ := Aside0.mk (Kd.R_below (kr_ HO_21.out) hb); have n2_ := Aside0.mk (below_step bw_ hb); clear HO_8; clear HO_21; clear HB; have HO_8 := n0_; have HO_21 := n1_; have HB := n2_; clear n0_ n1_ n2_; (try clear hb); (try clear hb2); (try clear hk); (try clear hi)) | ((with_reducible refine gate_callee (f := 64) rfl ?_); refine goesL_ (some 42) rfl rfl Tryz.func64 (by kernel_rfl) rfl #[.string t208] rfl ma_ ?_; (with_reducible refine (impl_ReadDecimal.calls t208 t212 t213 _ ?side1 A13.out).mono ?_); (case side1 => exact Lv.below hL bw_); rintro e w26 ⟨rfl, hb⟩; refine ⟨_, rfl, ?_⟩; have n0_ := Aside0.mk (Kd.R_below (kr_ HO_8.out) hb); have n1_ := Aside0.mk (Kd.R_below (kr_ HO_21.out) hb); have n2_ := Aside0.mk (below_step bw_ hb); clear HO_8; clear HO_21; clear HB; have HO_8 := n0_; have HO_21 := n1_; have HB := n2_; clear n0_ n1_ n2_; (try clear hb); (try clear hb2); (try clear hk); (try clear hi)))
        go_ret2
        exact ⟨_, re_, rn_, bw_⟩
      ·rw [if_neg c10] at H
       exact absurd H (by simp)
     ·rw [if_neg c9] at H
      exact absurd H (by simp)
    ·rw [if_neg c8] at H
     have c8b0 : decide (x23_1 < (t202.length : Int)) = false := decide_eq_false c8
     clear c8
     replace H := Option.bind_eq_some_iff.mp H
     obtain ⟨t205, A270, H⟩ := H
     replace H : (some (x8_1, t205)) = some (r1, r2) := H
     have A27 := Aside0.mk A270
     clear A270
     simp only [Option.some.injEq, Prod.mk.injEq] at H
     obtain ⟨rfl, rfl⟩ := H
     obtain ⟨Ao28, co28, eo28⟩ := Kd.R_slice HO_8.out
     subst eo28
     go_wp2_with (first | ((with_reducible refine gate_callee (f := 38) rfl ?_); refine goesL_ (some 60) rfl rfl Tryz.func38 (by kernel_rfl) rfl #[.slice Ao28 x8_1.length co28] rfl ma_ ?_; (with_reducible refine (impl_ValidMelody.calls k1 _ _ x8_1 t205 _ ?side1 ?side2 A27.out).mono ?_); (case side1 => repeat (first | exact (Kd.R_reads' HO_8.out).2.2 | (with_reducible refine Kd.C_alloc ?_ _) | (with_reducible refine Kd.C_drewN ?_ _) | (with_reducible refine Kd.C_drew ?_))); (case side2 => exact (Kd.R_reads' HO_8.out).2.1); rintro e w29 ⟨rfl, hb⟩; refine ⟨_, rfl, ?_⟩; have n0_ := Aside0.mk (Kd.R_below (kr_ HO_8.out) hb); have n1_ := Aside0.mk (Kd.R_below (kr_ HO_21.out) hb); have n2_ := Aside0.mk (below_step bw_ hb); clear HO_8; clear HO_21; clear HB; have HO_8 := n0_; have HO_21 := n1_; have HB := n2_; clear n0_ n1_ n2_; (try clear hb); (try clear hb2); (try clear hk); (try clear hi)))
     go_ret2
     exact ⟨_, re_, kr_ HO_8.out, bw_⟩
def moveN (k o : Int) (x : S70) : S70 := ⟨wrap64 (wrap64 (x.f0 + k) - o), x.f1⟩
set_option maxHeartbeats 8000000 in
set_option maxRecDepth 100000 in
theorem impl_RetuneText1_w (p n k o : Int) (B1 B2 : Nat) (w : World) (c1 : w.cell? ⟨B1, 0, none⟩ = some (.int .i64 k)) (c2 : w.cell? ⟨B2, 0, none⟩ = some (.int .i64 o)) :
  Calls Tryz.prog 48 #[.agg #[.int .i64 p, .int .i64 n], .pointer (some ⟨B1, 0, none⟩), .pointer (some ⟨B2, 0, none⟩)] w fun e w' => e = .returned (.agg #[.int .i64 (wrap64 (wrap64 (p + k) - o)), .int .i64 n]) ∧ Below w.heap.size w w' := by
 have C1 := Aside0.mk c1
 have C2 := Aside0.mk c2
 clear c1 c2
 have HB := Aside0.mk (Below.refl w.heap.size w)
 go_enter Tryz.func48, Tryz.ntmps48
 go_wp2_with (first
  | ((with_reducible refine gate_dst (N := 3) rfl ?_); refine box_event ?hg (N := 3) ?hd (cs := #[.int .i64 p, .int .i64 n]) (t := 70) ?hr ?_; (case hd => rfl); (case hg => rfl); (case hr => first | (go_simp; done) | (go_simp; rfl)); intro gb3 hg w3 hbox hb; have GE3 := Aside0.mk (show w.heap.size ≤ gb3 by rw [hg]; exact HB.out.size); have BK3 := Aside0.mk hbox; have n1_ := Aside0.mk (below_step HB.out hb); clear HB; have HB := n1_; clear n1_ hg hbox hb)
  | ((with_reducible refine gate_dst (N := 4) rfl ?_); refine box_event ?hg (N := 4) ?hd (cs := #[.int .i64 0, .int .i64 0]) (t := 70) ?hr ?_; (case hd => rfl); (case hg => rfl); (case hr => first | (go_simp; done) | (go_simp; rfl)); intro gb4 hg w4 hbox hb; have GE4 := Aside0.mk (show w.heap.size ≤ gb4 by rw [hg]; exact HB.out.size); have n2_ := Aside0.mk (blk_below BK3.out hb); clear BK3; have BK3 := n2_; have BK4 := Aside0.mk hbox; have n1_ := Aside0.mk (below_step HB.out hb); clear HB; have HB := n1_; clear n1_ n2_ hg hbox hb; have hz0 : w4.cell? ⟨gb3, 0, none⟩ = some (.int .i64 p) := (blk_cell BK3.out 0).trans rfl; have hz1 : w4.cell? ⟨gb3, 1, none⟩ = some (.int .i64 n) := (blk_cell BK3.out 1).trans rfl; have hz2 : w4.cell? ⟨gb4, 0, none⟩ = some (.int .i64 0) := (blk_cell BK4.out 0).trans rfl; have hz3 : w4.cell? ⟨gb4, 1, none⟩ = some (.int .i64 0) := (blk_cell BK4.out 1).trans rfl; have hf2 := blk_frozen BK4.out 0; have hf3 := blk_frozen BK4.out 1; have hz4 := (HB.out.cell (World.block_lt_of_cell? w _ C1.out)).trans C1.out; have hz5 := (HB.out.cell (World.block_lt_of_cell? w _ C2.out)).trans C2.out))
 refine bodyPost_ret (results_cell_row rfl _ _ gb4 70 #[.int .i64 (wrap64 (wrap64 (p + k) - o)), .int .i64 n] (0, 0) _ rfl (blk_put (cs := #[.int .i64 (wrap64 (wrap64 (p + k) - o)), .int .i64 0]) (blk_put (cs := #[.int .i64 0, .int .i64 0]) BK4.out 0 _ rfl) 1 _ rfl) Tryz.underlying70 rfl (by kernel_rfl)) rfl ?_
 exact ⟨rfl, below_set (below_set HB.out GE4.out) GE4.out⟩
set_option maxHeartbeats 8000000 in
set_option maxRecDepth 100000 in
theorem impl_changed_w (A : Option Addr) (c : Nat) (l : List S70) (k o : Int) (B1 B2 : Nat) (w : World) (hl : l.length ≤ 1000) (hr : Kd.C k70 w A l.length l) (c1 : w.cell? ⟨B1, 0, none⟩ = some (.int .i64 k)) (c2 : w.cell? ⟨B2, 0, none⟩ = some (.int .i64 o)) :
  Calls Tryz.prog 47 #[.slice A l.length c, .func (.func 48) #[] #[.pointer (some ⟨B1, 0, none⟩), .pointer (some ⟨B2, 0, none⟩)]] w fun e w' => ∃ v, e = .returned v ∧ Kd.R k70 70 w' w.heap.size (fun _ => True) v (l.map (moveN k o)) ∧ Below w.heap.size w w' := by
 have hu := Tryz.underlying70
 have eg : ∀ args w, (callFunc 48 args).run Tryz.prog w = .ok (.enter 48 args) w := enters_of Tryz.func48 (by kernel_rfl) rfl
 have HR0 := Aside0.mk hr
 have HB := Aside0.mk (Below.refl w.heap.size w)
 have HL := Aside0.mk hl
 have HC := Aside0.mk (fun (W : World) (hb : Below w.heap.size w W) (p n : Int) => impl_RetuneText1_w p n k o B1 B2 W ((hb.cell (World.block_lt_of_cell? w _ c1)).trans c1) ((hb.cell (World.block_lt_of_cell? w _ c2)).trans c2))
 clear hr c1 c2 hl
 go_enter Tryz.func47, Tryz.ntmps47
 go_wp2
 go_loopg [5, 10] l.length (fun gg v5 v10 wr => ∃ i : Nat, v10 = .int .i64 i ∧ Aside0 (i ≤ l.length ∧ l.length - i ≤ gg) ∧ Aside0 (Kd.R k70 70 wr w.heap.size (fun _ => True) v5 ((l.take i).map (moveN k o))) ∧ Aside0 (Below w.heap.size w wr))
 case atStart => exact ⟨0, rfl, ⟨Nat.zero_le _, by omega⟩, ⟨Kd.R_nil _ _ _ _ _⟩, HB⟩
 case round =>
  obtain ⟨i, rfl, A1, HO_5, HB⟩ := hrel
  by_cases hlt : (i : Int) < (l.length : Int)
  ·have c4b0 : decide ((i : Int) < (l.length : Int)) = true := decide_eq_true hlt
   have p1 : 0 ≤ (i : Int) := by omega
   have q1 : (i : Int) < (l.length : Int) := hlt
   obtain ⟨ad, e, hx0, hx1⟩ := at_T70 HR0.out (i : Int) p1 q1
   cases e
   rw [Int.toNat_natCast] at hx0 hx1
   have hil : i < l.length := by omega
   have hlist : ((l.take (i + 1)).map (moveN k o)) = ((l.take i).map (moveN k o)) ++ [moveN k o (rd_T70 l (i : Int))] := by
    rw [List.take_succ_eq_append_getElem hil, List.map_append]
    congr 1
    simp [rd_T70, List.getD_eq_getElem?_getD, List.getElem?_eq_getElem hil]
   have hsz : ((l.take i).map (moveN k o)).length ≤ 1000 := by have := HL.out; simp; omega
   generalize rd_T70 l (i : Int) = x at hx0 hx1 hlist
   generalize (l.take i).map (moveN k o) = acc at HO_5 hlist hsz
   have HLI := Aside0.mk (And.intro hlist hsz)
   clear hlist hsz
   replace hx0 := (HB.out.cell (World.block_lt_of_cell? w _ hx0)).trans hx0
   replace hx1 := (HB.out.cell (World.block_lt_of_cell? w _ hx1)).trans hx1
   replace p1 := eq_true p1
   replace q1 := eq_true q1
   have HX := Aside0.mk hil
   clear hil hlt
   go_wp2_with (first
    | ((with_reducible refine gate_dst (N := 7) rfl ?_); refine box_event ?hg (N := 7) ?hd (cs := #[.int .i64 0, .int .i64 0]) (t := 70) ?hr ?_; (case hd => rfl); (case hg => rfl); (case hr => first | (go_simp; done) | (go_simp; rfl)); intro gb hg w10 hbox hb; have GE := Aside0.mk (show w.heap.size ≤ gb by rw [hg]; exact HB.out.size); have n0_ := Aside0.mk (below_set (j := 1) (v := .int .i64 x.f1) (below_set (j := 0) (v := .int .i64 x.f0) hb (Nat.le_of_eq hg.symm)) (Nat.le_of_eq hg.symm)); have n1_ := Aside0.mk (below_step HB.out n0_.out); have n2_ := Aside0.mk (Kd.R_below HO_5.out n0_.out); clear HB HO_5; have HB := n1_; have HO_5 := n2_; have hcz0 : w10.cell? ⟨gb, 0, none⟩ = some (.int .i64 0) := (blk_cell hbox 0).trans rfl; have hcz1 : w10.cell? ⟨gb, 1, none⟩ = some (.int .i64 0) := (blk_cell hbox 1).trans rfl; have hfz0 := blk_frozen hbox 0; have hfz1 := blk_frozen hbox 1; clear n0_ n1_ n2_ hb hbox hg)
    | (go_at_fn 48; refine (HC.out _ HB.out x.f0 x.f1).mono ?_; rintro e w' ⟨rfl, hb⟩; have n1_ := Aside0.mk (below_step HB.out hb); have n2_ := Aside0.mk (Kd.R_below HO_5.out hb); clear HB HO_5 hb; have HB := n1_; have HO_5 := n2_; clear n1_ n2_)
    | ((with_reducible refine gate_builtin (b := .append) (xs := #[.tmp 14, .tmp 18]) rfl ?_); at_builtin; refine Kd.R_append k70 (w0 := w) w.heap.size rfl (.tmp 14) (.tmp 18) 34 70 (.agg #[(.int .i64 0), (.int .i64 0)]) 16 rfl Tryz.underlying34 info70 rfl (by decide) (by omega) u5 acc (moveN k o x) [.int .i64 (moveN k o x).f0, .int .i64 (moveN k o x).f1] (fun _ => True) (fun _ => False) rfl rfl ?aP (fun _ hk => hk.elim) ?aF ?aO ?aB ?aS ?aL ?_; (case aP => exact k70_mkM _ _ _ (moveN k o x)); (case aB => exact HB.out); (case aF => exact (fun _ _ => trivial)); (case aO => exact HO_5.out); (case aS => exact (below_size HB.out)); (case aL => have := HLI.out.2; omega); intro v20 w20 ho hb hg hat; rw [← HLI.out.1] at ho; have n1_ := Aside0.mk hb; have n2_ := Aside0.mk ho; clear HB HO_5; have HB := n1_; have HO_5 := n2_; clear n1_ n2_ ho hb hg hat))
   go_roundg (l.length - (i + 1))
   case measure => have := A1.out; have := HX.out; omega
   case rel =>
    have hll := HL.out
    have hii := HX.out
    have hw : wrap64 ((i : Int) + 1) = ((i + 1 : Nat) : Int) := by unfold wrap64; omega
    exact ⟨i + 1, by rw [hw], ⟨by omega, by omega⟩, HO_5, HB⟩
  ·have c4b0 : decide ((i : Int) < (l.length : Int)) = false := decide_eq_false hlt
   have hend : (l.take i).map (moveN k o) = l.map (moveN k o) := by rw [List.take_of_length_le (by omega)]
   rw [hend] at HO_5
   go_wp2
   first | go_ret2 | go_ret
   exact ⟨_, rfl, HO_5.out, HB.out⟩
def okN (x : S70) : Bool := decide (-12 ≤ x.f0 ∧ x.f0 ≤ 23) && decide (1 ≤ x.f1 ∧ x.f1 ≤ 64)
theorem pitchOk_d (p : Int) : impl_pitchOk.f p = some (decide (-12 ≤ p ∧ p ≤ 23)) := by
 unfold impl_pitchOk.f impl_within.f
 by_cases h : p ≥ -12
 ·rw [if_pos h]
  simp only [ge_iff_le] at h
  simp [h]
 ·rw [if_neg h]
  simp only [ge_iff_le] at h
  simp [h]
theorem lengthOk_d (p : Int) : impl_lengthOk.f p = some (decide (1 ≤ p ∧ p ≤ 64)) := by
 unfold impl_lengthOk.f impl_within.f
 by_cases h : p ≥ 1
 ·rw [if_pos h]
  simp only [ge_iff_le] at h
  simp [h]
 ·rw [if_neg h]
  simp only [ge_iff_le] at h
  simp [h]
set_option maxHeartbeats 8000000 in
set_option maxRecDepth 100000 in
theorem impl_checkedMelody1_w (p n : Int) (w : World) :
  Calls Tryz.prog 73 #[.agg #[.int .i64 p, .int .i64 n]] w fun e w' => e = .returned (.bool (!okN ⟨p, n⟩)) ∧ Below w.heap.size w w' := by
 have hp := fun V => impl_pitchOk.calls p _ V (pitchOk_d p)
 have hn := fun V => impl_lengthOk.calls n _ V (lengthOk_d n)
 have e1 : okN ⟨p, n⟩ = (decide (-12 ≤ p ∧ p ≤ 23) && decide (1 ≤ n ∧ n ≤ 64)) := rfl
 rw [e1]
 clear e1
 generalize decide (-12 ≤ p ∧ p ≤ 23) = b1 at hp ⊢
 generalize decide (1 ≤ n ∧ n ≤ 64) = b2 at hn ⊢
 have HB := Aside0.mk (Below.refl w.heap.size w)
 cases b1 <;> cases b2
 all_goals
  go_enter Tryz.func73, Tryz.ntmps73
  go_wp2_with (first
   | ((with_reducible refine gate_dst (N := 1) rfl ?_); refine box_event ?hg (N := 1) ?hd (cs := #[.int .i64 p, .int .i64 n]) (t := 70) ?hr ?_; (case hd => rfl); (case hg => rfl); (case hr => first | (go_simp; done) | (go_simp; rfl)); intro gb3 hg w3 hbox hb; have n1_ := Aside0.mk (below_step HB.out hb); clear HB; have HB := n1_; have hz0 : w3.cell? ⟨gb3, 0, none⟩ = some (.int .i64 p) := (blk_cell hbox 0).trans rfl; have hz1 : w3.cell? ⟨gb3, 1, none⟩ = some (.int .i64 n) := (blk_cell hbox 1).trans rfl; clear n1_ hg hbox hb)
   | (go_at_call 31; refine (hp _).mono ?_; rintro e w' ⟨rfl, ⟨nd, rfl⟩⟩)
   | (go_at_call 60; refine (hn _).mono ?_; rintro e w' ⟨rfl, ⟨nd, rfl⟩⟩))
  go_ret
  exact ⟨rfl, bw_⟩
set_option maxHeartbeats 8000000 in
set_option maxRecDepth 100000 in
theorem slices_IndexFunc_note_w (g : Nat) (p : S70 → Bool) (eg : ∀ args w, (callFunc g args).run Tryz.prog w = .ok (.enter g args) w) (A : Option Addr) (c : Nat) (l : List S70) (w : World)
  (hp : ∀ (W : World) (x : S70), Calls Tryz.prog g #[.agg #[.int .i64 x.f0, .int .i64 x.f1]] W fun e w' => e = .returned (.bool (p x)) ∧ Below W.heap.size W w') (hl : l.length ≤ 1000) (hr : Kd.C k70 w A l.length l) :
  Calls Tryz.prog 92 #[.slice A l.length c, .func (.func g) #[] #[]] w fun e w' => (∃ r : Int, e = .returned (.int .i64 r) ∧ (0 ≤ r ↔ l.any p = true)) ∧ Below w.heap.size w w' := by
 have HR0 := Aside0.mk hr
 have HB := Aside0.mk (Below.refl w.heap.size w)
 have HL := Aside0.mk hl
 have HP := Aside0.mk hp
 clear hr hl hp
 go_enter Tryz.func92, Tryz.ntmps92
 go_wp2
 go_loopg [5, 8] l.length (fun gg _ v8 wr => ∃ i : Nat, v8 = .int .i64 i ∧ Aside0 (i ≤ l.length ∧ l.length - i ≤ gg ∧ (l.take i).any p = false) ∧ Aside0 (Below w.heap.size w wr))
 case atStart => exact ⟨0, rfl, ⟨Nat.zero_le _, by omega, by simp⟩, HB⟩
 case round =>
  obtain ⟨i, rfl, A1, HB⟩ := hrel
  by_cases hlt : (i : Int) < (l.length : Int)
  ·have c4b0 : decide ((i : Int) < (l.length : Int)) = true := decide_eq_true hlt
   have p1 : 0 ≤ (i : Int) := by omega
   have q1 : (i : Int) < (l.length : Int) := hlt
   obtain ⟨ad, e, hx0, hx1⟩ := at_T70 HR0.out (i : Int) p1 q1
   cases e
   rw [Int.toNat_natCast] at hx0 hx1
   have hil : i < l.length := by omega
   have hxl : rd_T70 l (i : Int) = l[i] := by simp [rd_T70, List.getD_eq_getElem?_getD, List.getElem?_eq_getElem hil]
   have htake : (l.take (i + 1)).any p = ((l.take i).any p || p (rd_T70 l (i : Int))) := by
    rw [List.take_succ_eq_append_getElem hil, List.any_append, hxl]
    simp
   have hmem : p (rd_T70 l (i : Int)) = true → l.any p = true := fun h => List.any_eq_true.2 ⟨_, hxl ▸ List.getElem_mem hil, h⟩
   clear hxl
   generalize rd_T70 l (i : Int) = x at hx0 hx1 htake hmem
   have HLI := Aside0.mk (And.intro htake (And.intro hmem hil))
   clear htake hmem
   have hcall := HP.out
   replace hx0 := (HB.out.cell (World.block_lt_of_cell? w _ hx0)).trans hx0
   replace hx1 := (HB.out.cell (World.block_lt_of_cell? w _ hx1)).trans hx1
   replace p1 := eq_true p1
   replace q1 := eq_true q1
   clear hil hlt
   have hc := fun W => HP.out W x
   cases hq : p x with
   | true =>
    rw [hq] at hc
    go_wp2_with (go_at_fn g; refine (hc _).mono ?_; rintro e w' ⟨rfl, hb⟩)
    first | go_ret2 | go_ret
    refine ⟨⟨_, rfl, ?_⟩, ?_⟩
    ·rw [HLI.out.2.1 hq]
     simp
    ·exact below_step HB.out hb
   | false =>
    rw [hq] at hc
    go_wp2_with (go_at_fn g; refine (hc _).mono ?_; rintro e w' ⟨rfl, hb⟩)
    have n1_ := Aside0.mk (below_step HB.out hb)
    go_roundg (l.length - (i + 1))
    case measure => have := A1.out; have := HLI.out.2.2; omega
    case rel =>
     have hll := HL.out
     have hii := HLI.out.2.2
     have hw : wrap64 ((i : Int) + 1) = ((i + 1 : Nat) : Int) := by unfold wrap64; omega
     exact ⟨i + 1, by rw [hw], ⟨by omega, by omega, by rw [HLI.out.1, A1.out.2.2, hq]; rfl⟩, n1_⟩
  ·have c4b0 : decide ((i : Int) < (l.length : Int)) = false := decide_eq_false hlt
   have hend := A1.out.2.2
   rw [List.take_of_length_le (by omega)] at hend
   go_wp2
   first | go_ret2 | go_ret
   refine ⟨⟨_, rfl, ?_⟩, HB.out⟩
   first | omega | (simp only [hend]; simp) | simp
set_option maxHeartbeats 8000000 in
set_option maxRecDepth 100000 in
theorem impl_checkedMelody_w (A : Option Addr) (c : Nat) (l : List S70) (w : World) (hl : l.length ≤ 1000) (hr : Kd.C k70 w A l.length l) :
  Calls Tryz.prog 46 #[.slice A l.length c] w fun e w' => e = .returned (if l.all okN = true then (if (l.length : Int) > 48 then .tuple #[.slice none 0 0, .int .i64 5] else .tuple #[.slice A l.length c, .int .i64 0]) else .tuple #[.slice none 0 0, .int .i64 6]) ∧ Below w.heap.size w w' := by
 have eg : ∀ args w, (callFunc 73 args).run Tryz.prog w = .ok (.enter 73 args) w := enters_of Tryz.func73 (by kernel_rfl) rfl
 have hall : l.all okN = !(l.any fun x => !okN x) := by
  clear hr hl
  induction l with
  | nil => rfl
  | cons x r ih => simp only [List.all_cons, List.any_cons, Bool.not_or, Bool.not_not, ih]
 rw [hall]
 have hk := slices_IndexFunc_note_w 73 (fun x => !okN x) eg A c l w (fun W x => impl_checkedMelody1_w x.f0 x.f1 W) hl hr
 have hcf : Calls Tryz.prog 72 #[.slice A l.length c, .func (.func 73) #[] #[]] w fun e w' => e = .returned (.bool (l.any fun x => !okN x)) ∧ Below w.heap.size w w' := by
  clear hall
  generalize (l.any fun x => !okN x) = B at hk ⊢
  go_enter Tryz.func72, Tryz.ntmps72
  go_wp2_with (go_at_call 92; refine hk.mono ?_; rintro e w' ⟨⟨r, rfl, hr2⟩, hb⟩)
  go_ret
  refine ⟨?_, hb⟩
  cases B <;> simp_all
 clear hk hall hr
 generalize (l.any fun x => !okN x) = B at hcf ⊢
 cases B with
 | true =>
  go_enter Tryz.func46, Tryz.ntmps46
  go_wp2_with (go_at_call 72; refine hcf.mono ?_; rintro e w' ⟨rfl, hb⟩)
  go_ret2
  exact ⟨rfl, hb⟩
 | false =>
  by_cases h48 : (l.length : Int) > 48
  ·have c0 : decide (48 < (l.length : Int)) = true := decide_eq_true h48
   have c1 : decide (48 < l.length) = true := decide_eq_true (by omega)
   rw [if_pos (show (!false) = true from rfl), if_pos h48]
   clear h48
   go_enter Tryz.func46, Tryz.ntmps46
   go_wp2_with (go_at_call 72; refine hcf.mono ?_; rintro e w' ⟨rfl, hb⟩)
   go_ret2
   exact ⟨rfl, hb⟩
  ·have c0 : decide (48 < (l.length : Int)) = false := decide_eq_false h48
   have c1 : decide (48 < l.length) = false := decide_eq_false (by omega)
   rw [if_pos (show (!false) = true from rfl), if_neg h48]
   clear h48
   go_enter Tryz.func46, Tryz.ntmps46
   go_wp2_with (go_at_call 72; refine hcf.mono ?_; rintro e w' ⟨rfl, hb⟩)
   go_ret2
   exact ⟨rfl, hb⟩
def retuneBody (k : Nat) (a0 a1 a2 : Int) (m : List S70) : Option (ByteArray × Int) :=
 if m.length ≤ 1000 then (if (m.map (moveN a1 a2)).all okN = true then (if ((m.map (moveN a1 a2)).length : Int) > 48 then some (⟨#[]⟩, 5) else (impl_notesIn.f k a0 a2 (m.map (moveN a1 a2))).bind fun t => some (t, 0)) else some (⟨#[]⟩, 6)) else none
def impl_RetuneText.f (k : Nat) (a0 : Int) (a1 : Int) (a2 : Int) (a3 : ByteArray) : Option (ByteArray × Int) := (impl_keyOk.f a0 a1).bind fun t1 => if t1 = true then ((impl_keyOk.f a0 a2).bind fun t2 => if t2 = true then ((impl_readNotesIn.f k a0 a1 a3).bind fun bt => if bt.2 = true then retuneBody k a0 a1 a2 bt.1 else some (⟨#[]⟩, 8)) else some (⟨#[]⟩, 2)) else some (⟨#[]⟩, 2)
theorem retuneBody.mono : ∀ a0 a1 a2 m k, LeO (retuneBody k a0 a1 a2 m) (retuneBody (k + 1) a0 a1 a2 m) := by
 intro a0 a1 a2 m k
 unfold retuneBody
 repeat' first
  | (with_reducible exact impl_notesIn.mono _ _ _ _)
  | (with_reducible exact LeO.refl _)
  | (with_reducible exact LeO.none _)
  | (with_reducible refine LeO.ite ?_ ?_)
  | (with_reducible refine LeO.bind ?_ (fun _ => ?_))
theorem impl_RetuneText.mono : ∀ a0 a1 a2 a3 k, LeO (impl_RetuneText.f k a0 a1 a2 a3) (impl_RetuneText.f (k + 1) a0 a1 a2 a3) := by
 intro a0 a1 a2 a3 k
 unfold impl_RetuneText.f
 repeat' first
  | (with_reducible exact impl_readNotesIn.mono _ _ _ _)
  | (with_reducible exact retuneBody.mono _ _ _ _ _)
  | (with_reducible exact LeO.refl _)
  | (with_reducible exact LeO.none _)
  | (with_reducible refine LeO.ite ?_ ?_)
  | (with_reducible refine LeO.bind ?_ (fun _ => ?_))
set_option maxHeartbeats 8000000 in
set_option maxRecDepth 100000 in
theorem impl_RetuneText.calls (k : Nat) (a0 : Int) (a1 : Int) (a2 : Int) (a3 : ByteArray) (r1 : ByteArray) (r2 : Int) (w : World) (hL : Lv w) (h : impl_RetuneText.f k a0 a1 a2 a3 = some (r1, r2)) :
  Calls Tryz.prog 18 #[.int .i64 a0, .int .i64 a1, .int .i64 a2, .string a3] w fun e w' => e = .returned (.tuple #[.string r1, .int .i64 r2]) ∧ Below w.heap.size w w' := by
 unfold impl_RetuneText.f at h
 have HB := Aside0.mk (Below.refl w.heap.size w)
 replace h := Option.bind_eq_some_iff.mp h
 obtain ⟨t1, hk1, h⟩ := h
 have K1 := Aside0.mk (fun V => impl_keyOk.calls a0 a1 t1 V hk1)
 clear hk1
 cases t1 with
 | false =>
  simp only [Bool.false_eq_true, if_false, Option.some.injEq, Prod.mk.injEq] at h
  obtain ⟨rfl, rfl⟩ := h
  go_enter Tryz.func18, Tryz.ntmps18
  go_wp2_with (first
   | ((with_reducible refine gate_dst (N := 5) rfl ?_); refine box_event ?hg (N := 5) ?hd (cs := #[.int .i64 a1]) (t := 2) ?hr ?_; (case hd => rfl); (case hg => rfl); (case hr => first | (go_simp; done) | (go_simp; rfl)); intro gb5 hg w5 hbox hb; have BK5 := Aside0.mk hbox; have n1_ := Aside0.mk (below_step bw_ hb); clear HB; have HB := n1_; clear n1_ hg hbox hb)
   | ((with_reducible refine gate_dst (N := 6) rfl ?_); refine box_event ?hg (N := 6) ?hd (cs := #[.int .i64 a2]) (t := 2) ?hr ?_; (case hd => rfl); (case hg => rfl); (case hr => first | (go_simp; done) | (go_simp; rfl)); intro gb6 hg w6 hbox hb; have n2_ := Aside0.mk (blk_below (bk_ BK5.out) hb); clear BK5; have BK5 := n2_; clear n2_; have BK6 := Aside0.mk hbox; have n1_ := Aside0.mk (below_step bw_ hb); clear HB; have HB := n1_; clear n1_ hg hbox hb; have hz5 : w6.cell? ⟨gb5, 0, none⟩ = some (.int .i64 a1) := (blk_cell BK5.out 0).trans rfl; have hz6 : w6.cell? ⟨gb6, 0, none⟩ = some (.int .i64 a2) := (blk_cell BK6.out 0).trans rfl)
   | (go_at_call 30; (with_reducible refine (K1.out _).mono ?_); rintro e w' ⟨rfl, ⟨nd, rfl⟩⟩)
   | (go_at_call 30; (with_reducible refine (K2.out _).mono ?_); rintro e w' ⟨rfl, ⟨nd, rfl⟩⟩)
   | (go_at_call 40; (with_reducible refine (RN.out _ (Lv.below hL bw_)).mono ?_); rintro e w7 ⟨v7, rfl, ho, hb⟩; have n5_ := Aside0.mk (blk_below (bk_ BK5.out) hb); have n6_ := Aside0.mk (blk_below (bk_ BK6.out) hb); have n1_ := Aside0.mk (below_step bw_ hb); clear BK5 BK6 HB; have BK5 := n5_; have BK6 := n6_; have HB := n1_; clear n5_ n6_ n1_; clear hb; have hz5 : w7.cell? ⟨gb5, 0, none⟩ = some (.int .i64 a1) := (blk_cell BK5.out 0).trans rfl; have hz6 : w7.cell? ⟨gb6, 0, none⟩ = some (.int .i64 a2) := (blk_cell BK6.out 0).trans rfl; obtain ⟨Ao7, co7, eo7⟩ := Kd.R_slice ho; subst eo7; have HO := Aside0.mk ho; clear ho)
   | (go_at_call 47; (with_reducible refine (impl_changed_w _ _ m a1 a2 gb5 gb6 _ HM.out (Kd.R_reads' HO.out).2.2 ((blk_cell BK5.out 0).trans rfl) ((blk_cell BK6.out 0).trans rfl)).mono ?_); rintro e w8 ⟨v8, rfl, ho, hb⟩; (try rw [CG.out] at ho); have n5_ := Aside0.mk (blk_below (bk_ BK5.out) hb); have n6_ := Aside0.mk (blk_below (bk_ BK6.out) hb); have n1_ := Aside0.mk (below_step bw_ hb); clear BK5 BK6 HB; have BK5 := n5_; have BK6 := n6_; have HB := n1_; clear n5_ n6_ n1_; clear hb; have hz5 : w8.cell? ⟨gb5, 0, none⟩ = some (.int .i64 a1) := (blk_cell BK5.out 0).trans rfl; have hz6 : w8.cell? ⟨gb6, 0, none⟩ = some (.int .i64 a2) := (blk_cell BK6.out 0).trans rfl; obtain ⟨Ao8, co8, eo8⟩ := Kd.R_slice ho; subst eo8; have HO8 := Aside0.mk ho; clear ho)
   | (go_at_call 46; (with_reducible refine (CM.out _ _ _ (Kd.R_reads' HO8.out).2.2).mono ?_); rintro e w9 ⟨rfl, hb⟩; have n8_ := Aside0.mk (Kd.R_below HO8.out hb); clear HO8; have HO8 := n8_; clear n8_; have n5_ := Aside0.mk (blk_below (bk_ BK5.out) hb); have n6_ := Aside0.mk (blk_below (bk_ BK6.out) hb); have n1_ := Aside0.mk (below_step bw_ hb); clear BK5 BK6 HB; have BK5 := n5_; have BK6 := n6_; have HB := n1_; clear n5_ n6_ n1_; clear hb; have hz5 : w9.cell? ⟨gb5, 0, none⟩ = some (.int .i64 a1) := (blk_cell BK5.out 0).trans rfl; have hz6 : w9.cell? ⟨gb6, 0, none⟩ = some (.int .i64 a2) := (blk_cell BK6.out 0).trans rfl)
   | (go_at_call 39; (with_reducible refine (NI.out _ _ _ (Kd.R_reads' HO8.out).2.2 (Kd.R_reads' HO8.out).2.1 (Lv.below hL bw_)).mono ?_); rintro e w10 ⟨rfl, hb⟩; have n1_ := Aside0.mk (below_step bw_ hb); clear HB; have HB := n1_; clear n1_ hb))
  first | go_ret2 | go_ret
  exact ⟨rfl, bw_⟩
 | true =>
  simp only [if_true] at h
  replace h := Option.bind_eq_some_iff.mp h
  obtain ⟨t2, hk2, h⟩ := h
  have K2 := Aside0.mk (fun V => impl_keyOk.calls a0 a2 t2 V hk2)
  clear hk2
  cases t2 with
  | false =>
   simp only [Bool.false_eq_true, if_false, Option.some.injEq, Prod.mk.injEq] at h
   obtain ⟨rfl, rfl⟩ := h
   go_enter Tryz.func18, Tryz.ntmps18
   go_wp2_with (first
   | ((with_reducible refine gate_dst (N := 5) rfl ?_); refine box_event ?hg (N := 5) ?hd (cs := #[.int .i64 a1]) (t := 2) ?hr ?_; (case hd => rfl); (case hg => rfl); (case hr => first | (go_simp; done) | (go_simp; rfl)); intro gb5 hg w5 hbox hb; have BK5 := Aside0.mk hbox; have n1_ := Aside0.mk (below_step bw_ hb); clear HB; have HB := n1_; clear n1_ hg hbox hb)
   | ((with_reducible refine gate_dst (N := 6) rfl ?_); refine box_event ?hg (N := 6) ?hd (cs := #[.int .i64 a2]) (t := 2) ?hr ?_; (case hd => rfl); (case hg => rfl); (case hr => first | (go_simp; done) | (go_simp; rfl)); intro gb6 hg w6 hbox hb; have n2_ := Aside0.mk (blk_below (bk_ BK5.out) hb); clear BK5; have BK5 := n2_; clear n2_; have BK6 := Aside0.mk hbox; have n1_ := Aside0.mk (below_step bw_ hb); clear HB; have HB := n1_; clear n1_ hg hbox hb; have hz5 : w6.cell? ⟨gb5, 0, none⟩ = some (.int .i64 a1) := (blk_cell BK5.out 0).trans rfl; have hz6 : w6.cell? ⟨gb6, 0, none⟩ = some (.int .i64 a2) := (blk_cell BK6.out 0).trans rfl)
   | (go_at_call 30; (with_reducible refine (K1.out _).mono ?_); rintro e w' ⟨rfl, ⟨nd, rfl⟩⟩)
   | (go_at_call 30; (with_reducible refine (K2.out _).mono ?_); rintro e w' ⟨rfl, ⟨nd, rfl⟩⟩)
   | (go_at_call 40; (with_reducible refine (RN.out _ (Lv.below hL bw_)).mono ?_); rintro e w7 ⟨v7, rfl, ho, hb⟩; have n5_ := Aside0.mk (blk_below (bk_ BK5.out) hb); have n6_ := Aside0.mk (blk_below (bk_ BK6.out) hb); have n1_ := Aside0.mk (below_step bw_ hb); clear BK5 BK6 HB; have BK5 := n5_; have BK6 := n6_; have HB := n1_; clear n5_ n6_ n1_; clear hb; have hz5 : w7.cell? ⟨gb5, 0, none⟩ = some (.int .i64 a1) := (blk_cell BK5.out 0).trans rfl; have hz6 : w7.cell? ⟨gb6, 0, none⟩ = some (.int .i64 a2) := (blk_cell BK6.out 0).trans rfl; obtain ⟨Ao7, co7, eo7⟩ := Kd.R_slice ho; subst eo7; have HO := Aside0.mk ho; clear ho)
   | (go_at_call 47; (with_reducible refine (impl_changed_w _ _ m a1 a2 gb5 gb6 _ HM.out (Kd.R_reads' HO.out).2.2 ((blk_cell BK5.out 0).trans rfl) ((blk_cell BK6.out 0).trans rfl)).mono ?_); rintro e w8 ⟨v8, rfl, ho, hb⟩; (try rw [CG.out] at ho); have n5_ := Aside0.mk (blk_below (bk_ BK5.out) hb); have n6_ := Aside0.mk (blk_below (bk_ BK6.out) hb); have n1_ := Aside0.mk (below_step bw_ hb); clear BK5 BK6 HB; have BK5 := n5_; have BK6 := n6_; have HB := n1_; clear n5_ n6_ n1_; clear hb; have hz5 : w8.cell? ⟨gb5, 0, none⟩ = some (.int .i64 a1) := (blk_cell BK5.out 0).trans rfl; have hz6 : w8.cell? ⟨gb6, 0, none⟩ = some (.int .i64 a2) := (blk_cell BK6.out 0).trans rfl; obtain ⟨Ao8, co8, eo8⟩ := Kd.R_slice ho; subst eo8; have HO8 := Aside0.mk ho; clear ho)
   | (go_at_call 46; (with_reducible refine (CM.out _ _ _ (Kd.R_reads' HO8.out).2.2).mono ?_); rintro e w9 ⟨rfl, hb⟩; have n8_ := Aside0.mk (Kd.R_below HO8.out hb); clear HO8; have HO8 := n8_; clear n8_; have n5_ := Aside0.mk (blk_below (bk_ BK5.out) hb); have n6_ := Aside0.mk (blk_below (bk_ BK6.out) hb); have n1_ := Aside0.mk (below_step bw_ hb); clear BK5 BK6 HB; have BK5 := n5_; have BK6 := n6_; have HB := n1_; clear n5_ n6_ n1_; clear hb; have hz5 : w9.cell? ⟨gb5, 0, none⟩ = some (.int .i64 a1) := (blk_cell BK5.out 0).trans rfl; have hz6 : w9.cell? ⟨gb6, 0, none⟩ = some (.int .i64 a2) := (blk_cell BK6.out 0).trans rfl)
   | (go_at_call 39; (with_reducible refine (NI.out _ _ _ (Kd.R_reads' HO8.out).2.2 (Kd.R_reads' HO8.out).2.1 (Lv.below hL bw_)).mono ?_); rintro e w10 ⟨rfl, hb⟩; have n1_ := Aside0.mk (below_step bw_ hb); clear HB; have HB := n1_; clear n1_ hb))
   first | go_ret2 | go_ret
   exact ⟨rfl, bw_⟩
  | true =>
   simp only [if_true] at h
   replace h := Option.bind_eq_some_iff.mp h
   obtain ⟨⟨m, ok⟩, hm, h⟩ := h
   have RN := Aside0.mk (fun V hV => impl_readNotesIn.calls k a0 a1 a3 m ok V hV hm)
   clear hm
   cases ok with
   | false =>
    simp only [Bool.false_eq_true, if_false, Option.some.injEq, Prod.mk.injEq] at h
    obtain ⟨rfl, rfl⟩ := h
    go_enter Tryz.func18, Tryz.ntmps18
    go_wp2_with (first
   | ((with_reducible refine gate_dst (N := 5) rfl ?_); refine box_event ?hg (N := 5) ?hd (cs := #[.int .i64 a1]) (t := 2) ?hr ?_; (case hd => rfl); (case hg => rfl); (case hr => first | (go_simp; done) | (go_simp; rfl)); intro gb5 hg w5 hbox hb; have BK5 := Aside0.mk hbox; have n1_ := Aside0.mk (below_step bw_ hb); clear HB; have HB := n1_; clear n1_ hg hbox hb)
   | ((with_reducible refine gate_dst (N := 6) rfl ?_); refine box_event ?hg (N := 6) ?hd (cs := #[.int .i64 a2]) (t := 2) ?hr ?_; (case hd => rfl); (case hg => rfl); (case hr => first | (go_simp; done) | (go_simp; rfl)); intro gb6 hg w6 hbox hb; have n2_ := Aside0.mk (blk_below (bk_ BK5.out) hb); clear BK5; have BK5 := n2_; clear n2_; have BK6 := Aside0.mk hbox; have n1_ := Aside0.mk (below_step bw_ hb); clear HB; have HB := n1_; clear n1_ hg hbox hb; have hz5 : w6.cell? ⟨gb5, 0, none⟩ = some (.int .i64 a1) := (blk_cell BK5.out 0).trans rfl; have hz6 : w6.cell? ⟨gb6, 0, none⟩ = some (.int .i64 a2) := (blk_cell BK6.out 0).trans rfl)
   | (go_at_call 30; (with_reducible refine (K1.out _).mono ?_); rintro e w' ⟨rfl, ⟨nd, rfl⟩⟩)
   | (go_at_call 30; (with_reducible refine (K2.out _).mono ?_); rintro e w' ⟨rfl, ⟨nd, rfl⟩⟩)
   | (go_at_call 40; (with_reducible refine (RN.out _ (Lv.below hL bw_)).mono ?_); rintro e w7 ⟨v7, rfl, ho, hb⟩; have n5_ := Aside0.mk (blk_below (bk_ BK5.out) hb); have n6_ := Aside0.mk (blk_below (bk_ BK6.out) hb); have n1_ := Aside0.mk (below_step bw_ hb); clear BK5 BK6 HB; have BK5 := n5_; have BK6 := n6_; have HB := n1_; clear n5_ n6_ n1_; clear hb; have hz5 : w7.cell? ⟨gb5, 0, none⟩ = some (.int .i64 a1) := (blk_cell BK5.out 0).trans rfl; have hz6 : w7.cell? ⟨gb6, 0, none⟩ = some (.int .i64 a2) := (blk_cell BK6.out 0).trans rfl; obtain ⟨Ao7, co7, eo7⟩ := Kd.R_slice ho; subst eo7; have HO := Aside0.mk ho; clear ho)
   | (go_at_call 47; (with_reducible refine (impl_changed_w _ _ m a1 a2 gb5 gb6 _ HM.out (Kd.R_reads' HO.out).2.2 ((blk_cell BK5.out 0).trans rfl) ((blk_cell BK6.out 0).trans rfl)).mono ?_); rintro e w8 ⟨v8, rfl, ho, hb⟩; (try rw [CG.out] at ho); have n5_ := Aside0.mk (blk_below (bk_ BK5.out) hb); have n6_ := Aside0.mk (blk_below (bk_ BK6.out) hb); have n1_ := Aside0.mk (below_step bw_ hb); clear BK5 BK6 HB; have BK5 := n5_; have BK6 := n6_; have HB := n1_; clear n5_ n6_ n1_; clear hb; have hz5 : w8.cell? ⟨gb5, 0, none⟩ = some (.int .i64 a1) := (blk_cell BK5.out 0).trans rfl; have hz6 : w8.cell? ⟨gb6, 0, none⟩ = some (.int .i64 a2) := (blk_cell BK6.out 0).trans rfl; obtain ⟨Ao8, co8, eo8⟩ := Kd.R_slice ho; subst eo8; have HO8 := Aside0.mk ho; clear ho)
   | (go_at_call 46; (with_reducible refine (CM.out _ _ _ (Kd.R_reads' HO8.out).2.2).mono ?_); rintro e w9 ⟨rfl, hb⟩; have n8_ := Aside0.mk (Kd.R_below HO8.out hb); clear HO8; have HO8 := n8_; clear n8_; have n5_ := Aside0.mk (blk_below (bk_ BK5.out) hb); have n6_ := Aside0.mk (blk_below (bk_ BK6.out) hb); have n1_ := Aside0.mk (below_step bw_ hb); clear BK5 BK6 HB; have BK5 := n5_; have BK6 := n6_; have HB := n1_; clear n5_ n6_ n1_; clear hb; have hz5 : w9.cell? ⟨gb5, 0, none⟩ = some (.int .i64 a1) := (blk_cell BK5.out 0).trans rfl; have hz6 : w9.cell? ⟨gb6, 0, none⟩ = some (.int .i64 a2) := (blk_cell BK6.out 0).trans rfl)
   | (go_at_call 39; (with_reducible refine (NI.out _ _ _ (Kd.R_reads' HO8.out).2.2 (Kd.R_reads' HO8.out).2.1 (Lv.below hL bw_)).mono ?_); rintro e w10 ⟨rfl, hb⟩; have n1_ := Aside0.mk (below_step bw_ hb); clear HB; have HB := n1_; clear n1_ hb))
    first | go_ret2 | go_ret
    exact ⟨rfl, bw_⟩
   | true =>
    simp only [if_true] at h
    unfold retuneBody at h
    by_cases hm1 : m.length ≤ 1000
    ·rw [if_pos hm1] at h
     have HM := Aside0.mk hm1
     have hm2 : (m.map (moveN a1 a2)).length ≤ 1000 := by rw [List.length_map]; exact hm1
     clear hm1
     by_cases hall : (m.map (moveN a1 a2)).all okN = true
     ·rw [if_pos hall] at h
      by_cases h48 : ((m.map (moveN a1 a2)).length : Int) > 48
      ·rw [if_pos h48] at h
       simp only [Option.some.injEq, Prod.mk.injEq] at h
       obtain ⟨rfl, rfl⟩ := h
       have CM := Aside0.mk (fun A c W hC => by have := impl_checkedMelody_w A c (m.map (moveN a1 a2)) W hm2 hC; rw [if_pos hall, if_pos h48] at this; exact this : ∀ A c W, Kd.C k70 W A (m.map (moveN a1 a2)).length (m.map (moveN a1 a2)) → Calls Tryz.prog 46 #[.slice A (m.map (moveN a1 a2)).length c] W fun e w' => e = .returned (.tuple #[.slice none 0 0, .int .i64 5]) ∧ Below W.heap.size W w')
       clear hall h48 hm2
       generalize hmm : m.map (moveN a1 a2) = m2 at CM
       have CG := Aside0.mk hmm
       clear hmm
       go_enter Tryz.func18, Tryz.ntmps18
       go_wp2_with (first
   | ((with_reducible refine gate_dst (N := 5) rfl ?_); refine box_event ?hg (N := 5) ?hd (cs := #[.int .i64 a1]) (t := 2) ?hr ?_; (case hd => rfl); (case hg => rfl); (case hr => first | (go_simp; done) | (go_simp; rfl)); intro gb5 hg w5 hbox hb; have BK5 := Aside0.mk hbox; have n1_ := Aside0.mk (below_step bw_ hb); clear HB; have HB := n1_; clear n1_ hg hbox hb)
   | ((with_reducible refine gate_dst (N := 6) rfl ?_); refine box_event ?hg (N := 6) ?hd (cs := #[.int .i64 a2]) (t := 2) ?hr ?_; (case hd => rfl); (case hg => rfl); (case hr => first | (go_simp; done) | (go_simp; rfl)); intro gb6 hg w6 hbox hb; have n2_ := Aside0.mk (blk_below (bk_ BK5.out) hb); clear BK5; have BK5 := n2_; clear n2_; have BK6 := Aside0.mk hbox; have n1_ := Aside0.mk (below_step bw_ hb); clear HB; have HB := n1_; clear n1_ hg hbox hb; have hz5 : w6.cell? ⟨gb5, 0, none⟩ = some (.int .i64 a1) := (blk_cell BK5.out 0).trans rfl; have hz6 : w6.cell? ⟨gb6, 0, none⟩ = some (.int .i64 a2) := (blk_cell BK6.out 0).trans rfl)
   | (go_at_call 30; (with_reducible refine (K1.out _).mono ?_); rintro e w' ⟨rfl, ⟨nd, rfl⟩⟩)
   | (go_at_call 30; (with_reducible refine (K2.out _).mono ?_); rintro e w' ⟨rfl, ⟨nd, rfl⟩⟩)
   | (go_at_call 40; (with_reducible refine (RN.out _ (Lv.below hL bw_)).mono ?_); rintro e w7 ⟨v7, rfl, ho, hb⟩; have n5_ := Aside0.mk (blk_below (bk_ BK5.out) hb); have n6_ := Aside0.mk (blk_below (bk_ BK6.out) hb); have n1_ := Aside0.mk (below_step bw_ hb); clear BK5 BK6 HB; have BK5 := n5_; have BK6 := n6_; have HB := n1_; clear n5_ n6_ n1_; clear hb; have hz5 : w7.cell? ⟨gb5, 0, none⟩ = some (.int .i64 a1) := (blk_cell BK5.out 0).trans rfl; have hz6 : w7.cell? ⟨gb6, 0, none⟩ = some (.int .i64 a2) := (blk_cell BK6.out 0).trans rfl; obtain ⟨Ao7, co7, eo7⟩ := Kd.R_slice ho; subst eo7; have HO := Aside0.mk ho; clear ho)
   | (go_at_call 47; (with_reducible refine (impl_changed_w _ _ m a1 a2 gb5 gb6 _ HM.out (Kd.R_reads' HO.out).2.2 ((blk_cell BK5.out 0).trans rfl) ((blk_cell BK6.out 0).trans rfl)).mono ?_); rintro e w8 ⟨v8, rfl, ho, hb⟩; (try rw [CG.out] at ho); have n5_ := Aside0.mk (blk_below (bk_ BK5.out) hb); have n6_ := Aside0.mk (blk_below (bk_ BK6.out) hb); have n1_ := Aside0.mk (below_step bw_ hb); clear BK5 BK6 HB; have BK5 := n5_; have BK6 := n6_; have HB := n1_; clear n5_ n6_ n1_; clear hb; have hz5 : w8.cell? ⟨gb5, 0, none⟩ = some (.int .i64 a1) := (blk_cell BK5.out 0).trans rfl; have hz6 : w8.cell? ⟨gb6, 0, none⟩ = some (.int .i64 a2) := (blk_cell BK6.out 0).trans rfl; obtain ⟨Ao8, co8, eo8⟩ := Kd.R_slice ho; subst eo8; have HO8 := Aside0.mk ho; clear ho)
   | (go_at_call 46; (with_reducible refine (CM.out _ _ _ (Kd.R_reads' HO8.out).2.2).mono ?_); rintro e w9 ⟨rfl, hb⟩; have n8_ := Aside0.mk (Kd.R_below HO8.out hb); clear HO8; have HO8 := n8_; clear n8_; have n5_ := Aside0.mk (blk_below (bk_ BK5.out) hb); have n6_ := Aside0.mk (blk_below (bk_ BK6.out) hb); have n1_ := Aside0.mk (below_step bw_ hb); clear BK5 BK6 HB; have BK5 := n5_; have BK6 := n6_; have HB := n1_; clear n5_ n6_ n1_; clear hb; have hz5 : w9.cell? ⟨gb5, 0, none⟩ = some (.int .i64 a1) := (blk_cell BK5.out 0).trans rfl; have hz6 : w9.cell? ⟨gb6, 0, none⟩ = some (.int .i64 a2) := (blk_cell BK6.out 0).trans rfl)
   | (go_at_call 39; (with_reducible refine (NI.out _ _ _ (Kd.R_reads' HO8.out).2.2 (Kd.R_reads' HO8.out).2.1 (Lv.below hL bw_)).mono ?_); rintro e w10 ⟨rfl, hb⟩; have n1_ := Aside0.mk (below_step bw_ hb); clear HB; have HB := n1_; clear n1_ hb))
       first | go_ret2 | go_ret
       exact ⟨rfl, bw_⟩
      ·rw [if_neg h48] at h
       replace h := Option.bind_eq_some_iff.mp h
       obtain ⟨t, ht, h⟩ := h
       simp only [Option.some.injEq, Prod.mk.injEq] at h
       obtain ⟨rfl, rfl⟩ := h
       have NI := Aside0.mk (fun A c W hr hc hL => impl_notesIn.calls k a0 a2 A c (m.map (moveN a1 a2)) t W hr hc hL ht)
       have CM := Aside0.mk (fun A c W hC => by have := impl_checkedMelody_w A c (m.map (moveN a1 a2)) W hm2 hC; rw [if_pos hall, if_neg h48] at this; exact this : ∀ A c W, Kd.C k70 W A (m.map (moveN a1 a2)).length (m.map (moveN a1 a2)) → Calls Tryz.prog 46 #[.slice A (m.map (moveN a1 a2)).length c] W fun e w' => e = .returned (.tuple #[.slice A (m.map (moveN a1 a2)).length c, .int .i64 0]) ∧ Below W.heap.size W w')
       clear hall h48 hm2 ht
       generalize hmm : m.map (moveN a1 a2) = m2 at CM NI
       have CG := Aside0.mk hmm
       clear hmm
       go_enter Tryz.func18, Tryz.ntmps18
       go_wp2_with (first
   | ((with_reducible refine gate_dst (N := 5) rfl ?_); refine box_event ?hg (N := 5) ?hd (cs := #[.int .i64 a1]) (t := 2) ?hr ?_; (case hd => rfl); (case hg => rfl); (case hr => first | (go_simp; done) | (go_simp; rfl)); intro gb5 hg w5 hbox hb; have BK5 := Aside0.mk hbox; have n1_ := Aside0.mk (below_step bw_ hb); clear HB; have HB := n1_; clear n1_ hg hbox hb)
   | ((with_reducible refine gate_dst (N := 6) rfl ?_); refine box_event ?hg (N := 6) ?hd (cs := #[.int .i64 a2]) (t := 2) ?hr ?_; (case hd => rfl); (case hg => rfl); (case hr => first | (go_simp; done) | (go_simp; rfl)); intro gb6 hg w6 hbox hb; have n2_ := Aside0.mk (blk_below (bk_ BK5.out) hb); clear BK5; have BK5 := n2_; clear n2_; have BK6 := Aside0.mk hbox; have n1_ := Aside0.mk (below_step bw_ hb); clear HB; have HB := n1_; clear n1_ hg hbox hb; have hz5 : w6.cell? ⟨gb5, 0, none⟩ = some (.int .i64 a1) := (blk_cell BK5.out 0).trans rfl; have hz6 : w6.cell? ⟨gb6, 0, none⟩ = some (.int .i64 a2) := (blk_cell BK6.out 0).trans rfl)
   | (go_at_call 30; (with_reducible refine (K1.out _).mono ?_); rintro e w' ⟨rfl, ⟨nd, rfl⟩⟩)
   | (go_at_call 30; (with_reducible refine (K2.out _).mono ?_); rintro e w' ⟨rfl, ⟨nd, rfl⟩⟩)
   | (go_at_call 40; (with_reducible refine (RN.out _ (Lv.below hL bw_)).mono ?_); rintro e w7 ⟨v7, rfl, ho, hb⟩; have n5_ := Aside0.mk (blk_below (bk_ BK5.out) hb); have n6_ := Aside0.mk (blk_below (bk_ BK6.out) hb); have n1_ := Aside0.mk (below_step bw_ hb); clear BK5 BK6 HB; have BK5 := n5_; have BK6 := n6_; have HB := n1_; clear n5_ n6_ n1_; clear hb; have hz5 : w7.cell? ⟨gb5, 0, none⟩ = some (.int .i64 a1) := (blk_cell BK5.out 0).trans rfl; have hz6 : w7.cell? ⟨gb6, 0, none⟩ = some (.int .i64 a2) := (blk_cell BK6.out 0).trans rfl; obtain ⟨Ao7, co7, eo7⟩ := Kd.R_slice ho; subst eo7; have HO := Aside0.mk ho; clear ho)
   | (go_at_call 47; (with_reducible refine (impl_changed_w _ _ m a1 a2 gb5 gb6 _ HM.out (Kd.R_reads' HO.out).2.2 ((blk_cell BK5.out 0).trans rfl) ((blk_cell BK6.out 0).trans rfl)).mono ?_); rintro e w8 ⟨v8, rfl, ho, hb⟩; (try rw [CG.out] at ho); have n5_ := Aside0.mk (blk_below (bk_ BK5.out) hb); have n6_ := Aside0.mk (blk_below (bk_ BK6.out) hb); have n1_ := Aside0.mk (below_step bw_ hb); clear BK5 BK6 HB; have BK5 := n5_; have BK6 := n6_; have HB := n1_; clear n5_ n6_ n1_; clear hb; have hz5 : w8.cell? ⟨gb5, 0, none⟩ = some (.int .i64 a1) := (blk_cell BK5.out 0).trans rfl; have hz6 : w8.cell? ⟨gb6, 0, none⟩ = some (.int .i64 a2) := (blk_cell BK6.out 0).trans rfl; obtain ⟨Ao8, co8, eo8⟩ := Kd.R_slice ho; subst eo8; have HO8 := Aside0.mk ho; clear ho)
   | (go_at_call 46; (with_reducible refine (CM.out _ _ _ (Kd.R_reads' HO8.out).2.2).mono ?_); rintro e w9 ⟨rfl, hb⟩; have n8_ := Aside0.mk (Kd.R_below HO8.out hb); clear HO8; have HO8 := n8_; clear n8_; have n5_ := Aside0.mk (blk_below (bk_ BK5.out) hb); have n6_ := Aside0.mk (blk_below (bk_ BK6.out) hb); have n1_ := Aside0.mk (below_step bw_ hb); clear BK5 BK6 HB; have BK5 := n5_; have BK6 := n6_; have HB := n1_; clear n5_ n6_ n1_; clear hb; have hz5 : w9.cell? ⟨gb5, 0, none⟩ = some (.int .i64 a1) := (blk_cell BK5.out 0).trans rfl; have hz6 : w9.cell? ⟨gb6, 0, none⟩ = some (.int .i64 a2) := (blk_cell BK6.out 0).trans rfl)
   | (go_at_call 39; (with_reducible refine (NI.out _ _ _ (Kd.R_reads' HO8.out).2.2 (Kd.R_reads' HO8.out).2.1 (Lv.below hL bw_)).mono ?_); rintro e w10 ⟨rfl, hb⟩; have n1_ := Aside0.mk (below_step bw_ hb); clear HB; have HB := n1_; clear n1_ hb))
       first | go_ret2 | go_ret
       exact ⟨rfl, bw_⟩
     ·rw [if_neg hall] at h
      simp only [Option.some.injEq, Prod.mk.injEq] at h
      obtain ⟨rfl, rfl⟩ := h
      have CM := Aside0.mk (fun A c W hC => by have := impl_checkedMelody_w A c (m.map (moveN a1 a2)) W hm2 hC; rw [if_neg hall] at this; exact this : ∀ A c W, Kd.C k70 W A (m.map (moveN a1 a2)).length (m.map (moveN a1 a2)) → Calls Tryz.prog 46 #[.slice A (m.map (moveN a1 a2)).length c] W fun e w' => e = .returned (.tuple #[.slice none 0 0, .int .i64 6]) ∧ Below W.heap.size W w')
      clear hall hm2
      generalize hmm : m.map (moveN a1 a2) = m2 at CM
      have CG := Aside0.mk hmm
      clear hmm
      go_enter Tryz.func18, Tryz.ntmps18
      go_wp2_with (first
   | ((with_reducible refine gate_dst (N := 5) rfl ?_); refine box_event ?hg (N := 5) ?hd (cs := #[.int .i64 a1]) (t := 2) ?hr ?_; (case hd => rfl); (case hg => rfl); (case hr => first | (go_simp; done) | (go_simp; rfl)); intro gb5 hg w5 hbox hb; have BK5 := Aside0.mk hbox; have n1_ := Aside0.mk (below_step bw_ hb); clear HB; have HB := n1_; clear n1_ hg hbox hb)
   | ((with_reducible refine gate_dst (N := 6) rfl ?_); refine box_event ?hg (N := 6) ?hd (cs := #[.int .i64 a2]) (t := 2) ?hr ?_; (case hd => rfl); (case hg => rfl); (case hr => first | (go_simp; done) | (go_simp; rfl)); intro gb6 hg w6 hbox hb; have n2_ := Aside0.mk (blk_below (bk_ BK5.out) hb); clear BK5; have BK5 := n2_; clear n2_; have BK6 := Aside0.mk hbox; have n1_ := Aside0.mk (below_step bw_ hb); clear HB; have HB := n1_; clear n1_ hg hbox hb; have hz5 : w6.cell? ⟨gb5, 0, none⟩ = some (.int .i64 a1) := (blk_cell BK5.out 0).trans rfl; have hz6 : w6.cell? ⟨gb6, 0, none⟩ = some (.int .i64 a2) := (blk_cell BK6.out 0).trans rfl)
   | (go_at_call 30; (with_reducible refine (K1.out _).mono ?_); rintro e w' ⟨rfl, ⟨nd, rfl⟩⟩)
   | (go_at_call 30; (with_reducible refine (K2.out _).mono ?_); rintro e w' ⟨rfl, ⟨nd, rfl⟩⟩)
   | (go_at_call 40; (with_reducible refine (RN.out _ (Lv.below hL bw_)).mono ?_); rintro e w7 ⟨v7, rfl, ho, hb⟩; have n5_ := Aside0.mk (blk_below (bk_ BK5.out) hb); have n6_ := Aside0.mk (blk_below (bk_ BK6.out) hb); have n1_ := Aside0.mk (below_step bw_ hb); clear BK5 BK6 HB; have BK5 := n5_; have BK6 := n6_; have HB := n1_; clear n5_ n6_ n1_; clear hb; have hz5 : w7.cell? ⟨gb5, 0, none⟩ = some (.int .i64 a1) := (blk_cell BK5.out 0).trans rfl; have hz6 : w7.cell? ⟨gb6, 0, none⟩ = some (.int .i64 a2) := (blk_cell BK6.out 0).trans rfl; obtain ⟨Ao7, co7, eo7⟩ := Kd.R_slice ho; subst eo7; have HO := Aside0.mk ho; clear ho)
   | (go_at_call 47; (with_reducible refine (impl_changed_w _ _ m a1 a2 gb5 gb6 _ HM.out (Kd.R_reads' HO.out).2.2 ((blk_cell BK5.out 0).trans rfl) ((blk_cell BK6.out 0).trans rfl)).mono ?_); rintro e w8 ⟨v8, rfl, ho, hb⟩; (try rw [CG.out] at ho); have n5_ := Aside0.mk (blk_below (bk_ BK5.out) hb); have n6_ := Aside0.mk (blk_below (bk_ BK6.out) hb); have n1_ := Aside0.mk (below_step bw_ hb); clear BK5 BK6 HB; have BK5 := n5_; have BK6 := n6_; have HB := n1_; clear n5_ n6_ n1_; clear hb; have hz5 : w8.cell? ⟨gb5, 0, none⟩ = some (.int .i64 a1) := (blk_cell BK5.out 0).trans rfl; have hz6 : w8.cell? ⟨gb6, 0, none⟩ = some (.int .i64 a2) := (blk_cell BK6.out 0).trans rfl; obtain ⟨Ao8, co8, eo8⟩ := Kd.R_slice ho; subst eo8; have HO8 := Aside0.mk ho; clear ho)
   | (go_at_call 46; (with_reducible refine (CM.out _ _ _ (Kd.R_reads' HO8.out).2.2).mono ?_); rintro e w9 ⟨rfl, hb⟩; have n8_ := Aside0.mk (Kd.R_below HO8.out hb); clear HO8; have HO8 := n8_; clear n8_; have n5_ := Aside0.mk (blk_below (bk_ BK5.out) hb); have n6_ := Aside0.mk (blk_below (bk_ BK6.out) hb); have n1_ := Aside0.mk (below_step bw_ hb); clear BK5 BK6 HB; have BK5 := n5_; have BK6 := n6_; have HB := n1_; clear n5_ n6_ n1_; clear hb; have hz5 : w9.cell? ⟨gb5, 0, none⟩ = some (.int .i64 a1) := (blk_cell BK5.out 0).trans rfl; have hz6 : w9.cell? ⟨gb6, 0, none⟩ = some (.int .i64 a2) := (blk_cell BK6.out 0).trans rfl)
   | (go_at_call 39; (with_reducible refine (NI.out _ _ _ (Kd.R_reads' HO8.out).2.2 (Kd.R_reads' HO8.out).2.1 (Lv.below hL bw_)).mono ?_); rintro e w10 ⟨rfl, hb⟩; have n1_ := Aside0.mk (below_step bw_ hb); clear HB; have HB := n1_; clear n1_ hb))
      first | go_ret2 | go_ret
      exact ⟨rfl, bw_⟩
    ·rw [if_neg hm1] at h
     cases h
def laws_FnExactRetuneText.f (k : Nat) (a0 : Int) (a1 : Int) (a2 : Int) (a3 : ByteArray) : Option (Bool) := if (a3.size : Int) > 1048576 then (some true) else ((spec_RetuneText.f k a0 a1 a2 a3).bind fun bt217 => ((impl_RetuneText.f k a0 a1 a2 a3).bind fun bt219 => (if bt219.1.toList = bt217.1.toList then (if bt219.2 = bt217.2 then (some true) else (some false)) else (some false))))
theorem laws_FnExactRetuneText.mono : ∀ a0 a1 a2 a3 k, LeO (laws_FnExactRetuneText.f k a0 a1 a2 a3) (laws_FnExactRetuneText.f (k + 1) a0 a1 a2 a3) := by
 intro a0 a1 a2 a3 k
 unfold laws_FnExactRetuneText.f
 repeat' first
   | (with_reducible exact impl_RetuneText.mono _ _ _ _ _)
   | (with_reducible exact spec_RetuneText.mono _ _ _ _ _)
   | (with_reducible exact LeO.refl _)
   | (with_reducible exact LeO.none _)
   | (with_reducible refine LeO.ite ?_ ?_)
   | (with_reducible refine LeO.bind ?_ (fun _ => ?_))
set_option maxHeartbeats 8000000 in
set_option maxRecDepth 100000 in
theorem laws_FnExactRetuneText.calls (k : Nat) (a0 : Int) (a1 : Int) (a2 : Int) (a3 : ByteArray) (r : Bool) (w : World) (hL : Lv w) (h : laws_FnExactRetuneText.f k a0 a1 a2 a3 = some r) :
  Calls Tryz.prog 4 #[.int .i64 a0, .int .i64 a1, .int .i64 a2, .string a3] w fun e w' => e = .returned (.bool r) ∧ Below w.heap.size w w' := by
 have HB := Aside0.mk (Below.refl w.heap.size w)
 have H : (if (a3.size : Int) > 1048576 then (some true) else ((spec_RetuneText.f k a0 a1 a2 a3).bind fun bt217 => ((impl_RetuneText.f k a0 a1 a2 a3).bind fun bt219 => (if bt219.1.toList = bt217.1.toList then (if bt219.2 = bt217.2 then (some true) else (some false)) else (some false))))) = some r := h
 clear h
 by_cases c5 : (a3.size : Int) > 1048576
 ·rw [if_pos c5] at H
  have c5b0 : decide (1048576 < (a3.size : Int)) = true := decide_eq_true c5
  have c5b1 : decide (1048576 < a3.size) = true := decide_eq_true (by omega)
  clear c5
  obtain rfl := Option.some.inj H
  go_enter Tryz.func4, Tryz.ntmps4
  go_wp2
  go_ret
  exact ⟨re_, bw_⟩
 ·rw [if_neg c5] at H
  have c5b0 : decide (1048576 < (a3.size : Int)) = false := decide_eq_false c5
  have c5b1 : decide (1048576 < a3.size) = false := decide_eq_false (by omega)
  clear c5
  replace H := Option.bind_eq_some_iff.mp H
  obtain ⟨⟨t217, t218⟩, A60, H⟩ := H
  replace H : ((impl_RetuneText.f k a0 a1 a2 a3).bind fun bt219 => (if bt219.1.toList = t217.toList then (if bt219.2 = t218 then (some true) else (some false)) else (some false))) = some r := H
  have A6 := Aside0.mk A60
  clear A60
  replace H := Option.bind_eq_some_iff.mp H
  obtain ⟨⟨t219, t220⟩, A70, H⟩ := H
  replace H : (if t219.toList = t217.toList then (if t220 = t218 then (some true) else (some false)) else (some false)) = some r := H
  have A7 := Aside0.mk A70
  clear A70
  by_cases c8 : t219.toList = t217.toList
  ·rw [if_pos c8] at H
   have c8b0 : (t219.toList == t217.toList) = true := beq_iff_eq.mpr c8
   have c8b1 : (t219.toList != t217.toList) = false := bne_eq_false_iff_eq.mpr c8
   clear c8
   by_cases c9 : t220 = t218
   ·rw [if_pos c9] at H
    have c9b0 : (t220 == t218) = true := beq_iff_eq.mpr c9
    have c9b1 : (t220 != t218) = false := bne_eq_false_iff_eq.mpr c9
    clear c9
    obtain rfl := Option.some.inj H
    go_enter Tryz.func4, Tryz.ntmps4
    go_wp2_with (first | ((with_reducible refine gate_callee (f := 17) rfl ?_); refine goesL_ (some 21) rfl rfl Tryz.func17 (by kernel_rfl) rfl #[.int .i64 a0, .int .i64 a1, .int .i64 a2, .string a3] rfl ma_ ?_; (with_reducible refine (spec_RetuneText.calls k a0 a1 a2 a3 t217 t218 _ A6.out).mono ?_); rintro e w10 ⟨rfl, hb⟩; refine ⟨_, rfl, ?_⟩; have n0_ := Aside0.mk (below_step bw_ hb); clear HB; have HB := n0_; clear n0_; (try clear hb); (try clear hb2); (try clear hk); (try clear hi)) | ((with_reducible refine gate_callee (f := 18) rfl ?_); refine goesL_ (some 29) rfl rfl Tryz.func18 (by kernel_rfl) rfl #[.int .i64 a0, .int .i64 a1, .int .i64 a2, .string a3] rfl ma_ ?_; (with_reducible refine (impl_RetuneText.calls k a0 a1 a2 a3 t219 t220 _ ?side1 A7.out).mono ?_); (case side1 => exact Lv.below hL bw_); rintro e w11 ⟨rfl, hb⟩; refine ⟨_, rfl, ?_⟩; have n0_ := Aside0.mk (below_step bw_ hb); clear HB; have HB := n0_; clear n0_; (try clear hb); (try clear hb2); (try clear hk); (try clear hi)))
    go_ret
    exact ⟨re_, bw_⟩
   ·rw [if_neg c9] at H
    have c9b0 : (t220 == t218) = false := beq_eq_false_iff_ne.mpr c9
    have c9b1 : (t220 != t218) = true := bne_iff_ne.mpr c9
    obtain rfl := Option.some.inj H
    go_enter Tryz.func4, Tryz.ntmps4
    go_wp2_with (first | ((with_reducible refine gate_callee (f := 17) rfl ?_); refine goesL_ (some 21) rfl rfl Tryz.func17 (by kernel_rfl) rfl #[.int .i64 a0, .int .i64 a1, .int .i64 a2, .string a3] rfl ma_ ?_; (with_reducible refine (spec_RetuneText.calls k a0 a1 a2 a3 t217 t218 _ A6.out).mono ?_); rintro e w12 ⟨rfl, hb⟩; refine ⟨_, rfl, ?_⟩; have n0_ := Aside0.mk (below_step bw_ hb); clear HB; have HB := n0_; clear n0_; (try clear hb); (try clear hb2); (try clear hk); (try clear hi)) | ((with_reducible refine gate_callee (f := 18) rfl ?_); refine goesL_ (some 29) rfl rfl Tryz.func18 (by kernel_rfl) rfl #[.int .i64 a0, .int .i64 a1, .int .i64 a2, .string a3] rfl ma_ ?_; (with_reducible refine (impl_RetuneText.calls k a0 a1 a2 a3 t219 t220 _ ?side1 A7.out).mono ?_); (case side1 => exact Lv.below hL bw_); rintro e w13 ⟨rfl, hb⟩; refine ⟨_, rfl, ?_⟩; have n0_ := Aside0.mk (below_step bw_ hb); clear HB; have HB := n0_; clear n0_; (try clear hb); (try clear hb2); (try clear hk); (try clear hi)))
    go_ret
    exact ⟨re_, bw_⟩
  ·rw [if_neg c8] at H
   have c8b0 : (t219.toList == t217.toList) = false := beq_eq_false_iff_ne.mpr c8
   have c8b1 : (t219.toList != t217.toList) = true := bne_iff_ne.mpr c8
   obtain rfl := Option.some.inj H
   go_enter Tryz.func4, Tryz.ntmps4
   go_wp2_with (first | ((with_reducible refine gate_callee (f := 17) rfl ?_); refine goesL_ (some 21) rfl rfl Tryz.func17 (by kernel_rfl) rfl #[.int .i64 a0, .int .i64 a1, .int .i64 a2, .string a3] rfl ma_ ?_; (with_reducible refine (spec_RetuneText.calls k a0 a1 a2 a3 t217 t218 _ A6.out).mono ?_); rintro e w14 ⟨rfl, hb⟩; refine ⟨_, rfl, ?_⟩; have n0_ := Aside0.mk (below_step bw_ hb); clear HB; have HB := n0_; clear n0_; (try clear hb); (try clear hb2); (try clear hk); (try clear hi)) | ((with_reducible refine gate_callee (f := 18) rfl ?_); refine goesL_ (some 29) rfl rfl Tryz.func18 (by kernel_rfl) rfl #[.int .i64 a0, .int .i64 a1, .int .i64 a2, .string a3] rfl ma_ ?_; (with_reducible refine (impl_RetuneText.calls k a0 a1 a2 a3 t219 t220 _ ?side1 A7.out).mono ?_); (case side1 => exact Lv.below hL bw_); rintro e w15 ⟨rfl, hb⟩; refine ⟨_, rfl, ?_⟩; have n0_ := Aside0.mk (below_step bw_ hb); clear HB; have HB := n0_; clear n0_; (try clear hb); (try clear hb2); (try clear hk); (try clear hi)))
   go_ret
   exact ⟨re_, bw_⟩
def IsS80 (w0 W : World) (g : Nat) (f0 : List Int) (f1 : Int) (f2 : Int) : Prop := ∃ A0 c0, W.heap[g]? = some (.cells #[.slice A0 f0.length c0, .int .i64 f1, .int .u64 f2] 80 (0, 0)) ∧ w0.heap.size ≤ g ∧ Kd.C (Kd.int .u8) w0 A0 f0.length f0
theorem IsS80.grown {w0 W : World} {g : Nat} {f0 : List Int} {f1 : Int} {f2 : Int} {W1 : World} {row : Option Nat} (h : IsS80 w0 W g f0 f1 f2) (hw : W.grownBy W1 row) (hne : some g ≠ row) : IsS80 w0 W1 g f0 f1 f2 := by
 obtain ⟨A0, c0, hb, hg, hr0⟩ := h
 exact ⟨A0, c0, blk_grown hb hw hne, hg, hr0⟩
theorem IsS80.fresh {w0 W : World} {g : Nat} {f0 : List Int} {f1 : Int} {f2 : Int} (h : IsS80 w0 W g f0 f1 f2) : ∀ k, W.heap.size ≤ k → k ≠ g := by
 obtain ⟨A0, c0, hb, hg, hr0⟩ := h
 exact Kd.freshB hb
theorem IsS80.kept {w0 W : World} {g : Nat} {f0 : List Int} {f1 : Int} {f2 : Int} {W1 : World} {S : Nat → Prop} (h : IsS80 w0 W g f0 f1 f2) (hk : Kept W W1 S) (hne : ¬ S g) : IsS80 w0 W1 g f0 f1 f2 := by
 obtain ⟨A0, c0, hb, hg, hr0⟩ := h
 exact ⟨A0, c0, blk_kept hb hk hne, hg, hr0⟩
theorem IsS80.below {w0 W : World} {g : Nat} {f0 : List Int} {f1 : Int} {f2 : Int} {W1 : World} (h : IsS80 w0 W g f0 f1 f2) (hw : Below W.heap.size W W1) : IsS80 w0 W1 g f0 f1 f2 := h.grown (grown_of_below hw none) (by simp)
theorem IsS80.alloc {w0 W : World} {g : Nat} {f0 : List Int} {f1 : Int} {f2 : Int} (h : IsS80 w0 W g f0 f1 f2) (o : Obj) : IsS80 w0 (W.alloc o) g f0 f1 f2 := h.below (below_alloc (Below.refl _ _) o)
theorem IsS80.drewN {w0 W : World} {g : Nat} {f0 : List Int} {f1 : Int} {f2 : Int} (h : IsS80 w0 W g f0 f1 f2) (m : Nat) : IsS80 w0 (W.drewN m) g f0 f1 f2 := h
theorem IsS80.drew {w0 W : World} {g : Nat} {f0 : List Int} {f1 : Int} {f2 : Int} (h : IsS80 w0 W g f0 f1 f2) : IsS80 w0 W.drew g f0 f1 f2 := h
theorem IsS80.at_ {w0 W : World} {g : Nat} {f0 : List Int} {f1 : Int} {f2 : Int} {w' : World} {m : Nat} (hq : W.drewN m = w') (h : IsS80 w0 W g f0 f1 f2) : IsS80 w0 w' g f0 f1 f2 := by subst hq; exact IsS80.drewN h m
theorem IsS80.apart {w0 W : World} {g : Nat} {f0 : List Int} {f1 : Int} {f2 : Int} {α : Type} {d : Kd α} {e : Nat} {base : Nat} {ok : Nat → Prop} {v : Value} {xs : List α} (h : IsS80 w0 W g f0 f1 f2) (ho : d.R e W base ok v xs) (ht : ∀ q, q ∈ e :: d.E → q ≠ 80) : d.R e W base (fun k => ok k ∧ k ≠ g) v xs := by
 obtain ⟨A0, c0, hb, hg, hr0⟩ := h
 exact Kd.R_types ho hb ht
theorem IsS80.own_ne {w0 W : World} {g : Nat} {f0 : List Int} {f1 : Int} {f2 : Int} {α : Type} {d : Kd α} {e : Nat} {base : Nat} {ok : Nat → Prop} {v : Value} {xs : List α} (h : IsS80 w0 W g f0 f1 f2) (ho : d.R e W base ok v xs) (ht : e ≠ 80) : some g ≠ v.ownBlock := by
 obtain ⟨A0, c0, hb, hg, hr0⟩ := h
 exact Kd.R_ne ho hb ht
end Go.Proofs.YtgklofginkafgaaGreatDoor.PS
end
