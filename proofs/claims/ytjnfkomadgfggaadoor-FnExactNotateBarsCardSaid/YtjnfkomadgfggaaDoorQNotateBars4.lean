/- What is proved: fnExactNotateBars_card, without further conditions; this text holds part 5 of 7 of its proof. -/

import Derived.Test.YtjnfkomadgfggaaDoorQNotateBars3
section
namespace Go.Proofs.YtjnfkomadgfggaaDoor.PZ
open Go.RowKit Go.Proofs.YtjnfkomadgfggaaDoorW.PrintWords Go.Proofs.YtjnfkomadgfggaaDoorW.PrintLast Go.Proofs.YtjnfkomadgfggaaDoorW.PrintMore
attribute [local go_sem] max2_int min2_int max_two min_two max_three min_three max_four min_four
set_option linter.unusedVariables false
set_option linter.unusedSimpArgs false
mutual
def impl_notate.l0 : Nat → List (S44) → List (S65) → List ByteArray → List (S65) → Int → Int → Option (ByteArray × Bool)
  | 0, _, _, _, _, _, _ => none
  | k + 1, x0, x8, x9, x20, x21, x22 => if x22 < x21 then (if 0 ≤ x22 then (if x22 < (x20.length : Int) then (if x22 = 0 then (impl_notate.j1 k x0 x8 x9 x20 x21 x22 true ((rd_T65 x20 x22).f0) ((rd_T65 x20 x22).f1) ((rd_T65 x20 x22).f2) ((rd_T65 x20 x22).f3)) else (impl_notate.j1 k x0 x8 x9 x20 x21 x22 (decide (((rd_T65 x20 x22).f2) < 0)) ((rd_T65 x20 x22).f0) ((rd_T65 x20 x22).f1) ((rd_T65 x20 x22).f2) ((rd_T65 x20 x22).f3))) else (none)) else (none)) else ((strings_Join.f x9 (⟨#[32]⟩ : ByteArray)).bind fun t295 => (some (t295, decide ((x8.length : Int) ≤ 128))))
def impl_notate.j1 : Nat → List (S44) → List (S65) → List ByteArray → List (S65) → Int → Int → Bool → Int → Int → Int → Bool → Option (ByteArray × Bool)
  | 0, _, _, _, _, _, _, _, _, _, _, _ => none
  | k + 1, x0, x8, x9, x20, x21, x22, x30, x298000, x298001, x298002, x298003 => if x30 = true then (if 0 ≤ x298000 then (if x298000 < (x0.length : Int) then ((impl_noteText.f ((rd_T44 x0 x298000).f0) x298001).bind fun t299 => (if x298003 = true then (if 1 + t299.size ≤ 9223372036854775807 then (if x9.length < 8796093022208 then (impl_notate.l0 k x0 x8 (x9 ++ [(⟨#[126]⟩ : ByteArray) ++ t299]) x20 x21 (wrap64 (x22 + 1))) else (none)) else (none)) else (if x9.length < 8796093022208 then (impl_notate.l0 k x0 x8 (x9 ++ [t299]) x20 x21 (wrap64 (x22 + 1))) else (none)))) else (none)) else (none)) else (if x298002 = 0 then (if x9.length < 8796093022208 then ((some (x9 ++ [(⟨#[124, 124]⟩ : ByteArray)] : List ByteArray)).bind fun y306 => (if 0 ≤ x298000 then (if x298000 < (x0.length : Int) then ((impl_noteText.f ((rd_T44 x0 x298000).f0) x298001).bind fun t310 => (if x298003 = true then (if 1 + t310.size ≤ 9223372036854775807 then (if y306.length < 8796093022208 then (impl_notate.l0 k x0 x8 (y306 ++ [(⟨#[126]⟩ : ByteArray) ++ t310]) x20 x21 (wrap64 (x22 + 1))) else (none)) else (none)) else (if y306.length < 8796093022208 then (impl_notate.l0 k x0 x8 (y306 ++ [t310]) x20 x21 (wrap64 (x22 + 1))) else (none)))) else (none)) else (none))) else (none)) else (if x9.length < 8796093022208 then ((some (x9 ++ [(⟨#[124]⟩ : ByteArray)] : List ByteArray)).bind fun y317 => (if 0 ≤ x298000 then (if x298000 < (x0.length : Int) then ((impl_noteText.f ((rd_T44 x0 x298000).f0) x298001).bind fun t321 => (if x298003 = true then (if 1 + t321.size ≤ 9223372036854775807 then (if y317.length < 8796093022208 then (impl_notate.l0 k x0 x8 (y317 ++ [(⟨#[126]⟩ : ByteArray) ++ t321]) x20 x21 (wrap64 (x22 + 1))) else (none)) else (none)) else (if y317.length < 8796093022208 then (impl_notate.l0 k x0 x8 (y317 ++ [t321]) x20 x21 (wrap64 (x22 + 1))) else (none)))) else (none)) else (none))) else (none)))
end
def impl_notate.f (k : Nat) (l0 : List (S44)) (a1_0 : ByteArray) (l1_1 : List Int) (l1_2 : List Int) (a2 : Int) : Option (ByteArray × Bool) := if (l0.length : Int) = 0 then (some ((⟨#[45]⟩ : ByteArray), true)) else ((impl_split.f k l0 a1_0 l1_1 l1_2 a2).bind fun t292 => (impl_notate.l0 k l0 t292 ([] : List ByteArray) t292 (t292.length : Int) 0))
theorem impl_notate.mono_l : ∀ k, (∀ y0 y1 y2 y3 y4 y5, LeO (impl_notate.l0 k y0 y1 y2 y3 y4 y5) (impl_notate.l0 (k + 1) y0 y1 y2 y3 y4 y5)) ∧ (∀ y0 y1 y2 y3 y4 y5 y6 y7 y8 y9 y10, LeO (impl_notate.j1 k y0 y1 y2 y3 y4 y5 y6 y7 y8 y9 y10) (impl_notate.j1 (k + 1) y0 y1 y2 y3 y4 y5 y6 y7 y8 y9 y10))
  | 0 => ⟨fun _ _ _ _ _ _ r h => by simp [impl_notate.l0] at h, fun _ _ _ _ _ _ _ _ _ _ _ r h => by simp [impl_notate.j1] at h⟩
  | k + 1 => by
    obtain ⟨ih0, ih1⟩ := impl_notate.mono_l k
    refine ⟨?_, ?_⟩
    · intro y0 y1 y2 y3 y4 y5
      unfold impl_notate.l0
      repeat' first
      | (with_reducible exact ih0 _ _ _ _ _ _)
      | (with_reducible exact ih1 _ _ _ _ _ _ _ _ _ _ _)
      | (with_reducible exact impl_split.mono _ _ _ _ _ _)
      | (with_reducible exact LeO.refl _)
      | (with_reducible exact LeO.none _)
      | (with_reducible refine LeO.ite ?_ ?_)
      | (with_reducible refine LeO.bind ?_ (fun _ => ?_))
      | exact ih0 _ _ _ _ _ _
      | exact ih1 _ _ _ _ _ _ _ _ _ _ _
      | exact impl_split.mono _ _ _ _ _ _
      | exact LeO.none _
      | refine LeO.ite ?_ ?_
      | refine LeO.bind ?_ (fun _ => ?_)
    · intro y0 y1 y2 y3 y4 y5 y6 y7 y8 y9 y10
      unfold impl_notate.j1
      repeat' first
      | (with_reducible exact ih0 _ _ _ _ _ _)
      | (with_reducible exact ih1 _ _ _ _ _ _ _ _ _ _ _)
      | (with_reducible exact impl_split.mono _ _ _ _ _ _)
      | (with_reducible exact LeO.refl _)
      | (with_reducible exact LeO.none _)
      | (with_reducible refine LeO.ite ?_ ?_)
      | (with_reducible refine LeO.bind ?_ (fun _ => ?_))
      | exact ih0 _ _ _ _ _ _
      | exact ih1 _ _ _ _ _ _ _ _ _ _ _
      | exact impl_split.mono _ _ _ _ _ _
      | exact LeO.none _
      | refine LeO.ite ?_ ?_
      | refine LeO.bind ?_ (fun _ => ?_)
theorem impl_notate.mono : ∀ a0 a1 a2 a3 a4 k, LeO (impl_notate.f k a0 a1 a2 a3 a4) (impl_notate.f (k + 1) a0 a1 a2 a3 a4) := by
  intro a0 a1 a2 a3 a4 k
  obtain ⟨ih0, ih1⟩ := impl_notate.mono_l k
  unfold impl_notate.f
  repeat' first
      | (with_reducible exact ih0 _ _ _ _ _ _)
      | (with_reducible exact ih1 _ _ _ _ _ _ _ _ _ _ _)
      | (with_reducible exact impl_split.mono _ _ _ _ _ _)
      | (with_reducible exact LeO.refl _)
      | (with_reducible exact LeO.none _)
      | (with_reducible refine LeO.ite ?_ ?_)
      | (with_reducible refine LeO.bind ?_ (fun _ => ?_))
      | exact ih0 _ _ _ _ _ _
      | exact ih1 _ _ _ _ _ _ _ _ _ _ _
      | exact impl_split.mono _ _ _ _ _ _
      | exact LeO.none _
      | refine LeO.ite ?_ ?_
      | refine LeO.bind ?_ (fun _ => ?_)
def impl_notate.T12 : Bool × List (List Nat × List Nat) := (true, [([], []), ([], []), ([1], [1]), ([0, 2], [0, 2]), ([3], [3]), ([4], [4]), ([], []), ([6], [6]), ([5, 7], [5, 7]), ([8, 8, 0, 1, 2, 3, 4, 5, 6, 7, 8], [8])])
def impl_notate.B12 : List Nat := [0, 0, 2, 7, 15, 31, 0, 64, 255, 511]
theorem impl_notate.tab12 : rtab .any (opsOf Tryd.f19 12) = impl_notate.T12 := by kernel_rfl
theorem impl_notate.bits12 : waitsOk impl_notate.T12.2 impl_notate.B12 = true := by kernel_rfl
set_option maxHeartbeats 8000000 in
set_option maxRecDepth 100000 in
theorem impl_notate.calls (k : Nat) (A0 : Option Addr) (c0 : Nat) (l0 : List (S44)) (a1_0 : ByteArray) (A1_1 : Option Addr) (c1_1 : Nat) (l1_1 : List Int) (A1_2 : Option Addr) (c1_2 : Nat) (l1_2 : List Int) (a2 : Int) (r1 : ByteArray) (r2 : Bool) (w : World) (hr0 : Kd.C k44 w A0 l0.length l0) (hc0 : l0.length ≤ c0) (hr1_1 : Kd.C (Kd.int .i64) w A1_1 l1_1.length l1_1) (hc1_1 : l1_1.length ≤ c1_1) (hr1_2 : Kd.C (Kd.int .i64) w A1_2 l1_2.length l1_2) (hc1_2 : l1_2.length ≤ c1_2) (hL : Lv w) (h : impl_notate.f k l0 a1_0 l1_1 l1_2 a2 = some (r1, r2)) :
    Calls Tryd.prog 19 #[.slice A0 l0.length c0, .agg #[.string a1_0, .slice A1_1 l1_1.length c1_1, .slice A1_2 l1_2.length c1_2], .int .i64 a2] w fun e w' => e = .returned (.tuple #[.string r1, .bool r2]) ∧ Below w.heap.size w w' := by
  have hu32 := Tryd.underlying32
  have hu65 := Tryd.underlying65
  have HR0 := Aside0.mk hr0
  have HC0 := Aside0.mk hc0
  clear hr0 hc0
  have HR1_1 := Aside0.mk hr1_1
  have HC1_1 := Aside0.mk hc1_1
  clear hr1_1 hc1_1
  have HR1_2 := Aside0.mk hr1_2
  have HC1_2 := Aside0.mk hc1_2
  clear hr1_2 hc1_2
  have HB := Aside0.mk (Below.refl w.heap.size w)
  have H : (if (l0.length : Int) = 0 then (some ((⟨#[45]⟩ : ByteArray), true)) else ((impl_split.f k l0 a1_0 l1_1 l1_2 a2).bind fun t292 => (impl_notate.l0 k l0 t292 ([] : List ByteArray) t292 (t292.length : Int) 0))) = some (r1, r2) := h
  clear h
  by_cases c4 : (l0.length : Int) = 0
  · rw [if_pos c4] at H
    have c4b0 : ((l0.length : Int) == 0) = true := beq_iff_eq.mpr c4
    have c4b1 : ((l0.length : Int) != 0) = false := bne_eq_false_iff_eq.mpr c4
    clear c4
    simp only [Option.some.injEq, Prod.mk.injEq] at H
    obtain ⟨rfl, rfl⟩ := H
    go_enter Tryd.func19, Tryd.ntmps19
    go_wp2_with (first | ((with_reducible refine gate_dst (N := 4) rfl ?_); refine box_event ?hg (N := 4) ?hd (cs := #[.string a1_0, .slice A1_1 l1_1.length c1_1, .slice A1_2 l1_2.length c1_2]) (t := 32) ?hr ?_; (case hd => rfl); (case hg => rfl); (case hr => first | (go_simp; done) | (go_simp; rfl)); intro gb291 hg w5 hbox hb; have n0_ := Aside0.mk (below_step (by repeat (first | (with_reducible first | exact HB.out | apply below_alloc | apply pw_below_drewN | apply below_drew1) | exact HB.out)) hb); have n1_ := Aside0.mk (hbox); have n2_ := Aside0.mk ((by rw [hg]; exact (below_size (by repeat (first | (with_reducible first | exact HB.out | apply below_alloc | apply pw_below_drewN | apply below_drew1) | exact HB.out))) : w.heap.size ≤ gb291)); have n3_ := Aside0.mk ((by rw [hg]; exact (below_size (by repeat (first | (with_reducible first | exact HB.out | apply below_alloc | apply pw_below_drewN | apply below_drew1) | exact HB.out))) : w.heap.size ≤ gb291)); clear HB; have HB := n0_; have BK291 := n1_; have GW291 := n2_; have GE291 := n3_; clear n0_ n1_ n2_ n3_; clear hb hbox hg))
    go_ret2
    exact ⟨by first | rfl | (simp [errW_none, errW_some] <;> rfl) | (simp [*, errW_none, errW_some] <;> rfl), by repeat (first | (with_reducible first | exact HB.out | apply below_alloc | apply pw_below_drewN | apply below_drew1 | refine below_set ?_ GE291.out) | exact HB.out)⟩
  · rw [if_neg c4] at H
    have c4b0 : ((l0.length : Int) == 0) = false := beq_eq_false_iff_ne.mpr c4
    have c4b1 : ((l0.length : Int) != 0) = true := bne_iff_ne.mpr c4
    have c4b2 : ¬ (l0 = []) := fun h_ => c4 (by rw [h_]; rfl)
    replace H := Option.bind_eq_some_iff.mp H
    obtain ⟨t292, A60, H⟩ := H
    replace H : (impl_notate.l0 k l0 t292 ([] : List ByteArray) t292 (t292.length : Int) 0) = some (r1, r2) := H
    have A6 := Aside0.mk A60
    clear A60
    have H' := Aside0.mk H
    clear H
    go_enter Tryd.func19, Tryd.ntmps19
    go_wp2_with (first | ((with_reducible refine gate_dst (N := 4) rfl ?_); refine box_event ?hg (N := 4) ?hd (cs := #[.string a1_0, .slice A1_1 l1_1.length c1_1, .slice A1_2 l1_2.length c1_2]) (t := 32) ?hr ?_; (case hd => rfl); (case hg => rfl); (case hr => first | (go_simp; done) | (go_simp; rfl)); intro gb291 hg w7 hbox hb; have n0_ := Aside0.mk (below_step (by repeat (first | (with_reducible first | exact HB.out | apply below_alloc | apply pw_below_drewN | apply below_drew1) | exact HB.out)) hb); have n1_ := Aside0.mk (hbox); have n2_ := Aside0.mk ((by rw [hg]; exact (below_size (by repeat (first | (with_reducible first | exact HB.out | apply below_alloc | apply pw_below_drewN | apply below_drew1) | exact HB.out))) : w.heap.size ≤ gb291)); have n3_ := Aside0.mk ((by rw [hg]; exact (below_size (by repeat (first | (with_reducible first | exact HB.out | apply below_alloc | apply pw_below_drewN | apply below_drew1) | exact HB.out))) : w.heap.size ≤ gb291)); clear HB; have HB := n0_; have BK291 := n1_; have GW291 := n2_; have GE291 := n3_; clear n0_ n1_ n2_ n3_; clear hb hbox hg; have hcz8_0 : w7.cell? ⟨gb291, 0, none⟩ = some (.string a1_0) := (blk_cell BK291.out 0).trans rfl; have hcz8_1 : w7.cell? ⟨gb291, 1, none⟩ = some (.slice A1_1 l1_1.length c1_1) := (blk_cell BK291.out 1).trans rfl; have hcz8_2 : w7.cell? ⟨gb291, 2, none⟩ = some (.slice A1_2 l1_2.length c1_2) := (blk_cell BK291.out 2).trans rfl; have hfz8_0 := blk_frozen BK291.out 0; have hfz8_1 := blk_frozen BK291.out 1; have hfz8_2 := blk_frozen BK291.out 2) | ((with_reducible refine gate_callee (f := 33) rfl ?_); refine goesL_ (some 19) rfl rfl Tryd.func33 (by kernel_rfl) rfl #[.slice A0 l0.length c0, .agg #[.string a1_0, .slice A1_1 l1_1.length c1_1, .slice A1_2 l1_2.length c1_2], .int .i64 a2] rfl (by (try simp only [List.map_toArray, List.map_cons, List.map_nil]); first | done | rfl | (simp only [List.length_drop, List.length_take]; rfl)) ?_; (with_reducible refine (impl_split.calls k _ _ l0 a1_0 _ _ l1_1 _ _ l1_2 a2 t292 _ ?side1 ?side2 ?side3 ?side4 ?side5 ?side6 A6.out).mono ?_); (case side1 => repeat (first | exact (Kd.C_below HR0.out HB.out) | (with_reducible refine Kd.C_alloc ?_ _) | (with_reducible refine Kd.C_drewN ?_ _) | (with_reducible refine Kd.C_drew ?_))); (case side2 => exact HC0.out); (case side3 => repeat (first | exact (Kd.C_below HR1_1.out HB.out) | (with_reducible refine Kd.C_alloc ?_ _) | (with_reducible refine Kd.C_drewN ?_ _) | (with_reducible refine Kd.C_drew ?_))); (case side4 => exact HC1_1.out); (case side5 => repeat (first | exact (Kd.C_below HR1_2.out HB.out) | (with_reducible refine Kd.C_alloc ?_ _) | (with_reducible refine Kd.C_drewN ?_ _) | (with_reducible refine Kd.C_drew ?_))); (case side6 => exact HC1_2.out); rintro e w9 ⟨v293, rfl, ho0, hb⟩; refine ⟨_, rfl, ?_⟩; have n0_ := Aside0.mk (Kd.R_lower ho0 (below_size (by repeat (first | (with_reducible first | exact HB.out | apply below_alloc | apply pw_below_drewN | apply below_drew1 | refine below_set ?_ GE291.out) | exact HB.out)))); have n1_ := Aside0.mk (blk_below (g := gb291) (o := .cells #[.string a1_0, .slice A1_1 l1_1.length c1_1, .slice A1_2 l1_2.length c1_2] 32 (0, 0)) (by (with_reducible repeat (first | refine blk_drewN ?_ _ | refine blk_drew ?_ | refine blk_alloc ?_ _)); exact BK291.out) hb); have n2_ := Aside0.mk (below_step (by repeat (first | (with_reducible first | exact HB.out | apply below_alloc | apply pw_below_drewN | apply below_drew1 | refine below_set ?_ GE291.out) | exact HB.out)) hb); clear BK291; clear HB; have HO294 := n0_; have BK291 := n1_; have HB := n2_; clear n0_ n1_ n2_; (try clear hb); (try clear hb2); (try clear hk); (try clear hi); (try clear ho0); obtain ⟨Ao10, co10, eo10⟩ := Kd.R_slice HO294.out; subst eo10))
    go_loopg [9, 22] k (fun kq v9 v22 w' => ∃ (x9_1 : List ByteArray) (x22_1 : Int), v22 = .int .i64 x22_1 ∧ Aside0 (impl_notate.l0 kq l0 t292 x9_1 t292 (t292.length : Int) x22_1 = some (r1, r2)) ∧ Aside0 (kq ≤ k) ∧ Aside0 (Kd.R k65 65 w' w.heap.size (fun _ => True) (.slice Ao10 t292.length co10) t292) ∧ Aside0 (Kd.R Kd.string 9 w' w.heap.size (fun _ => True) v9 x9_1) ∧ Aside0 (Kd.R k65 65 w' w.heap.size (fun _ => True) (.slice Ao10 t292.length co10) t292) ∧ Aside0 (w'.heap[gb291]? = some (.cells #[.string a1_0, (.slice A1_1 l1_1.length c1_1), (.slice A1_2 l1_2.length c1_2)] 32 (0, 0))) ∧ Aside0 (Below w.heap.size w w'))
    case atStart => exact ⟨(([] : List ByteArray)), (0), (by first | rfl | (simp; done) | (simp [*]; done)), H', ⟨Nat.le_refl _⟩, ⟨by (with_reducible repeat (first | apply Kd.R_alloc | apply Kd.R_drewN | apply Kd.R_drew)); exact HO294.out⟩, ⟨by first | exact Kd.R_nil _ _ _ _ _ | exact Kd.N_nil _ _ _ _ _ | exact Kd.V_nil _ _ _ _ _ | exact Kd.Q_nil _ _ _ _ _ | exact Kd.S_nil _ _ _ _ _⟩, ⟨by (with_reducible repeat (first | apply Kd.R_alloc | apply Kd.R_drewN | apply Kd.R_drew)); exact HO294.out⟩, ⟨by (with_reducible repeat (first | refine blk_drewN ?_ _ | refine blk_drew ?_ | refine blk_alloc ?_ _)); exact BK291.out⟩, ⟨by repeat (first | (with_reducible first | exact HB.out | apply below_alloc | apply pw_below_drewN | apply below_drew1 | refine below_set ?_ GE291.out) | exact HB.out)⟩⟩
    case round =>
      clear H'
      try clear c1
      try clear p2
      try clear c3
      try clear c4
      try clear c4b0
      try clear c4b1
      try clear c4b2
      try clear hcz8_0
      try clear hcz8_1
      try clear hcz8_2
      try clear hfz8_0
      try clear hfz8_1
      try clear hfz8_2
      obtain ⟨x9_1, x22_1, rfl, HA, HK1, HO_8, HO_9, HO_20, BK291, HB⟩ := hrel
      cases gk with
      | zero => exact absurd HA.out (by simp [impl_notate.l0])
      | succ k1 =>
        have H := HA.out
        clear HA
        simp only [impl_notate.l0] at H
        by_cases c11 : x22_1 < (t292.length : Int)
        · rw [if_pos c11] at H
          have c11b0 : decide (x22_1 < (t292.length : Int)) = true := decide_eq_true c11
          clear c11
          by_cases c12 : 0 ≤ x22_1
          · rw [if_pos c12] at H
            have c12b0 : decide (0 ≤ x22_1) = true := decide_eq_true c12
            clear c12
            by_cases c13 : x22_1 < (t292.length : Int)
            · rw [if_pos c13] at H
              have c13b0 : decide (x22_1 < (t292.length : Int)) = true := decide_eq_true c13
              clear c13
              have HC14 := Aside0.mk H
              clear H
              have p296 : 0 ≤ (x22_1 : Int) := of_decide_eq_true (by first | (with_reducible assumption) | assumption)
              have q296 : x22_1 < (t292.length : Int) := of_decide_eq_true (by first | (with_reducible assumption) | assumption)
              obtain ⟨ad296, e296, hx296_0, hx296_1, hx296_2, hx296_3⟩ := at_T65 (Kd.R_reads' HO_20.out).2.2 x22_1 p296 q296
              cases e296
              replace p296 := eq_true p296
              replace q296 := eq_true q296
              go_upto_region 9 with (first | ((with_reducible refine gate_dst (N := 11) rfl ?_); refine box_event ?hg (N := 11) ?hd (cs := #[.int .i64 0, .int .i64 0, .int .i64 0, .bool false]) (t := 65) ?hr ?_; (case hd => rfl); (case hg => rfl); (case hr => first | (go_simp; done) | (go_simp; rfl)); intro gb297 hg w15 hbox hb; have n0_ := Aside0.mk (Kd.R_below (Kd.R_elderB (by (with_reducible repeat (first | apply Kd.R_alloc | apply Kd.R_drewN | apply Kd.R_drew)); exact HO_8.out) gb297 (Nat.le_of_eq hg.symm)) hb); have n1_ := Aside0.mk (Kd.R_below (by (with_reducible repeat (first | apply Kd.R_alloc | apply Kd.R_drewN | apply Kd.R_drew)); exact HO_9.out) hb); have n2_ := Aside0.mk (Kd.R_below (Kd.R_elderB (by (with_reducible repeat (first | apply Kd.R_alloc | apply Kd.R_drewN | apply Kd.R_drew)); exact HO_20.out) gb297 (Nat.le_of_eq hg.symm)) hb); have n3_ := Aside0.mk (blk_below (g := gb291) (o := .cells #[.string a1_0, .slice A1_1 l1_1.length c1_1, .slice A1_2 l1_2.length c1_2] 32 (0, 0)) (by (with_reducible repeat (first | refine blk_drewN ?_ _ | refine blk_drew ?_ | refine blk_alloc ?_ _)); exact BK291.out) hb); have n4_ := Aside0.mk (below_step (by repeat (first | (with_reducible first | exact HB.out | apply below_alloc | apply pw_below_drewN | apply below_drew1 | refine below_set ?_ GE291.out) | exact HB.out)) hb); have n5_ := Aside0.mk (hbox); have n6_ := Aside0.mk ((by rw [hg]; exact (below_size (by repeat (first | (with_reducible first | exact HB.out | apply below_alloc | apply pw_below_drewN | apply below_drew1 | refine below_set ?_ GE291.out) | exact HB.out))) : w.heap.size ≤ gb297)); have n7_ := Aside0.mk ((by rw [hg]; exact (below_size (by repeat (first | (with_reducible first | exact HB.out | apply below_alloc | apply pw_below_drewN | apply below_drew1 | refine below_set ?_ GE291.out) | exact HB.out))) : w.heap.size ≤ gb297)); have n8_ := Aside0.mk ((by rw [hg]; exact Nat.ne_of_lt (blk_lt (g := gb291) (o := .cells #[.string a1_0, .slice A1_1 l1_1.length c1_1, .slice A1_2 l1_2.length c1_2] 32 (0, 0)) (by (with_reducible repeat (first | refine blk_drewN ?_ _ | refine blk_drew ?_ | refine blk_alloc ?_ _)); exact BK291.out)) : gb291 ≠ gb297)); have n9_ := Aside0.mk ((by rw [hg]; exact Nat.ne_of_gt (blk_lt (g := gb291) (o := .cells #[.string a1_0, .slice A1_1 l1_1.length c1_1, .slice A1_2 l1_2.length c1_2] 32 (0, 0)) (by (with_reducible repeat (first | refine blk_drewN ?_ _ | refine blk_drew ?_ | refine blk_alloc ?_ _)); exact BK291.out)) : gb297 ≠ gb291)); clear HO_8; clear HO_9; clear HO_20; clear BK291; clear HB; have HO_8 := n0_; have HO_9 := n1_; have HO_20 := n2_; have BK291 := n3_; have HB := n4_; have BK297 := n5_; have GW297 := n6_; have GE297 := n7_; have NB291_297 := n8_; have NB297_291 := n9_; clear n0_ n1_ n2_ n3_ n4_ n5_ n6_ n7_ n8_ n9_; clear hb hbox hg; have hnb16 := NB297_291.out; have hnc16 := NB291_297.out; have hcz17_0 : w15.cell? ⟨gb297, 0, none⟩ = some (.int .i64 0) := (blk_cell BK297.out 0).trans rfl; have hcz17_1 : w15.cell? ⟨gb297, 1, none⟩ = some (.int .i64 0) := (blk_cell BK297.out 1).trans rfl; have hcz17_2 : w15.cell? ⟨gb297, 2, none⟩ = some (.int .i64 0) := (blk_cell BK297.out 2).trans rfl; have hcz17_3 : w15.cell? ⟨gb297, 3, none⟩ = some (.bool false) := (blk_cell BK297.out 3).trans rfl; have hfz17_0 := blk_frozen BK297.out 0; have hfz17_1 := blk_frozen BK297.out 1; have hfz17_2 := blk_frozen BK297.out 2; have hfz17_3 := blk_frozen BK297.out 3))
              (try simp only [Act.put, List.setIfInBounds_toArray, List.set_cons_zero, List.set_cons_succ])
              go_cut [30] (fun v30 wc => ∃ (kq : Nat) (x30_13 : Bool), v30 = .bool x30_13 ∧ Aside0 (impl_notate.j1 kq l0 t292 x9_1 t292 (t292.length : Int) x22_1 x30_13 ((rd_T65 t292 x22_1).f0) ((rd_T65 t292 x22_1).f1) ((rd_T65 t292 x22_1).f2) ((rd_T65 t292 x22_1).f3) = some (r1, r2)) ∧ Aside0 (kq ≤ k1) ∧ Aside0 (Kd.R k65 65 wc w.heap.size (fun k_ => k_ ≠ gb297) (.slice (some ad296) t292.length co10) t292) ∧ Aside0 (Kd.R Kd.string 9 wc w.heap.size (fun _ => True) u9 x9_1) ∧ Aside0 (Kd.R k65 65 wc w.heap.size (fun k_ => k_ ≠ gb297) (.slice (some ad296) t292.length co10) t292) ∧ Aside0 (wc.heap[gb291]? = some (.cells #[.string a1_0, (.slice A1_1 l1_1.length c1_1), (.slice A1_2 l1_2.length c1_2)] 32 (0, 0))) ∧ Aside0 (wc.heap[gb297]? = some (.cells #[.int .i64 ((rd_T65 t292 x22_1).f0), .int .i64 ((rd_T65 t292 x22_1).f1), .int .i64 ((rd_T65 t292 x22_1).f2), .bool ((rd_T65 t292 x22_1).f3)] 65 (0, 0))) ∧ Aside0 (Below w.heap.size w wc))
              case first =>
                have H := HC14.out
                clear HC14
                by_cases c18 : x22_1 = 0
                · rw [if_pos c18] at H
                  have c18b0 : (x22_1 == 0) = true := beq_iff_eq.mpr c18
                  have c18b1 : (x22_1 != 0) = false := bne_eq_false_iff_eq.mpr c18
                  clear c18
                  (first | rw [c18b0] | (simp only [i64_w, i32_w]; rw [c18b0]) | skip)
                  have H' := Aside0.mk H
                  clear H
                  go_wp2
                  go_meet
                  case rel => exact ⟨_, (true), (by first | rfl | (simp; done) | (simp [*]; done)), H', ⟨by have := HK1.out; first | omega | exact Nat.le_refl _⟩, ⟨by (with_reducible repeat (first | apply Kd.R_alloc | apply Kd.R_drewN | apply Kd.R_drew)); exact Kd.R_mono (Kd.R_far (p := ⟨gb297, 3, none⟩) (Kd.R_far (p := ⟨gb297, 2, none⟩) (Kd.R_far (p := ⟨gb297, 1, none⟩) (Kd.R_far (p := ⟨gb297, 0, none⟩) (Kd.R_mono HO_8.out (fun k_ hk => (⟨hk, hk.2⟩ : _ ∧ k_ ≠ gb297))) (fun _ hk => hk.2) (.int .i64 ((rd_T65 t292 x22_1).f0))) (fun _ hk => hk.2) (.int .i64 ((rd_T65 t292 x22_1).f1))) (fun _ hk => hk.2) (.int .i64 ((rd_T65 t292 x22_1).f2))) (fun _ hk => hk.2) (.bool ((rd_T65 t292 x22_1).f3))) (fun _ hk => hk.1.2)⟩, ⟨by (with_reducible repeat (first | apply Kd.R_alloc | apply Kd.R_drewN | apply Kd.R_drew)); exact Kd.R_mono (Kd.R_far (p := ⟨gb297, 3, none⟩) (Kd.R_far (p := ⟨gb297, 2, none⟩) (Kd.R_far (p := ⟨gb297, 1, none⟩) (Kd.R_far (p := ⟨gb297, 0, none⟩) (Kd.R_types HO_9.out BK297.out (by decide)) (fun _ hk => hk.2) (.int .i64 ((rd_T65 t292 x22_1).f0))) (fun _ hk => hk.2) (.int .i64 ((rd_T65 t292 x22_1).f1))) (fun _ hk => hk.2) (.int .i64 ((rd_T65 t292 x22_1).f2))) (fun _ hk => hk.2) (.bool ((rd_T65 t292 x22_1).f3))) (fun _ hk => trivial)⟩, ⟨by (with_reducible repeat (first | apply Kd.R_alloc | apply Kd.R_drewN | apply Kd.R_drew)); exact Kd.R_mono (Kd.R_far (p := ⟨gb297, 3, none⟩) (Kd.R_far (p := ⟨gb297, 2, none⟩) (Kd.R_far (p := ⟨gb297, 1, none⟩) (Kd.R_far (p := ⟨gb297, 0, none⟩) (Kd.R_mono HO_20.out (fun k_ hk => (⟨hk, hk.2⟩ : _ ∧ k_ ≠ gb297))) (fun _ hk => hk.2) (.int .i64 ((rd_T65 t292 x22_1).f0))) (fun _ hk => hk.2) (.int .i64 ((rd_T65 t292 x22_1).f1))) (fun _ hk => hk.2) (.int .i64 ((rd_T65 t292 x22_1).f2))) (fun _ hk => hk.2) (.bool ((rd_T65 t292 x22_1).f3))) (fun _ hk => hk.1.2)⟩, ⟨by (with_reducible repeat (first | refine blk_drewN ?_ _ | refine blk_drew ?_ | refine blk_alloc ?_ _)); refine blk_far ?_ NB291_297.out _; (with_reducible repeat (first | refine blk_drewN ?_ _ | refine blk_drew ?_ | refine blk_alloc ?_ _)); refine blk_far ?_ NB291_297.out _; (with_reducible repeat (first | refine blk_drewN ?_ _ | refine blk_drew ?_ | refine blk_alloc ?_ _)); refine blk_far ?_ NB291_297.out _; (with_reducible repeat (first | refine blk_drewN ?_ _ | refine blk_drew ?_ | refine blk_alloc ?_ _)); refine blk_far ?_ NB291_297.out _; (with_reducible repeat (first | refine blk_drewN ?_ _ | refine blk_drew ?_ | refine blk_alloc ?_ _)); exact BK291.out⟩, ⟨by (with_reducible repeat (first | refine blk_drewN ?_ _ | refine blk_drew ?_ | refine blk_alloc ?_ _)); refine blk_put (cs := #[.int .i64 ((rd_T65 t292 x22_1).f0), .int .i64 ((rd_T65 t292 x22_1).f1), .int .i64 ((rd_T65 t292 x22_1).f2), .bool false]) ?_ 3 _ rfl; (with_reducible repeat (first | refine blk_drewN ?_ _ | refine blk_drew ?_ | refine blk_alloc ?_ _)); refine blk_put (cs := #[.int .i64 ((rd_T65 t292 x22_1).f0), .int .i64 ((rd_T65 t292 x22_1).f1), .int .i64 0, .bool false]) ?_ 2 _ rfl; (with_reducible repeat (first | refine blk_drewN ?_ _ | refine blk_drew ?_ | refine blk_alloc ?_ _)); refine blk_put (cs := #[.int .i64 ((rd_T65 t292 x22_1).f0), .int .i64 0, .int .i64 0, .bool false]) ?_ 1 _ rfl; (with_reducible repeat (first | refine blk_drewN ?_ _ | refine blk_drew ?_ | refine blk_alloc ?_ _)); refine blk_put (cs := #[.int .i64 0, .int .i64 0, .int .i64 0, .bool false]) ?_ 0 _ rfl; (with_reducible repeat (first | refine blk_drewN ?_ _ | refine blk_drew ?_ | refine blk_alloc ?_ _)); exact BK297.out⟩, ⟨by repeat (first | (with_reducible first | exact HB.out | apply below_alloc | apply pw_below_drewN | apply below_drew1 | refine below_set ?_ GE291.out | refine below_set ?_ GE297.out) | exact HB.out)⟩⟩
                · rw [if_neg c18] at H
                  have c18b0 : (x22_1 == 0) = false := beq_eq_false_iff_ne.mpr c18
                  have c18b1 : (x22_1 != 0) = true := bne_iff_ne.mpr c18
                  (first | rw [c18b0] | (simp only [i64_w, i32_w]; rw [c18b0]) | skip)
                  have H' := Aside0.mk H
                  clear H
                  have hnb19 := NB297_291.out
                  have hnc19 := NB291_297.out
                  have hcz20_0 : w15.cell? ⟨gb297, 0, none⟩ = some (.int .i64 0) := (blk_cell BK297.out 0).trans rfl
                  have hcz20_1 : w15.cell? ⟨gb297, 1, none⟩ = some (.int .i64 0) := (blk_cell BK297.out 1).trans rfl
                  have hcz20_2 : w15.cell? ⟨gb297, 2, none⟩ = some (.int .i64 0) := (blk_cell BK297.out 2).trans rfl
                  have hcz20_3 : w15.cell? ⟨gb297, 3, none⟩ = some (.bool false) := (blk_cell BK297.out 3).trans rfl
                  have hfz20_0 := blk_frozen BK297.out 0
                  have hfz20_1 := blk_frozen BK297.out 1
                  have hfz20_2 := blk_frozen BK297.out 2
                  have hfz20_3 := blk_frozen BK297.out 3
                  go_wp2
                  go_meet
                  case rel => exact ⟨_, (decide (((rd_T65 t292 x22_1).f2) < 0)), (by first | rfl | (simp; done) | (simp [*]; done)), H', ⟨by have := HK1.out; first | omega | exact Nat.le_refl _⟩, ⟨by (with_reducible repeat (first | apply Kd.R_alloc | apply Kd.R_drewN | apply Kd.R_drew)); exact Kd.R_mono (Kd.R_far (p := ⟨gb297, 3, none⟩) (Kd.R_far (p := ⟨gb297, 2, none⟩) (Kd.R_far (p := ⟨gb297, 1, none⟩) (Kd.R_far (p := ⟨gb297, 0, none⟩) (Kd.R_mono HO_8.out (fun k_ hk => (⟨hk, hk.2⟩ : _ ∧ k_ ≠ gb297))) (fun _ hk => hk.2) (.int .i64 ((rd_T65 t292 x22_1).f0))) (fun _ hk => hk.2) (.int .i64 ((rd_T65 t292 x22_1).f1))) (fun _ hk => hk.2) (.int .i64 ((rd_T65 t292 x22_1).f2))) (fun _ hk => hk.2) (.bool ((rd_T65 t292 x22_1).f3))) (fun _ hk => hk.1.2)⟩, ⟨by (with_reducible repeat (first | apply Kd.R_alloc | apply Kd.R_drewN | apply Kd.R_drew)); exact Kd.R_mono (Kd.R_far (p := ⟨gb297, 3, none⟩) (Kd.R_far (p := ⟨gb297, 2, none⟩) (Kd.R_far (p := ⟨gb297, 1, none⟩) (Kd.R_far (p := ⟨gb297, 0, none⟩) (Kd.R_types HO_9.out BK297.out (by decide)) (fun _ hk => hk.2) (.int .i64 ((rd_T65 t292 x22_1).f0))) (fun _ hk => hk.2) (.int .i64 ((rd_T65 t292 x22_1).f1))) (fun _ hk => hk.2) (.int .i64 ((rd_T65 t292 x22_1).f2))) (fun _ hk => hk.2) (.bool ((rd_T65 t292 x22_1).f3))) (fun _ hk => trivial)⟩, ⟨by (with_reducible repeat (first | apply Kd.R_alloc | apply Kd.R_drewN | apply Kd.R_drew)); exact Kd.R_mono (Kd.R_far (p := ⟨gb297, 3, none⟩) (Kd.R_far (p := ⟨gb297, 2, none⟩) (Kd.R_far (p := ⟨gb297, 1, none⟩) (Kd.R_far (p := ⟨gb297, 0, none⟩) (Kd.R_mono HO_20.out (fun k_ hk => (⟨hk, hk.2⟩ : _ ∧ k_ ≠ gb297))) (fun _ hk => hk.2) (.int .i64 ((rd_T65 t292 x22_1).f0))) (fun _ hk => hk.2) (.int .i64 ((rd_T65 t292 x22_1).f1))) (fun _ hk => hk.2) (.int .i64 ((rd_T65 t292 x22_1).f2))) (fun _ hk => hk.2) (.bool ((rd_T65 t292 x22_1).f3))) (fun _ hk => hk.1.2)⟩, ⟨by (with_reducible repeat (first | refine blk_drewN ?_ _ | refine blk_drew ?_ | refine blk_alloc ?_ _)); refine blk_far ?_ NB291_297.out _; (with_reducible repeat (first | refine blk_drewN ?_ _ | refine blk_drew ?_ | refine blk_alloc ?_ _)); refine blk_far ?_ NB291_297.out _; (with_reducible repeat (first | refine blk_drewN ?_ _ | refine blk_drew ?_ | refine blk_alloc ?_ _)); refine blk_far ?_ NB291_297.out _; (with_reducible repeat (first | refine blk_drewN ?_ _ | refine blk_drew ?_ | refine blk_alloc ?_ _)); refine blk_far ?_ NB291_297.out _; (with_reducible repeat (first | refine blk_drewN ?_ _ | refine blk_drew ?_ | refine blk_alloc ?_ _)); exact BK291.out⟩, ⟨by (with_reducible repeat (first | refine blk_drewN ?_ _ | refine blk_drew ?_ | refine blk_alloc ?_ _)); refine blk_put (cs := #[.int .i64 ((rd_T65 t292 x22_1).f0), .int .i64 ((rd_T65 t292 x22_1).f1), .int .i64 ((rd_T65 t292 x22_1).f2), .bool false]) ?_ 3 _ rfl; (with_reducible repeat (first | refine blk_drewN ?_ _ | refine blk_drew ?_ | refine blk_alloc ?_ _)); refine blk_put (cs := #[.int .i64 ((rd_T65 t292 x22_1).f0), .int .i64 ((rd_T65 t292 x22_1).f1), .int .i64 0, .bool false]) ?_ 2 _ rfl; (with_reducible repeat (first | refine blk_drewN ?_ _ | refine blk_drew ?_ | refine blk_alloc ?_ _)); refine blk_put (cs := #[.int .i64 ((rd_T65 t292 x22_1).f0), .int .i64 0, .int .i64 0, .bool false]) ?_ 1 _ rfl; (with_reducible repeat (first | refine blk_drewN ?_ _ | refine blk_drew ?_ | refine blk_alloc ?_ _)); refine blk_put (cs := #[.int .i64 0, .int .i64 0, .int .i64 0, .bool false]) ?_ 0 _ rfl; (with_reducible repeat (first | refine blk_drewN ?_ _ | refine blk_drew ?_ | refine blk_alloc ?_ _)); exact BK297.out⟩, ⟨by repeat (first | (with_reducible first | exact HB.out | apply below_alloc | apply pw_below_drewN | apply below_drew1 | refine below_set ?_ GE291.out | refine below_set ?_ GE297.out) | exact HB.out)⟩⟩
              case rest =>
                clear HC14
                try clear c1
                try clear p2
                try clear q2
                try clear hx2
                try clear c3
                try clear c4
                try clear c4b0
                try clear c4b1
                try clear c4b2
                try clear c11
                try clear c11b0
                try clear c12
                try clear c12b0
                try clear c13
                try clear c13b0
                try clear c16
                try clear c18
                try clear c18b0
                try clear c18b1
                try clear c19
                try clear hcz17_0
                try clear hcz17_1
                try clear hcz17_2
                try clear hcz17_3
                try clear hcz20_0
                try clear hcz20_1
                try clear hcz20_2
                try clear hcz20_3
                try clear hcz8_0
                try clear hcz8_1
                try clear hcz8_2
                try clear hfz17_0
                try clear hfz17_1
                try clear hfz17_2
                try clear hfz17_3
                try clear hfz20_0
                try clear hfz20_1
                try clear hfz20_2
                try clear hfz20_3
                try clear hfz8_0
                try clear hfz8_1
                try clear hfz8_2
                try clear hx296_0
                try clear hx296_1
                try clear hx296_2
                try clear hx296_3
                try clear p2
                try clear p296
                try clear q296
                obtain ⟨kq, x30_13, rfl, HA, HJ13, HO_8, HO_9, HO_20, BK291, BK297, HB⟩ := hcut
                cases kq with
                | zero => exact absurd HA.out (by simp [impl_notate.j1])
                | succ kj13 =>
                  have H := HA.out
                  clear HA
                  simp only [impl_notate.j1] at H
                  by_cases c21 : x30_13 = true
                  · subst c21
                    have H1 : (if 0 ≤ ((rd_T65 t292 x22_1).f0) then (if ((rd_T65 t292 x22_1).f0) < (l0.length : Int) then ((impl_noteText.f ((rd_T44 l0 ((rd_T65 t292 x22_1).f0)).f0) ((rd_T65 t292 x22_1).f1)).bind fun t299 => (if ((rd_T65 t292 x22_1).f3) = true then (if 1 + t299.size ≤ 9223372036854775807 then (if x9_1.length < 8796093022208 then (impl_notate.l0 kj13 l0 t292 (x9_1 ++ [(⟨#[126]⟩ : ByteArray) ++ t299]) t292 (t292.length : Int) (wrap64 (x22_1 + 1))) else (none)) else (none)) else (if x9_1.length < 8796093022208 then (impl_notate.l0 kj13 l0 t292 (x9_1 ++ [t299]) t292 (t292.length : Int) (wrap64 (x22_1 + 1))) else (none)))) else (none)) else (none)) = some (r1, r2) := by rw [if_pos rfl] at H; exact H
                    clear H
                    have H := H1
                    clear H1
                    by_cases c22 : 0 ≤ ((rd_T65 t292 x22_1).f0)
                    · rw [if_pos c22] at H
                      have c22b0 : decide (0 ≤ ((rd_T65 t292 x22_1).f0)) = true := decide_eq_true c22
                      clear c22
                      by_cases c23 : ((rd_T65 t292 x22_1).f0) < (l0.length : Int)
                      · rw [if_pos c23] at H
                        have c23b0 : decide (((rd_T65 t292 x22_1).f0) < (l0.length : Int)) = true := decide_eq_true c23
                        clear c23
                        replace H := Option.bind_eq_some_iff.mp H
                        obtain ⟨t299, A240, H⟩ := H
                        replace H : (if ((rd_T65 t292 x22_1).f3) = true then (if 1 + t299.size ≤ 9223372036854775807 then (if x9_1.length < 8796093022208 then (impl_notate.l0 kj13 l0 t292 (x9_1 ++ [(⟨#[126]⟩ : ByteArray) ++ t299]) t292 (t292.length : Int) (wrap64 (x22_1 + 1))) else (none)) else (none)) else (if x9_1.length < 8796093022208 then (impl_notate.l0 kj13 l0 t292 (x9_1 ++ [t299]) t292 (t292.length : Int) (wrap64 (x22_1 + 1))) else (none))) = some (r1, r2) := H
                        have A24 := Aside0.mk A240
                        clear A240
                        by_cases c25 : ((rd_T65 t292 x22_1).f3) = true
                        · rw [if_pos c25] at H
                          have c25b0 : ((rd_T65 t292 x22_1).f3) = true := c25
                          clear c25
                          by_cases c26 : 1 + t299.size ≤ 9223372036854775807
                          · rw [if_pos c26] at H
                            have c26b0 := eq_true c26
                            have c26b1 : decide (1 + t299.size ≤ 9223372036854775807) = true := decide_eq_true c26
                            try have c26b2 : (9223372036854775807 < 1 + t299.size) = False := eq_false (Nat.not_lt.2 c26)
                            by_cases c27 : x9_1.length < 8796093022208
                            · rw [if_pos c27] at H
                              have LMc27 := Aside0.mk c27
                              clear c27
                              obtain ⟨y300, hy300⟩ : ∃ y_ : List ByteArray, y_ = (x9_1 ++ [(⟨#[126]⟩ : ByteArray) ++ t299]) := ⟨_, rfl⟩
                              replace H : (impl_notate.l0 kj13 l0 t292 y300 t292 (t292.length : Int) (wrap64 (x22_1 + 1))) = some (r1, r2) := by first | (rw [hy300]; with_reducible exact H) | (have H2_ := (Option.bind_some _ _).symm.trans H; rw [hy300]; with_reducible exact H2_) | (have H2_ := (Option.bind_some _ _).symm.trans H; with_reducible exact H2_) | with_reducible exact H | (rw [hy300]; exact H) | exact H
                              have Ny300 := Aside0.mk hy300
                              clear hy300
                              have H' := Aside0.mk H
                              clear H
                              try go_wp2
                              have n0_ := Aside0.mk (Kd.R_drew HO_8.out)
                              have n1_ := Aside0.mk (Kd.R_drew HO_9.out)
                              have n2_ := Aside0.mk (Kd.R_drew HO_20.out)
                              have n3_ := Aside0.mk (blk_drew BK291.out)
                              have n4_ := Aside0.mk (blk_drew BK297.out)
                              have n5_ := Aside0.mk (below_drew1 HB.out)
                              clear HO_8
                              clear HO_9
                              clear HO_20
                              clear BK291
                              clear BK297
                              clear HB
                              have HO_8 := n0_
                              have HO_9 := n1_
                              have HO_20 := n2_
                              have BK291 := n3_
                              have BK297 := n4_
                              have HB := n5_
                              clear n0_ n1_ n2_ n3_ n4_ n5_
                              have p298 : 0 ≤ (((rd_T65 t292 x22_1).f0) : Int) := of_decide_eq_true (by first | (with_reducible assumption) | assumption)
                              have q298 : ((rd_T65 t292 x22_1).f0) < (l0.length : Int) := of_decide_eq_true (by first | (with_reducible assumption) | assumption)
                              obtain ⟨ad298, e298, hx298_0, hx298_1⟩ := at_T44 HR0.out ((rd_T65 t292 x22_1).f0) p298 q298
                              have hw298_1 := hx298_1
                              have hw298_0 := hx298_0
                              cases e298
                              replace hx298_0 := (HB.out.cell (World.block_lt_of_cell? w _ hx298_0)).trans hx298_0
                              replace hx298_1 := (HB.out.cell (World.block_lt_of_cell? w _ hx298_1)).trans hx298_1
                              replace p298 := eq_true p298
                              replace q298 := eq_true q298
                              refine start_ (n := 10) (S := fun w' => w'.cell? ⟨gb297, 0, none⟩ = some (.int .i64 ((rd_T65 t292 x22_1).f0)) ∧ w'.cell? ⟨gb297, 1, none⟩ = some (.int .i64 ((rd_T65 t292 x22_1).f1)) ∧ w'.cell? ⟨gb297, 2, none⟩ = some (.int .i64 ((rd_T65 t292 x22_1).f2)) ∧ w'.cell? ⟨gb297, 3, none⟩ = some (.bool ((rd_T65 t292 x22_1).f3)) ∧ w'.cell? (ad298.add ((((rd_T65 t292 x22_1).f0)).toNat * 2)) = some (.int .i64 ((rd_T44 l0 ((rd_T65 t292 x22_1).f0)).f0)) ∧ w'.cell? ⟨(ad298.add ((((rd_T65 t292 x22_1).f0)).toNat * 2)).block, (ad298.add ((((rd_T65 t292 x22_1).f0)).toNat * 2)).off + 1, none⟩ = some (.int .i64 ((rd_T44 l0 ((rd_T65 t292 x22_1).f0)).f1))) (ds := []) #[false, false, false, false, false, false, false, false, false, false] (by kernel_rfl) rfl rfl ⟨(blk_cell BK297.out 0).trans rfl, (blk_cell BK297.out 1).trans rfl, (blk_cell BK297.out 2).trans rfl, (blk_cell BK297.out 3).trans rfl, ((HB.out.cell (World.block_lt_of_cell? w _ hw298_0)).trans hw298_0), ((HB.out.cell (World.block_lt_of_cell? w _ hw298_1)).trans hw298_1)⟩ (fun hHeld => ?_); refine with_tabW impl_notate.tab12 impl_notate.bits12 (fun HT_ HW_ => ?_)
                              generalize wc.drew = w28 at HO_8 HO_9 HO_20 BK291 BK297 HB hx298_0 hx298_1 hHeld ⊢
                              refine pure_ (i := 0) (N := some 45) (v := ?_) (a' := ?_) #[true, false, false, false, false, false, false, false, false, false] rfl rfl (any_of HT_.out (by kernel_rfl)) (fun _ _ _ h => h) (Or.inl ⟨by rfl, ?_⟩) ?_ ?_
                              rotate_left
                              · intro w'
                                go_simp
                                with_reducible rfl
                              rotate_left
                              · simp only [Act.put, List.setIfInBounds_toArray, List.set_cons_zero, List.set_cons_succ, i64_w, i32_w]
                                rfl
                              refine pure_ (i := 1) (N := some 46) (v := ?_) (a' := ?_) #[true, true, false, false, false, false, false, false, false, false] rfl rfl (any_of HT_.out (by kernel_rfl)) (fun _ _ _ h => h) (Or.inl ⟨by rfl, ?_⟩) ?_ ?_
                              rotate_left
                              · intro w'
                                go_simp
                                with_reducible rfl
                              rotate_left
                              · simp only [Act.put, List.setIfInBounds_toArray, List.set_cons_zero, List.set_cons_succ, i64_w, i32_w]
                                rfl
                              refine pure_ (i := 6) (N := some 51) (v := ?_) (a' := ?_) #[true, true, false, false, false, false, true, false, false, false] rfl rfl (any_of HT_.out (by kernel_rfl)) (fun _ _ _ h => h) (Or.inl ⟨by rfl, ?_⟩) ?_ ?_
                              rotate_left
                              · intro w'
                                go_simp
                                with_reducible rfl
                              rotate_left
                              · simp only [Act.put, List.setIfInBounds_toArray, List.set_cons_zero, List.set_cons_succ, i64_w, i32_w]
                                rfl
                              refine take_ (i := 2) (N := some 47) (v := ?_) (a' := ?_) #[true, true, true, false, false, false, true, false, false, false] rfl rfl (take_ofW HT_.out HW_.out (by kernel_rfl)) (fun _ _ _ h => h) (Or.inl ⟨by rfl, ?_⟩) hHeld ?_ ?_
                              rotate_left
                              · rintro w' ⟨s0, s1, s2, s3, s4, s5⟩
                                go_simp
                                with_reducible rfl
                              rotate_left
                              · simp only [Act.put, List.setIfInBounds_toArray, List.set_cons_zero, List.set_cons_succ, i64_w, i32_w]
                                rfl
                              refine pure_ (i := 3) (N := some 48) (v := ?_) (a' := ?_) #[true, true, true, true, false, false, true, false, false, false] rfl rfl (any_of HT_.out (by kernel_rfl)) (fun _ _ _ h => h) (Or.inl ⟨by rfl, ?_⟩) ?_ ?_
                              rotate_left
                              · intro w'
                                go_simp
                                with_reducible rfl
                              rotate_left
                              · simp only [Act.put, List.setIfInBounds_toArray, List.set_cons_zero, List.set_cons_succ, i64_w, i32_w]
                                rfl
                              refine pure_ (i := 4) (N := some 49) (v := ?_) (a' := ?_) #[true, true, true, true, true, false, true, false, false, false] rfl rfl (any_of HT_.out (by kernel_rfl)) (fun _ _ _ h => h) (Or.inl ⟨by rfl, ?_⟩) ?_ ?_
                              rotate_left
                              · intro w'
                                go_simp
                                with_reducible rfl
                              rotate_left
                              · simp only [Act.put, List.setIfInBounds_toArray, List.set_cons_zero, List.set_cons_succ, i64_w, i32_w]
                                rfl
                              refine take_ (i := 5) (N := some 50) (v := ?_) (a' := ?_) #[true, true, true, true, true, true, true, false, false, false] rfl rfl (take_ofW HT_.out HW_.out (by kernel_rfl)) (fun _ _ _ h => h) (Or.inl ⟨by rfl, ?_⟩) hHeld ?_ ?_
                              rotate_left
                              · rintro w' ⟨s0, s1, s2, s3, s4, s5⟩
                                go_simp
                                with_reducible rfl
                              rotate_left
                              · simp only [Act.put, List.setIfInBounds_toArray, List.set_cons_zero, List.set_cons_succ, i64_w, i32_w]
                                rfl
                              refine take_ (i := 7) (N := some 52) (v := ?_) (a' := ?_) #[true, true, true, true, true, true, true, true, false, false] rfl rfl (take_ofW HT_.out HW_.out (by kernel_rfl)) (fun _ _ _ h => h) (Or.inl ⟨by rfl, ?_⟩) hHeld ?_ ?_
                              rotate_left
                              · rintro w' ⟨s0, s1, s2, s3, s4, s5⟩
                                go_simp
                                with_reducible rfl
                              rotate_left
                              · simp only [Act.put, List.setIfInBounds_toArray, List.set_cons_zero, List.set_cons_succ, i64_w, i32_w]
                                rfl
                              refine one_ (i := 8) (N := some 53) #[true, true, true, true, true, true, true, true, true, false] rfl rfl (one_of HT_.out (by kernel_rfl)) (by decide) (fun K hK => ?_)
                              refine goes_ Tryd.func34 (by kernel_rfl) rfl #[.int .i64 ((rd_T44 l0 ((rd_T65 t292 x22_1).f0)).f0), .int .i64 ((rd_T65 t292 x22_1).f1)] (by rfl) rfl rfl (by (try simp only [List.map_toArray, List.map_cons, List.map_nil]); first | done | rfl | (simp only [List.length_drop, List.length_take]; rfl)) ?_
                              with_reducible refine (impl_noteText.calls ((rd_T44 l0 ((rd_T65 t292 x22_1).f0)).f0) ((rd_T65 t292 x22_1).f1) t299 _ ?side1 A24.out).mono ?_
                              (case side1 => exact Lv.below hL (by repeat (first | (with_reducible first | exact HB.out | apply below_alloc | apply pw_below_drewN | apply below_drew1 | refine below_set ?_ GE291.out | refine below_set ?_ GE297.out) | exact HB.out)))
                              rintro e w29 ⟨rfl, hb⟩
                              refine ⟨_, rfl, ?_⟩
                              have n0_ := Aside0.mk (Kd.R_below (by (with_reducible repeat (first | apply Kd.R_alloc | apply Kd.R_drewN | apply Kd.R_drew)); exact HO_8.out) hb)
                              have n1_ := Aside0.mk (Kd.R_below (by (with_reducible repeat (first | apply Kd.R_alloc | apply Kd.R_drewN | apply Kd.R_drew)); exact HO_9.out) hb)
                              have n2_ := Aside0.mk (Kd.R_below (by (with_reducible repeat (first | apply Kd.R_alloc | apply Kd.R_drewN | apply Kd.R_drew)); exact HO_20.out) hb)
                              have n3_ := Aside0.mk (blk_below (g := gb291) (o := .cells #[.string a1_0, .slice A1_1 l1_1.length c1_1, .slice A1_2 l1_2.length c1_2] 32 (0, 0)) (by (with_reducible repeat (first | refine blk_drewN ?_ _ | refine blk_drew ?_ | refine blk_alloc ?_ _)); exact BK291.out) hb)
                              have n4_ := Aside0.mk (blk_below (g := gb297) (o := .cells #[.int .i64 ((rd_T65 t292 x22_1).f0), .int .i64 ((rd_T65 t292 x22_1).f1), .int .i64 ((rd_T65 t292 x22_1).f2), .bool ((rd_T65 t292 x22_1).f3)] 65 (0, 0)) (by (with_reducible repeat (first | refine blk_drewN ?_ _ | refine blk_drew ?_ | refine blk_alloc ?_ _)); exact BK297.out) hb)
                              have n5_ := Aside0.mk (below_step (by repeat (first | (with_reducible first | exact HB.out | apply below_alloc | apply pw_below_drewN | apply below_drew1 | refine below_set ?_ GE291.out | refine below_set ?_ GE297.out) | exact HB.out)) hb)
                              clear HO_8
                              clear HO_9
                              clear HO_20
                              clear BK291
                              clear BK297
                              clear HB
                              have HO_8 := n0_
                              have HO_9 := n1_
                              have HO_20 := n2_
                              have BK291 := n3_
                              have BK297 := n4_
                              have HB := n5_
                              clear n0_ n1_ n2_ n3_ n4_ n5_
                              (try clear hb)
                              (try clear hb2)
                              (try clear hk)
                              (try clear hi)
                              refine hK.out _ _ ⟨(blk_cell BK297.out 0).trans rfl, (blk_cell BK297.out 1).trans rfl, (blk_cell BK297.out 2).trans rfl, (blk_cell BK297.out 3).trans rfl, ((HB.out.cell (World.block_lt_of_cell? w _ hw298_0)).trans hw298_0), ((HB.out.cell (World.block_lt_of_cell? w _ hw298_1)).trans hw298_1)⟩ (fun hHeld => ?_)
                              clear hK K
                              refine norm_ (a' := ?_) ?_ ?_
                              rotate_left
                              · show Act.put _ (some 53) _ = _
                                simp only [Act.put, List.setIfInBounds_toArray, List.set_cons_zero, List.set_cons_succ, i64_w, i32_w]
                                rfl
                              refine pure_ (i := 9) (N := some 12) (v := ?_) (a' := ?_) #[true, true, true, true, true, true, true, true, true, true] rfl rfl (any_of HT_.out (by kernel_rfl)) (fun _ _ _ h => h) (Or.inl ⟨by rfl, ?_⟩) ?_ ?_
                              rotate_left
                              · intro w'
                                go_simp
                                with_reducible rfl
                              rotate_left
                              · simp only [Act.put, List.setIfInBounds_toArray, List.set_cons_zero, List.set_cons_succ, i64_w, i32_w]
                                rfl
                              refine done_ (done_of HT_.out (by kernel_rfl)) ?_
                              have hnb30 := NB297_291.out
                              have hnc30 := NB291_297.out
                              have hcz31_0 : w29.cell? ⟨gb297, 0, none⟩ = some (.int .i64 ((rd_T65 t292 x22_1).f0)) := (blk_cell BK297.out 0).trans rfl
                              have hcz31_1 : w29.cell? ⟨gb297, 1, none⟩ = some (.int .i64 ((rd_T65 t292 x22_1).f1)) := (blk_cell BK297.out 1).trans rfl
                              have hcz31_2 : w29.cell? ⟨gb297, 2, none⟩ = some (.int .i64 ((rd_T65 t292 x22_1).f2)) := (blk_cell BK297.out 2).trans rfl
                              have hcz31_3 : w29.cell? ⟨gb297, 3, none⟩ = some (.bool ((rd_T65 t292 x22_1).f3)) := (blk_cell BK297.out 3).trans rfl
                              have hfz31_0 := blk_frozen BK297.out 0
                              have hfz31_1 := blk_frozen BK297.out 1
                              have hfz31_2 := blk_frozen BK297.out 2
                              have hfz31_3 := blk_frozen BK297.out 3
                              try go_wp2_with (first | ((with_reducible refine gate_builtin (b := .append) (xs := #[.tmp 58, .tmp 60]) rfl ?_); at_builtin; refine Kd.R_append Kd.string (w0 := w) w.heap.size rfl (.tmp 58) (.tmp 60) 63 9 (.string ⟨#[]⟩) 16 rfl Tryd.underlying63 info9 rfl (by decide) (by omega) u9 x9_1 ((⟨#[126]⟩ : ByteArray) ++ t299) [.string ((⟨#[126]⟩ : ByteArray) ++ t299)] (fun _ => True) (fun _ => False) rfl rfl ?aP (fun _ hk => hk.elim) ?aF ?aO ?aB ?aS ?aL ?_; (case aP => exact rfl); (case aB => exact (by repeat (first | (with_reducible first | exact HB.out | apply below_alloc | apply pw_below_drewN | apply below_drew1 | refine below_set ?_ GE291.out | refine below_set ?_ GE297.out) | exact HB.out))); (case aF => exact (fun _ _ => trivial)); (case aO => exact (by (with_reducible repeat (first | apply Kd.R_alloc | apply Kd.R_drewN | apply Kd.R_drew)); exact HO_9.out)); (case aS => exact (below_size (by repeat (first | (with_reducible first | exact HB.out | apply below_alloc | apply pw_below_drewN | apply below_drew1 | refine below_set ?_ GE291.out | refine below_set ?_ GE297.out) | exact HB.out)))); (case aL => have := LMc27.out; omega); intro v301 w32 ho hb hg hat; rw [← Ny300.out] at ho; have n0_ := Aside0.mk (Kd.R_over' (by (with_reducible repeat (first | apply Kd.R_alloc | apply Kd.R_drewN | apply Kd.R_drew)); exact HO_8.out) (Kd.R_typed (by (with_reducible repeat (first | apply Kd.R_alloc | apply Kd.R_drewN | apply Kd.R_drew)); exact HO_9.out)) (by decide) hg); have n1_ := Aside0.mk (Kd.R_over' (by (with_reducible repeat (first | apply Kd.R_alloc | apply Kd.R_drewN | apply Kd.R_drew)); exact HO_20.out) (Kd.R_typed (by (with_reducible repeat (first | apply Kd.R_alloc | apply Kd.R_drewN | apply Kd.R_drew)); exact HO_9.out)) (by decide) hg); have n2_ := Aside0.mk (blk_grown (g := gb291) (o := .cells #[.string a1_0, .slice A1_1 l1_1.length c1_1, .slice A1_2 l1_2.length c1_2] 32 (0, 0)) (by (with_reducible repeat (first | refine blk_drewN ?_ _ | refine blk_drew ?_ | refine blk_alloc ?_ _)); exact BK291.out) hg (Kd.R_ne HO_9.out BK291.out (by decide))); have n3_ := Aside0.mk (blk_grown (g := gb297) (o := .cells #[.int .i64 ((rd_T65 t292 x22_1).f0), .int .i64 ((rd_T65 t292 x22_1).f1), .int .i64 ((rd_T65 t292 x22_1).f2), .bool ((rd_T65 t292 x22_1).f3)] 65 (0, 0)) (by (with_reducible repeat (first | refine blk_drewN ?_ _ | refine blk_drew ?_ | refine blk_alloc ?_ _)); exact BK297.out) hg (Kd.R_ne HO_9.out BK297.out (by decide))); have n4_ := Aside0.mk (hb); have n5_ := Aside0.mk (ho); clear HO_8; clear HO_20; clear BK291; clear BK297; clear HB; clear HO_9; have HO_8 := n0_; have HO_20 := n1_; have BK291 := n2_; have BK297 := n3_; have HB := n4_; have HO302 := n5_; clear n0_ n1_ n2_ n3_ n4_ n5_; clear ho hb hg hat))
                              go_roundg kj13
                              case measure => have := HK1.out; have := HJ13.out; omega
                              case rel => exact ⟨(y300), (wrap64 (x22_1 + 1)), (by first | rfl | (simp; done) | (simp [*]; done)), H', ⟨by have := HK1.out; have := HJ13.out; omega⟩, ⟨by (with_reducible repeat (first | apply Kd.R_alloc | apply Kd.R_drewN | apply Kd.R_drew)); exact Kd.R_mono HO_8.out (fun _ hk => trivial)⟩, ⟨by (with_reducible repeat (first | apply Kd.R_alloc | apply Kd.R_drewN | apply Kd.R_drew)); exact HO302.out⟩, ⟨by (with_reducible repeat (first | apply Kd.R_alloc | apply Kd.R_drewN | apply Kd.R_drew)); exact Kd.R_mono HO_20.out (fun _ hk => trivial)⟩, ⟨by (with_reducible repeat (first | refine blk_drewN ?_ _ | refine blk_drew ?_ | refine blk_alloc ?_ _)); exact BK291.out⟩, ⟨by repeat (first | (with_reducible first | exact HB.out | apply below_alloc | apply pw_below_drewN | apply below_drew1 | refine below_set ?_ GE291.out | refine below_set ?_ GE297.out) | exact HB.out)⟩⟩
                            · rw [if_neg c27] at H
                              exact absurd H (by simp)
                          · rw [if_neg c26] at H
                            exact absurd H (by simp)
                        · rw [if_neg c25] at H
                          have c25b0 : ((rd_T65 t292 x22_1).f3) = false := by simpa using c25
                          clear c25
                          by_cases c33 : x9_1.length < 8796093022208
                          · rw [if_pos c33] at H
                            have LMc33 := Aside0.mk c33
                            clear c33
                            obtain ⟨y303, hy303⟩ : ∃ y_ : List ByteArray, y_ = (x9_1 ++ [t299]) := ⟨_, rfl⟩
                            replace H : (impl_notate.l0 kj13 l0 t292 y303 t292 (t292.length : Int) (wrap64 (x22_1 + 1))) = some (r1, r2) := by first | (rw [hy303]; with_reducible exact H) | (have H2_ := (Option.bind_some _ _).symm.trans H; rw [hy303]; with_reducible exact H2_) | (have H2_ := (Option.bind_some _ _).symm.trans H; with_reducible exact H2_) | with_reducible exact H | (rw [hy303]; exact H) | exact H
                            have Ny303 := Aside0.mk hy303
                            clear hy303
                            have H' := Aside0.mk H
                            clear H
                            try go_wp2
                            have n0_ := Aside0.mk (Kd.R_drew HO_8.out)
                            have n1_ := Aside0.mk (Kd.R_drew HO_9.out)
                            have n2_ := Aside0.mk (Kd.R_drew HO_20.out)
                            have n3_ := Aside0.mk (blk_drew BK291.out)
                            have n4_ := Aside0.mk (blk_drew BK297.out)
                            have n5_ := Aside0.mk (below_drew1 HB.out)
                            clear HO_8
                            clear HO_9
                            clear HO_20
                            clear BK291
                            clear BK297
                            clear HB
                            have HO_8 := n0_
                            have HO_9 := n1_
                            have HO_20 := n2_
                            have BK291 := n3_
                            have BK297 := n4_
                            have HB := n5_
                            clear n0_ n1_ n2_ n3_ n4_ n5_
                            have p298 : 0 ≤ (((rd_T65 t292 x22_1).f0) : Int) := of_decide_eq_true (by first | (with_reducible assumption) | assumption)
                            have q298 : ((rd_T65 t292 x22_1).f0) < (l0.length : Int) := of_decide_eq_true (by first | (with_reducible assumption) | assumption)
                            obtain ⟨ad298, e298, hx298_0, hx298_1⟩ := at_T44 HR0.out ((rd_T65 t292 x22_1).f0) p298 q298
                            have hw298_1 := hx298_1
                            have hw298_0 := hx298_0
                            cases e298
                            replace hx298_0 := (HB.out.cell (World.block_lt_of_cell? w _ hx298_0)).trans hx298_0
                            replace hx298_1 := (HB.out.cell (World.block_lt_of_cell? w _ hx298_1)).trans hx298_1
                            replace p298 := eq_true p298
                            replace q298 := eq_true q298
                            refine start_ (n := 10) (S := fun w' => w'.cell? ⟨gb297, 0, none⟩ = some (.int .i64 ((rd_T65 t292 x22_1).f0)) ∧ w'.cell? ⟨gb297, 1, none⟩ = some (.int .i64 ((rd_T65 t292 x22_1).f1)) ∧ w'.cell? ⟨gb297, 2, none⟩ = some (.int .i64 ((rd_T65 t292 x22_1).f2)) ∧ w'.cell? ⟨gb297, 3, none⟩ = some (.bool ((rd_T65 t292 x22_1).f3)) ∧ w'.cell? (ad298.add ((((rd_T65 t292 x22_1).f0)).toNat * 2)) = some (.int .i64 ((rd_T44 l0 ((rd_T65 t292 x22_1).f0)).f0)) ∧ w'.cell? ⟨(ad298.add ((((rd_T65 t292 x22_1).f0)).toNat * 2)).block, (ad298.add ((((rd_T65 t292 x22_1).f0)).toNat * 2)).off + 1, none⟩ = some (.int .i64 ((rd_T44 l0 ((rd_T65 t292 x22_1).f0)).f1))) (ds := []) #[false, false, false, false, false, false, false, false, false, false] (by kernel_rfl) rfl rfl ⟨(blk_cell BK297.out 0).trans rfl, (blk_cell BK297.out 1).trans rfl, (blk_cell BK297.out 2).trans rfl, (blk_cell BK297.out 3).trans rfl, ((HB.out.cell (World.block_lt_of_cell? w _ hw298_0)).trans hw298_0), ((HB.out.cell (World.block_lt_of_cell? w _ hw298_1)).trans hw298_1)⟩ (fun hHeld => ?_); refine with_tabW impl_notate.tab12 impl_notate.bits12 (fun HT_ HW_ => ?_)
                            generalize wc.drew = w34 at HO_8 HO_9 HO_20 BK291 BK297 HB hx298_0 hx298_1 hHeld ⊢
                            refine pure_ (i := 0) (N := some 45) (v := ?_) (a' := ?_) #[true, false, false, false, false, false, false, false, false, false] rfl rfl (any_of HT_.out (by kernel_rfl)) (fun _ _ _ h => h) (Or.inl ⟨by rfl, ?_⟩) ?_ ?_
                            rotate_left
                            · intro w'
                              go_simp
                              with_reducible rfl
                            rotate_left
                            · simp only [Act.put, List.setIfInBounds_toArray, List.set_cons_zero, List.set_cons_succ, i64_w, i32_w]
                              rfl
                            refine pure_ (i := 1) (N := some 46) (v := ?_) (a' := ?_) #[true, true, false, false, false, false, false, false, false, false] rfl rfl (any_of HT_.out (by kernel_rfl)) (fun _ _ _ h => h) (Or.inl ⟨by rfl, ?_⟩) ?_ ?_
                            rotate_left
                            · intro w'
                              go_simp
                              with_reducible rfl
                            rotate_left
                            · simp only [Act.put, List.setIfInBounds_toArray, List.set_cons_zero, List.set_cons_succ, i64_w, i32_w]
                              rfl
                            refine pure_ (i := 6) (N := some 51) (v := ?_) (a' := ?_) #[true, true, false, false, false, false, true, false, false, false] rfl rfl (any_of HT_.out (by kernel_rfl)) (fun _ _ _ h => h) (Or.inl ⟨by rfl, ?_⟩) ?_ ?_
                            rotate_left
                            · intro w'
                              go_simp
                              with_reducible rfl
                            rotate_left
                            · simp only [Act.put, List.setIfInBounds_toArray, List.set_cons_zero, List.set_cons_succ, i64_w, i32_w]
                              rfl
                            refine take_ (i := 2) (N := some 47) (v := ?_) (a' := ?_) #[true, true, true, false, false, false, true, false, false, false] rfl rfl (take_ofW HT_.out HW_.out (by kernel_rfl)) (fun _ _ _ h => h) (Or.inl ⟨by rfl, ?_⟩) hHeld ?_ ?_
                            rotate_left
                            · rintro w' ⟨s0, s1, s2, s3, s4, s5⟩
                              go_simp
                              with_reducible rfl
                            rotate_left
                            · simp only [Act.put, List.setIfInBounds_toArray, List.set_cons_zero, List.set_cons_succ, i64_w, i32_w]
                              rfl
                            refine pure_ (i := 3) (N := some 48) (v := ?_) (a' := ?_) #[true, true, true, true, false, false, true, false, false, false] rfl rfl (any_of HT_.out (by kernel_rfl)) (fun _ _ _ h => h) (Or.inl ⟨by rfl, ?_⟩) ?_ ?_
                            rotate_left
                            · intro w'
                              go_simp
                              with_reducible rfl
                            rotate_left
                            · simp only [Act.put, List.setIfInBounds_toArray, List.set_cons_zero, List.set_cons_succ, i64_w, i32_w]
                              rfl
                            refine pure_ (i := 4) (N := some 49) (v := ?_) (a' := ?_) #[true, true, true, true, true, false, true, false, false, false] rfl rfl (any_of HT_.out (by kernel_rfl)) (fun _ _ _ h => h) (Or.inl ⟨by rfl, ?_⟩) ?_ ?_
                            rotate_left
                            · intro w'
                              go_simp
                              with_reducible rfl
                            rotate_left
                            · simp only [Act.put, List.setIfInBounds_toArray, List.set_cons_zero, List.set_cons_succ, i64_w, i32_w]
                              rfl
                            refine take_ (i := 5) (N := some 50) (v := ?_) (a' := ?_) #[true, true, true, true, true, true, true, false, false, false] rfl rfl (take_ofW HT_.out HW_.out (by kernel_rfl)) (fun _ _ _ h => h) (Or.inl ⟨by rfl, ?_⟩) hHeld ?_ ?_
                            rotate_left
                            · rintro w' ⟨s0, s1, s2, s3, s4, s5⟩
                              go_simp
                              with_reducible rfl
                            rotate_left
                            · simp only [Act.put, List.setIfInBounds_toArray, List.set_cons_zero, List.set_cons_succ, i64_w, i32_w]
                              rfl
                            refine take_ (i := 7) (N := some 52) (v := ?_) (a' := ?_) #[true, true, true, true, true, true, true, true, false, false] rfl rfl (take_ofW HT_.out HW_.out (by kernel_rfl)) (fun _ _ _ h => h) (Or.inl ⟨by rfl, ?_⟩) hHeld ?_ ?_
                            rotate_left
                            · rintro w' ⟨s0, s1, s2, s3, s4, s5⟩
                              go_simp
                              with_reducible rfl
                            rotate_left
                            · simp only [Act.put, List.setIfInBounds_toArray, List.set_cons_zero, List.set_cons_succ, i64_w, i32_w]
                              rfl
                            refine one_ (i := 8) (N := some 53) #[true, true, true, true, true, true, true, true, true, false] rfl rfl (one_of HT_.out (by kernel_rfl)) (by decide) (fun K hK => ?_)
                            refine goes_ Tryd.func34 (by kernel_rfl) rfl #[.int .i64 ((rd_T44 l0 ((rd_T65 t292 x22_1).f0)).f0), .int .i64 ((rd_T65 t292 x22_1).f1)] (by rfl) rfl rfl (by (try simp only [List.map_toArray, List.map_cons, List.map_nil]); first | done | rfl | (simp only [List.length_drop, List.length_take]; rfl)) ?_
                            with_reducible refine (impl_noteText.calls ((rd_T44 l0 ((rd_T65 t292 x22_1).f0)).f0) ((rd_T65 t292 x22_1).f1) t299 _ ?side1 A24.out).mono ?_
                            (case side1 => exact Lv.below hL (by repeat (first | (with_reducible first | exact HB.out | apply below_alloc | apply pw_below_drewN | apply below_drew1 | refine below_set ?_ GE291.out | refine below_set ?_ GE297.out) | exact HB.out)))
                            rintro e w35 ⟨rfl, hb⟩
                            refine ⟨_, rfl, ?_⟩
                            have n0_ := Aside0.mk (Kd.R_below (by (with_reducible repeat (first | apply Kd.R_alloc | apply Kd.R_drewN | apply Kd.R_drew)); exact HO_8.out) hb)
                            have n1_ := Aside0.mk (Kd.R_below (by (with_reducible repeat (first | apply Kd.R_alloc | apply Kd.R_drewN | apply Kd.R_drew)); exact HO_9.out) hb)
                            have n2_ := Aside0.mk (Kd.R_below (by (with_reducible repeat (first | apply Kd.R_alloc | apply Kd.R_drewN | apply Kd.R_drew)); exact HO_20.out) hb)
                            have n3_ := Aside0.mk (blk_below (g := gb291) (o := .cells #[.string a1_0, .slice A1_1 l1_1.length c1_1, .slice A1_2 l1_2.length c1_2] 32 (0, 0)) (by (with_reducible repeat (first | refine blk_drewN ?_ _ | refine blk_drew ?_ | refine blk_alloc ?_ _)); exact BK291.out) hb)
                            have n4_ := Aside0.mk (blk_below (g := gb297) (o := .cells #[.int .i64 ((rd_T65 t292 x22_1).f0), .int .i64 ((rd_T65 t292 x22_1).f1), .int .i64 ((rd_T65 t292 x22_1).f2), .bool ((rd_T65 t292 x22_1).f3)] 65 (0, 0)) (by (with_reducible repeat (first | refine blk_drewN ?_ _ | refine blk_drew ?_ | refine blk_alloc ?_ _)); exact BK297.out) hb)
                            have n5_ := Aside0.mk (below_step (by repeat (first | (with_reducible first | exact HB.out | apply below_alloc | apply pw_below_drewN | apply below_drew1 | refine below_set ?_ GE291.out | refine below_set ?_ GE297.out) | exact HB.out)) hb)
                            clear HO_8
                            clear HO_9
                            clear HO_20
                            clear BK291
                            clear BK297
                            clear HB
                            have HO_8 := n0_
                            have HO_9 := n1_
                            have HO_20 := n2_
                            have BK291 := n3_
                            have BK297 := n4_
                            have HB := n5_
                            clear n0_ n1_ n2_ n3_ n4_ n5_
                            (try clear hb)
                            (try clear hb2)
                            (try clear hk)
                            (try clear hi)
                            refine hK.out _ _ ⟨(blk_cell BK297.out 0).trans rfl, (blk_cell BK297.out 1).trans rfl, (blk_cell BK297.out 2).trans rfl, (blk_cell BK297.out 3).trans rfl, ((HB.out.cell (World.block_lt_of_cell? w _ hw298_0)).trans hw298_0), ((HB.out.cell (World.block_lt_of_cell? w _ hw298_1)).trans hw298_1)⟩ (fun hHeld => ?_)
                            clear hK K
                            refine norm_ (a' := ?_) ?_ ?_
                            rotate_left
                            · show Act.put _ (some 53) _ = _
                              simp only [Act.put, List.setIfInBounds_toArray, List.set_cons_zero, List.set_cons_succ, i64_w, i32_w]
                              rfl
                            refine pure_ (i := 9) (N := some 12) (v := ?_) (a' := ?_) #[true, true, true, true, true, true, true, true, true, true] rfl rfl (any_of HT_.out (by kernel_rfl)) (fun _ _ _ h => h) (Or.inl ⟨by rfl, ?_⟩) ?_ ?_
                            rotate_left
                            · intro w'
                              go_simp
                              with_reducible rfl
                            rotate_left
                            · simp only [Act.put, List.setIfInBounds_toArray, List.set_cons_zero, List.set_cons_succ, i64_w, i32_w]
                              rfl
                            refine done_ (done_of HT_.out (by kernel_rfl)) ?_
                            have hnb36 := NB297_291.out
                            have hnc36 := NB291_297.out
                            have hcz37_0 : w35.cell? ⟨gb297, 0, none⟩ = some (.int .i64 ((rd_T65 t292 x22_1).f0)) := (blk_cell BK297.out 0).trans rfl
                            have hcz37_1 : w35.cell? ⟨gb297, 1, none⟩ = some (.int .i64 ((rd_T65 t292 x22_1).f1)) := (blk_cell BK297.out 1).trans rfl
                            have hcz37_2 : w35.cell? ⟨gb297, 2, none⟩ = some (.int .i64 ((rd_T65 t292 x22_1).f2)) := (blk_cell BK297.out 2).trans rfl
                            have hcz37_3 : w35.cell? ⟨gb297, 3, none⟩ = some (.bool ((rd_T65 t292 x22_1).f3)) := (blk_cell BK297.out 3).trans rfl
                            have hfz37_0 := blk_frozen BK297.out 0
                            have hfz37_1 := blk_frozen BK297.out 1
                            have hfz37_2 := blk_frozen BK297.out 2
                            have hfz37_3 := blk_frozen BK297.out 3
                            try go_wp2_with (first | ((with_reducible refine gate_builtin (b := .append) (xs := #[.tmp 58, .tmp 60]) rfl ?_); at_builtin; refine Kd.R_append Kd.string (w0 := w) w.heap.size rfl (.tmp 58) (.tmp 60) 63 9 (.string ⟨#[]⟩) 16 rfl Tryd.underlying63 info9 rfl (by decide) (by omega) u9 x9_1 t299 [.string t299] (fun _ => True) (fun _ => False) rfl rfl ?aP (fun _ hk => hk.elim) ?aF ?aO ?aB ?aS ?aL ?_; (case aP => exact rfl); (case aB => exact (by repeat (first | (with_reducible first | exact HB.out | apply below_alloc | apply pw_below_drewN | apply below_drew1 | refine below_set ?_ GE291.out | refine below_set ?_ GE297.out) | exact HB.out))); (case aF => exact (fun _ _ => trivial)); (case aO => exact (by (with_reducible repeat (first | apply Kd.R_alloc | apply Kd.R_drewN | apply Kd.R_drew)); exact HO_9.out)); (case aS => exact (below_size (by repeat (first | (with_reducible first | exact HB.out | apply below_alloc | apply pw_below_drewN | apply below_drew1 | refine below_set ?_ GE291.out | refine below_set ?_ GE297.out) | exact HB.out)))); (case aL => have := LMc33.out; omega); intro v304 w38 ho hb hg hat; rw [← Ny303.out] at ho; have n0_ := Aside0.mk (Kd.R_over' (by (with_reducible repeat (first | apply Kd.R_alloc | apply Kd.R_drewN | apply Kd.R_drew)); exact HO_8.out) (Kd.R_typed (by (with_reducible repeat (first | apply Kd.R_alloc | apply Kd.R_drewN | apply Kd.R_drew)); exact HO_9.out)) (by decide) hg); have n1_ := Aside0.mk (Kd.R_over' (by (with_reducible repeat (first | apply Kd.R_alloc | apply Kd.R_drewN | apply Kd.R_drew)); exact HO_20.out) (Kd.R_typed (by (with_reducible repeat (first | apply Kd.R_alloc | apply Kd.R_drewN | apply Kd.R_drew)); exact HO_9.out)) (by decide) hg); have n2_ := Aside0.mk (blk_grown (g := gb291) (o := .cells #[.string a1_0, .slice A1_1 l1_1.length c1_1, .slice A1_2 l1_2.length c1_2] 32 (0, 0)) (by (with_reducible repeat (first | refine blk_drewN ?_ _ | refine blk_drew ?_ | refine blk_alloc ?_ _)); exact BK291.out) hg (Kd.R_ne HO_9.out BK291.out (by decide))); have n3_ := Aside0.mk (blk_grown (g := gb297) (o := .cells #[.int .i64 ((rd_T65 t292 x22_1).f0), .int .i64 ((rd_T65 t292 x22_1).f1), .int .i64 ((rd_T65 t292 x22_1).f2), .bool ((rd_T65 t292 x22_1).f3)] 65 (0, 0)) (by (with_reducible repeat (first | refine blk_drewN ?_ _ | refine blk_drew ?_ | refine blk_alloc ?_ _)); exact BK297.out) hg (Kd.R_ne HO_9.out BK297.out (by decide))); have n4_ := Aside0.mk (hb); have n5_ := Aside0.mk (ho); clear HO_8; clear HO_20; clear BK291; clear BK297; clear HB; clear HO_9; have HO_8 := n0_; have HO_20 := n1_; have BK291 := n2_; have BK297 := n3_; have HB := n4_; have HO305 := n5_; clear n0_ n1_ n2_ n3_ n4_ n5_; clear ho hb hg hat))
                            go_roundg kj13
                            case measure => have := HK1.out; have := HJ13.out; omega
                            case rel => exact ⟨(y303), (wrap64 (x22_1 + 1)), (by first | rfl | (simp; done) | (simp [*]; done)), H', ⟨by have := HK1.out; have := HJ13.out; omega⟩, ⟨by (with_reducible repeat (first | apply Kd.R_alloc | apply Kd.R_drewN | apply Kd.R_drew)); exact Kd.R_mono HO_8.out (fun _ hk => trivial)⟩, ⟨by (with_reducible repeat (first | apply Kd.R_alloc | apply Kd.R_drewN | apply Kd.R_drew)); exact HO305.out⟩, ⟨by (with_reducible repeat (first | apply Kd.R_alloc | apply Kd.R_drewN | apply Kd.R_drew)); exact Kd.R_mono HO_20.out (fun _ hk => trivial)⟩, ⟨by (with_reducible repeat (first | refine blk_drewN ?_ _ | refine blk_drew ?_ | refine blk_alloc ?_ _)); exact BK291.out⟩, ⟨by repeat (first | (with_reducible first | exact HB.out | apply below_alloc | apply pw_below_drewN | apply below_drew1 | refine below_set ?_ GE291.out | refine below_set ?_ GE297.out) | exact HB.out)⟩⟩
                          · rw [if_neg c33] at H
                            exact absurd H (by simp)
                      · rw [if_neg c23] at H
                        exact absurd H (by simp)
                    · rw [if_neg c22] at H
                      exact absurd H (by simp)
                  · replace c21 := Bool.eq_false_iff.mpr c21
                    subst c21
                    have H1 : (if ((rd_T65 t292 x22_1).f2) = 0 then (if x9_1.length < 8796093022208 then ((some (x9_1 ++ [(⟨#[124, 124]⟩ : ByteArray)] : List ByteArray)).bind fun y306 => (if 0 ≤ ((rd_T65 t292 x22_1).f0) then (if ((rd_T65 t292 x22_1).f0) < (l0.length : Int) then ((impl_noteText.f ((rd_T44 l0 ((rd_T65 t292 x22_1).f0)).f0) ((rd_T65 t292 x22_1).f1)).bind fun t310 => (if ((rd_T65 t292 x22_1).f3) = true then (if 1 + t310.size ≤ 9223372036854775807 then (if y306.length < 8796093022208 then (impl_notate.l0 kj13 l0 t292 (y306 ++ [(⟨#[126]⟩ : ByteArray) ++ t310]) t292 (t292.length : Int) (wrap64 (x22_1 + 1))) else (none)) else (none)) else (if y306.length < 8796093022208 then (impl_notate.l0 kj13 l0 t292 (y306 ++ [t310]) t292 (t292.length : Int) (wrap64 (x22_1 + 1))) else (none)))) else (none)) else (none))) else (none)) else (if x9_1.length < 8796093022208 then ((some (x9_1 ++ [(⟨#[124]⟩ : ByteArray)] : List ByteArray)).bind fun y317 => (if 0 ≤ ((rd_T65 t292 x22_1).f0) then (if ((rd_T65 t292 x22_1).f0) < (l0.length : Int) then ((impl_noteText.f ((rd_T44 l0 ((rd_T65 t292 x22_1).f0)).f0) ((rd_T65 t292 x22_1).f1)).bind fun t321 => (if ((rd_T65 t292 x22_1).f3) = true then (if 1 + t321.size ≤ 9223372036854775807 then (if y317.length < 8796093022208 then (impl_notate.l0 kj13 l0 t292 (y317 ++ [(⟨#[126]⟩ : ByteArray) ++ t321]) t292 (t292.length : Int) (wrap64 (x22_1 + 1))) else (none)) else (none)) else (if y317.length < 8796093022208 then (impl_notate.l0 kj13 l0 t292 (y317 ++ [t321]) t292 (t292.length : Int) (wrap64 (x22_1 + 1))) else (none)))) else (none)) else (none))) else (none))) = some (r1, r2) := by rw [if_neg (show ¬ (false = true) by decide)] at H; exact H
                    clear H
                    have H := H1
                    clear H1
                    by_cases c39 : ((rd_T65 t292 x22_1).f2) = 0
                    · rw [if_pos c39] at H
                      have c39b0 : (((rd_T65 t292 x22_1).f2) == 0) = true := beq_iff_eq.mpr c39
                      have c39b1 : (((rd_T65 t292 x22_1).f2) != 0) = false := bne_eq_false_iff_eq.mpr c39
                      clear c39
                      by_cases c40 : x9_1.length < 8796093022208
                      · rw [if_pos c40] at H
                        have LMc40 := Aside0.mk c40
                        clear c40
                        obtain ⟨y306, hy306⟩ : ∃ y_ : List ByteArray, y_ = (x9_1 ++ [(⟨#[124, 124]⟩ : ByteArray)]) := ⟨_, rfl⟩
                        replace H : (if 0 ≤ ((rd_T65 t292 x22_1).f0) then (if ((rd_T65 t292 x22_1).f0) < (l0.length : Int) then ((impl_noteText.f ((rd_T44 l0 ((rd_T65 t292 x22_1).f0)).f0) ((rd_T65 t292 x22_1).f1)).bind fun t310 => (if ((rd_T65 t292 x22_1).f3) = true then (if 1 + t310.size ≤ 9223372036854775807 then (if y306.length < 8796093022208 then (impl_notate.l0 kj13 l0 t292 (y306 ++ [(⟨#[126]⟩ : ByteArray) ++ t310]) t292 (t292.length : Int) (wrap64 (x22_1 + 1))) else (none)) else (none)) else (if y306.length < 8796093022208 then (impl_notate.l0 kj13 l0 t292 (y306 ++ [t310]) t292 (t292.length : Int) (wrap64 (x22_1 + 1))) else (none)))) else (none)) else (none)) = some (r1, r2) := by first | (rw [hy306]; with_reducible exact H) | (have H2_ := (Option.bind_some _ _).symm.trans H; rw [hy306]; with_reducible exact H2_) | (have H2_ := (Option.bind_some _ _).symm.trans H; with_reducible exact H2_) | with_reducible exact H | (rw [hy306]; exact H) | exact H
                        have Ny306 := Aside0.mk hy306
                        clear hy306
                        by_cases c41 : 0 ≤ ((rd_T65 t292 x22_1).f0)
                        · rw [if_pos c41] at H
                          have c41b0 : decide (0 ≤ ((rd_T65 t292 x22_1).f0)) = true := decide_eq_true c41
                          clear c41
                          by_cases c42 : ((rd_T65 t292 x22_1).f0) < (l0.length : Int)
                          · rw [if_pos c42] at H
                            have c42b0 : decide (((rd_T65 t292 x22_1).f0) < (l0.length : Int)) = true := decide_eq_true c42
                            clear c42
                            replace H := Option.bind_eq_some_iff.mp H
                            obtain ⟨t310, A430, H⟩ := H
                            replace H : (if ((rd_T65 t292 x22_1).f3) = true then (if 1 + t310.size ≤ 9223372036854775807 then (if y306.length < 8796093022208 then (impl_notate.l0 kj13 l0 t292 (y306 ++ [(⟨#[126]⟩ : ByteArray) ++ t310]) t292 (t292.length : Int) (wrap64 (x22_1 + 1))) else (none)) else (none)) else (if y306.length < 8796093022208 then (impl_notate.l0 kj13 l0 t292 (y306 ++ [t310]) t292 (t292.length : Int) (wrap64 (x22_1 + 1))) else (none))) = some (r1, r2) := H
                            have A43 := Aside0.mk A430
                            clear A430
                            by_cases c44 : ((rd_T65 t292 x22_1).f3) = true
                            · rw [if_pos c44] at H
                              have c44b0 : ((rd_T65 t292 x22_1).f3) = true := c44
                              clear c44
                              by_cases c45 : 1 + t310.size ≤ 9223372036854775807
                              · rw [if_pos c45] at H
                                have c45b0 := eq_true c45
                                have c45b1 : decide (1 + t310.size ≤ 9223372036854775807) = true := decide_eq_true c45
                                try have c45b2 : (9223372036854775807 < 1 + t310.size) = False := eq_false (Nat.not_lt.2 c45)
                                by_cases c46 : y306.length < 8796093022208
                                · rw [if_pos c46] at H
                                  have LMc46 := Aside0.mk c46
                                  clear c46
                                  obtain ⟨y311, hy311⟩ : ∃ y_ : List ByteArray, y_ = (y306 ++ [(⟨#[126]⟩ : ByteArray) ++ t310]) := ⟨_, rfl⟩
                                  replace H : (impl_notate.l0 kj13 l0 t292 y311 t292 (t292.length : Int) (wrap64 (x22_1 + 1))) = some (r1, r2) := by first | (rw [hy311]; with_reducible exact H) | (have H2_ := (Option.bind_some _ _).symm.trans H; rw [hy311]; with_reducible exact H2_) | (have H2_ := (Option.bind_some _ _).symm.trans H; with_reducible exact H2_) | with_reducible exact H | (rw [hy311]; exact H) | exact H
                                  have Ny311 := Aside0.mk hy311
                                  clear hy311
                                  have H' := Aside0.mk H
                                  clear H
                                  have hnb47 := NB297_291.out
                                  have hnc47 := NB291_297.out
                                  have hcz48_0 : wc.cell? ⟨gb297, 0, none⟩ = some (.int .i64 ((rd_T65 t292 x22_1).f0)) := (blk_cell BK297.out 0).trans rfl
                                  have hcz48_1 : wc.cell? ⟨gb297, 1, none⟩ = some (.int .i64 ((rd_T65 t292 x22_1).f1)) := (blk_cell BK297.out 1).trans rfl
                                  have hcz48_2 : wc.cell? ⟨gb297, 2, none⟩ = some (.int .i64 ((rd_T65 t292 x22_1).f2)) := (blk_cell BK297.out 2).trans rfl
                                  have hcz48_3 : wc.cell? ⟨gb297, 3, none⟩ = some (.bool ((rd_T65 t292 x22_1).f3)) := (blk_cell BK297.out 3).trans rfl
                                  have hfz48_0 := blk_frozen BK297.out 0
                                  have hfz48_1 := blk_frozen BK297.out 1
                                  have hfz48_2 := blk_frozen BK297.out 2
                                  have hfz48_3 := blk_frozen BK297.out 3
                                  try go_wp2_with (first | ((with_reducible refine gate_builtin (b := .append) (xs := #[.tmp 42, .tmp 43]) rfl ?_); at_builtin; refine Kd.R_append Kd.string (w0 := w) w.heap.size rfl (.tmp 42) (.tmp 43) 63 9 (.string ⟨#[]⟩) 16 rfl Tryd.underlying63 info9 rfl (by decide) (by omega) u9 x9_1 (⟨#[124, 124]⟩ : ByteArray) [.string (⟨#[124, 124]⟩ : ByteArray)] (fun _ => True) (fun _ => False) rfl rfl ?aP (fun _ hk => hk.elim) ?aF ?aO ?aB ?aS ?aL ?_; (case aP => exact rfl); (case aB => exact (by repeat (first | (with_reducible first | exact HB.out | apply below_alloc | apply pw_below_drewN | apply below_drew1 | refine below_set ?_ GE291.out | refine below_set ?_ GE297.out) | exact HB.out))); (case aF => exact (fun _ _ => trivial)); (case aO => exact (by (with_reducible repeat (first | apply Kd.R_alloc | apply Kd.R_drewN | apply Kd.R_drew)); exact HO_9.out)); (case aS => exact (below_size (by repeat (first | (with_reducible first | exact HB.out | apply below_alloc | apply pw_below_drewN | apply below_drew1 | refine below_set ?_ GE291.out | refine below_set ?_ GE297.out) | exact HB.out)))); (case aL => have := LMc40.out; omega); intro v307 w49 ho hb hg hat; rw [← Ny306.out] at ho; have n0_ := Aside0.mk (Kd.R_over' (by (with_reducible repeat (first | apply Kd.R_alloc | apply Kd.R_drewN | apply Kd.R_drew)); exact HO_8.out) (Kd.R_typed (by (with_reducible repeat (first | apply Kd.R_alloc | apply Kd.R_drewN | apply Kd.R_drew)); exact HO_9.out)) (by decide) hg); have n1_ := Aside0.mk (Kd.R_over' (by (with_reducible repeat (first | apply Kd.R_alloc | apply Kd.R_drewN | apply Kd.R_drew)); exact HO_20.out) (Kd.R_typed (by (with_reducible repeat (first | apply Kd.R_alloc | apply Kd.R_drewN | apply Kd.R_drew)); exact HO_9.out)) (by decide) hg); have n2_ := Aside0.mk (blk_grown (g := gb291) (o := .cells #[.string a1_0, .slice A1_1 l1_1.length c1_1, .slice A1_2 l1_2.length c1_2] 32 (0, 0)) (by (with_reducible repeat (first | refine blk_drewN ?_ _ | refine blk_drew ?_ | refine blk_alloc ?_ _)); exact BK291.out) hg (Kd.R_ne HO_9.out BK291.out (by decide))); have n3_ := Aside0.mk (blk_grown (g := gb297) (o := .cells #[.int .i64 ((rd_T65 t292 x22_1).f0), .int .i64 ((rd_T65 t292 x22_1).f1), .int .i64 ((rd_T65 t292 x22_1).f2), .bool ((rd_T65 t292 x22_1).f3)] 65 (0, 0)) (by (with_reducible repeat (first | refine blk_drewN ?_ _ | refine blk_drew ?_ | refine blk_alloc ?_ _)); exact BK297.out) hg (Kd.R_ne HO_9.out BK297.out (by decide))); have n4_ := Aside0.mk (hb); have n5_ := Aside0.mk (ho); clear HO_8; clear HO_20; clear BK291; clear BK297; clear HB; clear HO_9; have HO_8 := n0_; have HO_20 := n1_; have BK291 := n2_; have BK297 := n3_; have HB := n4_; have HO308 := n5_; clear n0_ n1_ n2_ n3_ n4_ n5_; clear ho hb hg hat))
                                  have n0_ := Aside0.mk (Kd.R_drew HO_8.out)
                                  have n1_ := Aside0.mk (Kd.R_drew HO_20.out)
                                  have n2_ := Aside0.mk (Kd.R_drew HO308.out)
                                  have n3_ := Aside0.mk (blk_drew BK291.out)
                                  have n4_ := Aside0.mk (blk_drew BK297.out)
                                  have n5_ := Aside0.mk (below_drew1 HB.out)
                                  clear HO_8
                                  clear HO_20
                                  clear HO308
                                  clear BK291
                                  clear BK297
                                  clear HB
                                  have HO_8 := n0_
                                  have HO_20 := n1_
                                  have HO308 := n2_
                                  have BK291 := n3_
                                  have BK297 := n4_
                                  have HB := n5_
                                  clear n0_ n1_ n2_ n3_ n4_ n5_
                                  have p309 : 0 ≤ (((rd_T65 t292 x22_1).f0) : Int) := of_decide_eq_true (by first | (with_reducible assumption) | assumption)
                                  have q309 : ((rd_T65 t292 x22_1).f0) < (l0.length : Int) := of_decide_eq_true (by first | (with_reducible assumption) | assumption)
                                  obtain ⟨ad309, e309, hx309_0, hx309_1⟩ := at_T44 HR0.out ((rd_T65 t292 x22_1).f0) p309 q309
                                  have hw309_1 := hx309_1
                                  have hw309_0 := hx309_0
                                  cases e309
                                  replace hx309_0 := (HB.out.cell (World.block_lt_of_cell? w _ hx309_0)).trans hx309_0
                                  replace hx309_1 := (HB.out.cell (World.block_lt_of_cell? w _ hx309_1)).trans hx309_1
                                  replace p309 := eq_true p309
                                  replace q309 := eq_true q309
                                  refine start_ (n := 10) (S := fun w' => w'.cell? ⟨gb297, 0, none⟩ = some (.int .i64 ((rd_T65 t292 x22_1).f0)) ∧ w'.cell? ⟨gb297, 1, none⟩ = some (.int .i64 ((rd_T65 t292 x22_1).f1)) ∧ w'.cell? ⟨gb297, 2, none⟩ = some (.int .i64 ((rd_T65 t292 x22_1).f2)) ∧ w'.cell? ⟨gb297, 3, none⟩ = some (.bool ((rd_T65 t292 x22_1).f3)) ∧ w'.cell? (ad309.add ((((rd_T65 t292 x22_1).f0)).toNat * 2)) = some (.int .i64 ((rd_T44 l0 ((rd_T65 t292 x22_1).f0)).f0)) ∧ w'.cell? ⟨(ad309.add ((((rd_T65 t292 x22_1).f0)).toNat * 2)).block, (ad309.add ((((rd_T65 t292 x22_1).f0)).toNat * 2)).off + 1, none⟩ = some (.int .i64 ((rd_T44 l0 ((rd_T65 t292 x22_1).f0)).f1))) (ds := []) #[false, false, false, false, false, false, false, false, false, false] (by kernel_rfl) rfl rfl ⟨(blk_cell BK297.out 0).trans rfl, (blk_cell BK297.out 1).trans rfl, (blk_cell BK297.out 2).trans rfl, (blk_cell BK297.out 3).trans rfl, ((HB.out.cell (World.block_lt_of_cell? w _ hw309_0)).trans hw309_0), ((HB.out.cell (World.block_lt_of_cell? w _ hw309_1)).trans hw309_1)⟩ (fun hHeld => ?_); refine with_tabW impl_notate.tab12 impl_notate.bits12 (fun HT_ HW_ => ?_)
                                  generalize w49.drew = w50 at HO_8 HO_20 HO308 BK291 BK297 HB hx309_0 hx309_1 hHeld ⊢
                                  refine pure_ (i := 0) (N := some 45) (v := ?_) (a' := ?_) #[true, false, false, false, false, false, false, false, false, false] rfl rfl (any_of HT_.out (by kernel_rfl)) (fun _ _ _ h => h) (Or.inl ⟨by rfl, ?_⟩) ?_ ?_
                                  rotate_left
                                  · intro w'
                                    go_simp
                                    with_reducible rfl
                                  rotate_left
                                  · simp only [Act.put, List.setIfInBounds_toArray, List.set_cons_zero, List.set_cons_succ, i64_w, i32_w]
                                    rfl
                                  refine pure_ (i := 1) (N := some 46) (v := ?_) (a' := ?_) #[true, true, false, false, false, false, false, false, false, false] rfl rfl (any_of HT_.out (by kernel_rfl)) (fun _ _ _ h => h) (Or.inl ⟨by rfl, ?_⟩) ?_ ?_
                                  rotate_left
                                  · intro w'
                                    go_simp
                                    with_reducible rfl
                                  rotate_left
                                  · simp only [Act.put, List.setIfInBounds_toArray, List.set_cons_zero, List.set_cons_succ, i64_w, i32_w]
                                    rfl
                                  refine pure_ (i := 6) (N := some 51) (v := ?_) (a' := ?_) #[true, true, false, false, false, false, true, false, false, false] rfl rfl (any_of HT_.out (by kernel_rfl)) (fun _ _ _ h => h) (Or.inl ⟨by rfl, ?_⟩) ?_ ?_
                                  rotate_left
                                  · intro w'
                                    go_simp
                                    with_reducible rfl
                                  rotate_left
                                  · simp only [Act.put, List.setIfInBounds_toArray, List.set_cons_zero, List.set_cons_succ, i64_w, i32_w]
                                    rfl
                                  refine take_ (i := 2) (N := some 47) (v := ?_) (a' := ?_) #[true, true, true, false, false, false, true, false, false, false] rfl rfl (take_ofW HT_.out HW_.out (by kernel_rfl)) (fun _ _ _ h => h) (Or.inl ⟨by rfl, ?_⟩) hHeld ?_ ?_
                                  rotate_left
                                  · rintro w' ⟨s0, s1, s2, s3, s4, s5⟩
                                    go_simp
                                    with_reducible rfl
                                  rotate_left
                                  · simp only [Act.put, List.setIfInBounds_toArray, List.set_cons_zero, List.set_cons_succ, i64_w, i32_w]
                                    rfl
                                  refine pure_ (i := 3) (N := some 48) (v := ?_) (a' := ?_) #[true, true, true, true, false, false, true, false, false, false] rfl rfl (any_of HT_.out (by kernel_rfl)) (fun _ _ _ h => h) (Or.inl ⟨by rfl, ?_⟩) ?_ ?_
                                  rotate_left
                                  · intro w'
                                    go_simp
                                    with_reducible rfl
                                  rotate_left
                                  · simp only [Act.put, List.setIfInBounds_toArray, List.set_cons_zero, List.set_cons_succ, i64_w, i32_w]
                                    rfl
                                  refine pure_ (i := 4) (N := some 49) (v := ?_) (a' := ?_) #[true, true, true, true, true, false, true, false, false, false] rfl rfl (any_of HT_.out (by kernel_rfl)) (fun _ _ _ h => h) (Or.inl ⟨by rfl, ?_⟩) ?_ ?_
                                  rotate_left
                                  · intro w'
                                    go_simp
                                    with_reducible rfl
                                  rotate_left
                                  · simp only [Act.put, List.setIfInBounds_toArray, List.set_cons_zero, List.set_cons_succ, i64_w, i32_w]
                                    rfl
                                  refine take_ (i := 5) (N := some 50) (v := ?_) (a' := ?_) #[true, true, true, true, true, true, true, false, false, false] rfl rfl (take_ofW HT_.out HW_.out (by kernel_rfl)) (fun _ _ _ h => h) (Or.inl ⟨by rfl, ?_⟩) hHeld ?_ ?_
                                  rotate_left
                                  · rintro w' ⟨s0, s1, s2, s3, s4, s5⟩
                                    go_simp
                                    with_reducible rfl
                                  rotate_left
                                  · simp only [Act.put, List.setIfInBounds_toArray, List.set_cons_zero, List.set_cons_succ, i64_w, i32_w]
                                    rfl
                                  refine take_ (i := 7) (N := some 52) (v := ?_) (a' := ?_) #[true, true, true, true, true, true, true, true, false, false] rfl rfl (take_ofW HT_.out HW_.out (by kernel_rfl)) (fun _ _ _ h => h) (Or.inl ⟨by rfl, ?_⟩) hHeld ?_ ?_
                                  rotate_left
                                  · rintro w' ⟨s0, s1, s2, s3, s4, s5⟩
                                    go_simp
                                    with_reducible rfl
                                  rotate_left
                                  · simp only [Act.put, List.setIfInBounds_toArray, List.set_cons_zero, List.set_cons_succ, i64_w, i32_w]
                                    rfl
                                  refine one_ (i := 8) (N := some 53) #[true, true, true, true, true, true, true, true, true, false] rfl rfl (one_of HT_.out (by kernel_rfl)) (by decide) (fun K hK => ?_)
                                  refine goes_ Tryd.func34 (by kernel_rfl) rfl #[.int .i64 ((rd_T44 l0 ((rd_T65 t292 x22_1).f0)).f0), .int .i64 ((rd_T65 t292 x22_1).f1)] (by rfl) rfl rfl (by (try simp only [List.map_toArray, List.map_cons, List.map_nil]); first | done | rfl | (simp only [List.length_drop, List.length_take]; rfl)) ?_
                                  with_reducible refine (impl_noteText.calls ((rd_T44 l0 ((rd_T65 t292 x22_1).f0)).f0) ((rd_T65 t292 x22_1).f1) t310 _ ?side1 A43.out).mono ?_
                                  (case side1 => exact Lv.below hL (by repeat (first | (with_reducible first | exact HB.out | apply below_alloc | apply pw_below_drewN | apply below_drew1 | refine below_set ?_ GE291.out | refine below_set ?_ GE297.out) | exact HB.out)))
                                  rintro e w51 ⟨rfl, hb⟩
                                  refine ⟨_, rfl, ?_⟩
                                  have n0_ := Aside0.mk (Kd.R_below (by (with_reducible repeat (first | apply Kd.R_alloc | apply Kd.R_drewN | apply Kd.R_drew)); exact HO_8.out) hb)
                                  have n1_ := Aside0.mk (Kd.R_below (by (with_reducible repeat (first | apply Kd.R_alloc | apply Kd.R_drewN | apply Kd.R_drew)); exact HO_20.out) hb)
                                  have n2_ := Aside0.mk (Kd.R_below (by (with_reducible repeat (first | apply Kd.R_alloc | apply Kd.R_drewN | apply Kd.R_drew)); exact HO308.out) hb)
                                  have n3_ := Aside0.mk (blk_below (g := gb291) (o := .cells #[.string a1_0, .slice A1_1 l1_1.length c1_1, .slice A1_2 l1_2.length c1_2] 32 (0, 0)) (by (with_reducible repeat (first | refine blk_drewN ?_ _ | refine blk_drew ?_ | refine blk_alloc ?_ _)); exact BK291.out) hb)
                                  have n4_ := Aside0.mk (blk_below (g := gb297) (o := .cells #[.int .i64 ((rd_T65 t292 x22_1).f0), .int .i64 ((rd_T65 t292 x22_1).f1), .int .i64 ((rd_T65 t292 x22_1).f2), .bool ((rd_T65 t292 x22_1).f3)] 65 (0, 0)) (by (with_reducible repeat (first | refine blk_drewN ?_ _ | refine blk_drew ?_ | refine blk_alloc ?_ _)); exact BK297.out) hb)
                                  have n5_ := Aside0.mk (below_step (by repeat (first | (with_reducible first | exact HB.out | apply below_alloc | apply pw_below_drewN | apply below_drew1 | refine below_set ?_ GE291.out | refine below_set ?_ GE297.out) | exact HB.out)) hb)
                                  clear HO_8
                                  clear HO_20
                                  clear HO308
                                  clear BK291
                                  clear BK297
                                  clear HB
                                  have HO_8 := n0_
                                  have HO_20 := n1_
                                  have HO308 := n2_
                                  have BK291 := n3_
                                  have BK297 := n4_
                                  have HB := n5_
                                  clear n0_ n1_ n2_ n3_ n4_ n5_
                                  (try clear hb)
                                  (try clear hb2)
                                  (try clear hk)
                                  (try clear hi)
                                  refine hK.out _ _ ⟨(blk_cell BK297.out 0).trans rfl, (blk_cell BK297.out 1).trans rfl, (blk_cell BK297.out 2).trans rfl, (blk_cell BK297.out 3).trans rfl, ((HB.out.cell (World.block_lt_of_cell? w _ hw309_0)).trans hw309_0), ((HB.out.cell (World.block_lt_of_cell? w _ hw309_1)).trans hw309_1)⟩ (fun hHeld => ?_)
                                  clear hK K
                                  refine norm_ (a' := ?_) ?_ ?_
                                  rotate_left
                                  · show Act.put _ (some 53) _ = _
                                    simp only [Act.put, List.setIfInBounds_toArray, List.set_cons_zero, List.set_cons_succ, i64_w, i32_w]
                                    rfl
                                  refine pure_ (i := 9) (N := some 12) (v := ?_) (a' := ?_) #[true, true, true, true, true, true, true, true, true, true] rfl rfl (any_of HT_.out (by kernel_rfl)) (fun _ _ _ h => h) (Or.inl ⟨by rfl, ?_⟩) ?_ ?_
                                  rotate_left
                                  · intro w'
                                    go_simp
                                    with_reducible rfl
                                  rotate_left
                                  · simp only [Act.put, List.setIfInBounds_toArray, List.set_cons_zero, List.set_cons_succ, i64_w, i32_w]
                                    rfl
                                  refine done_ (done_of HT_.out (by kernel_rfl)) ?_
                                  have hcz52_0 : w51.cell? ⟨gb297, 0, none⟩ = some (.int .i64 ((rd_T65 t292 x22_1).f0)) := (blk_cell BK297.out 0).trans rfl
                                  have hcz52_1 : w51.cell? ⟨gb297, 1, none⟩ = some (.int .i64 ((rd_T65 t292 x22_1).f1)) := (blk_cell BK297.out 1).trans rfl
                                  have hcz52_2 : w51.cell? ⟨gb297, 2, none⟩ = some (.int .i64 ((rd_T65 t292 x22_1).f2)) := (blk_cell BK297.out 2).trans rfl
                                  have hcz52_3 : w51.cell? ⟨gb297, 3, none⟩ = some (.bool ((rd_T65 t292 x22_1).f3)) := (blk_cell BK297.out 3).trans rfl
                                  have hfz52_0 := blk_frozen BK297.out 0
                                  have hfz52_1 := blk_frozen BK297.out 1
                                  have hfz52_2 := blk_frozen BK297.out 2
                                  have hfz52_3 := blk_frozen BK297.out 3
                                  try go_wp2_with (first | ((with_reducible refine gate_builtin (b := .append) (xs := #[.tmp 58, .tmp 60]) rfl ?_); at_builtin; refine Kd.R_append Kd.string (w0 := w) w.heap.size rfl (.tmp 58) (.tmp 60) 63 9 (.string ⟨#[]⟩) 16 rfl Tryd.underlying63 info9 rfl (by decide) (by omega) v307 y306 ((⟨#[126]⟩ : ByteArray) ++ t310) [.string ((⟨#[126]⟩ : ByteArray) ++ t310)] (fun _ => True) (fun _ => False) rfl rfl ?aP (fun _ hk => hk.elim) ?aF ?aO ?aB ?aS ?aL ?_; (case aP => exact rfl); (case aB => exact (by repeat (first | (with_reducible first | exact HB.out | apply below_alloc | apply pw_below_drewN | apply below_drew1 | refine below_set ?_ GE291.out | refine below_set ?_ GE297.out) | exact HB.out))); (case aF => exact (fun _ _ => trivial)); (case aO => exact (by (with_reducible repeat (first | apply Kd.R_alloc | apply Kd.R_drewN | apply Kd.R_drew)); exact HO308.out)); (case aS => exact (below_size (by repeat (first | (with_reducible first | exact HB.out | apply below_alloc | apply pw_below_drewN | apply below_drew1 | refine below_set ?_ GE291.out | refine below_set ?_ GE297.out) | exact HB.out)))); (case aL => have := LMc46.out; omega); intro v312 w53 ho hb hg hat; rw [← Ny311.out] at ho; have n0_ := Aside0.mk (Kd.R_over' (by (with_reducible repeat (first | apply Kd.R_alloc | apply Kd.R_drewN | apply Kd.R_drew)); exact HO_8.out) (Kd.R_typed (by (with_reducible repeat (first | apply Kd.R_alloc | apply Kd.R_drewN | apply Kd.R_drew)); exact HO308.out)) (by decide) hg); have n1_ := Aside0.mk (Kd.R_over' (by (with_reducible repeat (first | apply Kd.R_alloc | apply Kd.R_drewN | apply Kd.R_drew)); exact HO_20.out) (Kd.R_typed (by (with_reducible repeat (first | apply Kd.R_alloc | apply Kd.R_drewN | apply Kd.R_drew)); exact HO308.out)) (by decide) hg); have n2_ := Aside0.mk (blk_grown (g := gb291) (o := .cells #[.string a1_0, .slice A1_1 l1_1.length c1_1, .slice A1_2 l1_2.length c1_2] 32 (0, 0)) (by (with_reducible repeat (first | refine blk_drewN ?_ _ | refine blk_drew ?_ | refine blk_alloc ?_ _)); exact BK291.out) hg (Kd.R_ne HO308.out BK291.out (by decide))); have n3_ := Aside0.mk (blk_grown (g := gb297) (o := .cells #[.int .i64 ((rd_T65 t292 x22_1).f0), .int .i64 ((rd_T65 t292 x22_1).f1), .int .i64 ((rd_T65 t292 x22_1).f2), .bool ((rd_T65 t292 x22_1).f3)] 65 (0, 0)) (by (with_reducible repeat (first | refine blk_drewN ?_ _ | refine blk_drew ?_ | refine blk_alloc ?_ _)); exact BK297.out) hg (Kd.R_ne HO308.out BK297.out (by decide))); have n4_ := Aside0.mk (hb); have n5_ := Aside0.mk (ho); clear HO_8; clear HO_20; clear BK291; clear BK297; clear HB; clear HO308; have HO_8 := n0_; have HO_20 := n1_; have BK291 := n2_; have BK297 := n3_; have HB := n4_; have HO313 := n5_; clear n0_ n1_ n2_ n3_ n4_ n5_; clear ho hb hg hat))
                                  go_roundg kj13
                                  case measure => have := HK1.out; have := HJ13.out; omega
                                  case rel => exact ⟨(y311), (wrap64 (x22_1 + 1)), (by first | rfl | (simp; done) | (simp [*]; done)), H', ⟨by have := HK1.out; have := HJ13.out; omega⟩, ⟨by (with_reducible repeat (first | apply Kd.R_alloc | apply Kd.R_drewN | apply Kd.R_drew)); exact Kd.R_mono HO_8.out (fun _ hk => trivial)⟩, ⟨by (with_reducible repeat (first | apply Kd.R_alloc | apply Kd.R_drewN | apply Kd.R_drew)); exact HO313.out⟩, ⟨by (with_reducible repeat (first | apply Kd.R_alloc | apply Kd.R_drewN | apply Kd.R_drew)); exact Kd.R_mono HO_20.out (fun _ hk => trivial)⟩, ⟨by (with_reducible repeat (first | refine blk_drewN ?_ _ | refine blk_drew ?_ | refine blk_alloc ?_ _)); exact BK291.out⟩, ⟨by repeat (first | (with_reducible first | exact HB.out | apply below_alloc | apply pw_below_drewN | apply below_drew1 | refine below_set ?_ GE291.out | refine below_set ?_ GE297.out) | exact HB.out)⟩⟩
                                · rw [if_neg c46] at H
                                  exact absurd H (by simp)
                              · rw [if_neg c45] at H
                                exact absurd H (by simp)
                            · rw [if_neg c44] at H
                              have c44b0 : ((rd_T65 t292 x22_1).f3) = false := by simpa using c44
                              clear c44
                              by_cases c54 : y306.length < 8796093022208
                              · rw [if_pos c54] at H
                                have LMc54 := Aside0.mk c54
                                clear c54
                                obtain ⟨y314, hy314⟩ : ∃ y_ : List ByteArray, y_ = (y306 ++ [t310]) := ⟨_, rfl⟩
                                replace H : (impl_notate.l0 kj13 l0 t292 y314 t292 (t292.length : Int) (wrap64 (x22_1 + 1))) = some (r1, r2) := by first | (rw [hy314]; with_reducible exact H) | (have H2_ := (Option.bind_some _ _).symm.trans H; rw [hy314]; with_reducible exact H2_) | (have H2_ := (Option.bind_some _ _).symm.trans H; with_reducible exact H2_) | with_reducible exact H | (rw [hy314]; exact H) | exact H
                                have Ny314 := Aside0.mk hy314
                                clear hy314
                                have H' := Aside0.mk H
                                clear H
                                have hnb55 := NB297_291.out
                                have hnc55 := NB291_297.out
                                have hcz56_0 : wc.cell? ⟨gb297, 0, none⟩ = some (.int .i64 ((rd_T65 t292 x22_1).f0)) := (blk_cell BK297.out 0).trans rfl
                                have hcz56_1 : wc.cell? ⟨gb297, 1, none⟩ = some (.int .i64 ((rd_T65 t292 x22_1).f1)) := (blk_cell BK297.out 1).trans rfl
                                have hcz56_2 : wc.cell? ⟨gb297, 2, none⟩ = some (.int .i64 ((rd_T65 t292 x22_1).f2)) := (blk_cell BK297.out 2).trans rfl
                                have hcz56_3 : wc.cell? ⟨gb297, 3, none⟩ = some (.bool ((rd_T65 t292 x22_1).f3)) := (blk_cell BK297.out 3).trans rfl
                                have hfz56_0 := blk_frozen BK297.out 0
                                have hfz56_1 := blk_frozen BK297.out 1
                                have hfz56_2 := blk_frozen BK297.out 2
                                have hfz56_3 := blk_frozen BK297.out 3
                                try go_wp2_with (first | ((with_reducible refine gate_builtin (b := .append) (xs := #[.tmp 42, .tmp 43]) rfl ?_); at_builtin; refine Kd.R_append Kd.string (w0 := w) w.heap.size rfl (.tmp 42) (.tmp 43) 63 9 (.string ⟨#[]⟩) 16 rfl Tryd.underlying63 info9 rfl (by decide) (by omega) u9 x9_1 (⟨#[124, 124]⟩ : ByteArray) [.string (⟨#[124, 124]⟩ : ByteArray)] (fun _ => True) (fun _ => False) rfl rfl ?aP (fun _ hk => hk.elim) ?aF ?aO ?aB ?aS ?aL ?_; (case aP => exact rfl); (case aB => exact (by repeat (first | (with_reducible first | exact HB.out | apply below_alloc | apply pw_below_drewN | apply below_drew1 | refine below_set ?_ GE291.out | refine below_set ?_ GE297.out) | exact HB.out))); (case aF => exact (fun _ _ => trivial)); (case aO => exact (by (with_reducible repeat (first | apply Kd.R_alloc | apply Kd.R_drewN | apply Kd.R_drew)); exact HO_9.out)); (case aS => exact (below_size (by repeat (first | (with_reducible first | exact HB.out | apply below_alloc | apply pw_below_drewN | apply below_drew1 | refine below_set ?_ GE291.out | refine below_set ?_ GE297.out) | exact HB.out)))); (case aL => have := LMc40.out; omega); intro v307 w57 ho hb hg hat; rw [← Ny306.out] at ho; have n0_ := Aside0.mk (Kd.R_over' (by (with_reducible repeat (first | apply Kd.R_alloc | apply Kd.R_drewN | apply Kd.R_drew)); exact HO_8.out) (Kd.R_typed (by (with_reducible repeat (first | apply Kd.R_alloc | apply Kd.R_drewN | apply Kd.R_drew)); exact HO_9.out)) (by decide) hg); have n1_ := Aside0.mk (Kd.R_over' (by (with_reducible repeat (first | apply Kd.R_alloc | apply Kd.R_drewN | apply Kd.R_drew)); exact HO_20.out) (Kd.R_typed (by (with_reducible repeat (first | apply Kd.R_alloc | apply Kd.R_drewN | apply Kd.R_drew)); exact HO_9.out)) (by decide) hg); have n2_ := Aside0.mk (blk_grown (g := gb291) (o := .cells #[.string a1_0, .slice A1_1 l1_1.length c1_1, .slice A1_2 l1_2.length c1_2] 32 (0, 0)) (by (with_reducible repeat (first | refine blk_drewN ?_ _ | refine blk_drew ?_ | refine blk_alloc ?_ _)); exact BK291.out) hg (Kd.R_ne HO_9.out BK291.out (by decide))); have n3_ := Aside0.mk (blk_grown (g := gb297) (o := .cells #[.int .i64 ((rd_T65 t292 x22_1).f0), .int .i64 ((rd_T65 t292 x22_1).f1), .int .i64 ((rd_T65 t292 x22_1).f2), .bool ((rd_T65 t292 x22_1).f3)] 65 (0, 0)) (by (with_reducible repeat (first | refine blk_drewN ?_ _ | refine blk_drew ?_ | refine blk_alloc ?_ _)); exact BK297.out) hg (Kd.R_ne HO_9.out BK297.out (by decide))); have n4_ := Aside0.mk (hb); have n5_ := Aside0.mk (ho); clear HO_8; clear HO_20; clear BK291; clear BK297; clear HB; clear HO_9; have HO_8 := n0_; have HO_20 := n1_; have BK291 := n2_; have BK297 := n3_; have HB := n4_; have HO308 := n5_; clear n0_ n1_ n2_ n3_ n4_ n5_; clear ho hb hg hat))
                                have n0_ := Aside0.mk (Kd.R_drew HO_8.out)
                                have n1_ := Aside0.mk (Kd.R_drew HO_20.out)
                                have n2_ := Aside0.mk (Kd.R_drew HO308.out)
                                have n3_ := Aside0.mk (blk_drew BK291.out)
                                have n4_ := Aside0.mk (blk_drew BK297.out)
                                have n5_ := Aside0.mk (below_drew1 HB.out)
                                clear HO_8
                                clear HO_20
                                clear HO308
                                clear BK291
                                clear BK297
                                clear HB
                                have HO_8 := n0_
                                have HO_20 := n1_
                                have HO308 := n2_
                                have BK291 := n3_
                                have BK297 := n4_
                                have HB := n5_
                                clear n0_ n1_ n2_ n3_ n4_ n5_
                                have p309 : 0 ≤ (((rd_T65 t292 x22_1).f0) : Int) := of_decide_eq_true (by first | (with_reducible assumption) | assumption)
                                have q309 : ((rd_T65 t292 x22_1).f0) < (l0.length : Int) := of_decide_eq_true (by first | (with_reducible assumption) | assumption)
                                obtain ⟨ad309, e309, hx309_0, hx309_1⟩ := at_T44 HR0.out ((rd_T65 t292 x22_1).f0) p309 q309
                                have hw309_1 := hx309_1
                                have hw309_0 := hx309_0
                                cases e309
                                replace hx309_0 := (HB.out.cell (World.block_lt_of_cell? w _ hx309_0)).trans hx309_0
                                replace hx309_1 := (HB.out.cell (World.block_lt_of_cell? w _ hx309_1)).trans hx309_1
                                replace p309 := eq_true p309
                                replace q309 := eq_true q309
                                refine start_ (n := 10) (S := fun w' => w'.cell? ⟨gb297, 0, none⟩ = some (.int .i64 ((rd_T65 t292 x22_1).f0)) ∧ w'.cell? ⟨gb297, 1, none⟩ = some (.int .i64 ((rd_T65 t292 x22_1).f1)) ∧ w'.cell? ⟨gb297, 2, none⟩ = some (.int .i64 ((rd_T65 t292 x22_1).f2)) ∧ w'.cell? ⟨gb297, 3, none⟩ = some (.bool ((rd_T65 t292 x22_1).f3)) ∧ w'.cell? (ad309.add ((((rd_T65 t292 x22_1).f0)).toNat * 2)) = some (.int .i64 ((rd_T44 l0 ((rd_T65 t292 x22_1).f0)).f0)) ∧ w'.cell? ⟨(ad309.add ((((rd_T65 t292 x22_1).f0)).toNat * 2)).block, (ad309.add ((((rd_T65 t292 x22_1).f0)).toNat * 2)).off + 1, none⟩ = some (.int .i64 ((rd_T44 l0 ((rd_T65 t292 x22_1).f0)).f1))) (ds := []) #[false, false, false, false, false, false, false, false, false, false] (by kernel_rfl) rfl rfl ⟨(blk_cell BK297.out 0).trans rfl, (blk_cell BK297.out 1).trans rfl, (blk_cell BK297.out 2).trans rfl, (blk_cell BK297.out 3).trans rfl, ((HB.out.cell (World.block_lt_of_cell? w _ hw309_0)).trans hw309_0), ((HB.out.cell (World.block_lt_of_cell? w _ hw309_1)).trans hw309_1)⟩ (fun hHeld => ?_); refine with_tabW impl_notate.tab12 impl_notate.bits12 (fun HT_ HW_ => ?_)
                                generalize w57.drew = w58 at HO_8 HO_20 HO308 BK291 BK297 HB hx309_0 hx309_1 hHeld ⊢
                                refine pure_ (i := 0) (N := some 45) (v := ?_) (a' := ?_) #[true, false, false, false, false, false, false, false, false, false] rfl rfl (any_of HT_.out (by kernel_rfl)) (fun _ _ _ h => h) (Or.inl ⟨by rfl, ?_⟩) ?_ ?_
                                rotate_left
                                · intro w'
                                  go_simp
                                  with_reducible rfl
                                rotate_left
                                · simp only [Act.put, List.setIfInBounds_toArray, List.set_cons_zero, List.set_cons_succ, i64_w, i32_w]
                                  rfl
                                refine pure_ (i := 1) (N := some 46) (v := ?_) (a' := ?_) #[true, true, false, false, false, false, false, false, false, false] rfl rfl (any_of HT_.out (by kernel_rfl)) (fun _ _ _ h => h) (Or.inl ⟨by rfl, ?_⟩) ?_ ?_
                                rotate_left
                                · intro w'
                                  go_simp
                                  with_reducible rfl
                                rotate_left
                                · simp only [Act.put, List.setIfInBounds_toArray, List.set_cons_zero, List.set_cons_succ, i64_w, i32_w]
                                  rfl
                                refine pure_ (i := 6) (N := some 51) (v := ?_) (a' := ?_) #[true, true, false, false, false, false, true, false, false, false] rfl rfl (any_of HT_.out (by kernel_rfl)) (fun _ _ _ h => h) (Or.inl ⟨by rfl, ?_⟩) ?_ ?_
                                rotate_left
                                · intro w'
                                  go_simp
                                  with_reducible rfl
                                rotate_left
                                · simp only [Act.put, List.setIfInBounds_toArray, List.set_cons_zero, List.set_cons_succ, i64_w, i32_w]
                                  rfl
                                refine take_ (i := 2) (N := some 47) (v := ?_) (a' := ?_) #[true, true, true, false, false, false, true, false, false, false] rfl rfl (take_ofW HT_.out HW_.out (by kernel_rfl)) (fun _ _ _ h => h) (Or.inl ⟨by rfl, ?_⟩) hHeld ?_ ?_
                                rotate_left
                                · rintro w' ⟨s0, s1, s2, s3, s4, s5⟩
                                  go_simp
                                  with_reducible rfl
                                rotate_left
                                · simp only [Act.put, List.setIfInBounds_toArray, List.set_cons_zero, List.set_cons_succ, i64_w, i32_w]
                                  rfl
                                refine pure_ (i := 3) (N := some 48) (v := ?_) (a' := ?_) #[true, true, true, true, false, false, true, false, false, false] rfl rfl (any_of HT_.out (by kernel_rfl)) (fun _ _ _ h => h) (Or.inl ⟨by rfl, ?_⟩) ?_ ?_
                                rotate_left
                                · intro w'
                                  go_simp
                                  with_reducible rfl
                                rotate_left
                                · simp only [Act.put, List.setIfInBounds_toArray, List.set_cons_zero, List.set_cons_succ, i64_w, i32_w]
                                  rfl
                                refine pure_ (i := 4) (N := some 49) (v := ?_) (a' := ?_) #[true, true, true, true, true, false, true, false, false, false] rfl rfl (any_of HT_.out (by kernel_rfl)) (fun _ _ _ h => h) (Or.inl ⟨by rfl, ?_⟩) ?_ ?_
                                rotate_left
                                · intro w'
                                  go_simp
                                  with_reducible rfl
                                rotate_left
                                · simp only [Act.put, List.setIfInBounds_toArray, List.set_cons_zero, List.set_cons_succ, i64_w, i32_w]
                                  rfl
                                refine take_ (i := 5) (N := some 50) (v := ?_) (a' := ?_) #[true, true, true, true, true, true, true, false, false, false] rfl rfl (take_ofW HT_.out HW_.out (by kernel_rfl)) (fun _ _ _ h => h) (Or.inl ⟨by rfl, ?_⟩) hHeld ?_ ?_
                                rotate_left
                                · rintro w' ⟨s0, s1, s2, s3, s4, s5⟩
                                  go_simp
                                  with_reducible rfl
                                rotate_left
                                · simp only [Act.put, List.setIfInBounds_toArray, List.set_cons_zero, List.set_cons_succ, i64_w, i32_w]
                                  rfl
                                refine take_ (i := 7) (N := some 52) (v := ?_) (a' := ?_) #[true, true, true, true, true, true, true, true, false, false] rfl rfl (take_ofW HT_.out HW_.out (by kernel_rfl)) (fun _ _ _ h => h) (Or.inl ⟨by rfl, ?_⟩) hHeld ?_ ?_
                                rotate_left
                                · rintro w' ⟨s0, s1, s2, s3, s4, s5⟩
                                  go_simp
                                  with_reducible rfl
                                rotate_left
                                · simp only [Act.put, List.setIfInBounds_toArray, List.set_cons_zero, List.set_cons_succ, i64_w, i32_w]
                                  rfl
                                refine one_ (i := 8) (N := some 53) #[true, true, true, true, true, true, true, true, true, false] rfl rfl (one_of HT_.out (by kernel_rfl)) (by decide) (fun K hK => ?_)
                                refine goes_ Tryd.func34 (by kernel_rfl) rfl #[.int .i64 ((rd_T44 l0 ((rd_T65 t292 x22_1).f0)).f0), .int .i64 ((rd_T65 t292 x22_1).f1)] (by rfl) rfl rfl (by (try simp only [List.map_toArray, List.map_cons, List.map_nil]); first | done | rfl | (simp only [List.length_drop, List.length_take]; rfl)) ?_
                                with_reducible refine (impl_noteText.calls ((rd_T44 l0 ((rd_T65 t292 x22_1).f0)).f0) ((rd_T65 t292 x22_1).f1) t310 _ ?side1 A43.out).mono ?_
                                (case side1 => exact Lv.below hL (by repeat (first | (with_reducible first | exact HB.out | apply below_alloc | apply pw_below_drewN | apply below_drew1 | refine below_set ?_ GE291.out | refine below_set ?_ GE297.out) | exact HB.out)))
                                rintro e w59 ⟨rfl, hb⟩
                                refine ⟨_, rfl, ?_⟩
                                have n0_ := Aside0.mk (Kd.R_below (by (with_reducible repeat (first | apply Kd.R_alloc | apply Kd.R_drewN | apply Kd.R_drew)); exact HO_8.out) hb)
                                have n1_ := Aside0.mk (Kd.R_below (by (with_reducible repeat (first | apply Kd.R_alloc | apply Kd.R_drewN | apply Kd.R_drew)); exact HO_20.out) hb)
                                have n2_ := Aside0.mk (Kd.R_below (by (with_reducible repeat (first | apply Kd.R_alloc | apply Kd.R_drewN | apply Kd.R_drew)); exact HO308.out) hb)
                                have n3_ := Aside0.mk (blk_below (g := gb291) (o := .cells #[.string a1_0, .slice A1_1 l1_1.length c1_1, .slice A1_2 l1_2.length c1_2] 32 (0, 0)) (by (with_reducible repeat (first | refine blk_drewN ?_ _ | refine blk_drew ?_ | refine blk_alloc ?_ _)); exact BK291.out) hb)
                                have n4_ := Aside0.mk (blk_below (g := gb297) (o := .cells #[.int .i64 ((rd_T65 t292 x22_1).f0), .int .i64 ((rd_T65 t292 x22_1).f1), .int .i64 ((rd_T65 t292 x22_1).f2), .bool ((rd_T65 t292 x22_1).f3)] 65 (0, 0)) (by (with_reducible repeat (first | refine blk_drewN ?_ _ | refine blk_drew ?_ | refine blk_alloc ?_ _)); exact BK297.out) hb)
                                have n5_ := Aside0.mk (below_step (by repeat (first | (with_reducible first | exact HB.out | apply below_alloc | apply pw_below_drewN | apply below_drew1 | refine below_set ?_ GE291.out | refine below_set ?_ GE297.out) | exact HB.out)) hb)
                                clear HO_8
                                clear HO_20
                                clear HO308
                                clear BK291
                                clear BK297
                                clear HB
                                have HO_8 := n0_
                                have HO_20 := n1_
                                have HO308 := n2_
                                have BK291 := n3_
                                have BK297 := n4_
                                have HB := n5_
                                clear n0_ n1_ n2_ n3_ n4_ n5_
                                (try clear hb)
                                (try clear hb2)
                                (try clear hk)
                                (try clear hi)
                                refine hK.out _ _ ⟨(blk_cell BK297.out 0).trans rfl, (blk_cell BK297.out 1).trans rfl, (blk_cell BK297.out 2).trans rfl, (blk_cell BK297.out 3).trans rfl, ((HB.out.cell (World.block_lt_of_cell? w _ hw309_0)).trans hw309_0), ((HB.out.cell (World.block_lt_of_cell? w _ hw309_1)).trans hw309_1)⟩ (fun hHeld => ?_)
                                clear hK K
                                refine norm_ (a' := ?_) ?_ ?_
                                rotate_left
                                · show Act.put _ (some 53) _ = _
                                  simp only [Act.put, List.setIfInBounds_toArray, List.set_cons_zero, List.set_cons_succ, i64_w, i32_w]
                                  rfl
                                refine pure_ (i := 9) (N := some 12) (v := ?_) (a' := ?_) #[true, true, true, true, true, true, true, true, true, true] rfl rfl (any_of HT_.out (by kernel_rfl)) (fun _ _ _ h => h) (Or.inl ⟨by rfl, ?_⟩) ?_ ?_
                                rotate_left
                                · intro w'
                                  go_simp
                                  with_reducible rfl
                                rotate_left
                                · simp only [Act.put, List.setIfInBounds_toArray, List.set_cons_zero, List.set_cons_succ, i64_w, i32_w]
                                  rfl
                                refine done_ (done_of HT_.out (by kernel_rfl)) ?_
                                have hcz60_0 : w59.cell? ⟨gb297, 0, none⟩ = some (.int .i64 ((rd_T65 t292 x22_1).f0)) := (blk_cell BK297.out 0).trans rfl
                                have hcz60_1 : w59.cell? ⟨gb297, 1, none⟩ = some (.int .i64 ((rd_T65 t292 x22_1).f1)) := (blk_cell BK297.out 1).trans rfl
                                have hcz60_2 : w59.cell? ⟨gb297, 2, none⟩ = some (.int .i64 ((rd_T65 t292 x22_1).f2)) := (blk_cell BK297.out 2).trans rfl
                                have hcz60_3 : w59.cell? ⟨gb297, 3, none⟩ = some (.bool ((rd_T65 t292 x22_1).f3)) := (blk_cell BK297.out 3).trans rfl
                                have hfz60_0 := blk_frozen BK297.out 0
                                have hfz60_1 := blk_frozen BK297.out 1
                                have hfz60_2 := blk_frozen BK297.out 2
                                have hfz60_3 := blk_frozen BK297.out 3
                                try go_wp2_with (first | ((with_reducible refine gate_builtin (b := .append) (xs := #[.tmp 58, .tmp 60]) rfl ?_); at_builtin; refine Kd.R_append Kd.string (w0 := w) w.heap.size rfl (.tmp 58) (.tmp 60) 63 9 (.string ⟨#[]⟩) 16 rfl Tryd.underlying63 info9 rfl (by decide) (by omega) v307 y306 t310 [.string t310] (fun _ => True) (fun _ => False) rfl rfl ?aP (fun _ hk => hk.elim) ?aF ?aO ?aB ?aS ?aL ?_; (case aP => exact rfl); (case aB => exact (by repeat (first | (with_reducible first | exact HB.out | apply below_alloc | apply pw_below_drewN | apply below_drew1 | refine below_set ?_ GE291.out | refine below_set ?_ GE297.out) | exact HB.out))); (case aF => exact (fun _ _ => trivial)); (case aO => exact (by (with_reducible repeat (first | apply Kd.R_alloc | apply Kd.R_drewN | apply Kd.R_drew)); exact HO308.out)); (case aS => exact (below_size (by repeat (first | (with_reducible first | exact HB.out | apply below_alloc | apply pw_below_drewN | apply below_drew1 | refine below_set ?_ GE291.out | refine below_set ?_ GE297.out) | exact HB.out)))); (case aL => have := LMc54.out; omega); intro v315 w61 ho hb hg hat; rw [← Ny314.out] at ho; have n0_ := Aside0.mk (Kd.R_over' (by (with_reducible repeat (first | apply Kd.R_alloc | apply Kd.R_drewN | apply Kd.R_drew)); exact HO_8.out) (Kd.R_typed (by (with_reducible repeat (first | apply Kd.R_alloc | apply Kd.R_drewN | apply Kd.R_drew)); exact HO308.out)) (by decide) hg); have n1_ := Aside0.mk (Kd.R_over' (by (with_reducible repeat (first | apply Kd.R_alloc | apply Kd.R_drewN | apply Kd.R_drew)); exact HO_20.out) (Kd.R_typed (by (with_reducible repeat (first | apply Kd.R_alloc | apply Kd.R_drewN | apply Kd.R_drew)); exact HO308.out)) (by decide) hg); have n2_ := Aside0.mk (blk_grown (g := gb291) (o := .cells #[.string a1_0, .slice A1_1 l1_1.length c1_1, .slice A1_2 l1_2.length c1_2] 32 (0, 0)) (by (with_reducible repeat (first | refine blk_drewN ?_ _ | refine blk_drew ?_ | refine blk_alloc ?_ _)); exact BK291.out) hg (Kd.R_ne HO308.out BK291.out (by decide))); have n3_ := Aside0.mk (blk_grown (g := gb297) (o := .cells #[.int .i64 ((rd_T65 t292 x22_1).f0), .int .i64 ((rd_T65 t292 x22_1).f1), .int .i64 ((rd_T65 t292 x22_1).f2), .bool ((rd_T65 t292 x22_1).f3)] 65 (0, 0)) (by (with_reducible repeat (first | refine blk_drewN ?_ _ | refine blk_drew ?_ | refine blk_alloc ?_ _)); exact BK297.out) hg (Kd.R_ne HO308.out BK297.out (by decide))); have n4_ := Aside0.mk (hb); have n5_ := Aside0.mk (ho); clear HO_8; clear HO_20; clear BK291; clear BK297; clear HB; clear HO308; have HO_8 := n0_; have HO_20 := n1_; have BK291 := n2_; have BK297 := n3_; have HB := n4_; have HO316 := n5_; clear n0_ n1_ n2_ n3_ n4_ n5_; clear ho hb hg hat))
                                go_roundg kj13
                                case measure => have := HK1.out; have := HJ13.out; omega
                                case rel => exact ⟨(y314), (wrap64 (x22_1 + 1)), (by first | rfl | (simp; done) | (simp [*]; done)), H', ⟨by have := HK1.out; have := HJ13.out; omega⟩, ⟨by (with_reducible repeat (first | apply Kd.R_alloc | apply Kd.R_drewN | apply Kd.R_drew)); exact Kd.R_mono HO_8.out (fun _ hk => trivial)⟩, ⟨by (with_reducible repeat (first | apply Kd.R_alloc | apply Kd.R_drewN | apply Kd.R_drew)); exact HO316.out⟩, ⟨by (with_reducible repeat (first | apply Kd.R_alloc | apply Kd.R_drewN | apply Kd.R_drew)); exact Kd.R_mono HO_20.out (fun _ hk => trivial)⟩, ⟨by (with_reducible repeat (first | refine blk_drewN ?_ _ | refine blk_drew ?_ | refine blk_alloc ?_ _)); exact BK291.out⟩, ⟨by repeat (first | (with_reducible first | exact HB.out | apply below_alloc | apply pw_below_drewN | apply below_drew1 | refine below_set ?_ GE291.out | refine below_set ?_ GE297.out) | exact HB.out)⟩⟩
                              · rw [if_neg c54] at H
                                exact absurd H (by simp)
                          · rw [if_neg c42] at H
                            exact absurd H (by simp)
                        · rw [if_neg c41] at H
                          exact absurd H (by simp)
                      · rw [if_neg c40] at H
                        exact absurd H (by simp)
                    · rw [if_neg c39] at H
                      have c39b0 : (((rd_T65 t292 x22_1).f2) == 0) = false := beq_eq_false_iff_ne.mpr c39
                      have c39b1 : (((rd_T65 t292 x22_1).f2) != 0) = true := bne_iff_ne.mpr c39
                      by_cases c62 : x9_1.length < 8796093022208
                      · rw [if_pos c62] at H
                        have LMc62 := Aside0.mk c62
                        clear c62
                        obtain ⟨y317, hy317⟩ : ∃ y_ : List ByteArray, y_ = (x9_1 ++ [(⟨#[124]⟩ : ByteArray)]) := ⟨_, rfl⟩
                        replace H : (if 0 ≤ ((rd_T65 t292 x22_1).f0) then (if ((rd_T65 t292 x22_1).f0) < (l0.length : Int) then ((impl_noteText.f ((rd_T44 l0 ((rd_T65 t292 x22_1).f0)).f0) ((rd_T65 t292 x22_1).f1)).bind fun t321 => (if ((rd_T65 t292 x22_1).f3) = true then (if 1 + t321.size ≤ 9223372036854775807 then (if y317.length < 8796093022208 then (impl_notate.l0 kj13 l0 t292 (y317 ++ [(⟨#[126]⟩ : ByteArray) ++ t321]) t292 (t292.length : Int) (wrap64 (x22_1 + 1))) else (none)) else (none)) else (if y317.length < 8796093022208 then (impl_notate.l0 kj13 l0 t292 (y317 ++ [t321]) t292 (t292.length : Int) (wrap64 (x22_1 + 1))) else (none)))) else (none)) else (none)) = some (r1, r2) := by first | (rw [hy317]; with_reducible exact H) | (have H2_ := (Option.bind_some _ _).symm.trans H; rw [hy317]; with_reducible exact H2_) | (have H2_ := (Option.bind_some _ _).symm.trans H; with_reducible exact H2_) | with_reducible exact H | (rw [hy317]; exact H) | exact H
                        have Ny317 := Aside0.mk hy317
                        clear hy317
                        by_cases c63 : 0 ≤ ((rd_T65 t292 x22_1).f0)
                        · rw [if_pos c63] at H
                          have c63b0 : decide (0 ≤ ((rd_T65 t292 x22_1).f0)) = true := decide_eq_true c63
                          clear c63
                          by_cases c64 : ((rd_T65 t292 x22_1).f0) < (l0.length : Int)
                          · rw [if_pos c64] at H
                            have c64b0 : decide (((rd_T65 t292 x22_1).f0) < (l0.length : Int)) = true := decide_eq_true c64
                            clear c64
                            replace H := Option.bind_eq_some_iff.mp H
                            obtain ⟨t321, A650, H⟩ := H
                            replace H : (if ((rd_T65 t292 x22_1).f3) = true then (if 1 + t321.size ≤ 9223372036854775807 then (if y317.length < 8796093022208 then (impl_notate.l0 kj13 l0 t292 (y317 ++ [(⟨#[126]⟩ : ByteArray) ++ t321]) t292 (t292.length : Int) (wrap64 (x22_1 + 1))) else (none)) else (none)) else (if y317.length < 8796093022208 then (impl_notate.l0 kj13 l0 t292 (y317 ++ [t321]) t292 (t292.length : Int) (wrap64 (x22_1 + 1))) else (none))) = some (r1, r2) := H
                            have A65 := Aside0.mk A650
                            clear A650
                            by_cases c66 : ((rd_T65 t292 x22_1).f3) = true
                            · rw [if_pos c66] at H
                              have c66b0 : ((rd_T65 t292 x22_1).f3) = true := c66
                              clear c66
                              by_cases c67 : 1 + t321.size ≤ 9223372036854775807
                              · rw [if_pos c67] at H
                                have c67b0 := eq_true c67
                                have c67b1 : decide (1 + t321.size ≤ 9223372036854775807) = true := decide_eq_true c67
                                try have c67b2 : (9223372036854775807 < 1 + t321.size) = False := eq_false (Nat.not_lt.2 c67)
                                by_cases c68 : y317.length < 8796093022208
                                · rw [if_pos c68] at H
                                  have LMc68 := Aside0.mk c68
                                  clear c68
                                  obtain ⟨y322, hy322⟩ : ∃ y_ : List ByteArray, y_ = (y317 ++ [(⟨#[126]⟩ : ByteArray) ++ t321]) := ⟨_, rfl⟩
                                  replace H : (impl_notate.l0 kj13 l0 t292 y322 t292 (t292.length : Int) (wrap64 (x22_1 + 1))) = some (r1, r2) := by first | (rw [hy322]; with_reducible exact H) | (have H2_ := (Option.bind_some _ _).symm.trans H; rw [hy322]; with_reducible exact H2_) | (have H2_ := (Option.bind_some _ _).symm.trans H; with_reducible exact H2_) | with_reducible exact H | (rw [hy322]; exact H) | exact H
                                  have Ny322 := Aside0.mk hy322
                                  clear hy322
                                  have H' := Aside0.mk H
                                  clear H
                                  have hnb69 := NB297_291.out
                                  have hnc69 := NB291_297.out
                                  have hcz70_0 : wc.cell? ⟨gb297, 0, none⟩ = some (.int .i64 ((rd_T65 t292 x22_1).f0)) := (blk_cell BK297.out 0).trans rfl
                                  have hcz70_1 : wc.cell? ⟨gb297, 1, none⟩ = some (.int .i64 ((rd_T65 t292 x22_1).f1)) := (blk_cell BK297.out 1).trans rfl
                                  have hcz70_2 : wc.cell? ⟨gb297, 2, none⟩ = some (.int .i64 ((rd_T65 t292 x22_1).f2)) := (blk_cell BK297.out 2).trans rfl
                                  have hcz70_3 : wc.cell? ⟨gb297, 3, none⟩ = some (.bool ((rd_T65 t292 x22_1).f3)) := (blk_cell BK297.out 3).trans rfl
                                  have hfz70_0 := blk_frozen BK297.out 0
                                  have hfz70_1 := blk_frozen BK297.out 1
                                  have hfz70_2 := blk_frozen BK297.out 2
                                  have hfz70_3 := blk_frozen BK297.out 3
                                  try go_wp2_with (first | ((with_reducible refine gate_builtin (b := .append) (xs := #[.tmp 27, .tmp 28]) rfl ?_); at_builtin; refine Kd.R_append Kd.string (w0 := w) w.heap.size rfl (.tmp 27) (.tmp 28) 63 9 (.string ⟨#[]⟩) 16 rfl Tryd.underlying63 info9 rfl (by decide) (by omega) u9 x9_1 (⟨#[124]⟩ : ByteArray) [.string (⟨#[124]⟩ : ByteArray)] (fun _ => True) (fun _ => False) rfl rfl ?aP (fun _ hk => hk.elim) ?aF ?aO ?aB ?aS ?aL ?_; (case aP => exact rfl); (case aB => exact (by repeat (first | (with_reducible first | exact HB.out | apply below_alloc | apply pw_below_drewN | apply below_drew1 | refine below_set ?_ GE291.out | refine below_set ?_ GE297.out) | exact HB.out))); (case aF => exact (fun _ _ => trivial)); (case aO => exact (by (with_reducible repeat (first | apply Kd.R_alloc | apply Kd.R_drewN | apply Kd.R_drew)); exact HO_9.out)); (case aS => exact (below_size (by repeat (first | (with_reducible first | exact HB.out | apply below_alloc | apply pw_below_drewN | apply below_drew1 | refine below_set ?_ GE291.out | refine below_set ?_ GE297.out) | exact HB.out)))); (case aL => have := LMc62.out; omega); intro v318 w71 ho hb hg hat; rw [← Ny317.out] at ho; have n0_ := Aside0.mk (Kd.R_over' (by (with_reducible repeat (first | apply Kd.R_alloc | apply Kd.R_drewN | apply Kd.R_drew)); exact HO_8.out) (Kd.R_typed (by (with_reducible repeat (first | apply Kd.R_alloc | apply Kd.R_drewN | apply Kd.R_drew)); exact HO_9.out)) (by decide) hg); have n1_ := Aside0.mk (Kd.R_over' (by (with_reducible repeat (first | apply Kd.R_alloc | apply Kd.R_drewN | apply Kd.R_drew)); exact HO_20.out) (Kd.R_typed (by (with_reducible repeat (first | apply Kd.R_alloc | apply Kd.R_drewN | apply Kd.R_drew)); exact HO_9.out)) (by decide) hg); have n2_ := Aside0.mk (blk_grown (g := gb291) (o := .cells #[.string a1_0, .slice A1_1 l1_1.length c1_1, .slice A1_2 l1_2.length c1_2] 32 (0, 0)) (by (with_reducible repeat (first | refine blk_drewN ?_ _ | refine blk_drew ?_ | refine blk_alloc ?_ _)); exact BK291.out) hg (Kd.R_ne HO_9.out BK291.out (by decide))); have n3_ := Aside0.mk (blk_grown (g := gb297) (o := .cells #[.int .i64 ((rd_T65 t292 x22_1).f0), .int .i64 ((rd_T65 t292 x22_1).f1), .int .i64 ((rd_T65 t292 x22_1).f2), .bool ((rd_T65 t292 x22_1).f3)] 65 (0, 0)) (by (with_reducible repeat (first | refine blk_drewN ?_ _ | refine blk_drew ?_ | refine blk_alloc ?_ _)); exact BK297.out) hg (Kd.R_ne HO_9.out BK297.out (by decide))); have n4_ := Aside0.mk (hb); have n5_ := Aside0.mk (ho); clear HO_8; clear HO_20; clear BK291; clear BK297; clear HB; clear HO_9; have HO_8 := n0_; have HO_20 := n1_; have BK291 := n2_; have BK297 := n3_; have HB := n4_; have HO319 := n5_; clear n0_ n1_ n2_ n3_ n4_ n5_; clear ho hb hg hat))
                                  have n0_ := Aside0.mk (Kd.R_drew HO_8.out)
                                  have n1_ := Aside0.mk (Kd.R_drew HO_20.out)
                                  have n2_ := Aside0.mk (Kd.R_drew HO319.out)
                                  have n3_ := Aside0.mk (blk_drew BK291.out)
                                  have n4_ := Aside0.mk (blk_drew BK297.out)
                                  have n5_ := Aside0.mk (below_drew1 HB.out)
                                  clear HO_8
                                  clear HO_20
                                  clear HO319
                                  clear BK291
                                  clear BK297
                                  clear HB
                                  have HO_8 := n0_
                                  have HO_20 := n1_
                                  have HO319 := n2_
                                  have BK291 := n3_
                                  have BK297 := n4_
                                  have HB := n5_
                                  clear n0_ n1_ n2_ n3_ n4_ n5_
                                  have p320 : 0 ≤ (((rd_T65 t292 x22_1).f0) : Int) := of_decide_eq_true (by first | (with_reducible assumption) | assumption)
                                  have q320 : ((rd_T65 t292 x22_1).f0) < (l0.length : Int) := of_decide_eq_true (by first | (with_reducible assumption) | assumption)
                                  obtain ⟨ad320, e320, hx320_0, hx320_1⟩ := at_T44 HR0.out ((rd_T65 t292 x22_1).f0) p320 q320
                                  have hw320_1 := hx320_1
                                  have hw320_0 := hx320_0
                                  cases e320
                                  replace hx320_0 := (HB.out.cell (World.block_lt_of_cell? w _ hx320_0)).trans hx320_0
                                  replace hx320_1 := (HB.out.cell (World.block_lt_of_cell? w _ hx320_1)).trans hx320_1
                                  replace p320 := eq_true p320
                                  replace q320 := eq_true q320
                                  refine start_ (n := 10) (S := fun w' => w'.cell? ⟨gb297, 0, none⟩ = some (.int .i64 ((rd_T65 t292 x22_1).f0)) ∧ w'.cell? ⟨gb297, 1, none⟩ = some (.int .i64 ((rd_T65 t292 x22_1).f1)) ∧ w'.cell? ⟨gb297, 2, none⟩ = some (.int .i64 ((rd_T65 t292 x22_1).f2)) ∧ w'.cell? ⟨gb297, 3, none⟩ = some (.bool ((rd_T65 t292 x22_1).f3)) ∧ w'.cell? (ad320.add ((((rd_T65 t292 x22_1).f0)).toNat * 2)) = some (.int .i64 ((rd_T44 l0 ((rd_T65 t292 x22_1).f0)).f0)) ∧ w'.cell? ⟨(ad320.add ((((rd_T65 t292 x22_1).f0)).toNat * 2)).block, (ad320.add ((((rd_T65 t292 x22_1).f0)).toNat * 2)).off + 1, none⟩ = some (.int .i64 ((rd_T44 l0 ((rd_T65 t292 x22_1).f0)).f1))) (ds := []) #[false, false, false, false, false, false, false, false, false, false] (by kernel_rfl) rfl rfl ⟨(blk_cell BK297.out 0).trans rfl, (blk_cell BK297.out 1).trans rfl, (blk_cell BK297.out 2).trans rfl, (blk_cell BK297.out 3).trans rfl, ((HB.out.cell (World.block_lt_of_cell? w _ hw320_0)).trans hw320_0), ((HB.out.cell (World.block_lt_of_cell? w _ hw320_1)).trans hw320_1)⟩ (fun hHeld => ?_); refine with_tabW impl_notate.tab12 impl_notate.bits12 (fun HT_ HW_ => ?_)
                                  generalize w71.drew = w72 at HO_8 HO_20 HO319 BK291 BK297 HB hx320_0 hx320_1 hHeld ⊢
                                  refine pure_ (i := 0) (N := some 45) (v := ?_) (a' := ?_) #[true, false, false, false, false, false, false, false, false, false] rfl rfl (any_of HT_.out (by kernel_rfl)) (fun _ _ _ h => h) (Or.inl ⟨by rfl, ?_⟩) ?_ ?_
                                  rotate_left
                                  · intro w'
                                    go_simp
                                    with_reducible rfl
                                  rotate_left
                                  · simp only [Act.put, List.setIfInBounds_toArray, List.set_cons_zero, List.set_cons_succ, i64_w, i32_w]
                                    rfl
                                  refine pure_ (i := 1) (N := some 46) (v := ?_) (a' := ?_) #[true, true, false, false, false, false, false, false, false, false] rfl rfl (any_of HT_.out (by kernel_rfl)) (fun _ _ _ h => h) (Or.inl ⟨by rfl, ?_⟩) ?_ ?_
                                  rotate_left
                                  · intro w'
                                    go_simp
                                    with_reducible rfl
                                  rotate_left
                                  · simp only [Act.put, List.setIfInBounds_toArray, List.set_cons_zero, List.set_cons_succ, i64_w, i32_w]
                                    rfl
                                  refine pure_ (i := 6) (N := some 51) (v := ?_) (a' := ?_) #[true, true, false, false, false, false, true, false, false, false] rfl rfl (any_of HT_.out (by kernel_rfl)) (fun _ _ _ h => h) (Or.inl ⟨by rfl, ?_⟩) ?_ ?_
                                  rotate_left
                                  · intro w'
                                    go_simp
                                    with_reducible rfl
                                  rotate_left
                                  · simp only [Act.put, List.setIfInBounds_toArray, List.set_cons_zero, List.set_cons_succ, i64_w, i32_w]
                                    rfl
                                  refine take_ (i := 2) (N := some 47) (v := ?_) (a' := ?_) #[true, true, true, false, false, false, true, false, false, false] rfl rfl (take_ofW HT_.out HW_.out (by kernel_rfl)) (fun _ _ _ h => h) (Or.inl ⟨by rfl, ?_⟩) hHeld ?_ ?_
                                  rotate_left
                                  · rintro w' ⟨s0, s1, s2, s3, s4, s5⟩
                                    go_simp
                                    with_reducible rfl
                                  rotate_left
                                  · simp only [Act.put, List.setIfInBounds_toArray, List.set_cons_zero, List.set_cons_succ, i64_w, i32_w]
                                    rfl
                                  refine pure_ (i := 3) (N := some 48) (v := ?_) (a' := ?_) #[true, true, true, true, false, false, true, false, false, false] rfl rfl (any_of HT_.out (by kernel_rfl)) (fun _ _ _ h => h) (Or.inl ⟨by rfl, ?_⟩) ?_ ?_
                                  rotate_left
                                  · intro w'
                                    go_simp
                                    with_reducible rfl
                                  rotate_left
                                  · simp only [Act.put, List.setIfInBounds_toArray, List.set_cons_zero, List.set_cons_succ, i64_w, i32_w]
                                    rfl
                                  refine pure_ (i := 4) (N := some 49) (v := ?_) (a' := ?_) #[true, true, true, true, true, false, true, false, false, false] rfl rfl (any_of HT_.out (by kernel_rfl)) (fun _ _ _ h => h) (Or.inl ⟨by rfl, ?_⟩) ?_ ?_
                                  rotate_left
                                  · intro w'
                                    go_simp
                                    with_reducible rfl
                                  rotate_left
                                  · simp only [Act.put, List.setIfInBounds_toArray, List.set_cons_zero, List.set_cons_succ, i64_w, i32_w]
                                    rfl
                                  refine take_ (i := 5) (N := some 50) (v := ?_) (a' := ?_) #[true, true, true, true, true, true, true, false, false, false] rfl rfl (take_ofW HT_.out HW_.out (by kernel_rfl)) (fun _ _ _ h => h) (Or.inl ⟨by rfl, ?_⟩) hHeld ?_ ?_
                                  rotate_left
                                  · rintro w' ⟨s0, s1, s2, s3, s4, s5⟩
                                    go_simp
                                    with_reducible rfl
                                  rotate_left
                                  · simp only [Act.put, List.setIfInBounds_toArray, List.set_cons_zero, List.set_cons_succ, i64_w, i32_w]
                                    rfl
                                  refine take_ (i := 7) (N := some 52) (v := ?_) (a' := ?_) #[true, true, true, true, true, true, true, true, false, false] rfl rfl (take_ofW HT_.out HW_.out (by kernel_rfl)) (fun _ _ _ h => h) (Or.inl ⟨by rfl, ?_⟩) hHeld ?_ ?_
                                  rotate_left
                                  · rintro w' ⟨s0, s1, s2, s3, s4, s5⟩
                                    go_simp
                                    with_reducible rfl
                                  rotate_left
                                  · simp only [Act.put, List.setIfInBounds_toArray, List.set_cons_zero, List.set_cons_succ, i64_w, i32_w]
                                    rfl
                                  refine one_ (i := 8) (N := some 53) #[true, true, true, true, true, true, true, true, true, false] rfl rfl (one_of HT_.out (by kernel_rfl)) (by decide) (fun K hK => ?_)
                                  refine goes_ Tryd.func34 (by kernel_rfl) rfl #[.int .i64 ((rd_T44 l0 ((rd_T65 t292 x22_1).f0)).f0), .int .i64 ((rd_T65 t292 x22_1).f1)] (by rfl) rfl rfl (by (try simp only [List.map_toArray, List.map_cons, List.map_nil]); first | done | rfl | (simp only [List.length_drop, List.length_take]; rfl)) ?_
                                  with_reducible refine (impl_noteText.calls ((rd_T44 l0 ((rd_T65 t292 x22_1).f0)).f0) ((rd_T65 t292 x22_1).f1) t321 _ ?side1 A65.out).mono ?_
                                  (case side1 => exact Lv.below hL (by repeat (first | (with_reducible first | exact HB.out | apply below_alloc | apply pw_below_drewN | apply below_drew1 | refine below_set ?_ GE291.out | refine below_set ?_ GE297.out) | exact HB.out)))
                                  rintro e w73 ⟨rfl, hb⟩
                                  refine ⟨_, rfl, ?_⟩
                                  have n0_ := Aside0.mk (Kd.R_below (by (with_reducible repeat (first | apply Kd.R_alloc | apply Kd.R_drewN | apply Kd.R_drew)); exact HO_8.out) hb)
                                  have n1_ := Aside0.mk (Kd.R_below (by (with_reducible repeat (first | apply Kd.R_alloc | apply Kd.R_drewN | apply Kd.R_drew)); exact HO_20.out) hb)
                                  have n2_ := Aside0.mk (Kd.R_below (by (with_reducible repeat (first | apply Kd.R_alloc | apply Kd.R_drewN | apply Kd.R_drew)); exact HO319.out) hb)
                                  have n3_ := Aside0.mk (blk_below (g := gb291) (o := .cells #[.string a1_0, .slice A1_1 l1_1.length c1_1, .slice A1_2 l1_2.length c1_2] 32 (0, 0)) (by (with_reducible repeat (first | refine blk_drewN ?_ _ | refine blk_drew ?_ | refine blk_alloc ?_ _)); exact BK291.out) hb)
                                  have n4_ := Aside0.mk (blk_below (g := gb297) (o := .cells #[.int .i64 ((rd_T65 t292 x22_1).f0), .int .i64 ((rd_T65 t292 x22_1).f1), .int .i64 ((rd_T65 t292 x22_1).f2), .bool ((rd_T65 t292 x22_1).f3)] 65 (0, 0)) (by (with_reducible repeat (first | refine blk_drewN ?_ _ | refine blk_drew ?_ | refine blk_alloc ?_ _)); exact BK297.out) hb)
                                  have n5_ := Aside0.mk (below_step (by repeat (first | (with_reducible first | exact HB.out | apply below_alloc | apply pw_below_drewN | apply below_drew1 | refine below_set ?_ GE291.out | refine below_set ?_ GE297.out) | exact HB.out)) hb)
                                  clear HO_8
                                  clear HO_20
                                  clear HO319
                                  clear BK291
                                  clear BK297
                                  clear HB
                                  have HO_8 := n0_
                                  have HO_20 := n1_
                                  have HO319 := n2_
                                  have BK291 := n3_
                                  have BK297 := n4_
                                  have HB := n5_
                                  clear n0_ n1_ n2_ n3_ n4_ n5_
                                  (try clear hb)
                                  (try clear hb2)
                                  (try clear hk)
                                  (try clear hi)
                                  refine hK.out _ _ ⟨(blk_cell BK297.out 0).trans rfl, (blk_cell BK297.out 1).trans rfl, (blk_cell BK297.out 2).trans rfl, (blk_cell BK297.out 3).trans rfl, ((HB.out.cell (World.block_lt_of_cell? w _ hw320_0)).trans hw320_0), ((HB.out.cell (World.block_lt_of_cell? w _ hw320_1)).trans hw320_1)⟩ (fun hHeld => ?_)
                                  clear hK K
                                  refine norm_ (a' := ?_) ?_ ?_
                                  rotate_left
                                  · show Act.put _ (some 53) _ = _
                                    simp only [Act.put, List.setIfInBounds_toArray, List.set_cons_zero, List.set_cons_succ, i64_w, i32_w]
                                    rfl
                                  refine pure_ (i := 9) (N := some 12) (v := ?_) (a' := ?_) #[true, true, true, true, true, true, true, true, true, true] rfl rfl (any_of HT_.out (by kernel_rfl)) (fun _ _ _ h => h) (Or.inl ⟨by rfl, ?_⟩) ?_ ?_
                                  rotate_left
                                  · intro w'
                                    go_simp
                                    with_reducible rfl
                                  rotate_left
                                  · simp only [Act.put, List.setIfInBounds_toArray, List.set_cons_zero, List.set_cons_succ, i64_w, i32_w]
                                    rfl
                                  refine done_ (done_of HT_.out (by kernel_rfl)) ?_
                                  have hcz74_0 : w73.cell? ⟨gb297, 0, none⟩ = some (.int .i64 ((rd_T65 t292 x22_1).f0)) := (blk_cell BK297.out 0).trans rfl
                                  have hcz74_1 : w73.cell? ⟨gb297, 1, none⟩ = some (.int .i64 ((rd_T65 t292 x22_1).f1)) := (blk_cell BK297.out 1).trans rfl
                                  have hcz74_2 : w73.cell? ⟨gb297, 2, none⟩ = some (.int .i64 ((rd_T65 t292 x22_1).f2)) := (blk_cell BK297.out 2).trans rfl
                                  have hcz74_3 : w73.cell? ⟨gb297, 3, none⟩ = some (.bool ((rd_T65 t292 x22_1).f3)) := (blk_cell BK297.out 3).trans rfl
                                  have hfz74_0 := blk_frozen BK297.out 0
                                  have hfz74_1 := blk_frozen BK297.out 1
                                  have hfz74_2 := blk_frozen BK297.out 2
                                  have hfz74_3 := blk_frozen BK297.out 3
                                  try go_wp2_with (first | ((with_reducible refine gate_builtin (b := .append) (xs := #[.tmp 58, .tmp 60]) rfl ?_); at_builtin; refine Kd.R_append Kd.string (w0 := w) w.heap.size rfl (.tmp 58) (.tmp 60) 63 9 (.string ⟨#[]⟩) 16 rfl Tryd.underlying63 info9 rfl (by decide) (by omega) v318 y317 ((⟨#[126]⟩ : ByteArray) ++ t321) [.string ((⟨#[126]⟩ : ByteArray) ++ t321)] (fun _ => True) (fun _ => False) rfl rfl ?aP (fun _ hk => hk.elim) ?aF ?aO ?aB ?aS ?aL ?_; (case aP => exact rfl); (case aB => exact (by repeat (first | (with_reducible first | exact HB.out | apply below_alloc | apply pw_below_drewN | apply below_drew1 | refine below_set ?_ GE291.out | refine below_set ?_ GE297.out) | exact HB.out))); (case aF => exact (fun _ _ => trivial)); (case aO => exact (by (with_reducible repeat (first | apply Kd.R_alloc | apply Kd.R_drewN | apply Kd.R_drew)); exact HO319.out)); (case aS => exact (below_size (by repeat (first | (with_reducible first | exact HB.out | apply below_alloc | apply pw_below_drewN | apply below_drew1 | refine below_set ?_ GE291.out | refine below_set ?_ GE297.out) | exact HB.out)))); (case aL => have := LMc68.out; omega); intro v323 w75 ho hb hg hat; rw [← Ny322.out] at ho; have n0_ := Aside0.mk (Kd.R_over' (by (with_reducible repeat (first | apply Kd.R_alloc | apply Kd.R_drewN | apply Kd.R_drew)); exact HO_8.out) (Kd.R_typed (by (with_reducible repeat (first | apply Kd.R_alloc | apply Kd.R_drewN | apply Kd.R_drew)); exact HO319.out)) (by decide) hg); have n1_ := Aside0.mk (Kd.R_over' (by (with_reducible repeat (first | apply Kd.R_alloc | apply Kd.R_drewN | apply Kd.R_drew)); exact HO_20.out) (Kd.R_typed (by (with_reducible repeat (first | apply Kd.R_alloc | apply Kd.R_drewN | apply Kd.R_drew)); exact HO319.out)) (by decide) hg); have n2_ := Aside0.mk (blk_grown (g := gb291) (o := .cells #[.string a1_0, .slice A1_1 l1_1.length c1_1, .slice A1_2 l1_2.length c1_2] 32 (0, 0)) (by (with_reducible repeat (first | refine blk_drewN ?_ _ | refine blk_drew ?_ | refine blk_alloc ?_ _)); exact BK291.out) hg (Kd.R_ne HO319.out BK291.out (by decide))); have n3_ := Aside0.mk (blk_grown (g := gb297) (o := .cells #[.int .i64 ((rd_T65 t292 x22_1).f0), .int .i64 ((rd_T65 t292 x22_1).f1), .int .i64 ((rd_T65 t292 x22_1).f2), .bool ((rd_T65 t292 x22_1).f3)] 65 (0, 0)) (by (with_reducible repeat (first | refine blk_drewN ?_ _ | refine blk_drew ?_ | refine blk_alloc ?_ _)); exact BK297.out) hg (Kd.R_ne HO319.out BK297.out (by decide))); have n4_ := Aside0.mk (hb); have n5_ := Aside0.mk (ho); clear HO_8; clear HO_20; clear BK291; clear BK297; clear HB; clear HO319; have HO_8 := n0_; have HO_20 := n1_; have BK291 := n2_; have BK297 := n3_; have HB := n4_; have HO324 := n5_; clear n0_ n1_ n2_ n3_ n4_ n5_; clear ho hb hg hat))
                                  go_roundg kj13
                                  case measure => have := HK1.out; have := HJ13.out; omega
                                  case rel => exact ⟨(y322), (wrap64 (x22_1 + 1)), (by first | rfl | (simp; done) | (simp [*]; done)), H', ⟨by have := HK1.out; have := HJ13.out; omega⟩, ⟨by (with_reducible repeat (first | apply Kd.R_alloc | apply Kd.R_drewN | apply Kd.R_drew)); exact Kd.R_mono HO_8.out (fun _ hk => trivial)⟩, ⟨by (with_reducible repeat (first | apply Kd.R_alloc | apply Kd.R_drewN | apply Kd.R_drew)); exact HO324.out⟩, ⟨by (with_reducible repeat (first | apply Kd.R_alloc | apply Kd.R_drewN | apply Kd.R_drew)); exact Kd.R_mono HO_20.out (fun _ hk => trivial)⟩, ⟨by (with_reducible repeat (first | refine blk_drewN ?_ _ | refine blk_drew ?_ | refine blk_alloc ?_ _)); exact BK291.out⟩, ⟨by repeat (first | (with_reducible first | exact HB.out | apply below_alloc | apply pw_below_drewN | apply below_drew1 | refine below_set ?_ GE291.out | refine below_set ?_ GE297.out) | exact HB.out)⟩⟩
                                · rw [if_neg c68] at H
                                  exact absurd H (by simp)
                              · rw [if_neg c67] at H
                                exact absurd H (by simp)
                            · rw [if_neg c66] at H
                              have c66b0 : ((rd_T65 t292 x22_1).f3) = false := by simpa using c66
                              clear c66
                              by_cases c76 : y317.length < 8796093022208
                              · rw [if_pos c76] at H
                                have LMc76 := Aside0.mk c76
                                clear c76
                                obtain ⟨y325, hy325⟩ : ∃ y_ : List ByteArray, y_ = (y317 ++ [t321]) := ⟨_, rfl⟩
                                replace H : (impl_notate.l0 kj13 l0 t292 y325 t292 (t292.length : Int) (wrap64 (x22_1 + 1))) = some (r1, r2) := by first | (rw [hy325]; with_reducible exact H) | (have H2_ := (Option.bind_some _ _).symm.trans H; rw [hy325]; with_reducible exact H2_) | (have H2_ := (Option.bind_some _ _).symm.trans H; with_reducible exact H2_) | with_reducible exact H | (rw [hy325]; exact H) | exact H
                                have Ny325 := Aside0.mk hy325
                                clear hy325
                                have H' := Aside0.mk H
                                clear H
                                have hnb77 := NB297_291.out
                                have hnc77 := NB291_297.out
                                have hcz78_0 : wc.cell? ⟨gb297, 0, none⟩ = some (.int .i64 ((rd_T65 t292 x22_1).f0)) := (blk_cell BK297.out 0).trans rfl
                                have hcz78_1 : wc.cell? ⟨gb297, 1, none⟩ = some (.int .i64 ((rd_T65 t292 x22_1).f1)) := (blk_cell BK297.out 1).trans rfl
                                have hcz78_2 : wc.cell? ⟨gb297, 2, none⟩ = some (.int .i64 ((rd_T65 t292 x22_1).f2)) := (blk_cell BK297.out 2).trans rfl
                                have hcz78_3 : wc.cell? ⟨gb297, 3, none⟩ = some (.bool ((rd_T65 t292 x22_1).f3)) := (blk_cell BK297.out 3).trans rfl
                                have hfz78_0 := blk_frozen BK297.out 0
                                have hfz78_1 := blk_frozen BK297.out 1
                                have hfz78_2 := blk_frozen BK297.out 2
                                have hfz78_3 := blk_frozen BK297.out 3
                                try go_wp2_with (first | ((with_reducible refine gate_builtin (b := .append) (xs := #[.tmp 27, .tmp 28]) rfl ?_); at_builtin; refine Kd.R_append Kd.string (w0 := w) w.heap.size rfl (.tmp 27) (.tmp 28) 63 9 (.string ⟨#[]⟩) 16 rfl Tryd.underlying63 info9 rfl (by decide) (by omega) u9 x9_1 (⟨#[124]⟩ : ByteArray) [.string (⟨#[124]⟩ : ByteArray)] (fun _ => True) (fun _ => False) rfl rfl ?aP (fun _ hk => hk.elim) ?aF ?aO ?aB ?aS ?aL ?_; (case aP => exact rfl); (case aB => exact (by repeat (first | (with_reducible first | exact HB.out | apply below_alloc | apply pw_below_drewN | apply below_drew1 | refine below_set ?_ GE291.out | refine below_set ?_ GE297.out) | exact HB.out))); (case aF => exact (fun _ _ => trivial)); (case aO => exact (by (with_reducible repeat (first | apply Kd.R_alloc | apply Kd.R_drewN | apply Kd.R_drew)); exact HO_9.out)); (case aS => exact (below_size (by repeat (first | (with_reducible first | exact HB.out | apply below_alloc | apply pw_below_drewN | apply below_drew1 | refine below_set ?_ GE291.out | refine below_set ?_ GE297.out) | exact HB.out)))); (case aL => have := LMc62.out; omega); intro v318 w79 ho hb hg hat; rw [← Ny317.out] at ho; have n0_ := Aside0.mk (Kd.R_over' (by (with_reducible repeat (first | apply Kd.R_alloc | apply Kd.R_drewN | apply Kd.R_drew)); exact HO_8.out) (Kd.R_typed (by (with_reducible repeat (first | apply Kd.R_alloc | apply Kd.R_drewN | apply Kd.R_drew)); exact HO_9.out)) (by decide) hg); have n1_ := Aside0.mk (Kd.R_over' (by (with_reducible repeat (first | apply Kd.R_alloc | apply Kd.R_drewN | apply Kd.R_drew)); exact HO_20.out) (Kd.R_typed (by (with_reducible repeat (first | apply Kd.R_alloc | apply Kd.R_drewN | apply Kd.R_drew)); exact HO_9.out)) (by decide) hg); have n2_ := Aside0.mk (blk_grown (g := gb291) (o := .cells #[.string a1_0, .slice A1_1 l1_1.length c1_1, .slice A1_2 l1_2.length c1_2] 32 (0, 0)) (by (with_reducible repeat (first | refine blk_drewN ?_ _ | refine blk_drew ?_ | refine blk_alloc ?_ _)); exact BK291.out) hg (Kd.R_ne HO_9.out BK291.out (by decide))); have n3_ := Aside0.mk (blk_grown (g := gb297) (o := .cells #[.int .i64 ((rd_T65 t292 x22_1).f0), .int .i64 ((rd_T65 t292 x22_1).f1), .int .i64 ((rd_T65 t292 x22_1).f2), .bool ((rd_T65 t292 x22_1).f3)] 65 (0, 0)) (by (with_reducible repeat (first | refine blk_drewN ?_ _ | refine blk_drew ?_ | refine blk_alloc ?_ _)); exact BK297.out) hg (Kd.R_ne HO_9.out BK297.out (by decide))); have n4_ := Aside0.mk (hb); have n5_ := Aside0.mk (ho); clear HO_8; clear HO_20; clear BK291; clear BK297; clear HB; clear HO_9; have HO_8 := n0_; have HO_20 := n1_; have BK291 := n2_; have BK297 := n3_; have HB := n4_; have HO319 := n5_; clear n0_ n1_ n2_ n3_ n4_ n5_; clear ho hb hg hat))
                                have n0_ := Aside0.mk (Kd.R_drew HO_8.out)
                                have n1_ := Aside0.mk (Kd.R_drew HO_20.out)
                                have n2_ := Aside0.mk (Kd.R_drew HO319.out)
                                have n3_ := Aside0.mk (blk_drew BK291.out)
                                have n4_ := Aside0.mk (blk_drew BK297.out)
                                have n5_ := Aside0.mk (below_drew1 HB.out)
                                clear HO_8
                                clear HO_20
                                clear HO319
                                clear BK291
                                clear BK297
                                clear HB
                                have HO_8 := n0_
                                have HO_20 := n1_
                                have HO319 := n2_
                                have BK291 := n3_
                                have BK297 := n4_
                                have HB := n5_
                                clear n0_ n1_ n2_ n3_ n4_ n5_
                                have p320 : 0 ≤ (((rd_T65 t292 x22_1).f0) : Int) := of_decide_eq_true (by first | (with_reducible assumption) | assumption)
                                have q320 : ((rd_T65 t292 x22_1).f0) < (l0.length : Int) := of_decide_eq_true (by first | (with_reducible assumption) | assumption)
                                obtain ⟨ad320, e320, hx320_0, hx320_1⟩ := at_T44 HR0.out ((rd_T65 t292 x22_1).f0) p320 q320
                                have hw320_1 := hx320_1
                                have hw320_0 := hx320_0
                                cases e320
                                replace hx320_0 := (HB.out.cell (World.block_lt_of_cell? w _ hx320_0)).trans hx320_0
                                replace hx320_1 := (HB.out.cell (World.block_lt_of_cell? w _ hx320_1)).trans hx320_1
                                replace p320 := eq_true p320
                                replace q320 := eq_true q320
                                refine start_ (n := 10) (S := fun w' => w'.cell? ⟨gb297, 0, none⟩ = some (.int .i64 ((rd_T65 t292 x22_1).f0)) ∧ w'.cell? ⟨gb297, 1, none⟩ = some (.int .i64 ((rd_T65 t292 x22_1).f1)) ∧ w'.cell? ⟨gb297, 2, none⟩ = some (.int .i64 ((rd_T65 t292 x22_1).f2)) ∧ w'.cell? ⟨gb297, 3, none⟩ = some (.bool ((rd_T65 t292 x22_1).f3)) ∧ w'.cell? (ad320.add ((((rd_T65 t292 x22_1).f0)).toNat * 2)) = some (.int .i64 ((rd_T44 l0 ((rd_T65 t292 x22_1).f0)).f0)) ∧ w'.cell? ⟨(ad320.add ((((rd_T65 t292 x22_1).f0)).toNat * 2)).block, (ad320.add ((((rd_T65 t292 x22_1).f0)).toNat * 2)).off + 1, none⟩ = some (.int .i64 ((rd_T44 l0 ((rd_T65 t292 x22_1).f0)).f1))) (ds := []) #[false, false, false, false, false, false, false, false, false, false] (by kernel_rfl) rfl rfl ⟨(blk_cell BK297.out 0).trans rfl, (blk_cell BK297.out 1).trans rfl, (blk_cell BK297.out 2).trans rfl, (blk_cell BK297.out 3).trans rfl, ((HB.out.cell (World.block_lt_of_cell? w _ hw320_0)).trans hw320_0), ((HB.out.cell (World.block_lt_of_cell? w _ hw320_1)).trans hw320_1)⟩ (fun hHeld => ?_); refine with_tabW impl_notate.tab12 impl_notate.bits12 (fun HT_ HW_ => ?_)
                                generalize w79.drew = w80 at HO_8 HO_20 HO319 BK291 BK297 HB hx320_0 hx320_1 hHeld ⊢
                                refine pure_ (i := 0) (N := some 45) (v := ?_) (a' := ?_) #[true, false, false, false, false, false, false, false, false, false] rfl rfl (any_of HT_.out (by kernel_rfl)) (fun _ _ _ h => h) (Or.inl ⟨by rfl, ?_⟩) ?_ ?_
                                rotate_left
                                · intro w'
                                  go_simp
                                  with_reducible rfl
                                rotate_left
                                · simp only [Act.put, List.setIfInBounds_toArray, List.set_cons_zero, List.set_cons_succ, i64_w, i32_w]
                                  rfl
                                refine pure_ (i := 1) (N := some 46) (v := ?_) (a' := ?_) #[true, true, false, false, false, false, false, false, false, false] rfl rfl (any_of HT_.out (by kernel_rfl)) (fun _ _ _ h => h) (Or.inl ⟨by rfl, ?_⟩) ?_ ?_
                                rotate_left
                                · intro w'
                                  go_simp
                                  with_reducible rfl
                                rotate_left
                                · simp only [Act.put, List.setIfInBounds_toArray, List.set_cons_zero, List.set_cons_succ, i64_w, i32_w]
                                  rfl
                                refine pure_ (i := 6) (N := some 51) (v := ?_) (a' := ?_) #[true, true, false, false, false, false, true, false, false, false] rfl rfl (any_of HT_.out (by kernel_rfl)) (fun _ _ _ h => h) (Or.inl ⟨by rfl, ?_⟩) ?_ ?_
                                rotate_left
                                · intro w'
                                  go_simp
                                  with_reducible rfl
                                rotate_left
                                · simp only [Act.put, List.setIfInBounds_toArray, List.set_cons_zero, List.set_cons_succ, i64_w, i32_w]
                                  rfl
                                refine take_ (i := 2) (N := some 47) (v := ?_) (a' := ?_) #[true, true, true, false, false, false, true, false, false, false] rfl rfl (take_ofW HT_.out HW_.out (by kernel_rfl)) (fun _ _ _ h => h) (Or.inl ⟨by rfl, ?_⟩) hHeld ?_ ?_
                                rotate_left
                                · rintro w' ⟨s0, s1, s2, s3, s4, s5⟩
                                  go_simp
                                  with_reducible rfl
                                rotate_left
                                · simp only [Act.put, List.setIfInBounds_toArray, List.set_cons_zero, List.set_cons_succ, i64_w, i32_w]
                                  rfl
                                refine pure_ (i := 3) (N := some 48) (v := ?_) (a' := ?_) #[true, true, true, true, false, false, true, false, false, false] rfl rfl (any_of HT_.out (by kernel_rfl)) (fun _ _ _ h => h) (Or.inl ⟨by rfl, ?_⟩) ?_ ?_
                                rotate_left
                                · intro w'
                                  go_simp
                                  with_reducible rfl
                                rotate_left
                                · simp only [Act.put, List.setIfInBounds_toArray, List.set_cons_zero, List.set_cons_succ, i64_w, i32_w]
                                  rfl
                                refine pure_ (i := 4) (N := some 49) (v := ?_) (a' := ?_) #[true, true, true, true, true, false, true, false, false, false] rfl rfl (any_of HT_.out (by kernel_rfl)) (fun _ _ _ h => h) (Or.inl ⟨by rfl, ?_⟩) ?_ ?_
                                rotate_left
                                · intro w'
                                  go_simp
                                  with_reducible rfl
                                rotate_left
                                · simp only [Act.put, List.setIfInBounds_toArray, List.set_cons_zero, List.set_cons_succ, i64_w, i32_w]
                                  rfl
                                refine take_ (i := 5) (N := some 50) (v := ?_) (a' := ?_) #[true, true, true, true, true, true, true, false, false, false] rfl rfl (take_ofW HT_.out HW_.out (by kernel_rfl)) (fun _ _ _ h => h) (Or.inl ⟨by rfl, ?_⟩) hHeld ?_ ?_
                                rotate_left
                                · rintro w' ⟨s0, s1, s2, s3, s4, s5⟩
                                  go_simp
                                  with_reducible rfl
                                rotate_left
                                · simp only [Act.put, List.setIfInBounds_toArray, List.set_cons_zero, List.set_cons_succ, i64_w, i32_w]
                                  rfl
                                refine take_ (i := 7) (N := some 52) (v := ?_) (a' := ?_) #[true, true, true, true, true, true, true, true, false, false] rfl rfl (take_ofW HT_.out HW_.out (by kernel_rfl)) (fun _ _ _ h => h) (Or.inl ⟨by rfl, ?_⟩) hHeld ?_ ?_
                                rotate_left
                                · rintro w' ⟨s0, s1, s2, s3, s4, s5⟩
                                  go_simp
                                  with_reducible rfl
                                rotate_left
                                · simp only [Act.put, List.setIfInBounds_toArray, List.set_cons_zero, List.set_cons_succ, i64_w, i32_w]
                                  rfl
                                refine one_ (i := 8) (N := some 53) #[true, true, true, true, true, true, true, true, true, false] rfl rfl (one_of HT_.out (by kernel_rfl)) (by decide) (fun K hK => ?_)
                                refine goes_ Tryd.func34 (by kernel_rfl) rfl #[.int .i64 ((rd_T44 l0 ((rd_T65 t292 x22_1).f0)).f0), .int .i64 ((rd_T65 t292 x22_1).f1)] (by rfl) rfl rfl (by (try simp only [List.map_toArray, List.map_cons, List.map_nil]); first | done | rfl | (simp only [List.length_drop, List.length_take]; rfl)) ?_
                                with_reducible refine (impl_noteText.calls ((rd_T44 l0 ((rd_T65 t292 x22_1).f0)).f0) ((rd_T65 t292 x22_1).f1) t321 _ ?side1 A65.out).mono ?_
                                (case side1 => exact Lv.below hL (by repeat (first | (with_reducible first | exact HB.out | apply below_alloc | apply pw_below_drewN | apply below_drew1 | refine below_set ?_ GE291.out | refine below_set ?_ GE297.out) | exact HB.out)))
                                rintro e w81 ⟨rfl, hb⟩
                                refine ⟨_, rfl, ?_⟩
                                have n0_ := Aside0.mk (Kd.R_below (by (with_reducible repeat (first | apply Kd.R_alloc | apply Kd.R_drewN | apply Kd.R_drew)); exact HO_8.out) hb)
                                have n1_ := Aside0.mk (Kd.R_below (by (with_reducible repeat (first | apply Kd.R_alloc | apply Kd.R_drewN | apply Kd.R_drew)); exact HO_20.out) hb)
                                have n2_ := Aside0.mk (Kd.R_below (by (with_reducible repeat (first | apply Kd.R_alloc | apply Kd.R_drewN | apply Kd.R_drew)); exact HO319.out) hb)
                                have n3_ := Aside0.mk (blk_below (g := gb291) (o := .cells #[.string a1_0, .slice A1_1 l1_1.length c1_1, .slice A1_2 l1_2.length c1_2] 32 (0, 0)) (by (with_reducible repeat (first | refine blk_drewN ?_ _ | refine blk_drew ?_ | refine blk_alloc ?_ _)); exact BK291.out) hb)
                                have n4_ := Aside0.mk (blk_below (g := gb297) (o := .cells #[.int .i64 ((rd_T65 t292 x22_1).f0), .int .i64 ((rd_T65 t292 x22_1).f1), .int .i64 ((rd_T65 t292 x22_1).f2), .bool ((rd_T65 t292 x22_1).f3)] 65 (0, 0)) (by (with_reducible repeat (first | refine blk_drewN ?_ _ | refine blk_drew ?_ | refine blk_alloc ?_ _)); exact BK297.out) hb)
                                have n5_ := Aside0.mk (below_step (by repeat (first | (with_reducible first | exact HB.out | apply below_alloc | apply pw_below_drewN | apply below_drew1 | refine below_set ?_ GE291.out | refine below_set ?_ GE297.out) | exact HB.out)) hb)
                                clear HO_8
                                clear HO_20
                                clear HO319
                                clear BK291
                                clear BK297
                                clear HB
                                have HO_8 := n0_
                                have HO_20 := n1_
                                have HO319 := n2_
                                have BK291 := n3_
                                have BK297 := n4_
                                have HB := n5_
                                clear n0_ n1_ n2_ n3_ n4_ n5_
                                (try clear hb)
                                (try clear hb2)
                                (try clear hk)
                                (try clear hi)
                                refine hK.out _ _ ⟨(blk_cell BK297.out 0).trans rfl, (blk_cell BK297.out 1).trans rfl, (blk_cell BK297.out 2).trans rfl, (blk_cell BK297.out 3).trans rfl, ((HB.out.cell (World.block_lt_of_cell? w _ hw320_0)).trans hw320_0), ((HB.out.cell (World.block_lt_of_cell? w _ hw320_1)).trans hw320_1)⟩ (fun hHeld => ?_)
                                clear hK K
                                refine norm_ (a' := ?_) ?_ ?_
                                rotate_left
                                · show Act.put _ (some 53) _ = _
                                  simp only [Act.put, List.setIfInBounds_toArray, List.set_cons_zero, List.set_cons_succ, i64_w, i32_w]
                                  rfl
                                refine pure_ (i := 9) (N := some 12) (v := ?_) (a' := ?_) #[true, true, true, true, true, true, true, true, true, true] rfl rfl (any_of HT_.out (by kernel_rfl)) (fun _ _ _ h => h) (Or.inl ⟨by rfl, ?_⟩) ?_ ?_
                                rotate_left
                                · intro w'
                                  go_simp
                                  with_reducible rfl
                                rotate_left
                                · simp only [Act.put, List.setIfInBounds_toArray, List.set_cons_zero, List.set_cons_succ, i64_w, i32_w]
                                  rfl
                                refine done_ (done_of HT_.out (by kernel_rfl)) ?_
                                have hcz82_0 : w81.cell? ⟨gb297, 0, none⟩ = some (.int .i64 ((rd_T65 t292 x22_1).f0)) := (blk_cell BK297.out 0).trans rfl
                                have hcz82_1 : w81.cell? ⟨gb297, 1, none⟩ = some (.int .i64 ((rd_T65 t292 x22_1).f1)) := (blk_cell BK297.out 1).trans rfl
                                have hcz82_2 : w81.cell? ⟨gb297, 2, none⟩ = some (.int .i64 ((rd_T65 t292 x22_1).f2)) := (blk_cell BK297.out 2).trans rfl
                                have hcz82_3 : w81.cell? ⟨gb297, 3, none⟩ = some (.bool ((rd_T65 t292 x22_1).f3)) := (blk_cell BK297.out 3).trans rfl
                                have hfz82_0 := blk_frozen BK297.out 0
                                have hfz82_1 := blk_frozen BK297.out 1
                                have hfz82_2 := blk_frozen BK297.out 2
                                have hfz82_3 := blk_frozen BK297.out 3
                                try go_wp2_with (first | ((with_reducible refine gate_builtin (b := .append) (xs := #[.tmp 58, .tmp 60]) rfl ?_); at_builtin; refine Kd.R_append Kd.string (w0 := w) w.heap.size rfl (.tmp 58) (.tmp 60) 63 9 (.string ⟨#[]⟩) 16 rfl Tryd.underlying63 info9 rfl (by decide) (by omega) v318 y317 t321 [.string t321] (fun _ => True) (fun _ => False) rfl rfl ?aP (fun _ hk => hk.elim) ?aF ?aO ?aB ?aS ?aL ?_; (case aP => exact rfl); (case aB => exact (by repeat (first | (with_reducible first | exact HB.out | apply below_alloc | apply pw_below_drewN | apply below_drew1 | refine below_set ?_ GE291.out | refine below_set ?_ GE297.out) | exact HB.out))); (case aF => exact (fun _ _ => trivial)); (case aO => exact (by (with_reducible repeat (first | apply Kd.R_alloc | apply Kd.R_drewN | apply Kd.R_drew)); exact HO319.out)); (case aS => exact (below_size (by repeat (first | (with_reducible first | exact HB.out | apply below_alloc | apply pw_below_drewN | apply below_drew1 | refine below_set ?_ GE291.out | refine below_set ?_ GE297.out) | exact HB.out)))); (case aL => have := LMc76.out; omega); intro v326 w83 ho hb hg hat; rw [← Ny325.out] at ho; have n0_ := Aside0.mk (Kd.R_over' (by (with_reducible repeat (first | apply Kd.R_alloc | apply Kd.R_drewN | apply Kd.R_drew)); exact HO_8.out) (Kd.R_typed (by (with_reducible repeat (first | apply Kd.R_alloc | apply Kd.R_drewN | apply Kd.R_drew)); exact HO319.out)) (by decide) hg); have n1_ := Aside0.mk (Kd.R_over' (by (with_reducible repeat (first | apply Kd.R_alloc | apply Kd.R_drewN | apply Kd.R_drew)); exact HO_20.out) (Kd.R_typed (by (with_reducible repeat (first | apply Kd.R_alloc | apply Kd.R_drewN | apply Kd.R_drew)); exact HO319.out)) (by decide) hg); have n2_ := Aside0.mk (blk_grown (g := gb291) (o := .cells #[.string a1_0, .slice A1_1 l1_1.length c1_1, .slice A1_2 l1_2.length c1_2] 32 (0, 0)) (by (with_reducible repeat (first | refine blk_drewN ?_ _ | refine blk_drew ?_ | refine blk_alloc ?_ _)); exact BK291.out) hg (Kd.R_ne HO319.out BK291.out (by decide))); have n3_ := Aside0.mk (blk_grown (g := gb297) (o := .cells #[.int .i64 ((rd_T65 t292 x22_1).f0), .int .i64 ((rd_T65 t292 x22_1).f1), .int .i64 ((rd_T65 t292 x22_1).f2), .bool ((rd_T65 t292 x22_1).f3)] 65 (0, 0)) (by (with_reducible repeat (first | refine blk_drewN ?_ _ | refine blk_drew ?_ | refine blk_alloc ?_ _)); exact BK297.out) hg (Kd.R_ne HO319.out BK297.out (by decide))); have n4_ := Aside0.mk (hb); have n5_ := Aside0.mk (ho); clear HO_8; clear HO_20; clear BK291; clear BK297; clear HB; clear HO319; have HO_8 := n0_; have HO_20 := n1_; have BK291 := n2_; have BK297 := n3_; have HB := n4_; have HO327 := n5_; clear n0_ n1_ n2_ n3_ n4_ n5_; clear ho hb hg hat))
                                go_roundg kj13
                                case measure => have := HK1.out; have := HJ13.out; omega
                                case rel => exact ⟨(y325), (wrap64 (x22_1 + 1)), (by first | rfl | (simp; done) | (simp [*]; done)), H', ⟨by have := HK1.out; have := HJ13.out; omega⟩, ⟨by (with_reducible repeat (first | apply Kd.R_alloc | apply Kd.R_drewN | apply Kd.R_drew)); exact Kd.R_mono HO_8.out (fun _ hk => trivial)⟩, ⟨by (with_reducible repeat (first | apply Kd.R_alloc | apply Kd.R_drewN | apply Kd.R_drew)); exact HO327.out⟩, ⟨by (with_reducible repeat (first | apply Kd.R_alloc | apply Kd.R_drewN | apply Kd.R_drew)); exact Kd.R_mono HO_20.out (fun _ hk => trivial)⟩, ⟨by (with_reducible repeat (first | refine blk_drewN ?_ _ | refine blk_drew ?_ | refine blk_alloc ?_ _)); exact BK291.out⟩, ⟨by repeat (first | (with_reducible first | exact HB.out | apply below_alloc | apply pw_below_drewN | apply below_drew1 | refine below_set ?_ GE291.out | refine below_set ?_ GE297.out) | exact HB.out)⟩⟩
                              · rw [if_neg c76] at H
                                exact absurd H (by simp)
                          · rw [if_neg c64] at H
                            exact absurd H (by simp)
                        · rw [if_neg c63] at H
                          exact absurd H (by simp)
                      · rw [if_neg c62] at H
                        exact absurd H (by simp)
            · rw [if_neg c13] at H
              exact absurd H (by simp)
          · rw [if_neg c12] at H
            exact absurd H (by simp)
        · rw [if_neg c11] at H
          have c11b0 : decide (x22_1 < (t292.length : Int)) = false := decide_eq_false c11
          clear c11
          replace H := Option.bind_eq_some_iff.mp H
          obtain ⟨t295, A840, H⟩ := H
          replace H : (some (t295, decide ((t292.length : Int) ≤ 128))) = some (r1, r2) := H
          have A84 := Aside0.mk A840
          clear A840
          simp only [Option.some.injEq, Prod.mk.injEq] at H
          obtain ⟨rfl, rfl⟩ := H
          obtain ⟨Ao85, co85, eo85⟩ := Kd.R_slice HO_9.out
          subst eo85
          go_wp2_with (first | ((with_reducible refine gate_callee (f := 35) rfl ?_); refine goesL_ (some 64) rfl rfl Tryd.func35 (by kernel_rfl) rfl #[.slice Ao85 x9_1.length co85, .string (⟨#[32]⟩ : ByteArray)] rfl (by (try simp only [List.map_toArray, List.map_cons, List.map_nil]); first | done | rfl | (simp only [List.length_drop, List.length_take]; rfl)) ?_; (with_reducible refine (strings_Join.calls _ _ x9_1 (⟨#[32]⟩ : ByteArray) t295 _ ?side1 ?side2 A84.out).mono ?_); (case side1 => repeat (first | exact (Kd.R_reads' HO_9.out).2.2 | (with_reducible refine Kd.C_alloc ?_ _) | (with_reducible refine Kd.C_drewN ?_ _) | (with_reducible refine Kd.C_drew ?_))); (case side2 => exact (Kd.R_reads' HO_9.out).2.1); rintro e w86 ⟨rfl, hb⟩; refine ⟨_, rfl, ?_⟩; have n0_ := Aside0.mk (Kd.R_below (by (with_reducible repeat (first | apply Kd.R_alloc | apply Kd.R_drewN | apply Kd.R_drew)); exact HO_8.out) hb); have n1_ := Aside0.mk (Kd.R_below (by (with_reducible repeat (first | apply Kd.R_alloc | apply Kd.R_drewN | apply Kd.R_drew)); exact HO_9.out) hb); have n2_ := Aside0.mk (Kd.R_below (by (with_reducible repeat (first | apply Kd.R_alloc | apply Kd.R_drewN | apply Kd.R_drew)); exact HO_20.out) hb); have n3_ := Aside0.mk (blk_below (g := gb291) (o := .cells #[.string a1_0, .slice A1_1 l1_1.length c1_1, .slice A1_2 l1_2.length c1_2] 32 (0, 0)) (by (with_reducible repeat (first | refine blk_drewN ?_ _ | refine blk_drew ?_ | refine blk_alloc ?_ _)); exact BK291.out) hb); have n4_ := Aside0.mk (below_step (by repeat (first | (with_reducible first | exact HB.out | apply below_alloc | apply pw_below_drewN | apply below_drew1 | refine below_set ?_ GE291.out) | exact HB.out)) hb); clear HO_8; clear HO_9; clear HO_20; clear BK291; clear HB; have HO_8 := n0_; have HO_9 := n1_; have HO_20 := n2_; have BK291 := n3_; have HB := n4_; clear n0_ n1_ n2_ n3_ n4_; (try clear hb); (try clear hb2); (try clear hk); (try clear hi)))
          go_ret2
          exact ⟨by first | rfl | (simp [errW_none, errW_some] <;> rfl) | (simp [*, errW_none, errW_some] <;> rfl), by repeat (first | (with_reducible first | exact HB.out | apply below_alloc | apply pw_below_drewN | apply below_drew1 | refine below_set ?_ GE291.out) | exact HB.out)⟩
end Go.Proofs.YtjnfkomadgfggaaDoor.PZ
end
