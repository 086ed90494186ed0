/- What is proved: fnScripts_card, without further conditions; this text holds part 3 of 4 of its proof. -/

import Derived.Test.YtgklofginkafgaaGreatDoorQFnScripts1
section
namespace Go.Proofs.YtgklofginkafgaaGreatDoor.PS
open Go.RowKit Go.Proofs.YtgklofginkafgaaGreatDoorW.PrintWords Go.Proofs.YtgklofginkafgaaGreatDoorW.PrintLast Go.Proofs.YtgklofginkafgaaGreatDoorW.PrintMore
attribute [local go_sem] max2_int min2_int max_two min_two max_three min_three max_four min_four
set_option linter.unusedVariables false
set_option linter.unusedSimpArgs false
attribute [local go_sem high] eqA70
def spec_l09Bent.l0 : Nat → List (S70) → Int → List Int → Int → Int → Option ((List (S70)) × Int × Int)
 | 0, _, _, _, _, _ => none
 | k + 1, x3, x4, x1000, x1001, x1002 => if (x3.length : Int) < x4 then (if x3.length < 8796093022208 then (spec_l09Bent.l0 k (x3 ++ [(⟨2, 1⟩ : S70)]) x4 x1000 x1001 x1002) else (none)) else (some (x3, x1001, x1002))
def spec_l09Bent.f (k : Nat) (s0_0 : List Int) (s0_1 : Int) (s0_2 : Int) : Option ((List (S70)) × Int × Int) := (spec_l09Draw.f k s0_0 s0_1 s0_2).bind fun bt303 => ((spec_l00Src_pick.f s0_0 bt303.2.1 bt303.2.2 20).bind fun bt308 => (if bt308.1 = 0 then ((spec_l00Src_among.f s0_0 bt308.2.1 bt308.2.2 (([(-13), (-12), 23, 24] : List Int))).bind fun bt314 => (if bt303.1.length < 8796093022208 then (some ((bt303.1 ++ [(⟨bt314.1, 1⟩ : S70)]), bt314.2.1, bt314.2.2)) else (none))) else (if bt308.1 = 1 then ((spec_l00Src_among.f s0_0 bt308.2.1 bt308.2.2 (([0, 1, 64, 65] : List Int))).bind fun bt323 => (if bt303.1.length < 8796093022208 then (some ((bt303.1 ++ [(⟨0, bt323.1⟩ : S70)]), bt323.2.1, bt323.2.2)) else (none))) else (if bt308.1 = 2 then ((spec_l00Src_pick.f s0_0 bt308.2.1 bt308.2.2 3).bind fun bt329 => (spec_l09Bent.l0 k bt303.1 (wrap64 (47 + bt329.1)) s0_0 bt329.2.1 bt329.2.2)) else (some (bt303.1, bt308.2.1, bt308.2.2))))))
theorem spec_l09Bent.mono_l : ∀ k, (∀ y0 y1 y2 y3 y4, LeO (spec_l09Bent.l0 k y0 y1 y2 y3 y4) (spec_l09Bent.l0 (k + 1) y0 y1 y2 y3 y4))
 | 0 => fun _ _ _ _ _ r h => by simp [spec_l09Bent.l0] at h
 | k + 1 => by
  have ih0 := spec_l09Bent.mono_l k
  ·intro y0 y1 y2 y3 y4
   unfold spec_l09Bent.l0
   repeat' first
   | (with_reducible exact ih0 _ _ _ _ _)
   | (with_reducible exact spec_l09Draw.mono _ _ _ _)
   | (with_reducible exact LeO.refl _)
   | (with_reducible exact LeO.none _)
   | (with_reducible refine LeO.ite ?_ ?_)
   | (with_reducible refine LeO.bind ?_ (fun _ => ?_))
theorem spec_l09Bent.mono : ∀ a0 a1 a2 k, LeO (spec_l09Bent.f k a0 a1 a2) (spec_l09Bent.f (k + 1) a0 a1 a2) := by
 intro a0 a1 a2 k
 have ih0 := spec_l09Bent.mono_l k
 unfold spec_l09Bent.f
 repeat' first
   | (with_reducible exact ih0 _ _ _ _ _)
   | (with_reducible exact spec_l09Draw.mono _ _ _ _)
   | (with_reducible exact LeO.refl _)
   | (with_reducible exact LeO.none _)
   | (with_reducible refine LeO.ite ?_ ?_)
   | (with_reducible refine LeO.bind ?_ (fun _ => ?_))
set_option maxHeartbeats 8000000 in
set_option maxRecDepth 100000 in
theorem spec_l09Bent.calls (k : Nat) (g : Nat) (s0_0 : List Int) (s0_1 : Int) (s0_2 : Int) (r1 : List (S70)) (r2 : Int) (r3 : Int) (w0 w : World) (hI : IsS80 w0 w g s0_0 s0_1 s0_2) (hB : Below w0.heap.size w0 w) (h : spec_l09Bent.f k s0_0 s0_1 s0_2 = some (r1, r2, r3)) :
  Calls Tryz.prog 37 #[.pointer (some ⟨g, 0, none⟩)] w fun e w' => ∃ v0_ : Value, e = .returned (v0_) ∧ Kd.R k70 70 w' w.heap.size (fun _ => True) v0_ r1 ∧ IsS80 w0 w' g s0_0 r2 r3 ∧ Below w0.heap.size w0 w' ∧ KeepBut w w' g none := by
 have hu70 := Tryz.underlying70
 have HI0 := Aside0.mk hI
 have HK := Aside0.mk (KeepBut.refl w g none)
 have HL := Aside0.mk hB.size
 clear hI
 have HW0 := Aside0.mk hB.size
 have HB := Aside0.mk hB
 clear hB
 have H : ((spec_l09Draw.f k s0_0 s0_1 s0_2).bind fun bt303 => ((spec_l00Src_pick.f s0_0 bt303.2.1 bt303.2.2 20).bind fun bt308 => (if bt308.1 = 0 then ((spec_l00Src_among.f s0_0 bt308.2.1 bt308.2.2 (([(-13), (-12), 23, 24] : List Int))).bind fun bt314 => (if bt303.1.length < 8796093022208 then (some ((bt303.1 ++ [(⟨bt314.1, 1⟩ : S70)]), bt314.2.1, bt314.2.2)) else (none))) else (if bt308.1 = 1 then ((spec_l00Src_among.f s0_0 bt308.2.1 bt308.2.2 (([0, 1, 64, 65] : List Int))).bind fun bt323 => (if bt303.1.length < 8796093022208 then (some ((bt303.1 ++ [(⟨0, bt323.1⟩ : S70)]), bt323.2.1, bt323.2.2)) else (none))) else (if bt308.1 = 2 then ((spec_l00Src_pick.f s0_0 bt308.2.1 bt308.2.2 3).bind fun bt329 => (spec_l09Bent.l0 k bt303.1 (wrap64 (47 + bt329.1)) s0_0 bt329.2.1 bt329.2.2)) else (some (bt303.1, bt308.2.1, bt308.2.2))))))) = some (r1, r2, r3) := h
 clear h
 replace H := Option.bind_eq_some_iff.mp H
 obtain ⟨⟨t303, t306, t307⟩, A20, H⟩ := H
 replace H : ((spec_l00Src_pick.f s0_0 t306 t307 20).bind fun bt308 => (if bt308.1 = 0 then ((spec_l00Src_among.f s0_0 bt308.2.1 bt308.2.2 (([(-13), (-12), 23, 24] : List Int))).bind fun bt314 => (if t303.length < 8796093022208 then (some ((t303 ++ [(⟨bt314.1, 1⟩ : S70)]), bt314.2.1, bt314.2.2)) else (none))) else (if bt308.1 = 1 then ((spec_l00Src_among.f s0_0 bt308.2.1 bt308.2.2 (([0, 1, 64, 65] : List Int))).bind fun bt323 => (if t303.length < 8796093022208 then (some ((t303 ++ [(⟨0, bt323.1⟩ : S70)]), bt323.2.1, bt323.2.2)) else (none))) else (if bt308.1 = 2 then ((spec_l00Src_pick.f s0_0 bt308.2.1 bt308.2.2 3).bind fun bt329 => (spec_l09Bent.l0 k t303 (wrap64 (47 + bt329.1)) s0_0 bt329.2.1 bt329.2.2)) else (some (t303, bt308.2.1, bt308.2.2)))))) = some (r1, r2, r3) := H
 have A2 := Aside0.mk A20
 clear A20
 replace H := Option.bind_eq_some_iff.mp H
 obtain ⟨⟨t308, t309, t310⟩, A30, H⟩ := H
 replace H : (if t308 = 0 then ((spec_l00Src_among.f s0_0 t309 t310 (([(-13), (-12), 23, 24] : List Int))).bind fun bt314 => (if t303.length < 8796093022208 then (some ((t303 ++ [(⟨bt314.1, 1⟩ : S70)]), bt314.2.1, bt314.2.2)) else (none))) else (if t308 = 1 then ((spec_l00Src_among.f s0_0 t309 t310 (([0, 1, 64, 65] : List Int))).bind fun bt323 => (if t303.length < 8796093022208 then (some ((t303 ++ [(⟨0, bt323.1⟩ : S70)]), bt323.2.1, bt323.2.2)) else (none))) else (if t308 = 2 then ((spec_l00Src_pick.f s0_0 t309 t310 3).bind fun bt329 => (spec_l09Bent.l0 k t303 (wrap64 (47 + bt329.1)) s0_0 bt329.2.1 bt329.2.2)) else (some (t303, t309, t310))))) = some (r1, r2, r3) := H
 have A3 := Aside0.mk A30
 clear A30
 by_cases c4 : t308 = 0
 ·rw [if_pos c4] at H
  have c4b0 : (t308 == 0) = true := beq_iff_eq.mpr c4
  have c4b1 : (t308 != 0) = false := bne_eq_false_iff_eq.mpr c4
  clear c4
  obtain ⟨y311, hy311⟩ : ∃ y_ : List Int, y_ = (([(-13), (-12), 23, 24] : List Int)) := ⟨_, rfl⟩
  replace H : ((spec_l00Src_among.f s0_0 t309 t310 y311).bind fun bt314 => (if t303.length < 8796093022208 then (some ((t303 ++ [(⟨bt314.1, 1⟩ : S70)]), bt314.2.1, bt314.2.2)) else (none))) = some (r1, r2, r3) := by first | (rw [hy311]; with_reducible exact H) | (have H2_ := (Option.bind_some _ _).symm.trans H; rw [hy311]; with_reducible exact H2_) | (have H2_ := (Option.bind_some _ _).symm.trans H; with_reducible exact H2_) | with_reducible exact H | (rw [hy311]; exact H) | exact H
  have Ny311 := Aside0.mk hy311
  clear hy311
  replace H := Option.bind_eq_some_iff.mp H
  obtain ⟨⟨t314, t315, t316⟩, A50, H⟩ := H
  replace H : (if t303.length < 8796093022208 then (some ((t303 ++ [(⟨t314, 1⟩ : S70)]), t315, t316)) else (none)) = some (r1, r2, r3) := H
  have A5 := Aside0.mk A50
  clear A50
  by_cases c6 : t303.length < 8796093022208
  ·rw [if_pos c6] at H
   have LMc6 := Aside0.mk c6
   clear c6
   obtain ⟨y317, hy317⟩ : ∃ y_ : List (S70), y_ = (t303 ++ [(⟨t314, 1⟩ : S70)]) := ⟨_, rfl⟩
   replace H : (some (y317, t315, t316)) = some (r1, r2, r3) := by first | (rw [hy317]; with_reducible exact H) | (have H2_ := (Option.bind_some _ _).symm.trans H; rw [hy317]; with_reducible exact H2_) | (have H2_ := (Option.bind_some _ _).symm.trans H; with_reducible exact H2_) | with_reducible exact H | (rw [hy317]; exact H) | exact H
   have Ny317 := Aside0.mk hy317
   clear hy317
   simp only [Option.some.injEq, Prod.mk.injEq] at H
   obtain ⟨rfl, rfl, rfl⟩ := H
   go_enter Tryz.func37, Tryz.ntmps37
   go_wp2_with (first | ((with_reducible refine gate_callee (f := 51) rfl ?_); refine goesL_ (some 6) rfl rfl Tryz.func51 (by kernel_rfl) rfl #[.pointer (some ⟨g, 0, none⟩)] rfl ma_ ?_; (with_reducible refine (spec_l09Draw.calls k g s0_0 s0_1 s0_2 t303 t306 t307 w0 _ ?side1 ?side2 A2.out).mono ?_); (case side1 => repeat (first | (with_reducible first | exact HI0.out | apply IsS80.alloc | apply IsS80.drewN | apply IsS80.drew | apply IsS80.set_1 | apply IsS80.set_2) | exact HI0.out)); (case side2 => repeat (first | (with_reducible first | exact HB.out | apply below_alloc | apply pw_below_drewN | apply below_drew1 | refine below_set ?_ (IsS80.ge HI0.out)) | exact HB.out)); rintro e w7 ⟨v304, rfl, ho0, hi, hb, hk⟩; refine ⟨_, rfl, ?_⟩; have n0_ := Aside0.mk (Kd.R_lower ho0 (keep_size (w := w) (g := g) (row := none) (by repeat (first | (with_reducible first | exact HK.out | apply KeepBut.set_ | apply keep_drewN | apply keep_drew | apply keep_alloc) | exact HK.out)))); have n1_ := Aside0.mk (KeepBut.trans (by repeat (first | (with_reducible first | exact HK.out | apply KeepBut.set_ | apply keep_drewN | apply keep_drew | apply keep_alloc) | exact HK.out)) hk (.inl rfl)); have n2_ := Aside0.mk (hb); have n3_ := Aside0.mk (hi); clear HK; clear HB; clear HI0; have HO305 := n0_; have HK := n1_; have HB := n2_; have HI0 := n3_; clear n0_ n1_ n2_ n3_; (try clear hb); (try clear hb2); (try clear hk); (try clear hi); (try clear ho0)) | ((with_reducible refine gate_callee (f := 50) rfl ?_); refine goesL_ (some 8) rfl rfl Tryz.func50 (by kernel_rfl) rfl #[.pointer (some ⟨g, 0, none⟩), .int .i64 20] rfl ma_ ?_; (with_reducible refine (spec_l00Src_pick.calls g s0_0 t306 t307 20 t308 t309 t310 w0 _ ?side1 ?side2 A3.out).mono ?_); (case side1 => repeat (first | (with_reducible first | exact HI0.out | apply IsS80.alloc | apply IsS80.drewN | apply IsS80.drew | apply IsS80.set_1 | apply IsS80.set_2) | exact HI0.out)); (case side2 => repeat (first | (with_reducible first | exact HB.out | apply below_alloc | apply pw_below_drewN | apply below_drew1 | refine below_set ?_ (IsS80.ge HI0.out)) | exact HB.out)); rintro e w8 ⟨rfl, hi, hb, hk⟩; refine ⟨_, rfl, ?_⟩; have n0_ := Aside0.mk (Kd.R_mono (Kd.R_keep (IsS80.apart (show IsS80 w0 _ g s0_0 t306 t307 from by repeat (first | (with_reducible first | exact HI0.out | apply IsS80.alloc | apply IsS80.drewN | apply IsS80.drew | apply IsS80.set_1 | apply IsS80.set_2) | exact HI0.out)) (kr_ HO305.out) (by decide)) hk (fun _ h => h.2)) (fun _ h => h.1)); have n1_ := Aside0.mk (KeepBut.trans (by repeat (first | (with_reducible first | exact HK.out | apply KeepBut.set_ | apply keep_drewN | apply keep_drew | apply keep_alloc) | exact HK.out)) hk (.inl rfl)); have n2_ := Aside0.mk (hb); have n3_ := Aside0.mk (hi); clear HO305; clear HK; clear HB; clear HI0; have HO305 := n0_; have HK := n1_; have HB := n2_; have HI0 := n3_; clear n0_ n1_ n2_ n3_; (try clear hb); (try clear hb2); (try clear hk); (try clear hi)) | ((with_reducible refine gate_dst (N := 13) rfl ?_); refine Kd.R_lit (Kd.int .i64) _ 2 ?hg (N := 13) ?hd (xs := ([(-13), (-12), 23, 24] : List Int)) (inner := [.int .i64 (-13), .int .i64 (-12), .int .i64 23, .int .i64 24]) (ok := fun _ => True) (okp := fun _ => True) ?hr ?hp (fun _ hk => hk) trivial (Below.refl _ _) (Nat.le_refl _) (by simp) ?_; (case hd => rfl); (case hg => rfl); (case hr => first | (go_simp; done) | (go_simp; rfl)); (case hp => exact (Reps.one (show Kd.M (Kd.int .i64) _ _ _ (-13) [.int .i64 (-13)] from rfl) (Reps.one (show Kd.M (Kd.int .i64) _ _ _ (-12) [.int .i64 (-12)] from rfl) (Reps.one (show Kd.M (Kd.int .i64) _ _ _ 23 [.int .i64 23] from rfl) (Reps.one (show Kd.M (Kd.int .i64) _ _ _ 24 [.int .i64 24] from rfl) (Reps.none _ _)))))); intro v312 w9 ho10 hb hg_ hnew_; clear hg_ hnew_; (first | rw [← Ny311.out] at ho10 | (simp only [Int.reduceToNat] at ho10; rw [← Ny311.out] at ho10)); have n0_ := Aside0.mk (Kd.R_below (kr_ HO305.out) hb); have n1_ := Aside0.mk (Kd.R_lower ho10 (keep_size (w := w) (g := g) (row := none) (by repeat (first | (with_reducible first | exact HK.out | apply KeepBut.set_ | apply keep_drewN | apply keep_drew | apply keep_alloc) | exact HK.out)))); have n2_ := Aside0.mk (IsS80.below (by repeat (first | (with_reducible first | exact HI0.out | apply IsS80.alloc | apply IsS80.drewN | apply IsS80.drew | apply IsS80.set_1 | apply IsS80.set_2) | exact HI0.out)) hb); have n3_ := Aside0.mk (KeepBut.trans (by repeat (first | (with_reducible first | exact HK.out | apply KeepBut.set_ | apply keep_drewN | apply keep_drew | apply keep_alloc) | exact HK.out)) (KeepBut.of_below hb g none) (.inl rfl)); have n4_ := Aside0.mk (below_step (by repeat (first | (with_reducible first | exact HB.out | apply below_alloc | apply pw_below_drewN | apply below_drew1 | refine below_set ?_ (IsS80.ge HI0.out)) | exact HB.out)) hb); clear HO305; clear HI0; clear HK; clear HB; have HO305 := n0_; have HO313 := n1_; have HI0 := n2_; have HK := n3_; have HB := n4_; clear n0_ n1_ n2_ n3_ n4_; clear hb ho10; obtain ⟨Ao11, co11, eo11⟩ := Kd.R_slice HO313.out; subst eo11) | ((with_reducible refine gate_callee (f := 54) rfl ?_); refine goesL_ (some 14) rfl rfl Tryz.func54 (by kernel_rfl) rfl #[.pointer (some ⟨g, 0, none⟩), .slice Ao11 y311.length co11] rfl ma_ ?_; (with_reducible refine (spec_l00Src_among.calls g s0_0 t309 t310 _ _ y311 t314 t315 t316 w0 _ ?side1 ?side2 ?side3 ?side4 ?side5 A5.out).mono ?_); (case side1 => repeat (first | (with_reducible first | exact HI0.out | apply IsS80.alloc | apply IsS80.drewN | apply IsS80.drew | apply IsS80.set_1 | apply IsS80.set_2) | exact HI0.out)); (case side2 => repeat (first | (with_reducible first | exact HB.out | apply below_alloc | apply pw_below_drewN | apply below_drew1 | refine below_set ?_ (IsS80.ge HI0.out)) | exact HB.out)); (case side3 => repeat (first | exact (Kd.R_reads' HO313.out).2.2 | (with_reducible refine Kd.C_alloc ?_ _) | (with_reducible refine Kd.C_drewN ?_ _) | (with_reducible refine Kd.C_drew ?_))); (case side4 => exact (Kd.R_reads' HO313.out).2.1); (case side5 => exact far_slice (IsS80.own_ne HI0.out HO313.out (by decide))); rintro e w12 ⟨rfl, hi, hb, hk⟩; refine ⟨_, rfl, ?_⟩; have n0_ := Aside0.mk (Kd.R_mono (Kd.R_keep (IsS80.apart (show IsS80 w0 _ g s0_0 t309 t310 from by repeat (first | (with_reducible first | exact HI0.out | apply IsS80.alloc | apply IsS80.drewN | apply IsS80.drew | apply IsS80.set_1 | apply IsS80.set_2) | exact HI0.out)) (kr_ HO305.out) (by decide)) hk (fun _ h => h.2)) (fun _ h => h.1)); have n1_ := Aside0.mk (Kd.R_mono (Kd.R_keep (IsS80.apart (show IsS80 w0 _ g s0_0 t309 t310 from by repeat (first | (with_reducible first | exact HI0.out | apply IsS80.alloc | apply IsS80.drewN | apply IsS80.drew | apply IsS80.set_1 | apply IsS80.set_2) | exact HI0.out)) (kr_ HO313.out) (by decide)) hk (fun _ h => h.2)) (fun _ h => h.1)); have n2_ := Aside0.mk (KeepBut.trans (by repeat (first | (with_reducible first | exact HK.out | apply KeepBut.set_ | apply keep_drewN | apply keep_drew | apply keep_alloc) | exact HK.out)) hk (.inl rfl)); have n3_ := Aside0.mk (hb); have n4_ := Aside0.mk (hi); clear HO305; clear HO313; clear HK; clear HB; clear HI0; have HO305 := n0_; have HO313 := n1_; have HK := n2_; have HB := n3_; have HI0 := n4_; clear n0_ n1_ n2_ n3_ n4_; (try clear hb); (try clear hb2); (try clear hk); (try clear hi)) | ((with_reducible refine gate_builtin (b := .append) (xs := #[.tmp 11, .tmp 16]) rfl ?_); at_builtin; refine Kd.R_append k70 w.heap.size rfl (.tmp 11) (.tmp 16) 34 70 (.agg #[(.int .i64 0), (.int .i64 0)]) 16 rfl Tryz.underlying34 info70 rfl (by decide) (by omega) v304 t303 (⟨t314, 1⟩ : S70) [.int .i64 t314, .int .i64 1] (fun _ => True) (fun _ => False) rfl rfl ?aP (fun _ hk => hk.elim) ?aF ?aO (Below.refl _ _) ?aS ?aL ?_; (case aP => exact k70_mkM _ _ _ (⟨t314, 1⟩ : S70)); (case aF => exact (fun _ _ => trivial)); (case aO => exact (kr_ HO305.out)); (case aS => exact (keep_size (w := w) (g := g) (row := none) (by repeat (first | (with_reducible first | exact HK.out | apply KeepBut.set_ | apply keep_drewN | apply keep_drew | apply keep_alloc) | exact HK.out)))); (case aL => have := LMc6.out; omega); intro v318 w13 ho hb hg hat; rw [← Ny317.out] at ho; have n0_ := Aside0.mk (IsS80.grown (by repeat (first | (with_reducible first | exact HI0.out | apply IsS80.alloc | apply IsS80.drewN | apply IsS80.drew | apply IsS80.set_1 | apply IsS80.set_2) | exact HI0.out)) hg (IsS80.own_ne HI0.out HO305.out (by decide))); have n1_ := Aside0.mk (Kd.R_over' (kr_ HO313.out) (Kd.R_typed (kr_ HO305.out)) (by decide) hg); have n2_ := Aside0.mk (below_weaken (by repeat (first | (with_reducible first | exact HB.out | apply below_alloc | apply pw_below_drewN | apply below_drew1 | refine below_set ?_ (IsS80.ge HI0.out)) | exact HB.out)) HL.out hb); have n3_ := Aside0.mk (KeepBut.trans (by repeat (first | (with_reducible first | exact HK.out | apply KeepBut.set_ | apply keep_drewN | apply keep_drew | apply keep_alloc) | exact HK.out)) (KeepBut.of_grown hg g) (Kd.R_base2 HO305.out)); have n4_ := Aside0.mk (ho); clear HI0; clear HO313; clear HB; clear HK; clear HO305; have HI0 := n0_; have HO313 := n1_; have HB := n2_; have HK := n3_; have HO319 := n4_; clear n0_ n1_ n2_ n3_ n4_; clear ho hb hg hat))
   go_ret
   exact ⟨_, re_, kr_ HO319.out, by repeat (first | (with_reducible first | exact HI0.out | apply IsS80.alloc | apply IsS80.drewN | apply IsS80.drew | apply IsS80.set_1 | apply IsS80.set_2) | exact HI0.out), by repeat (first | (with_reducible first | exact HB.out | apply below_alloc | apply pw_below_drewN | apply below_drew1 | refine below_set ?_ (IsS80.ge HI0.out)) | exact HB.out), by repeat (first | (with_reducible first | exact HK.out | apply KeepBut.set_ | apply keep_drewN | apply keep_drew | apply keep_alloc) | exact HK.out)⟩
  ·rw [if_neg c6] at H
   exact absurd H (by simp)
 ·rw [if_neg c4] at H
  have c4b0 : (t308 == 0) = false := beq_eq_false_iff_ne.mpr c4
  have c4b1 : (t308 != 0) = true := bne_iff_ne.mpr c4
  by_cases c14 : t308 = 1
  ·rw [if_pos c14] at H
   have c14b0 : (t308 == 1) = true := beq_iff_eq.mpr c14
   have c14b1 : (t308 != 1) = false := bne_eq_false_iff_eq.mpr c14
   clear c14
   obtain ⟨y320, hy320⟩ : ∃ y_ : List Int, y_ = (([0, 1, 64, 65] : List Int)) := ⟨_, rfl⟩
   replace H : ((spec_l00Src_among.f s0_0 t309 t310 y320).bind fun bt323 => (if t303.length < 8796093022208 then (some ((t303 ++ [(⟨0, bt323.1⟩ : S70)]), bt323.2.1, bt323.2.2)) else (none))) = some (r1, r2, r3) := by first | (rw [hy320]; with_reducible exact H) | (have H2_ := (Option.bind_some _ _).symm.trans H; rw [hy320]; with_reducible exact H2_) | (have H2_ := (Option.bind_some _ _).symm.trans H; with_reducible exact H2_) | with_reducible exact H | (rw [hy320]; exact H) | exact H
   have Ny320 := Aside0.mk hy320
   clear hy320
   replace H := Option.bind_eq_some_iff.mp H
   obtain ⟨⟨t323, t324, t325⟩, A150, H⟩ := H
   replace H : (if t303.length < 8796093022208 then (some ((t303 ++ [(⟨0, t323⟩ : S70)]), t324, t325)) else (none)) = some (r1, r2, r3) := H
   have A15 := Aside0.mk A150
   clear A150
   by_cases c16 : t303.length < 8796093022208
   ·rw [if_pos c16] at H
    have LMc16 := Aside0.mk c16
    clear c16
    obtain ⟨y326, hy326⟩ : ∃ y_ : List (S70), y_ = (t303 ++ [(⟨0, t323⟩ : S70)]) := ⟨_, rfl⟩
    replace H : (some (y326, t324, t325)) = some (r1, r2, r3) := by first | (rw [hy326]; with_reducible exact H) | (have H2_ := (Option.bind_some _ _).symm.trans H; rw [hy326]; with_reducible exact H2_) | (have H2_ := (Option.bind_some _ _).symm.trans H; with_reducible exact H2_) | with_reducible exact H | (rw [hy326]; exact H) | exact H
    have Ny326 := Aside0.mk hy326
    clear hy326
    simp only [Option.some.injEq, Prod.mk.injEq] at H
    obtain ⟨rfl, rfl, rfl⟩ := H
    go_enter Tryz.func37, Tryz.ntmps37
    go_wp2_with (first | ((with_reducible refine gate_callee (f := 51) rfl ?_); refine goesL_ (some 6) rfl rfl Tryz.func51 (by kernel_rfl) rfl #[.pointer (some ⟨g, 0, none⟩)] rfl ma_ ?_; (with_reducible refine (spec_l09Draw.calls k g s0_0 s0_1 s0_2 t303 t306 t307 w0 _ ?side1 ?side2 A2.out).mono ?_); (case side1 => repeat (first | (with_reducible first | exact HI0.out | apply IsS80.alloc | apply IsS80.drewN | apply IsS80.drew | apply IsS80.set_1 | apply IsS80.set_2) | exact HI0.out)); (case side2 => repeat (first | (with_reducible first | exact HB.out | apply below_alloc | apply pw_below_drewN | apply below_drew1 | refine below_set ?_ (IsS80.ge HI0.out)) | exact HB.out)); rintro e w17 ⟨v304, rfl, ho0, hi, hb, hk⟩; refine ⟨_, rfl, ?_⟩; have n0_ := Aside0.mk (Kd.R_lower ho0 (keep_size (w := w) (g := g) (row := none) (by repeat (first | (with_reducible first | exact HK.out | apply KeepBut.set_ | apply keep_drewN | apply keep_drew | apply keep_alloc) | exact HK.out)))); have n1_ := Aside0.mk (KeepBut.trans (by repeat (first | (with_reducible first | exact HK.out | apply KeepBut.set_ | apply keep_drewN | apply keep_drew | apply keep_alloc) | exact HK.out)) hk (.inl rfl)); have n2_ := Aside0.mk (hb); have n3_ := Aside0.mk (hi); clear HK; clear HB; clear HI0; have HO305 := n0_; have HK := n1_; have HB := n2_; have HI0 := n3_; clear n0_ n1_ n2_ n3_; (try clear hb); (try clear hb2); (try clear hk); (try clear hi); (try clear ho0)) | ((with_reducible refine gate_callee (f := 50) rfl ?_); refine goesL_ (some 8) rfl rfl Tryz.func50 (by kernel_rfl) rfl #[.pointer (some ⟨g, 0, none⟩), .int .i64 20] rfl ma_ ?_; (with_reducible refine (spec_l00Src_pick.calls g s0_0 t306 t307 20 t308 t309 t310 w0 _ ?side1 ?side2 A3.out).mono ?_); (case side1 => repeat (first | (with_reducible first | exact HI0.out | apply IsS80.alloc | apply IsS80.drewN | apply IsS80.drew | apply IsS80.set_1 | apply IsS80.set_2) | exact HI0.out)); (case side2 => repeat (first | (with_reducible first | exact HB.out | apply below_alloc | apply pw_below_drewN | apply below_drew1 | refine below_set ?_ (IsS80.ge HI0.out)) | exact HB.out)); rintro e w18 ⟨rfl, hi, hb, hk⟩; refine ⟨_, rfl, ?_⟩; have n0_ := Aside0.mk (Kd.R_mono (Kd.R_keep (IsS80.apart (show IsS80 w0 _ g s0_0 t306 t307 from by repeat (first | (with_reducible first | exact HI0.out | apply IsS80.alloc | apply IsS80.drewN | apply IsS80.drew | apply IsS80.set_1 | apply IsS80.set_2) | exact HI0.out)) (kr_ HO305.out) (by decide)) hk (fun _ h => h.2)) (fun _ h => h.1)); have n1_ := Aside0.mk (KeepBut.trans (by repeat (first | (with_reducible first | exact HK.out | apply KeepBut.set_ | apply keep_drewN | apply keep_drew | apply keep_alloc) | exact HK.out)) hk (.inl rfl)); have n2_ := Aside0.mk (hb); have n3_ := Aside0.mk (hi); clear HO305; clear HK; clear HB; clear HI0; have HO305 := n0_; have HK := n1_; have HB := n2_; have HI0 := n3_; clear n0_ n1_ n2_ n3_; (try clear hb); (try clear hb2); (try clear hk); (try clear hi)) | ((with_reducible refine gate_dst (N := 22) rfl ?_); refine Kd.R_lit (Kd.int .i64) _ 2 ?hg (N := 22) ?hd (xs := ([0, 1, 64, 65] : List Int)) (inner := [.int .i64 0, .int .i64 1, .int .i64 64, .int .i64 65]) (ok := fun _ => True) (okp := fun _ => True) ?hr ?hp (fun _ hk => hk) trivial (Below.refl _ _) (Nat.le_refl _) (by simp) ?_; (case hd => rfl); (case hg => rfl); (case hr => first | (go_simp; done) | (go_simp; rfl)); (case hp => exact (Reps.one (show Kd.M (Kd.int .i64) _ _ _ 0 [.int .i64 0] from rfl) (Reps.one (show Kd.M (Kd.int .i64) _ _ _ 1 [.int .i64 1] from rfl) (Reps.one (show Kd.M (Kd.int .i64) _ _ _ 64 [.int .i64 64] from rfl) (Reps.one (show Kd.M (Kd.int .i64) _ _ _ 65 [.int .i64 65] from rfl) (Reps.none _ _)))))); intro v321 w19 ho20 hb hg_ hnew_; clear hg_ hnew_; (first | rw [← Ny320.out] at ho20 | (simp only [Int.reduceToNat] at ho20; rw [← Ny320.out] at ho20)); have n0_ := Aside0.mk (Kd.R_below (kr_ HO305.out) hb); have n1_ := Aside0.mk (Kd.R_lower ho20 (keep_size (w := w) (g := g) (row := none) (by repeat (first | (with_reducible first | exact HK.out | apply KeepBut.set_ | apply keep_drewN | apply keep_drew | apply keep_alloc) | exact HK.out)))); have n2_ := Aside0.mk (IsS80.below (by repeat (first | (with_reducible first | exact HI0.out | apply IsS80.alloc | apply IsS80.drewN | apply IsS80.drew | apply IsS80.set_1 | apply IsS80.set_2) | exact HI0.out)) hb); have n3_ := Aside0.mk (KeepBut.trans (by repeat (first | (with_reducible first | exact HK.out | apply KeepBut.set_ | apply keep_drewN | apply keep_drew | apply keep_alloc) | exact HK.out)) (KeepBut.of_below hb g none) (.inl rfl)); have n4_ := Aside0.mk (below_step (by repeat (first | (with_reducible first | exact HB.out | apply below_alloc | apply pw_below_drewN | apply below_drew1 | refine below_set ?_ (IsS80.ge HI0.out)) | exact HB.out)) hb); clear HO305; clear HI0; clear HK; clear HB; have HO305 := n0_; have HO322 := n1_; have HI0 := n2_; have HK := n3_; have HB := n4_; clear n0_ n1_ n2_ n3_ n4_; clear hb ho20; obtain ⟨Ao21, co21, eo21⟩ := Kd.R_slice HO322.out; subst eo21) | ((with_reducible refine gate_callee (f := 54) rfl ?_); refine goesL_ (some 23) rfl rfl Tryz.func54 (by kernel_rfl) rfl #[.pointer (some ⟨g, 0, none⟩), .slice Ao21 y320.length co21] rfl ma_ ?_; (with_reducible refine (spec_l00Src_among.calls g s0_0 t309 t310 _ _ y320 t323 t324 t325 w0 _ ?side1 ?side2 ?side3 ?side4 ?side5 A15.out).mono ?_); (case side1 => repeat (first | (with_reducible first | exact HI0.out | apply IsS80.alloc | apply IsS80.drewN | apply IsS80.drew | apply IsS80.set_1 | apply IsS80.set_2) | exact HI0.out)); (case side2 => repeat (first | (with_reducible first | exact HB.out | apply below_alloc | apply pw_below_drewN | apply below_drew1 | refine below_set ?_ (IsS80.ge HI0.out)) | exact HB.out)); (case side3 => repeat (first | exact (Kd.R_reads' HO322.out).2.2 | (with_reducible refine Kd.C_alloc ?_ _) | (with_reducible refine Kd.C_drewN ?_ _) | (with_reducible refine Kd.C_drew ?_))); (case side4 => exact (Kd.R_reads' HO322.out).2.1); (case side5 => exact far_slice (IsS80.own_ne HI0.out HO322.out (by decide))); rintro e w22 ⟨rfl, hi, hb, hk⟩; refine ⟨_, rfl, ?_⟩; have n0_ := Aside0.mk (Kd.R_mono (Kd.R_keep (IsS80.apart (show IsS80 w0 _ g s0_0 t309 t310 from by repeat (first | (with_reducible first | exact HI0.out | apply IsS80.alloc | apply IsS80.drewN | apply IsS80.drew | apply IsS80.set_1 | apply IsS80.set_2) | exact HI0.out)) (kr_ HO305.out) (by decide)) hk (fun _ h => h.2)) (fun _ h => h.1)); have n1_ := Aside0.mk (Kd.R_mono (Kd.R_keep (IsS80.apart (show IsS80 w0 _ g s0_0 t309 t310 from by repeat (first | (with_reducible first | exact HI0.out | apply IsS80.alloc | apply IsS80.drewN | apply IsS80.drew | apply IsS80.set_1 | apply IsS80.set_2) | exact HI0.out)) (kr_ HO322.out) (by decide)) hk (fun _ h => h.2)) (fun _ h => h.1)); have n2_ := Aside0.mk (KeepBut.trans (by repeat (first | (with_reducible first | exact HK.out | apply KeepBut.set_ | apply keep_drewN | apply keep_drew | apply keep_alloc) | exact HK.out)) hk (.inl rfl)); have n3_ := Aside0.mk (hb); have n4_ := Aside0.mk (hi); clear HO305; clear HO322; clear HK; clear HB; clear HI0; have HO305 := n0_; have HO322 := n1_; have HK := n2_; have HB := n3_; have HI0 := n4_; clear n0_ n1_ n2_ n3_ n4_; (try clear hb); (try clear hb2); (try clear hk); (try clear hi)) | ((with_reducible refine gate_builtin (b := .append) (xs := #[.tmp 20, .tmp 25]) rfl ?_); at_builtin; refine Kd.R_append k70 w.heap.size rfl (.tmp 20) (.tmp 25) 34 70 (.agg #[(.int .i64 0), (.int .i64 0)]) 16 rfl Tryz.underlying34 info70 rfl (by decide) (by omega) v304 t303 (⟨0, t323⟩ : S70) [.int .i64 0, .int .i64 t323] (fun _ => True) (fun _ => False) rfl rfl ?aP (fun _ hk => hk.elim) ?aF ?aO (Below.refl _ _) ?aS ?aL ?_; (case aP => exact k70_mkM _ _ _ (⟨0, t323⟩ : S70)); (case aF => exact (fun _ _ => trivial)); (case aO => exact (kr_ HO305.out)); (case aS => exact (keep_size (w := w) (g := g) (row := none) (by repeat (first | (with_reducible first | exact HK.out | apply KeepBut.set_ | apply keep_drewN | apply keep_drew | apply keep_alloc) | exact HK.out)))); (case aL => have := LMc16.out; omega); intro v327 w23 ho hb hg hat; rw [← Ny326.out] at ho; have n0_ := Aside0.mk (IsS80.grown (by repeat (first | (with_reducible first | exact HI0.out | apply IsS80.alloc | apply IsS80.drewN | apply IsS80.drew | apply IsS80.set_1 | apply IsS80.set_2) | exact HI0.out)) hg (IsS80.own_ne HI0.out HO305.out (by decide))); have n1_ := Aside0.mk (Kd.R_over' (kr_ HO322.out) (Kd.R_typed (kr_ HO305.out)) (by decide) hg); have n2_ := Aside0.mk (below_weaken (by repeat (first | (with_reducible first | exact HB.out | apply below_alloc | apply pw_below_drewN | apply below_drew1 | refine below_set ?_ (IsS80.ge HI0.out)) | exact HB.out)) HL.out hb); have n3_ := Aside0.mk (KeepBut.trans (by repeat (first | (with_reducible first | exact HK.out | apply KeepBut.set_ | apply keep_drewN | apply keep_drew | apply keep_alloc) | exact HK.out)) (KeepBut.of_grown hg g) (Kd.R_base2 HO305.out)); have n4_ := Aside0.mk (ho); clear HI0; clear HO322; clear HB; clear HK; clear HO305; have HI0 := n0_; have HO322 := n1_; have HB := n2_; have HK := n3_; have HO328 := n4_; clear n0_ n1_ n2_ n3_ n4_; clear ho hb hg hat))
    go_ret
    exact ⟨_, re_, kr_ HO328.out, by repeat (first | (with_reducible first | exact HI0.out | apply IsS80.alloc | apply IsS80.drewN | apply IsS80.drew | apply IsS80.set_1 | apply IsS80.set_2) | exact HI0.out), by repeat (first | (with_reducible first | exact HB.out | apply below_alloc | apply pw_below_drewN | apply below_drew1 | refine below_set ?_ (IsS80.ge HI0.out)) | exact HB.out), by repeat (first | (with_reducible first | exact HK.out | apply KeepBut.set_ | apply keep_drewN | apply keep_drew | apply keep_alloc) | exact HK.out)⟩
   ·rw [if_neg c16] at H
    exact absurd H (by simp)
  ·rw [if_neg c14] at H
   have c14b0 : (t308 == 1) = false := beq_eq_false_iff_ne.mpr c14
   have c14b1 : (t308 != 1) = true := bne_iff_ne.mpr c14
   by_cases c24 : t308 = 2
   ·rw [if_pos c24] at H
    have c24b0 : (t308 == 2) = true := beq_iff_eq.mpr c24
    have c24b1 : (t308 != 2) = false := bne_eq_false_iff_eq.mpr c24
    clear c24
    replace H := Option.bind_eq_some_iff.mp H
    obtain ⟨⟨t329, t330, t331⟩, A250, H⟩ := H
    replace H : (spec_l09Bent.l0 k t303 (wrap64 (47 + t329)) s0_0 t330 t331) = some (r1, r2, r3) := H
    have A25 := Aside0.mk A250
    clear A250
    have H' := Aside0.mk H
    clear H
    go_enter Tryz.func37, Tryz.ntmps37
    go_wp2_with (first | ((with_reducible refine gate_callee (f := 51) rfl ?_); refine goesL_ (some 6) rfl rfl Tryz.func51 (by kernel_rfl) rfl #[.pointer (some ⟨g, 0, none⟩)] rfl ma_ ?_; (with_reducible refine (spec_l09Draw.calls k g s0_0 s0_1 s0_2 t303 t306 t307 w0 _ ?side1 ?side2 A2.out).mono ?_); (case side1 => repeat (first | (with_reducible first | exact HI0.out | apply IsS80.alloc | apply IsS80.drewN | apply IsS80.drew | apply IsS80.set_1 | apply IsS80.set_2) | exact HI0.out)); (case side2 => repeat (first | (with_reducible first | exact HB.out | apply below_alloc | apply pw_below_drewN | apply below_drew1 | refine below_set ?_ (IsS80.ge HI0.out)) | exact HB.out)); rintro e w26 ⟨v304, rfl, ho0, hi, hb, hk⟩; refine ⟨_, rfl, ?_⟩; have n0_ := Aside0.mk (Kd.R_lower ho0 (keep_size (w := w) (g := g) (row := none) (by repeat (first | (with_reducible first | exact HK.out | apply KeepBut.set_ | apply keep_drewN | apply keep_drew | apply keep_alloc) | exact HK.out)))); have n1_ := Aside0.mk (KeepBut.trans (by repeat (first | (with_reducible first | exact HK.out | apply KeepBut.set_ | apply keep_drewN | apply keep_drew | apply keep_alloc) | exact HK.out)) hk (.inl rfl)); have n2_ := Aside0.mk (hb); have n3_ := Aside0.mk (hi); clear HK; clear HB; clear HI0; have HO305 := n0_; have HK := n1_; have HB := n2_; have HI0 := n3_; clear n0_ n1_ n2_ n3_; (try clear hb); (try clear hb2); (try clear hk); (try clear hi); (try clear ho0)) | ((with_reducible refine gate_callee (f := 50) rfl ?_); refine goesL_ (some 8) rfl rfl Tryz.func50 (by kernel_rfl) rfl #[.pointer (some ⟨g, 0, none⟩), .int .i64 20] rfl ma_ ?_; (with_reducible refine (spec_l00Src_pick.calls g s0_0 t306 t307 20 t308 t309 t310 w0 _ ?side1 ?side2 A3.out).mono ?_); (case side1 => repeat (first | (with_reducible first | exact HI0.out | apply IsS80.alloc | apply IsS80.drewN | apply IsS80.drew | apply IsS80.set_1 | apply IsS80.set_2) | exact HI0.out)); (case side2 => repeat (first | (with_reducible first | exact HB.out | apply below_alloc | apply pw_below_drewN | apply below_drew1 | refine below_set ?_ (IsS80.ge HI0.out)) | exact HB.out)); rintro e w27 ⟨rfl, hi, hb, hk⟩; refine ⟨_, rfl, ?_⟩; have n0_ := Aside0.mk (Kd.R_mono (Kd.R_keep (IsS80.apart (show IsS80 w0 _ g s0_0 t306 t307 from by repeat (first | (with_reducible first | exact HI0.out | apply IsS80.alloc | apply IsS80.drewN | apply IsS80.drew | apply IsS80.set_1 | apply IsS80.set_2) | exact HI0.out)) (kr_ HO305.out) (by decide)) hk (fun _ h => h.2)) (fun _ h => h.1)); have n1_ := Aside0.mk (KeepBut.trans (by repeat (first | (with_reducible first | exact HK.out | apply KeepBut.set_ | apply keep_drewN | apply keep_drew | apply keep_alloc) | exact HK.out)) hk (.inl rfl)); have n2_ := Aside0.mk (hb); have n3_ := Aside0.mk (hi); clear HO305; clear HK; clear HB; clear HI0; have HO305 := n0_; have HK := n1_; have HB := n2_; have HI0 := n3_; clear n0_ n1_ n2_ n3_; (try clear hb); (try clear hb2); (try clear hk); (try clear hi)) | ((with_reducible refine gate_callee (f := 50) rfl ?_); refine goesL_ (some 30) rfl rfl Tryz.func50 (by kernel_rfl) rfl #[.pointer (some ⟨g, 0, none⟩), .int .i64 3] rfl ma_ ?_; (with_reducible refine (spec_l00Src_pick.calls g s0_0 t309 t310 3 t329 t330 t331 w0 _ ?side1 ?side2 A25.out).mono ?_); (case side1 => repeat (first | (with_reducible first | exact HI0.out | apply IsS80.alloc | apply IsS80.drewN | apply IsS80.drew | apply IsS80.set_1 | apply IsS80.set_2) | exact HI0.out)); (case side2 => repeat (first | (with_reducible first | exact HB.out | apply below_alloc | apply pw_below_drewN | apply below_drew1 | refine below_set ?_ (IsS80.ge HI0.out)) | exact HB.out)); rintro e w28 ⟨rfl, hi, hb, hk⟩; refine ⟨_, rfl, ?_⟩; have n0_ := Aside0.mk (Kd.R_mono (Kd.R_keep (IsS80.apart (show IsS80 w0 _ g s0_0 t309 t310 from by repeat (first | (with_reducible first | exact HI0.out | apply IsS80.alloc | apply IsS80.drewN | apply IsS80.drew | apply IsS80.set_1 | apply IsS80.set_2) | exact HI0.out)) (kr_ HO305.out) (by decide)) hk (fun _ h => h.2)) (fun _ h => h.1)); have n1_ := Aside0.mk (KeepBut.trans (by repeat (first | (with_reducible first | exact HK.out | apply KeepBut.set_ | apply keep_drewN | apply keep_drew | apply keep_alloc) | exact HK.out)) hk (.inl rfl)); have n2_ := Aside0.mk (hb); have n3_ := Aside0.mk (hi); clear HO305; clear HK; clear HB; clear HI0; have HO305 := n0_; have HK := n1_; have HB := n2_; have HI0 := n3_; clear n0_ n1_ n2_ n3_; (try clear hb); (try clear hb2); (try clear hk); (try clear hi)))
    go_loopg [3] k (fun kq v3 w' => ∃ (x3_1 : List (S70)), Aside0 (spec_l09Bent.l0 kq x3_1 (wrap64 (47 + t329)) s0_0 t330 t331 = some (r1, r2, r3)) ∧ Aside0 (kq ≤ k) ∧ Aside0 (Kd.R k70 70 w' w.heap.size (fun _ => True) v3 x3_1) ∧ Aside0 (IsS80 w0 w' g s0_0 t330 t331) ∧ Aside0 (KeepBut w w' g none) ∧ Aside0 (Below w0.heap.size w0 w'))
    case atStart => exact ⟨(t303), H', ⟨Nat.le_refl _⟩, ⟨kr_ HO305.out⟩, ⟨by repeat (first | (with_reducible first | exact HI0.out | apply IsS80.alloc | apply IsS80.drewN | apply IsS80.drew | apply IsS80.set_1 | apply IsS80.set_2) | exact HI0.out)⟩, ⟨by repeat (first | (with_reducible first | exact HK.out | apply KeepBut.set_ | apply keep_drewN | apply keep_drew | apply keep_alloc) | exact HK.out)⟩, ⟨by repeat (first | (with_reducible first | exact HB.out | apply below_alloc | apply pw_below_drewN | apply below_drew1 | refine below_set ?_ (IsS80.ge HI0.out)) | exact HB.out)⟩⟩
    case round =>
     clear H'
     try clear c1
     try clear c2
     try clear p2
     try clear c3
     try clear c4
     try clear c4b0
     try clear c4b1
     try clear c5
     try clear c6
     try clear p6
     try clear c14
     try clear c14b0
     try clear c14b1
     try clear c16
     try clear c24
     try clear c24b0
     try clear c24b1
     obtain ⟨x3_1, HA, HK1, HO_3, HI0, HK, HB⟩ := hrel
     cases gk with
     | zero => exact absurd HA.out (by simp [spec_l09Bent.l0])
     | succ k1 =>
      have H := HA.out
      clear HA
      simp only [spec_l09Bent.l0] at H
      by_cases c29 : (x3_1.length : Int) < (wrap64 (47 + t329))
      ·rw [if_pos c29] at H
       have c29b0 : decide ((x3_1.length : Int) < (wrap64 (47 + t329))) = true := decide_eq_true c29
       clear c29
       by_cases c30 : x3_1.length < 8796093022208
       ·rw [if_pos c30] at H
        have LMc30 := Aside0.mk c30
        clear c30
        obtain ⟨y332, hy332⟩ : ∃ y_ : List (S70), y_ = (x3_1 ++ [(⟨2, 1⟩ : S70)]) := ⟨_, rfl⟩
        replace H : (spec_l09Bent.l0 k1 y332 (wrap64 (47 + t329)) s0_0 t330 t331) = some (r1, r2, r3) := by first | (rw [hy332]; with_reducible exact H) | (have H2_ := (Option.bind_some _ _).symm.trans H; rw [hy332]; with_reducible exact H2_) | (have H2_ := (Option.bind_some _ _).symm.trans H; with_reducible exact H2_) | with_reducible exact H | (rw [hy332]; exact H) | exact H
        have Ny332 := Aside0.mk hy332
        clear hy332
        have H' := Aside0.mk H
        clear H
        obtain ⟨Ao31, co31, eo31⟩ := Kd.R_slice HO_3.out
        subst eo31
        go_wp2_with (first | ((with_reducible refine gate_builtin (b := .append) (xs := #[.tmp 36, .tmp 38]) rfl ?_); at_builtin; refine Kd.R_append k70 w.heap.size rfl (.tmp 36) (.tmp 38) 34 70 (.agg #[(.int .i64 0), (.int .i64 0)]) 16 rfl Tryz.underlying34 info70 rfl (by decide) (by omega) (.slice Ao31 x3_1.length co31) x3_1 (⟨2, 1⟩ : S70) [.int .i64 2, .int .i64 1] (fun _ => True) (fun _ => False) rfl rfl ?aP (fun _ hk => hk.elim) ?aF ?aO (Below.refl _ _) ?aS ?aL ?_; (case aP => exact k70_mkM _ _ _ (⟨2, 1⟩ : S70)); (case aF => exact (fun _ _ => trivial)); (case aO => exact (kr_ HO_3.out)); (case aS => exact (keep_size (w := w) (g := g) (row := none) (by repeat (first | (with_reducible first | exact HK.out | apply KeepBut.set_ | apply keep_drewN | apply keep_drew | apply keep_alloc) | exact HK.out)))); (case aL => have := LMc30.out; omega); intro v333 w32 ho hb hg hat; rw [← Ny332.out] at ho; have n0_ := Aside0.mk (IsS80.grown (by repeat (first | (with_reducible first | exact HI0.out | apply IsS80.alloc | apply IsS80.drewN | apply IsS80.drew | apply IsS80.set_1 | apply IsS80.set_2) | exact HI0.out)) hg (IsS80.own_ne HI0.out HO_3.out (by decide))); have n1_ := Aside0.mk (below_weaken (by repeat (first | (with_reducible first | exact HB.out | apply below_alloc | apply pw_below_drewN | apply below_drew1 | refine below_set ?_ (IsS80.ge HI0.out)) | exact HB.out)) HL.out hb); have n2_ := Aside0.mk (KeepBut.trans (by repeat (first | (with_reducible first | exact HK.out | apply KeepBut.set_ | apply keep_drewN | apply keep_drew | apply keep_alloc) | exact HK.out)) (KeepBut.of_grown hg g) (Kd.R_base2 HO_3.out)); have n3_ := Aside0.mk (ho); clear HI0; clear HB; clear HK; clear HO_3; have HI0 := n0_; have HB := n1_; have HK := n2_; have HO334 := n3_; clear n0_ n1_ n2_ n3_; clear ho hb hg hat))
        go_roundg k1
        case measure => have := HK1.out; omega
        case rel => exact ⟨(y332), H', ⟨by have := HK1.out; omega⟩, ⟨kr_ HO334.out⟩, ⟨by repeat (first | (with_reducible first | exact HI0.out | apply IsS80.alloc | apply IsS80.drewN | apply IsS80.drew | apply IsS80.set_1 | apply IsS80.set_2) | exact HI0.out)⟩, ⟨by repeat (first | (with_reducible first | exact HK.out | apply KeepBut.set_ | apply keep_drewN | apply keep_drew | apply keep_alloc) | exact HK.out)⟩, ⟨by repeat (first | (with_reducible first | exact HB.out | apply below_alloc | apply pw_below_drewN | apply below_drew1 | refine below_set ?_ (IsS80.ge HI0.out)) | exact HB.out)⟩⟩
       ·rw [if_neg c30] at H
        exact absurd H (by simp)
      ·rw [if_neg c29] at H
       have c29b0 : decide ((x3_1.length : Int) < (wrap64 (47 + t329))) = false := decide_eq_false c29
       clear c29
       simp only [Option.some.injEq, Prod.mk.injEq] at H
       obtain ⟨rfl, rfl, rfl⟩ := H
       obtain ⟨Ao33, co33, eo33⟩ := Kd.R_slice HO_3.out
       subst eo33
       go_wp2
       go_ret
       exact ⟨_, re_, kr_ HO_3.out, by repeat (first | (with_reducible first | exact HI0.out | apply IsS80.alloc | apply IsS80.drewN | apply IsS80.drew | apply IsS80.set_1 | apply IsS80.set_2) | exact HI0.out), by repeat (first | (with_reducible first | exact HB.out | apply below_alloc | apply pw_below_drewN | apply below_drew1 | refine below_set ?_ (IsS80.ge HI0.out)) | exact HB.out), by repeat (first | (with_reducible first | exact HK.out | apply KeepBut.set_ | apply keep_drewN | apply keep_drew | apply keep_alloc) | exact HK.out)⟩
   ·rw [if_neg c24] at H
    have c24b0 : (t308 == 2) = false := beq_eq_false_iff_ne.mpr c24
    have c24b1 : (t308 != 2) = true := bne_iff_ne.mpr c24
    simp only [Option.some.injEq, Prod.mk.injEq] at H
    obtain ⟨rfl, rfl, rfl⟩ := H
    go_enter Tryz.func37, Tryz.ntmps37
    go_wp2_with (first | ((with_reducible refine gate_callee (f := 51) rfl ?_); refine goesL_ (some 6) rfl rfl Tryz.func51 (by kernel_rfl) rfl #[.pointer (some ⟨g, 0, none⟩)] rfl ma_ ?_; (with_reducible refine (spec_l09Draw.calls k g s0_0 s0_1 s0_2 t303 t306 t307 w0 _ ?side1 ?side2 A2.out).mono ?_); (case side1 => repeat (first | (with_reducible first | exact HI0.out | apply IsS80.alloc | apply IsS80.drewN | apply IsS80.drew | apply IsS80.set_1 | apply IsS80.set_2) | exact HI0.out)); (case side2 => repeat (first | (with_reducible first | exact HB.out | apply below_alloc | apply pw_below_drewN | apply below_drew1 | refine below_set ?_ (IsS80.ge HI0.out)) | exact HB.out)); rintro e w34 ⟨v304, rfl, ho0, hi, hb, hk⟩; refine ⟨_, rfl, ?_⟩; have n0_ := Aside0.mk (Kd.R_lower ho0 (keep_size (w := w) (g := g) (row := none) (by repeat (first | (with_reducible first | exact HK.out | apply KeepBut.set_ | apply keep_drewN | apply keep_drew | apply keep_alloc) | exact HK.out)))); have n1_ := Aside0.mk (KeepBut.trans (by repeat (first | (with_reducible first | exact HK.out | apply KeepBut.set_ | apply keep_drewN | apply keep_drew | apply keep_alloc) | exact HK.out)) hk (.inl rfl)); have n2_ := Aside0.mk (hb); have n3_ := Aside0.mk (hi); clear HK; clear HB; clear HI0; have HO305 := n0_; have HK := n1_; have HB := n2_; have HI0 := n3_; clear n0_ n1_ n2_ n3_; (try clear hb); (try clear hb2); (try clear hk); (try clear hi); (try clear ho0)) | ((with_reducible refine gate_callee (f := 50) rfl ?_); refine goesL_ (some 8) rfl rfl Tryz.func50 (by kernel_rfl) rfl #[.pointer (some ⟨g, 0, none⟩), .int .i64 20] rfl ma_ ?_; (with_reducible refine (spec_l00Src_pick.calls g s0_0 t306 t307 20 t308 t309 t310 w0 _ ?side1 ?side2 A3.out).mono ?_); (case side1 => repeat (first | (with_reducible first | exact HI0.out | apply IsS80.alloc | apply IsS80.drewN | apply IsS80.drew | apply IsS80.set_1 | apply IsS80.set_2) | exact HI0.out)); (case side2 => repeat (first | (with_reducible first | exact HB.out | apply below_alloc | apply pw_below_drewN | apply below_drew1 | refine below_set ?_ (IsS80.ge HI0.out)) | exact HB.out)); rintro e w35 ⟨rfl, hi, hb, hk⟩; refine ⟨_, rfl, ?_⟩; have n0_ := Aside0.mk (Kd.R_mono (Kd.R_keep (IsS80.apart (show IsS80 w0 _ g s0_0 t306 t307 from by repeat (first | (with_reducible first | exact HI0.out | apply IsS80.alloc | apply IsS80.drewN | apply IsS80.drew | apply IsS80.set_1 | apply IsS80.set_2) | exact HI0.out)) (kr_ HO305.out) (by decide)) hk (fun _ h => h.2)) (fun _ h => h.1)); have n1_ := Aside0.mk (KeepBut.trans (by repeat (first | (with_reducible first | exact HK.out | apply KeepBut.set_ | apply keep_drewN | apply keep_drew | apply keep_alloc) | exact HK.out)) hk (.inl rfl)); have n2_ := Aside0.mk (hb); have n3_ := Aside0.mk (hi); clear HO305; clear HK; clear HB; clear HI0; have HO305 := n0_; have HK := n1_; have HB := n2_; have HI0 := n3_; clear n0_ n1_ n2_ n3_; (try clear hb); (try clear hb2); (try clear hk); (try clear hi)))
    go_ret
    exact ⟨_, re_, kr_ HO305.out, by repeat (first | (with_reducible first | exact HI0.out | apply IsS80.alloc | apply IsS80.drewN | apply IsS80.drew | apply IsS80.set_1 | apply IsS80.set_2) | exact HI0.out), by repeat (first | (with_reducible first | exact HB.out | apply below_alloc | apply pw_below_drewN | apply below_drew1 | refine below_set ?_ (IsS80.ge HI0.out)) | exact HB.out), by repeat (first | (with_reducible first | exact HK.out | apply KeepBut.set_ | apply keep_drewN | apply keep_drew | apply keep_alloc) | exact HK.out)⟩
def spec_DrawNotesIn.f (k : Nat) (l0 : List Int) : Option (Int × Int × (List (S70))) := (spec_l00From.f l0).bind fun bt335 => ((spec_l26DrawScript.f bt335.1 bt335.2.1 bt335.2.2).bind fun bt339 => ((spec_l26DrawKey.f bt335.1 bt339.2.1 bt339.2.2).bind fun bt342 => ((spec_l09Bent.f k bt335.1 bt342.2.1 bt342.2.2).bind fun bt345 => (some (bt339.1, bt342.1, bt345.1)))))
theorem spec_DrawNotesIn.mono : ∀ a0 k, LeO (spec_DrawNotesIn.f k a0) (spec_DrawNotesIn.f (k + 1) a0) := by
 intro a0 k
 unfold spec_DrawNotesIn.f
 repeat' first
   | (with_reducible exact spec_l09Bent.mono _ _ _ _)
   | (with_reducible exact LeO.refl _)
   | (with_reducible exact LeO.none _)
   | (with_reducible refine LeO.ite ?_ ?_)
   | (with_reducible refine LeO.bind ?_ (fun _ => ?_))
set_option maxHeartbeats 8000000 in
set_option maxRecDepth 100000 in
theorem spec_DrawNotesIn.calls (k : Nat) (A0 : Option Addr) (c0 : Nat) (l0 : List Int) (r1 : Int) (r2 : Int) (r3 : List (S70)) (w : World) (hr0 : Kd.C (Kd.int .u8) w A0 l0.length l0) (hc0 : l0.length ≤ c0) (h : spec_DrawNotesIn.f k l0 = some (r1, r2, r3)) :
  Calls Tryz.prog 13 #[.slice A0 l0.length c0] w fun e w' => ∃ v2_ : Value, e = .returned (.tuple #[.int .i64 r1, .int .i64 r2, v2_]) ∧ Kd.R k70 70 w' w.heap.size (fun _ => True) v2_ r3 ∧ Below w.heap.size w w' := by
 have HR0 := Aside0.mk hr0
 have HC0 := Aside0.mk hc0
 clear hr0 hc0
 have HB := Aside0.mk (Below.refl w.heap.size w)
 have H : ((spec_l00From.f l0).bind fun bt335 => ((spec_l26DrawScript.f bt335.1 bt335.2.1 bt335.2.2).bind fun bt339 => ((spec_l26DrawKey.f bt335.1 bt339.2.1 bt339.2.2).bind fun bt342 => ((spec_l09Bent.f k bt335.1 bt342.2.1 bt342.2.2).bind fun bt345 => (some (bt339.1, bt342.1, bt345.1)))))) = some (r1, r2, r3) := h
 clear h
 replace H := Option.bind_eq_some_iff.mp H
 obtain ⟨⟨t335, t336, t337⟩, A20, H⟩ := H
 replace H : ((spec_l26DrawScript.f t335 t336 t337).bind fun bt339 => ((spec_l26DrawKey.f t335 bt339.2.1 bt339.2.2).bind fun bt342 => ((spec_l09Bent.f k t335 bt342.2.1 bt342.2.2).bind fun bt345 => (some (bt339.1, bt342.1, bt345.1))))) = some (r1, r2, r3) := H
 have A2 := Aside0.mk A20
 clear A20
 replace H := Option.bind_eq_some_iff.mp H
 obtain ⟨⟨t339, t340, t341⟩, A30, H⟩ := H
 replace H : ((spec_l26DrawKey.f t335 t340 t341).bind fun bt342 => ((spec_l09Bent.f k t335 bt342.2.1 bt342.2.2).bind fun bt345 => (some (t339, bt342.1, bt345.1)))) = some (r1, r2, r3) := H
 have A3 := Aside0.mk A30
 clear A30
 replace H := Option.bind_eq_some_iff.mp H
 obtain ⟨⟨t342, t343, t344⟩, A40, H⟩ := H
 replace H : ((spec_l09Bent.f k t335 t343 t344).bind fun bt345 => (some (t339, t342, bt345.1))) = some (r1, r2, r3) := H
 have A4 := Aside0.mk A40
 clear A40
 replace H := Option.bind_eq_some_iff.mp H
 obtain ⟨⟨t345, t348, t349⟩, A50, H⟩ := H
 replace H : (some (t339, t342, t345)) = some (r1, r2, r3) := H
 have A5 := Aside0.mk A50
 clear A50
 simp only [Option.some.injEq, Prod.mk.injEq] at H
 obtain ⟨rfl, rfl, rfl⟩ := H
 go_enter Tryz.func13, Tryz.ntmps13
 go_wp2_with (first | ((with_reducible refine gate_callee (f := 26) rfl ?_); refine goesL_ (some 9) rfl rfl Tryz.func26 (by kernel_rfl) rfl #[.slice A0 l0.length c0] rfl ma_ ?_; (with_reducible refine (spec_l00From.calls _ _ l0 t335 t336 t337 w _ ?side1 ?side2 ?side3 A2.out).mono ?_); (case side1 => repeat (first | (with_reducible first | exact HB.out | apply below_alloc | apply pw_below_drewN | apply below_drew1) | exact HB.out)); (case side2 => exact HR0.out); (case side3 => exact HC0.out); rintro e w6 ⟨g338, rfl, hi, hb, hb2⟩; refine ⟨_, rfl, ?_⟩; have n0_ := Aside0.mk (hb); have n1_ := Aside0.mk (hi); clear HB; have HB := n0_; have HI338 := n1_; clear n0_ n1_; (try clear hb); (try clear hb2); (try clear hk); (try clear hi)) | ((with_reducible refine gate_callee (f := 27) rfl ?_); refine goesL_ (some 11) rfl rfl Tryz.func27 (by kernel_rfl) rfl #[.pointer (some ⟨g338, 0, none⟩)] rfl ma_ ?_; (with_reducible refine (spec_l26DrawScript.calls g338 t335 t336 t337 t339 t340 t341 w _ ?side1 ?side2 A3.out).mono ?_); (case side1 => repeat (first | (with_reducible first | exact HI338.out | apply IsS80.alloc | apply IsS80.drewN | apply IsS80.drew | apply IsS80.set_1 | apply IsS80.set_2) | exact HI338.out)); (case side2 => repeat (first | (with_reducible first | exact HB.out | apply below_alloc | apply pw_below_drewN | apply below_drew1 | refine below_set ?_ (IsS80.ge HI338.out)) | exact HB.out)); rintro e w7 ⟨rfl, hi, hb, hk⟩; refine ⟨_, rfl, ?_⟩; have n0_ := Aside0.mk (hb); have n1_ := Aside0.mk (hi); clear HB; clear HI338; have HB := n0_; have HI338 := n1_; clear n0_ n1_; (try clear hb); (try clear hb2); (try clear hk); (try clear hi)) | ((with_reducible refine gate_callee (f := 28) rfl ?_); refine goesL_ (some 13) rfl rfl Tryz.func28 (by kernel_rfl) rfl #[.pointer (some ⟨g338, 0, none⟩)] rfl ma_ ?_; (with_reducible refine (spec_l26DrawKey.calls g338 t335 t340 t341 t342 t343 t344 w _ ?side1 ?side2 A4.out).mono ?_); (case side1 => repeat (first | (with_reducible first | exact HI338.out | apply IsS80.alloc | apply IsS80.drewN | apply IsS80.drew | apply IsS80.set_1 | apply IsS80.set_2) | exact HI338.out)); (case side2 => repeat (first | (with_reducible first | exact HB.out | apply below_alloc | apply pw_below_drewN | apply below_drew1 | refine below_set ?_ (IsS80.ge HI338.out)) | exact HB.out)); rintro e w8 ⟨rfl, hi, hb, hk⟩; refine ⟨_, rfl, ?_⟩; have n0_ := Aside0.mk (hb); have n1_ := Aside0.mk (hi); clear HB; clear HI338; have HB := n0_; have HI338 := n1_; clear n0_ n1_; (try clear hb); (try clear hb2); (try clear hk); (try clear hi)) | ((with_reducible refine gate_callee (f := 37) rfl ?_); refine goesL_ (some 17) rfl rfl Tryz.func37 (by kernel_rfl) rfl #[.pointer (some ⟨g338, 0, none⟩)] rfl ma_ ?_; (with_reducible refine (spec_l09Bent.calls k g338 t335 t343 t344 t345 t348 t349 w _ ?side1 ?side2 A5.out).mono ?_); (case side1 => repeat (first | (with_reducible first | exact HI338.out | apply IsS80.alloc | apply IsS80.drewN | apply IsS80.drew | apply IsS80.set_1 | apply IsS80.set_2) | exact HI338.out)); (case side2 => repeat (first | (with_reducible first | exact HB.out | apply below_alloc | apply pw_below_drewN | apply below_drew1 | refine below_set ?_ (IsS80.ge HI338.out)) | exact HB.out)); rintro e w9 ⟨v346, rfl, ho0, hi, hb, hk⟩; refine ⟨_, rfl, ?_⟩; have n0_ := Aside0.mk (Kd.R_lower ho0 (below_size (by repeat (first | (with_reducible first | exact HB.out | apply below_alloc | apply pw_below_drewN | apply below_drew1 | refine below_set ?_ (IsS80.ge HI338.out)) | exact HB.out)))); have n1_ := Aside0.mk (hb); have n2_ := Aside0.mk (hi); clear HB; clear HI338; have HO347 := n0_; have HB := n1_; have HI338 := n2_; clear n0_ n1_ n2_; (try clear hb); (try clear hb2); (try clear hk); (try clear hi); (try clear ho0)))
 go_ret3
 exact ⟨_, re_, kr_ HO347.out, by repeat (first | (with_reducible first | exact HB.out | apply below_alloc | apply pw_below_drewN | apply below_drew1 | refine below_set ?_ (IsS80.ge HI338.out)) | exact HB.out)⟩
def impl_NotesIn.f (k : Nat) (a0 : Int) (a1 : Int) (l2 : List (S70)) : Option (ByteArray × Int) := (impl_keyOk.f a0 a1).bind fun t350 => (if t350 = true then ((impl_ValidMelody.f k l2).bind fun t351 => (if t351 = true then ((impl_notesIn.f k a0 a1 l2).bind fun t352 => (some (t352, 0))) else (some ((⟨#[]⟩ : ByteArray), 1)))) else (some ((⟨#[]⟩ : ByteArray), 2)))
theorem impl_NotesIn.mono : ∀ a0 a1 a2 k, LeO (impl_NotesIn.f k a0 a1 a2) (impl_NotesIn.f (k + 1) a0 a1 a2) := by
 intro a0 a1 a2 k
 unfold impl_NotesIn.f
 repeat' first
   | (with_reducible exact impl_ValidMelody.mono _ _)
   | (with_reducible exact impl_notesIn.mono _ _ _ _)
   | (with_reducible exact LeO.refl _)
   | (with_reducible exact LeO.none _)
   | (with_reducible refine LeO.ite ?_ ?_)
   | (with_reducible refine LeO.bind ?_ (fun _ => ?_))
set_option maxHeartbeats 8000000 in
set_option maxRecDepth 100000 in
theorem impl_NotesIn.calls (k : Nat) (a0 : Int) (a1 : Int) (A2 : Option Addr) (c2 : Nat) (l2 : List (S70)) (r1 : ByteArray) (r2 : Int) (w : World) (hr2 : Kd.C k70 w A2 l2.length l2) (hc2 : l2.length ≤ c2) (hL : Lv w) (h : impl_NotesIn.f k a0 a1 l2 = some (r1, r2)) :
  Calls Tryz.prog 14 #[.int .i64 a0, .int .i64 a1, .slice A2 l2.length c2] w fun e w' => e = .returned (.tuple #[.string r1, .int .i64 r2]) ∧ Below w.heap.size w w' := by
 have HR2 := Aside0.mk hr2
 have HC2 := Aside0.mk hc2
 clear hr2 hc2
 have HB := Aside0.mk (Below.refl w.heap.size w)
 have H : ((impl_keyOk.f a0 a1).bind fun t350 => (if t350 = true then ((impl_ValidMelody.f k l2).bind fun t351 => (if t351 = true then ((impl_notesIn.f k a0 a1 l2).bind fun t352 => (some (t352, 0))) else (some ((⟨#[]⟩ : ByteArray), 1)))) else (some ((⟨#[]⟩ : ByteArray), 2)))) = some (r1, r2) := h
 clear h
 replace H := Option.bind_eq_some_iff.mp H
 obtain ⟨t350, A40, H⟩ := H
 replace H : (if t350 = true then ((impl_ValidMelody.f k l2).bind fun t351 => (if t351 = true then ((impl_notesIn.f k a0 a1 l2).bind fun t352 => (some (t352, 0))) else (some ((⟨#[]⟩ : ByteArray), 1)))) else (some ((⟨#[]⟩ : ByteArray), 2))) = some (r1, r2) := H
 have A4 := Aside0.mk A40
 clear A40
 by_cases c5 : t350 = true
 ·subst c5
  have H1 : ((impl_ValidMelody.f k l2).bind fun t351 => (if t351 = true then ((impl_notesIn.f k a0 a1 l2).bind fun t352 => (some (t352, 0))) else (some ((⟨#[]⟩ : ByteArray), 1)))) = some (r1, r2) := by rw [if_pos rfl] at H; exact H
  clear H
  have H := H1
  clear H1
  replace H := Option.bind_eq_some_iff.mp H
  obtain ⟨t351, A60, H⟩ := H
  replace H : (if t351 = true then ((impl_notesIn.f k a0 a1 l2).bind fun t352 => (some (t352, 0))) else (some ((⟨#[]⟩ : ByteArray), 1))) = some (r1, r2) := H
  have A6 := Aside0.mk A60
  clear A60
  by_cases c7 : t351 = true
  ·subst c7
   have H1 : ((impl_notesIn.f k a0 a1 l2).bind fun t352 => (some (t352, 0))) = some (r1, r2) := by rw [if_pos rfl] at H; exact H
   clear H
   have H := H1
   clear H1
   replace H := Option.bind_eq_some_iff.mp H
   obtain ⟨t352, A80, H⟩ := H
   replace H : (some (t352, 0)) = some (r1, r2) := H
   have A8 := Aside0.mk A80
   clear A80
   simp only [Option.some.injEq, Prod.mk.injEq] at H
   obtain ⟨rfl, rfl⟩ := H
   go_enter Tryz.func14, Tryz.ntmps14
   go_wp2_with (first | ((with_reducible refine gate_callee (f := 30) rfl ?_); refine goesL_ (some 11) rfl rfl Tryz.func30 (by kernel_rfl) rfl #[.int .i64 a0, .int .i64 a1] rfl ma_ ?_; (with_reducible refine (impl_keyOk.calls a0 a1 true _ A4.out).mono ?_); rintro e w' ⟨rfl, ⟨nd, rfl⟩⟩; refine ⟨_, rfl, ?_⟩) | ((with_reducible refine gate_callee (f := 38) rfl ?_); refine goesL_ (some 15) rfl rfl Tryz.func38 (by kernel_rfl) rfl #[.slice A2 l2.length c2] rfl ma_ ?_; (with_reducible refine (impl_ValidMelody.calls k _ _ l2 true _ ?side1 ?side2 A6.out).mono ?_); (case side1 => repeat (first | exact HR2.out | (with_reducible refine Kd.C_alloc ?_ _) | (with_reducible refine Kd.C_drewN ?_ _) | (with_reducible refine Kd.C_drew ?_))); (case side2 => exact HC2.out); rintro e w9 ⟨rfl, hb⟩; refine ⟨_, rfl, ?_⟩; have n0_ := Aside0.mk (below_step bw_ hb); clear HB; have HB := n0_; clear n0_; (try clear hb); (try clear hb2); (try clear hk); (try clear hi)) | ((with_reducible refine gate_callee (f := 39) rfl ?_); refine goesL_ (some 20) rfl rfl Tryz.func39 (by kernel_rfl) rfl #[.int .i64 a0, .int .i64 a1, .slice A2 l2.length c2] rfl ma_ ?_; (with_reducible refine (impl_notesIn.calls k a0 a1 _ _ l2 t352 _ ?side1 ?side2 ?side3 A8.out).mono ?_); (case side1 => repeat (first | exact (Kd.C_below HR2.out HB.out) | (with_reducible refine Kd.C_alloc ?_ _) | (with_reducible refine Kd.C_drewN ?_ _) | (with_reducible refine Kd.C_drew ?_))); (case side2 => exact HC2.out); (case side3 => exact Lv.below hL bw_); rintro e w10 ⟨rfl, hb⟩; refine ⟨_, rfl, ?_⟩; have n0_ := Aside0.mk (below_step bw_ hb); clear HB; have HB := n0_; clear n0_; (try clear hb); (try clear hb2); (try clear hk); (try clear hi)))
   go_ret2
   exact ⟨re_, bw_⟩
  ·replace c7 := Bool.eq_false_iff.mpr c7
   subst c7
   have H1 : (some ((⟨#[]⟩ : ByteArray), 1)) = some (r1, r2) := by rw [if_neg (show ¬ (false = true) by decide)] at H; exact H
   clear H
   have H := H1
   clear H1
   simp only [Option.some.injEq, Prod.mk.injEq] at H
   obtain ⟨rfl, rfl⟩ := H
   go_enter Tryz.func14, Tryz.ntmps14
   go_wp2_with (first | ((with_reducible refine gate_callee (f := 30) rfl ?_); refine goesL_ (some 11) rfl rfl Tryz.func30 (by kernel_rfl) rfl #[.int .i64 a0, .int .i64 a1] rfl ma_ ?_; (with_reducible refine (impl_keyOk.calls a0 a1 true _ A4.out).mono ?_); rintro e w' ⟨rfl, ⟨nd, rfl⟩⟩; refine ⟨_, rfl, ?_⟩) | ((with_reducible refine gate_callee (f := 38) rfl ?_); refine goesL_ (some 15) rfl rfl Tryz.func38 (by kernel_rfl) rfl #[.slice A2 l2.length c2] rfl ma_ ?_; (with_reducible refine (impl_ValidMelody.calls k _ _ l2 false _ ?side1 ?side2 A6.out).mono ?_); (case side1 => repeat (first | exact HR2.out | (with_reducible refine Kd.C_alloc ?_ _) | (with_reducible refine Kd.C_drewN ?_ _) | (with_reducible refine Kd.C_drew ?_))); (case side2 => exact HC2.out); rintro e w11 ⟨rfl, hb⟩; refine ⟨_, rfl, ?_⟩; have n0_ := Aside0.mk (below_step bw_ hb); clear HB; have HB := n0_; clear n0_; (try clear hb); (try clear hb2); (try clear hk); (try clear hi)))
   go_ret2
   exact ⟨re_, bw_⟩
 ·replace c5 := Bool.eq_false_iff.mpr c5
  subst c5
  have H1 : (some ((⟨#[]⟩ : ByteArray), 2)) = some (r1, r2) := by rw [if_neg (show ¬ (false = true) by decide)] at H; exact H
  clear H
  have H := H1
  clear H1
  simp only [Option.some.injEq, Prod.mk.injEq] at H
  obtain ⟨rfl, rfl⟩ := H
  go_enter Tryz.func14, Tryz.ntmps14
  go_wp2_with (first | ((with_reducible refine gate_callee (f := 30) rfl ?_); refine goesL_ (some 11) rfl rfl Tryz.func30 (by kernel_rfl) rfl #[.int .i64 a0, .int .i64 a1] rfl ma_ ?_; (with_reducible refine (impl_keyOk.calls a0 a1 false _ A4.out).mono ?_); rintro e w' ⟨rfl, ⟨nd, rfl⟩⟩; refine ⟨_, rfl, ?_⟩))
  go_ret2
  exact ⟨re_, bw_⟩
def impl_ReadNotesIn.f (k : Nat) (a0 : Int) (a1 : Int) (a2 : ByteArray) : Option ((List (S70)) × Int) := (impl_keyOk.f a0 a1).bind fun t353 => (if t353 = true then ((impl_readNotesIn.f k a0 a1 a2).bind fun bt354 => (if bt354.2 = true then (some (bt354.1, 0)) else (some (([] : List (S70)), 8)))) else (some (([] : List (S70)), 2)))
theorem impl_ReadNotesIn.mono : ∀ a0 a1 a2 k, LeO (impl_ReadNotesIn.f k a0 a1 a2) (impl_ReadNotesIn.f (k + 1) a0 a1 a2) := by
 intro a0 a1 a2 k
 unfold impl_ReadNotesIn.f
 repeat' first
   | (with_reducible exact impl_readNotesIn.mono _ _ _ _)
   | (with_reducible exact LeO.refl _)
   | (with_reducible exact LeO.none _)
   | (with_reducible refine LeO.ite ?_ ?_)
   | (with_reducible refine LeO.bind ?_ (fun _ => ?_))
set_option maxHeartbeats 8000000 in
set_option maxRecDepth 100000 in
theorem impl_ReadNotesIn.calls (k : Nat) (a0 : Int) (a1 : Int) (a2 : ByteArray) (r1 : List (S70)) (r2 : Int) (w : World) (hL : Lv w) (h : impl_ReadNotesIn.f k a0 a1 a2 = some (r1, r2)) :
  Calls Tryz.prog 15 #[.int .i64 a0, .int .i64 a1, .string a2] w fun e w' => ∃ v0_ : Value, e = .returned (.tuple #[v0_, .int .i64 r2]) ∧ Kd.R k70 70 w' w.heap.size (fun _ => True) v0_ r1 ∧ Below w.heap.size w w' := by
 have HB := Aside0.mk (Below.refl w.heap.size w)
 have H : ((impl_keyOk.f a0 a1).bind fun t353 => (if t353 = true then ((impl_readNotesIn.f k a0 a1 a2).bind fun bt354 => (if bt354.2 = true then (some (bt354.1, 0)) else (some (([] : List (S70)), 8)))) else (some (([] : List (S70)), 2)))) = some (r1, r2) := h
 clear h
 replace H := Option.bind_eq_some_iff.mp H
 obtain ⟨t353, A40, H⟩ := H
 replace H : (if t353 = true then ((impl_readNotesIn.f k a0 a1 a2).bind fun bt354 => (if bt354.2 = true then (some (bt354.1, 0)) else (some (([] : List (S70)), 8)))) else (some (([] : List (S70)), 2))) = some (r1, r2) := H
 have A4 := Aside0.mk A40
 clear A40
 by_cases c5 : t353 = true
 ·subst c5
  have H1 : ((impl_readNotesIn.f k a0 a1 a2).bind fun bt354 => (if bt354.2 = true then (some (bt354.1, 0)) else (some (([] : List (S70)), 8)))) = some (r1, r2) := by rw [if_pos rfl] at H; exact H
  clear H
  have H := H1
  clear H1
  replace H := Option.bind_eq_some_iff.mp H
  obtain ⟨⟨t354, t355⟩, A60, H⟩ := H
  replace H : (if t355 = true then (some (t354, 0)) else (some (([] : List (S70)), 8))) = some (r1, r2) := H
  have A6 := Aside0.mk A60
  clear A60
  by_cases c7 : t355 = true
  ·subst c7
   have H1 : (some (t354, 0)) = some (r1, r2) := by rw [if_pos rfl] at H; exact H
   clear H
   have H := H1
   clear H1
   simp only [Option.some.injEq, Prod.mk.injEq] at H
   obtain ⟨rfl, rfl⟩ := H
   go_enter Tryz.func15, Tryz.ntmps15
   go_wp2_with (first | ((with_reducible refine gate_callee (f := 30) rfl ?_); refine goesL_ (some 12) rfl rfl Tryz.func30 (by kernel_rfl) rfl #[.int .i64 a0, .int .i64 a1] rfl ma_ ?_; (with_reducible refine (impl_keyOk.calls a0 a1 true _ A4.out).mono ?_); rintro e w' ⟨rfl, ⟨nd, rfl⟩⟩; refine ⟨_, rfl, ?_⟩) | ((with_reducible refine gate_callee (f := 40) rfl ?_); refine goesL_ (some 18) rfl rfl Tryz.func40 (by kernel_rfl) rfl #[.int .i64 a0, .int .i64 a1, .string a2] rfl ma_ ?_; (with_reducible refine (impl_readNotesIn.calls k a0 a1 a2 t354 true _ ?side1 A6.out).mono ?_); (case side1 => exact Lv.below hL bw_); rintro e w8 ⟨v356, rfl, ho0, hb⟩; refine ⟨_, rfl, ?_⟩; have n0_ := Aside0.mk (Kd.R_lower ho0 (below_size bw_)); have n1_ := Aside0.mk (below_step bw_ hb); clear HB; have HO357 := n0_; have HB := n1_; clear n0_ n1_; (try clear hb); (try clear hb2); (try clear hk); (try clear hi); (try clear ho0)))
   go_ret2
   exact ⟨_, re_, kr_ HO357.out, bw_⟩
  ·replace c7 := Bool.eq_false_iff.mpr c7
   subst c7
   have H1 : (some (([] : List (S70)), 8)) = some (r1, r2) := by rw [if_neg (show ¬ (false = true) by decide)] at H; exact H
   clear H
   have H := H1
   clear H1
   simp only [Option.some.injEq, Prod.mk.injEq] at H
   obtain ⟨rfl, rfl⟩ := H
   go_enter Tryz.func15, Tryz.ntmps15
   go_wp2_with (first | ((with_reducible refine gate_callee (f := 30) rfl ?_); refine goesL_ (some 12) rfl rfl Tryz.func30 (by kernel_rfl) rfl #[.int .i64 a0, .int .i64 a1] rfl ma_ ?_; (with_reducible refine (impl_keyOk.calls a0 a1 true _ A4.out).mono ?_); rintro e w' ⟨rfl, ⟨nd, rfl⟩⟩; refine ⟨_, rfl, ?_⟩) | ((with_reducible refine gate_callee (f := 40) rfl ?_); refine goesL_ (some 18) rfl rfl Tryz.func40 (by kernel_rfl) rfl #[.int .i64 a0, .int .i64 a1, .string a2] rfl ma_ ?_; (with_reducible refine (impl_readNotesIn.calls k a0 a1 a2 t354 false _ ?side1 A6.out).mono ?_); (case side1 => exact Lv.below hL bw_); rintro e w9 ⟨v356, rfl, ho0, hb⟩; refine ⟨_, rfl, ?_⟩; have n0_ := Aside0.mk (Kd.R_lower ho0 (below_size bw_)); have n1_ := Aside0.mk (below_step bw_ hb); clear HB; have HO357 := n0_; have HB := n1_; clear n0_ n1_; (try clear hb); (try clear hb2); (try clear hk); (try clear hi); (try clear ho0)))
   go_ret2
   exact ⟨_, re_, rn_, bw_⟩
 ·replace c5 := Bool.eq_false_iff.mpr c5
  subst c5
  have H1 : (some (([] : List (S70)), 2)) = some (r1, r2) := by rw [if_neg (show ¬ (false = true) by decide)] at H; exact H
  clear H
  have H := H1
  clear H1
  simp only [Option.some.injEq, Prod.mk.injEq] at H
  obtain ⟨rfl, rfl⟩ := H
  go_enter Tryz.func15, Tryz.ntmps15
  go_wp2_with (first | ((with_reducible refine gate_callee (f := 30) rfl ?_); refine goesL_ (some 12) rfl rfl Tryz.func30 (by kernel_rfl) rfl #[.int .i64 a0, .int .i64 a1] rfl ma_ ?_; (with_reducible refine (impl_keyOk.calls a0 a1 false _ A4.out).mono ?_); rintro e w' ⟨rfl, ⟨nd, rfl⟩⟩; refine ⟨_, rfl, ?_⟩))
  go_ret2
  exact ⟨_, re_, rn_, bw_⟩
def spec_l09Same.l0 : Nat → List (S70) → List (S70) → Int → Option (Bool)
 | 0, _, _, _ => none
 | k + 1, x0, x1, x5 => if x5 < (x0.length : Int) then (if 0 ≤ x5 then (if x5 < (x1.length : Int) then (if (!(((rd_T70 x0 x5).f0) == ((rd_T70 x1 x5).f0)) || (!(((rd_T70 x0 x5).f1) == ((rd_T70 x1 x5).f1)))) = true then (some false) else (spec_l09Same.l0 k x0 x1 (wrap64 (x5 + 1)))) else (none)) else (none)) else (some true)
def spec_l09Same.f (k : Nat) (l0 : List (S70)) (l1 : List (S70)) : Option (Bool) := if (l0.length : Int) = (l1.length : Int) then (spec_l09Same.l0 k l0 l1 0) else (some false)
theorem spec_l09Same.mono_l : ∀ k, (∀ y0 y1 y2, LeO (spec_l09Same.l0 k y0 y1 y2) (spec_l09Same.l0 (k + 1) y0 y1 y2))
 | 0 => fun _ _ _ r h => by simp [spec_l09Same.l0] at h
 | k + 1 => by
  have ih0 := spec_l09Same.mono_l k
  ·intro y0 y1 y2
   unfold spec_l09Same.l0
   repeat' first
   | (with_reducible exact ih0 _ _ _)
   | (with_reducible exact LeO.refl _)
   | (with_reducible exact LeO.none _)
   | (with_reducible refine LeO.ite ?_ ?_)
   | (with_reducible refine LeO.bind ?_ (fun _ => ?_))
theorem spec_l09Same.mono : ∀ a0 a1 k, LeO (spec_l09Same.f k a0 a1) (spec_l09Same.f (k + 1) a0 a1) := by
 intro a0 a1 k
 have ih0 := spec_l09Same.mono_l k
 unfold spec_l09Same.f
 repeat' first
   | (with_reducible exact ih0 _ _ _)
   | (with_reducible exact LeO.refl _)
   | (with_reducible exact LeO.none _)
   | (with_reducible refine LeO.ite ?_ ?_)
   | (with_reducible refine LeO.bind ?_ (fun _ => ?_))
set_option maxHeartbeats 8000000 in
set_option maxRecDepth 100000 in
theorem spec_l09Same.calls (k : Nat) (A0 : Option Addr) (c0 : Nat) (l0 : List (S70)) (A1 : Option Addr) (c1 : Nat) (l1 : List (S70)) (r : Bool) (w : World) (hr0 : Kd.C k70 w A0 l0.length l0) (hc0 : l0.length ≤ c0) (hr1 : Kd.C k70 w A1 l1.length l1) (hc1 : l1.length ≤ c1) (h : spec_l09Same.f k l0 l1 = some r) :
  Calls Tryz.prog 41 #[.slice A0 l0.length c0, .slice A1 l1.length c1] w fun e w' => e = .returned (.bool r) ∧ Drawn0 w w' := by
 have hu70 := Tryz.underlying70
 have HR0 := Aside0.mk hr0
 have HC0 := Aside0.mk hc0
 clear hr0 hc0
 have HR1 := Aside0.mk hr1
 have HC1 := Aside0.mk hc1
 clear hr1 hc1
 have H : (if (l0.length : Int) = (l1.length : Int) then (spec_l09Same.l0 k l0 l1 0) else (some false)) = some r := h
 clear h
 by_cases c3 : (l0.length : Int) = (l1.length : Int)
 ·rw [if_pos c3] at H
  have c3b0 : ((l0.length : Int) == (l1.length : Int)) = true := beq_iff_eq.mpr c3
  have c3b1 : ((l0.length : Int) != (l1.length : Int)) = false := bne_eq_false_iff_eq.mpr c3
  have c3b2 : (l0.length == l1.length) = true := by first | simpa using c3 | (simp at c3 ⊢; omega)
  clear c3
  have H' := Aside0.mk H
  clear H
  go_enter Tryz.func41, Tryz.ntmps41
  go_wp2
  repeat (go_quiet (fail); try go_wp2)
  go_loopg [5] k (fun kq v5 w' => ∃ (x5_1 : Int), v5 = .int .i64 x5_1 ∧ Aside0 (spec_l09Same.l0 kq l0 l1 x5_1 = some r) ∧ Aside0 (kq ≤ k) ∧ Drawn0 w w')
  case atStart => exact ⟨(0), rs_, H', ⟨Nat.le_refl _⟩, dr_⟩
  case round =>
   clear H'
   try clear c1
   try clear p2
   try clear c3
   try clear c3b0
   try clear c3b1
   try clear c3b2
   obtain ⟨x5_1, rfl, HA, HK1, ⟨m1, rfl⟩⟩ := hrel
   cases gk with
   | zero => exact absurd HA.out (by simp [spec_l09Same.l0])
   | succ k1 =>
    have H := HA.out
    clear HA
    simp only [spec_l09Same.l0] at H
    by_cases c4 : x5_1 < (l0.length : Int)
    ·rw [if_pos c4] at H
     have c4b0 : decide (x5_1 < (l0.length : Int)) = true := decide_eq_true c4
     clear c4
     by_cases c5 : 0 ≤ x5_1
     ·rw [if_pos c5] at H
      have c5b0 : decide (0 ≤ x5_1) = true := decide_eq_true c5
      clear c5
      by_cases c6 : x5_1 < (l1.length : Int)
      ·rw [if_pos c6] at H
       have c6b0 : decide (x5_1 < (l1.length : Int)) = true := decide_eq_true c6
       clear c6
       by_cases c7 : (!(((rd_T70 l0 x5_1).f0) == ((rd_T70 l1 x5_1).f0)) || (!(((rd_T70 l0 x5_1).f1) == ((rd_T70 l1 x5_1).f1)))) = true
       ·rw [if_pos c7] at H
        have c7b0 : (!(((rd_T70 l0 x5_1).f0) == ((rd_T70 l1 x5_1).f0)) || (!(((rd_T70 l0 x5_1).f1) == ((rd_T70 l1 x5_1).f1)))) = true := c7
        clear c7
        obtain rfl := Option.some.inj H
        have p358 : 0 ≤ (x5_1 : Int) := of_decide_eq_true as_
        have q358 : x5_1 < (l0.length : Int) := of_decide_eq_true as_
        obtain ⟨ad358, e358, hx358_0, hx358_1⟩ := at_T70 HR0.out x5_1 p358 q358
        cases e358
        replace p358 := eq_true p358
        replace q358 := eq_true q358
        have p359 : 0 ≤ (x5_1 : Int) := of_decide_eq_true as_
        have q359 : x5_1 < (l1.length : Int) := of_decide_eq_true as_
        obtain ⟨ad359, e359, hx359_0, hx359_1⟩ := at_T70 HR1.out x5_1 p359 q359
        cases e359
        replace p359 := eq_true p359
        replace q359 := eq_true q359
        go_wp2
        repeat (go_quiet (fail); try go_wp2)
        go_ret
        exact ⟨rs_, dr_⟩
       ·rw [if_neg c7] at H
        have c7b0 : (!(((rd_T70 l0 x5_1).f0) == ((rd_T70 l1 x5_1).f0)) || (!(((rd_T70 l0 x5_1).f1) == ((rd_T70 l1 x5_1).f1)))) = false := by simpa using c7
        clear c7
        have H' := Aside0.mk H
        clear H
        have p358 : 0 ≤ (x5_1 : Int) := of_decide_eq_true as_
        have q358 : x5_1 < (l0.length : Int) := of_decide_eq_true as_
        obtain ⟨ad358, e358, hx358_0, hx358_1⟩ := at_T70 HR0.out x5_1 p358 q358
        cases e358
        replace p358 := eq_true p358
        replace q358 := eq_true q358
        have p359 : 0 ≤ (x5_1 : Int) := of_decide_eq_true as_
        have q359 : x5_1 < (l1.length : Int) := of_decide_eq_true as_
        obtain ⟨ad359, e359, hx359_0, hx359_1⟩ := at_T70 HR1.out x5_1 p359 q359
        cases e359
        replace p359 := eq_true p359
        replace q359 := eq_true q359
        go_wp2
        repeat (go_quiet (fail); try go_wp2)
        go_roundg k1
        case measure => have := HK1.out; omega
        case rel => exact ⟨(wrap64 (x5_1 + 1)), rs_, H', ⟨by have := HK1.out; omega⟩, dr_⟩
      ·rw [if_neg c6] at H
       exact absurd H (by simp)
     ·rw [if_neg c5] at H
      exact absurd H (by simp)
    ·rw [if_neg c4] at H
     have c4b0 : decide (x5_1 < (l0.length : Int)) = false := decide_eq_false c4
     clear c4
     obtain rfl := Option.some.inj H
     go_wp2
     repeat (go_quiet (fail); try go_wp2)
     go_ret
     exact ⟨rs_, dr_⟩
 ·rw [if_neg c3] at H
  have c3b0 : ((l0.length : Int) == (l1.length : Int)) = false := beq_eq_false_iff_ne.mpr c3
  have c3b1 : ((l0.length : Int) != (l1.length : Int)) = true := bne_iff_ne.mpr c3
  have c3b2 : (l0.length == l1.length) = false := by first | simpa using c3 | (simp at c3 ⊢; omega)
  obtain rfl := Option.some.inj H
  go_enter Tryz.func41, Tryz.ntmps41
  go_wp2
  repeat (go_quiet (fail); try go_wp2)
  go_ret
  exact ⟨rs_, dr_⟩
def spec_SameMelody.f (k : Nat) (l0 : List (S70)) (l1 : List (S70)) : Option (Bool) := (spec_l09Same.f k l0 l1).bind fun t360 => (some t360)
theorem spec_SameMelody.mono : ∀ a0 a1 k, LeO (spec_SameMelody.f k a0 a1) (spec_SameMelody.f (k + 1) a0 a1) := by
 intro a0 a1 k
 unfold spec_SameMelody.f
 repeat' first
   | (with_reducible exact spec_l09Same.mono _ _ _)
   | (with_reducible exact LeO.refl _)
   | (with_reducible exact LeO.none _)
   | (with_reducible refine LeO.ite ?_ ?_)
   | (with_reducible refine LeO.bind ?_ (fun _ => ?_))
set_option maxHeartbeats 8000000 in
set_option maxRecDepth 100000 in
theorem spec_SameMelody.calls (k : Nat) (A0 : Option Addr) (c0 : Nat) (l0 : List (S70)) (A1 : Option Addr) (c1 : Nat) (l1 : List (S70)) (r : Bool) (w : World) (hr0 : Kd.C k70 w A0 l0.length l0) (hc0 : l0.length ≤ c0) (hr1 : Kd.C k70 w A1 l1.length l1) (hc1 : l1.length ≤ c1) (h : spec_SameMelody.f k l0 l1 = some r) :
  Calls Tryz.prog 16 #[.slice A0 l0.length c0, .slice A1 l1.length c1] w fun e w' => e = .returned (.bool r) ∧ Drawn0 w w' := by
 have HR0 := Aside0.mk hr0
 have HC0 := Aside0.mk hc0
 clear hr0 hc0
 have HR1 := Aside0.mk hr1
 have HC1 := Aside0.mk hc1
 clear hr1 hc1
 have H : ((spec_l09Same.f k l0 l1).bind fun t360 => (some t360)) = some r := h
 clear h
 replace H := Option.bind_eq_some_iff.mp H
 obtain ⟨t360, A30, H⟩ := H
 replace H : (some t360) = some r := H
 have A3 := Aside0.mk A30
 clear A30
 obtain rfl := Option.some.inj H
 go_enter Tryz.func16, Tryz.ntmps16
 go_wp2_with (first | ((with_reducible refine gate_callee (f := 41) rfl ?_); refine goesL_ (some 7) rfl rfl Tryz.func41 (by kernel_rfl) rfl #[.slice A0 l0.length c0, .slice A1 l1.length c1] rfl ma_ ?_; (with_reducible refine (spec_l09Same.calls k _ _ l0 _ _ l1 t360 _ ?side1 ?side2 ?side3 ?side4 A3.out).mono ?_); (case side1 => repeat (first | exact HR0.out | (with_reducible refine Kd.C_alloc ?_ _) | (with_reducible refine Kd.C_drewN ?_ _) | (with_reducible refine Kd.C_drew ?_))); (case side2 => exact HC0.out); (case side3 => repeat (first | exact HR1.out | (with_reducible refine Kd.C_alloc ?_ _) | (with_reducible refine Kd.C_drewN ?_ _) | (with_reducible refine Kd.C_drew ?_))); (case side4 => exact HC1.out); rintro e w' ⟨rfl, ⟨nd, rfl⟩⟩; refine ⟨_, rfl, ?_⟩))
 go_ret
 exact ⟨rs_, dr_⟩
end Go.Proofs.YtgklofginkafgaaGreatDoor.PS
end
section
namespace Go.Proofs.YtgklofginkafgaaGreatDoor.PS
open Go.RowKit Go.Proofs.YtgklofginkafgaaGreatDoorW.PrintWords Go.Proofs.YtgklofginkafgaaGreatDoorW.PrintLast Go.Proofs.YtgklofginkafgaaGreatDoorW.PrintMore
attribute [local go_sem] max2_int min2_int max_two min_two max_three min_three max_four min_four
set_option linter.unusedVariables false
set_option linter.unusedSimpArgs false
mutual
def laws_FnScripts.j0 : Nat → List Int → List Int → Bool → Option (Bool)
 | 0, _, _, _ => none
 | k + 1, x0, x1, x29 => if x29 = true then (some true) else ((spec_DrawPitchIn.f x0).bind fun bt363 => ((impl_PitchIn.f bt363.1 bt363.2.1 bt363.2.2).bind fun bt366 => (if bt366.2 = 0 then ((impl_ReadPitchIn.f bt363.1 bt363.2.1 bt366.1).bind fun bt368 => ((laws_b10At.f x1 0 36).bind fun t370 => ((impl_PitchIn.f bt363.1 bt363.2.1 (wrap64 (t370 - 12))).bind fun bt371 => ((impl_ScriptName.f bt363.1).bind fun t373 => ((impl_ScriptNamed.f t373).bind fun bt374 => (if bt368.2 = 0 then (if bt368.1 = bt363.2.2 then (if bt371.2 = 0 then (if ((bt371.1.toList == bt366.1.toList) != ((wrap64 (t370 - 12)) == bt363.2.2)) = true then (some false) else (if bt374.2 = true then (if bt374.1 = bt363.1 then (laws_FnScripts.j1 k x1) else (some false)) else (some false))) else (some false)) else (some false)) else (some false))))))) else (laws_FnScripts.j1 k x1))))
def laws_FnScripts.j1 : Nat → List Int → Option (Bool)
 | 0, _ => none
 | k + 1, x1 => (spec_DrawNotesIn.f k x1).bind fun bt376 => ((impl_NotesIn.f k bt376.1 bt376.2.1 bt376.2.2).bind fun bt381 => (if bt381.2 = 0 then ((impl_ReadNotesIn.f k bt376.1 bt376.2.1 bt381.1).bind fun bt383 => (if bt383.2 = 0 then ((spec_SameMelody.f k bt383.1 bt376.2.2).bind fun t387 => (some t387)) else (some false))) else (some (bt381.1.toList == ([] : List UInt8)))))
end
def laws_FnScripts.f (k : Nat) (l0 : List Int) (l1 : List Int) : Option (Bool) := (laws_b10Long.f l0).bind fun t361 => (if t361 = true then (laws_FnScripts.j0 k l0 l1 true) else ((laws_b10Long.f l1).bind fun t362 => (laws_FnScripts.j0 k l0 l1 t362)))
theorem laws_FnScripts.mono_l : ∀ k, (∀ y0 y1 y2, LeO (laws_FnScripts.j0 k y0 y1 y2) (laws_FnScripts.j0 (k + 1) y0 y1 y2)) ∧ (∀ y0, LeO (laws_FnScripts.j1 k y0) (laws_FnScripts.j1 (k + 1) y0))
 | 0 => ⟨fun _ _ _ r h => by simp [laws_FnScripts.j0] at h, fun _ r h => by simp [laws_FnScripts.j1] at h⟩
 | k + 1 => by
  obtain ⟨ih0, ih1⟩ := laws_FnScripts.mono_l k
  refine ⟨?_, ?_⟩
  ·intro y0 y1 y2
   unfold laws_FnScripts.j0
   repeat' first
   | (with_reducible exact ih0 _ _ _)
   | (with_reducible exact ih1 _)
   | (with_reducible exact impl_NotesIn.mono _ _ _ _)
   | (with_reducible exact impl_ReadNotesIn.mono _ _ _ _)
   | (with_reducible exact spec_DrawNotesIn.mono _ _)
   | (with_reducible exact spec_SameMelody.mono _ _ _)
   | (with_reducible exact LeO.refl _)
   | (with_reducible exact LeO.none _)
   | (with_reducible refine LeO.ite ?_ ?_)
   | (with_reducible refine LeO.bind ?_ (fun _ => ?_))
  ·intro y0
   unfold laws_FnScripts.j1
   repeat' first
   | (with_reducible exact ih0 _ _ _)
   | (with_reducible exact ih1 _)
   | (with_reducible exact impl_NotesIn.mono _ _ _ _)
   | (with_reducible exact impl_ReadNotesIn.mono _ _ _ _)
   | (with_reducible exact spec_DrawNotesIn.mono _ _)
   | (with_reducible exact spec_SameMelody.mono _ _ _)
   | (with_reducible exact LeO.refl _)
   | (with_reducible exact LeO.none _)
   | (with_reducible refine LeO.ite ?_ ?_)
   | (with_reducible refine LeO.bind ?_ (fun _ => ?_))
theorem laws_FnScripts.mono : ∀ a0 a1 k, LeO (laws_FnScripts.f k a0 a1) (laws_FnScripts.f (k + 1) a0 a1) := by
 intro a0 a1 k
 obtain ⟨ih0, ih1⟩ := laws_FnScripts.mono_l k
 unfold laws_FnScripts.f
 repeat' first
   | (with_reducible exact ih0 _ _ _)
   | (with_reducible exact ih1 _)
   | (with_reducible exact impl_NotesIn.mono _ _ _ _)
   | (with_reducible exact impl_ReadNotesIn.mono _ _ _ _)
   | (with_reducible exact spec_DrawNotesIn.mono _ _)
   | (with_reducible exact spec_SameMelody.mono _ _ _)
   | (with_reducible exact LeO.refl _)
   | (with_reducible exact LeO.none _)
   | (with_reducible refine LeO.ite ?_ ?_)
   | (with_reducible refine LeO.bind ?_ (fun _ => ?_))
set_option maxHeartbeats 8000000 in
set_option maxRecDepth 100000 in
theorem laws_FnScripts.calls (k : Nat) (A0 : Option Addr) (c0 : Nat) (l0 : List Int) (A1 : Option Addr) (c1 : Nat) (l1 : List Int) (r : Bool) (w : World) (hr0 : Kd.C (Kd.int .u8) w A0 l0.length l0) (hc0 : l0.length ≤ c0) (hr1 : Kd.C (Kd.int .u8) w A1 l1.length l1) (hc1 : l1.length ≤ c1) (hL : Lv w) (h : laws_FnScripts.f k l0 l1 = some r) :
  Calls Tryz.prog 3 #[.slice A0 l0.length c0, .slice A1 l1.length c1] w fun e w' => e = .returned (.bool r) ∧ Below w.heap.size w w' := by
 have HR0 := Aside0.mk hr0
 have HC0 := Aside0.mk hc0
 clear hr0 hc0
 have HR1 := Aside0.mk hr1
 have HC1 := Aside0.mk hc1
 clear hr1 hc1
 have HB := Aside0.mk (Below.refl w.heap.size w)
 have H : ((laws_b10Long.f l0).bind fun t361 => (if t361 = true then (laws_FnScripts.j0 k l0 l1 true) else ((laws_b10Long.f l1).bind fun t362 => (laws_FnScripts.j0 k l0 l1 t362)))) = some r := h
 clear h
 have HC3 := Aside0.mk H
 clear H
 go_enter Tryz.func3, Tryz.ntmps3
 go_upto_region 1 with (fail)
 go_cut [29] (fun v29 wc => ∃ (kq : Nat) (x29_2 : Bool), v29 = .bool x29_2 ∧ Aside0 (laws_FnScripts.j0 kq l0 l1 x29_2 = some r) ∧ Aside0 (kq ≤ k) ∧ Aside0 (Below w.heap.size w wc))
 case first =>
  have H := HC3.out
  clear HC3
  replace H := Option.bind_eq_some_iff.mp H
  obtain ⟨t361, A40, H⟩ := H
  replace H : (if t361 = true then (laws_FnScripts.j0 k l0 l1 true) else ((laws_b10Long.f l1).bind fun t362 => (laws_FnScripts.j0 k l0 l1 t362))) = some r := H
  have A4 := Aside0.mk A40
  clear A40
  by_cases c5 : t361 = true
  ·subst c5
   have H1 : (laws_FnScripts.j0 k l0 l1 true) = some r := by rw [if_pos rfl] at H; exact H
   clear H
   have H := H1
   clear H1
   have H' := Aside0.mk H
   clear H
   go_wp2_with (first | ((with_reducible refine gate_callee (f := 6) rfl ?_); refine goesL_ (some 25) rfl rfl Tryz.func6 (by kernel_rfl) rfl #[.slice A0 l0.length c0] rfl ma_ ?_; (with_reducible refine (laws_b10Long.calls _ _ l0 true _ ?side1 ?side2 A4.out).mono ?_); (case side1 => repeat (first | exact (Kd.C_below HR0.out HB.out) | (with_reducible refine Kd.C_alloc ?_ _) | (with_reducible refine Kd.C_drewN ?_ _) | (with_reducible refine Kd.C_drew ?_))); (case side2 => exact HC0.out); rintro e w' ⟨rfl, ⟨nd, rfl⟩⟩; refine ⟨_, rfl, ?_⟩))
   go_meet
   case rel => exact ⟨_, (true), rs_, H', ⟨on_⟩, ⟨bw_⟩⟩
  ·replace c5 := Bool.eq_false_iff.mpr c5
   subst c5
   have H1 : ((laws_b10Long.f l1).bind fun t362 => (laws_FnScripts.j0 k l0 l1 t362)) = some r := by rw [if_neg (show ¬ (false = true) by decide)] at H; exact H
   clear H
   have H := H1
   clear H1
   replace H := Option.bind_eq_some_iff.mp H
   obtain ⟨t362, A60, H⟩ := H
   replace H : (laws_FnScripts.j0 k l0 l1 t362) = some r := H
   have A6 := Aside0.mk A60
   clear A60
   have H' := Aside0.mk H
   clear H
   go_wp2_with (first | ((with_reducible refine gate_callee (f := 6) rfl ?_); refine goesL_ (some 25) rfl rfl Tryz.func6 (by kernel_rfl) rfl #[.slice A0 l0.length c0] rfl ma_ ?_; (with_reducible refine (laws_b10Long.calls _ _ l0 false _ ?side1 ?side2 A4.out).mono ?_); (case side1 => repeat (first | exact (Kd.C_below HR0.out HB.out) | (with_reducible refine Kd.C_alloc ?_ _) | (with_reducible refine Kd.C_drewN ?_ _) | (with_reducible refine Kd.C_drew ?_))); (case side2 => exact HC0.out); rintro e w' ⟨rfl, ⟨nd, rfl⟩⟩; refine ⟨_, rfl, ?_⟩) | (go_at_call 6; (with_reducible refine (laws_b10Long.calls _ _ l1 t362 _ ?side1 ?side2 A6.out).mono ?_); (case side1 => repeat (first | exact (Kd.C_below HR1.out bw_) | (with_reducible refine Kd.C_alloc ?_ _) | (with_reducible refine Kd.C_drewN ?_ _) | (with_reducible refine Kd.C_drew ?_))); (case side2 => exact HC1.out); rintro e w' ⟨rfl, ⟨nd, rfl⟩⟩))
   go_meet
   case rel => exact ⟨_, (t362), rs_, H', ⟨on_⟩, ⟨bw_⟩⟩
 case rest =>
  clear HC3
  try clear c1
  try clear p2
  try clear c3
  try clear c5
  try clear c6
  obtain ⟨kq, x29_2, rfl, HA, HJ2, HB⟩ := hcut
  cases kq with
  | zero => exact absurd HA.out (by simp [laws_FnScripts.j0])
  | succ kj2 =>
   have H := HA.out
   clear HA
   simp only [laws_FnScripts.j0] at H
   by_cases c7 : x29_2 = true
   ·subst c7
    have H1 : (some true) = some r := by rw [if_pos rfl] at H; exact H
    clear H
    have H := H1
    clear H1
    obtain rfl := Option.some.inj H
    go_wp2
    go_ret
    exact ⟨re_, bw_⟩
   ·replace c7 := Bool.eq_false_iff.mpr c7
    subst c7
    have H1 : ((spec_DrawPitchIn.f l0).bind fun bt363 => ((impl_PitchIn.f bt363.1 bt363.2.1 bt363.2.2).bind fun bt366 => (if bt366.2 = 0 then ((impl_ReadPitchIn.f bt363.1 bt363.2.1 bt366.1).bind fun bt368 => ((laws_b10At.f l1 0 36).bind fun t370 => ((impl_PitchIn.f bt363.1 bt363.2.1 (wrap64 (t370 - 12))).bind fun bt371 => ((impl_ScriptName.f bt363.1).bind fun t373 => ((impl_ScriptNamed.f t373).bind fun bt374 => (if bt368.2 = 0 then (if bt368.1 = bt363.2.2 then (if bt371.2 = 0 then (if ((bt371.1.toList == bt366.1.toList) != ((wrap64 (t370 - 12)) == bt363.2.2)) = true then (some false) else (if bt374.2 = true then (if bt374.1 = bt363.1 then (laws_FnScripts.j1 kj2 l1) else (some false)) else (some false))) else (some false)) else (some false)) else (some false))))))) else (laws_FnScripts.j1 kj2 l1)))) = some r := by rw [if_neg (show ¬ (false = true) by decide)] at H; exact H
    clear H
    have H := H1
    clear H1
    replace H := Option.bind_eq_some_iff.mp H
    obtain ⟨⟨t363, t364, t365⟩, A80, H⟩ := H
    replace H : ((impl_PitchIn.f t363 t364 t365).bind fun bt366 => (if bt366.2 = 0 then ((impl_ReadPitchIn.f t363 t364 bt366.1).bind fun bt368 => ((laws_b10At.f l1 0 36).bind fun t370 => ((impl_PitchIn.f t363 t364 (wrap64 (t370 - 12))).bind fun bt371 => ((impl_ScriptName.f t363).bind fun t373 => ((impl_ScriptNamed.f t373).bind fun bt374 => (if bt368.2 = 0 then (if bt368.1 = t365 then (if bt371.2 = 0 then (if ((bt371.1.toList == bt366.1.toList) != ((wrap64 (t370 - 12)) == t365)) = true then (some false) else (if bt374.2 = true then (if bt374.1 = t363 then (laws_FnScripts.j1 kj2 l1) else (some false)) else (some false))) else (some false)) else (some false)) else (some false))))))) else (laws_FnScripts.j1 kj2 l1))) = some r := H
    have A8 := Aside0.mk A80
    clear A80
    replace H := Option.bind_eq_some_iff.mp H
    obtain ⟨⟨t366, t367⟩, A90, H⟩ := H
    replace H : (if t367 = 0 then ((impl_ReadPitchIn.f t363 t364 t366).bind fun bt368 => ((laws_b10At.f l1 0 36).bind fun t370 => ((impl_PitchIn.f t363 t364 (wrap64 (t370 - 12))).bind fun bt371 => ((impl_ScriptName.f t363).bind fun t373 => ((impl_ScriptNamed.f t373).bind fun bt374 => (if bt368.2 = 0 then (if bt368.1 = t365 then (if bt371.2 = 0 then (if ((bt371.1.toList == t366.toList) != ((wrap64 (t370 - 12)) == t365)) = true then (some false) else (if bt374.2 = true then (if bt374.1 = t363 then (laws_FnScripts.j1 kj2 l1) else (some false)) else (some false))) else (some false)) else (some false)) else (some false))))))) else (laws_FnScripts.j1 kj2 l1)) = some r := H
    have A9 := Aside0.mk A90
    clear A90
    have HC10 := Aside0.mk H
    clear H
    go_upto_if 44 with (first | ((with_reducible refine gate_callee (f := 7) rfl ?_); refine goesL_ (some 32) rfl rfl Tryz.func7 (by kernel_rfl) rfl #[.slice A0 l0.length c0] rfl ma_ ?_; (with_reducible refine (spec_DrawPitchIn.calls _ _ l0 t363 t364 t365 _ ?side1 ?side2 A8.out).mono ?_); (case side1 => repeat (first | exact (Kd.C_below HR0.out HB.out) | (with_reducible refine Kd.C_alloc ?_ _) | (with_reducible refine Kd.C_drewN ?_ _) | (with_reducible refine Kd.C_drew ?_))); (case side2 => exact HC0.out); rintro e w11 ⟨rfl, hb⟩; refine ⟨_, rfl, ?_⟩; have n0_ := Aside0.mk (below_step bw_ hb); clear HB; have HB := n0_; clear n0_; (try clear hb); (try clear hb2); (try clear hk); (try clear hi)) | ((with_reducible refine gate_callee (f := 8) rfl ?_); refine goesL_ (some 40) rfl rfl Tryz.func8 (by kernel_rfl) rfl #[.int .i64 t363, .int .i64 t364, .int .i64 t365] rfl ma_ ?_; (with_reducible refine (impl_PitchIn.calls t363 t364 t365 t366 t367 _ ?side1 A9.out).mono ?_); (case side1 => exact Lv.below hL bw_); rintro e w12 ⟨rfl, hb⟩; refine ⟨_, rfl, ?_⟩; have n0_ := Aside0.mk (below_step bw_ hb); clear HB; have HB := n0_; clear n0_; (try clear hb); (try clear hb2); (try clear hk); (try clear hi)))
    (try simp only [Act.put, List.setIfInBounds_toArray, List.set_cons_zero, List.set_cons_succ])
    go_cut [] (fun wc => ∃ (kq : Nat), Aside0 (laws_FnScripts.j1 kq l1 = some r) ∧ Aside0 (kq ≤ kj2) ∧ Aside0 (Below w.heap.size w wc))
    case first =>
     have H := HC10.out
     clear HC10
     by_cases c13 : t367 = 0
     ·rw [if_pos c13] at H
      have c13b0 : (t367 == 0) = true := beq_iff_eq.mpr c13
      have c13b1 : (t367 != 0) = false := bne_eq_false_iff_eq.mpr c13
      clear c13
      (first | rw [c13b0] | (simp only [i64_w, i32_w]; rw [c13b0]) | skip)
      replace H := Option.bind_eq_some_iff.mp H
      obtain ⟨⟨t368, t369⟩, A140, H⟩ := H
      replace H : ((laws_b10At.f l1 0 36).bind fun t370 => ((impl_PitchIn.f t363 t364 (wrap64 (t370 - 12))).bind fun bt371 => ((impl_ScriptName.f t363).bind fun t373 => ((impl_ScriptNamed.f t373).bind fun bt374 => (if t369 = 0 then (if t368 = t365 then (if bt371.2 = 0 then (if ((bt371.1.toList == t366.toList) != ((wrap64 (t370 - 12)) == t365)) = true then (some false) else (if bt374.2 = true then (if bt374.1 = t363 then (laws_FnScripts.j1 kj2 l1) else (some false)) else (some false))) else (some false)) else (some false)) else (some false)))))) = some r := H
      have A14 := Aside0.mk A140
      clear A140
      replace H := Option.bind_eq_some_iff.mp H
      obtain ⟨t370, A150, H⟩ := H
      replace H : ((impl_PitchIn.f t363 t364 (wrap64 (t370 - 12))).bind fun bt371 => ((impl_ScriptName.f t363).bind fun t373 => ((impl_ScriptNamed.f t373).bind fun bt374 => (if t369 = 0 then (if t368 = t365 then (if bt371.2 = 0 then (if ((bt371.1.toList == t366.toList) != ((wrap64 (t370 - 12)) == t365)) = true then (some false) else (if bt374.2 = true then (if bt374.1 = t363 then (laws_FnScripts.j1 kj2 l1) else (some false)) else (some false))) else (some false)) else (some false)) else (some false))))) = some r := H
      have A15 := Aside0.mk A150
      clear A150
      replace H := Option.bind_eq_some_iff.mp H
      obtain ⟨⟨t371, t372⟩, A160, H⟩ := H
      replace H : ((impl_ScriptName.f t363).bind fun t373 => ((impl_ScriptNamed.f t373).bind fun bt374 => (if t369 = 0 then (if t368 = t365 then (if t372 = 0 then (if ((t371.toList == t366.toList) != ((wrap64 (t370 - 12)) == t365)) = true then (some false) else (if bt374.2 = true then (if bt374.1 = t363 then (laws_FnScripts.j1 kj2 l1) else (some false)) else (some false))) else (some false)) else (some false)) else (some false)))) = some r := H
      have A16 := Aside0.mk A160
      clear A160
      replace H := Option.bind_eq_some_iff.mp H
      obtain ⟨t373, A170, H⟩ := H
      replace H : ((impl_ScriptNamed.f t373).bind fun bt374 => (if t369 = 0 then (if t368 = t365 then (if t372 = 0 then (if ((t371.toList == t366.toList) != ((wrap64 (t370 - 12)) == t365)) = true then (some false) else (if bt374.2 = true then (if bt374.1 = t363 then (laws_FnScripts.j1 kj2 l1) else (some false)) else (some false))) else (some false)) else (some false)) else (some false))) = some r := H
      have A17 := Aside0.mk A170
      clear A170
      replace H := Option.bind_eq_some_iff.mp H
      obtain ⟨⟨t374, t375⟩, A180, H⟩ := H
      replace H : (if t369 = 0 then (if t368 = t365 then (if t372 = 0 then (if ((t371.toList == t366.toList) != ((wrap64 (t370 - 12)) == t365)) = true then (some false) else (if t375 = true then (if t374 = t363 then (laws_FnScripts.j1 kj2 l1) else (some false)) else (some false))) else (some false)) else (some false)) else (some false)) = some r := H
      have A18 := Aside0.mk A180
      clear A180
      by_cases c19 : t369 = 0
      ·rw [if_pos c19] at H
       have c19b0 : (t369 == 0) = true := beq_iff_eq.mpr c19
       have c19b1 : (t369 != 0) = false := bne_eq_false_iff_eq.mpr c19
       clear c19
       by_cases c20 : t368 = t365
       ·rw [if_pos c20] at H
        have c20b0 : (t368 == t365) = true := beq_iff_eq.mpr c20
        have c20b1 : (t368 != t365) = false := bne_eq_false_iff_eq.mpr c20
        clear c20
        by_cases c21 : t372 = 0
        ·rw [if_pos c21] at H
         have c21b0 : (t372 == 0) = true := beq_iff_eq.mpr c21
         have c21b1 : (t372 != 0) = false := bne_eq_false_iff_eq.mpr c21
         clear c21
         by_cases c22 : ((t371.toList == t366.toList) != ((wrap64 (t370 - 12)) == t365)) = true
         ·rw [if_pos c22] at H
          have c22b0 : ((t371.toList == t366.toList) != ((wrap64 (t370 - 12)) == t365)) = true := c22
          (try (have c22b1 : decide ((t371.toList == t366.toList) = ((wrap64 (t370 - 12)) == t365)) = false := by simpa using c22))
          (try (have c22b2 : ((t371.toList == t366.toList) == ((wrap64 (t370 - 12)) == t365)) = false := by simpa using c22))
          (try (have c22b3 : ¬ ((t371.toList == t366.toList) = ((wrap64 (t370 - 12)) == t365)) := by simpa using c22))
          clear c22
          obtain rfl := Option.some.inj H
          go_wp2_with (first | ((with_reducible refine gate_callee (f := 9) rfl ?_); refine goesL_ (some 49) rfl rfl Tryz.func9 (by kernel_rfl) rfl #[.int .i64 t363, .int .i64 t364, .string t366] rfl ma_ ?_; (with_reducible refine (impl_ReadPitchIn.calls t363 t364 t366 t368 t369 _ ?side1 A14.out).mono ?_); (case side1 => exact Lv.below hL bw_); rintro e w23 ⟨rfl, hb⟩; refine ⟨_, rfl, ?_⟩; have n0_ := Aside0.mk (below_step bw_ hb); clear HB; have HB := n0_; clear n0_; (try clear hb); (try clear hb2); (try clear hk); (try clear hi)) | ((with_reducible refine gate_callee (f := 10) rfl ?_); refine goesL_ (some 53) rfl rfl Tryz.func10 (by kernel_rfl) rfl #[.slice A1 l1.length c1, .int .i64 0, .int .i64 36] rfl ma_ ?_; (with_reducible refine (laws_b10At.calls _ _ l1 0 36 t370 _ ?side1 ?side2 A15.out).mono ?_); (case side1 => repeat (first | exact (Kd.C_below HR1.out HB.out) | (with_reducible refine Kd.C_alloc ?_ _) | (with_reducible refine Kd.C_drewN ?_ _) | (with_reducible refine Kd.C_drew ?_))); (case side2 => exact HC1.out); rintro e w' ⟨rfl, ⟨nd, rfl⟩⟩; refine ⟨_, rfl, ?_⟩) | ((with_reducible refine gate_callee (f := 8) rfl ?_); refine goesL_ (some 59) rfl rfl Tryz.func8 (by kernel_rfl) rfl #[.int .i64 t363, .int .i64 t364, .int .i64 (wrap64 (t370 - 12))] rfl ma_ ?_; (with_reducible refine (impl_PitchIn.calls t363 t364 (wrap64 (t370 - 12)) t371 t372 _ ?side1 A16.out).mono ?_); (case side1 => exact Lv.below hL bw_); rintro e w24 ⟨rfl, hb⟩; refine ⟨_, rfl, ?_⟩; have n0_ := Aside0.mk (below_step bw_ hb); clear HB; have HB := n0_; clear n0_; (try clear hb); (try clear hb2); (try clear hk); (try clear hi)) | ((with_reducible refine gate_callee (f := 12) rfl ?_); refine goesL_ (some 64) rfl rfl Tryz.func12 (by kernel_rfl) rfl #[.int .i64 t363] rfl ma_ ?_; (with_reducible refine (impl_ScriptName.calls t363 t373 _ A17.out).mono ?_); rintro e w25 ⟨rfl, hb⟩; refine ⟨_, rfl, ?_⟩; have n0_ := Aside0.mk (below_step bw_ hb); clear HB; have HB := n0_; clear n0_; (try clear hb); (try clear hb2); (try clear hk); (try clear hi)) | ((with_reducible refine gate_callee (f := 11) rfl ?_); refine goesL_ (some 65) rfl rfl Tryz.func11 (by kernel_rfl) rfl #[.string t373] rfl ma_ ?_; (with_reducible refine (impl_ScriptNamed.calls t373 t374 t375 _ A18.out).mono ?_); rintro e w26 ⟨rfl, hb⟩; refine ⟨_, rfl, ?_⟩; have n0_ := Aside0.mk (below_step bw_ hb); clear HB; have HB := n0_; clear n0_; (try clear hb); (try clear hb2); (try clear hk); (try clear hi)))
          go_ret
          exact ⟨re_, bw_⟩
         ·rw [if_neg c22] at H
          have c22b0 : ((t371.toList == t366.toList) != ((wrap64 (t370 - 12)) == t365)) = false := by simpa using c22
          (try (have c22b1 : decide ((t371.toList == t366.toList) = ((wrap64 (t370 - 12)) == t365)) = true := by simpa using c22))
          (try (have c22b2 : ((t371.toList == t366.toList) == ((wrap64 (t370 - 12)) == t365)) = true := by simpa using c22))
          clear c22
          by_cases c27 : t375 = true
          ·subst c27
           have H1 : (if t374 = t363 then (laws_FnScripts.j1 kj2 l1) else (some false)) = some r := by rw [if_pos rfl] at H; exact H
           clear H
           have H := H1
           clear H1
           by_cases c28 : t374 = t363
           ·rw [if_pos c28] at H
            have c28b0 : (t374 == t363) = true := beq_iff_eq.mpr c28
            have c28b1 : (t374 != t363) = false := bne_eq_false_iff_eq.mpr c28
            clear c28
            have H' := Aside0.mk H
            clear H
            go_wp2_with (first | ((with_reducible refine gate_callee (f := 9) rfl ?_); refine goesL_ (some 49) rfl rfl Tryz.func9 (by kernel_rfl) rfl #[.int .i64 t363, .int .i64 t364, .string t366] rfl ma_ ?_; (with_reducible refine (impl_ReadPitchIn.calls t363 t364 t366 t368 t369 _ ?side1 A14.out).mono ?_); (case side1 => exact Lv.below hL bw_); rintro e w29 ⟨rfl, hb⟩; refine ⟨_, rfl, ?_⟩; have n0_ := Aside0.mk (below_step bw_ hb); clear HB; have HB := n0_; clear n0_; (try clear hb); (try clear hb2); (try clear hk); (try clear hi)) | ((with_reducible refine gate_callee (f := 10) rfl ?_); refine goesL_ (some 53) rfl rfl Tryz.func10 (by kernel_rfl) rfl #[.slice A1 l1.length c1, .int .i64 0, .int .i64 36] rfl ma_ ?_; (with_reducible refine (laws_b10At.calls _ _ l1 0 36 t370 _ ?side1 ?side2 A15.out).mono ?_); (case side1 => repeat (first | exact (Kd.C_below HR1.out HB.out) | (with_reducible refine Kd.C_alloc ?_ _) | (with_reducible refine Kd.C_drewN ?_ _) | (with_reducible refine Kd.C_drew ?_))); (case side2 => exact HC1.out); rintro e w' ⟨rfl, ⟨nd, rfl⟩⟩; refine ⟨_, rfl, ?_⟩) | ((with_reducible refine gate_callee (f := 8) rfl ?_); refine goesL_ (some 59) rfl rfl Tryz.func8 (by kernel_rfl) rfl #[.int .i64 t363, .int .i64 t364, .int .i64 (wrap64 (t370 - 12))] rfl ma_ ?_; (with_reducible refine (impl_PitchIn.calls t363 t364 (wrap64 (t370 - 12)) t371 t372 _ ?side1 A16.out).mono ?_); (case side1 => exact Lv.below hL bw_); rintro e w30 ⟨rfl, hb⟩; refine ⟨_, rfl, ?_⟩; have n0_ := Aside0.mk (below_step bw_ hb); clear HB; have HB := n0_; clear n0_; (try clear hb); (try clear hb2); (try clear hk); (try clear hi)) | ((with_reducible refine gate_callee (f := 12) rfl ?_); refine goesL_ (some 64) rfl rfl Tryz.func12 (by kernel_rfl) rfl #[.int .i64 t363] rfl ma_ ?_; (with_reducible refine (impl_ScriptName.calls t363 t373 _ A17.out).mono ?_); rintro e w31 ⟨rfl, hb⟩; refine ⟨_, rfl, ?_⟩; have n0_ := Aside0.mk (below_step bw_ hb); clear HB; have HB := n0_; clear n0_; (try clear hb); (try clear hb2); (try clear hk); (try clear hi)) | ((with_reducible refine gate_callee (f := 11) rfl ?_); refine goesL_ (some 65) rfl rfl Tryz.func11 (by kernel_rfl) rfl #[.string t373] rfl ma_ ?_; (with_reducible refine (impl_ScriptNamed.calls t373 t374 true _ A18.out).mono ?_); rintro e w32 ⟨rfl, hb⟩; refine ⟨_, rfl, ?_⟩; have n0_ := Aside0.mk (below_step bw_ hb); clear HB; have HB := n0_; clear n0_; (try clear hb); (try clear hb2); (try clear hk); (try clear hi)))
            go_meet
            case rel => exact ⟨_, H', ⟨by have := HJ2.out; first | omega | exact Nat.le_refl _⟩, ⟨bw_⟩⟩
           ·rw [if_neg c28] at H
            have c28b0 : (t374 == t363) = false := beq_eq_false_iff_ne.mpr c28
            have c28b1 : (t374 != t363) = true := bne_iff_ne.mpr c28
            obtain rfl := Option.some.inj H
            go_wp2_with (first | ((with_reducible refine gate_callee (f := 9) rfl ?_); refine goesL_ (some 49) rfl rfl Tryz.func9 (by kernel_rfl) rfl #[.int .i64 t363, .int .i64 t364, .string t366] rfl ma_ ?_; (with_reducible refine (impl_ReadPitchIn.calls t363 t364 t366 t368 t369 _ ?side1 A14.out).mono ?_); (case side1 => exact Lv.below hL bw_); rintro e w33 ⟨rfl, hb⟩; refine ⟨_, rfl, ?_⟩; have n0_ := Aside0.mk (below_step bw_ hb); clear HB; have HB := n0_; clear n0_; (try clear hb); (try clear hb2); (try clear hk); (try clear hi)) | ((with_reducible refine gate_callee (f := 10) rfl ?_); refine goesL_ (some 53) rfl rfl Tryz.func10 (by kernel_rfl) rfl #[.slice A1 l1.length c1, .int .i64 0, .int .i64 36] rfl ma_ ?_; (with_reducible refine (laws_b10At.calls _ _ l1 0 36 t370 _ ?side1 ?side2 A15.out).mono ?_); (case side1 => repeat (first | exact (Kd.C_below HR1.out HB.out) | (with_reducible refine Kd.C_alloc ?_ _) | (with_reducible refine Kd.C_drewN ?_ _) | (with_reducible refine Kd.C_drew ?_))); (case side2 => exact HC1.out); rintro e w' ⟨rfl, ⟨nd, rfl⟩⟩; refine ⟨_, rfl, ?_⟩) | ((with_reducible refine gate_callee (f := 8) rfl ?_); refine goesL_ (some 59) rfl rfl Tryz.func8 (by kernel_rfl) rfl #[.int .i64 t363, .int .i64 t364, .int .i64 (wrap64 (t370 - 12))] rfl ma_ ?_; (with_reducible refine (impl_PitchIn.calls t363 t364 (wrap64 (t370 - 12)) t371 t372 _ ?side1 A16.out).mono ?_); (case side1 => exact Lv.below hL bw_); rintro e w34 ⟨rfl, hb⟩; refine ⟨_, rfl, ?_⟩; have n0_ := Aside0.mk (below_step bw_ hb); clear HB; have HB := n0_; clear n0_; (try clear hb); (try clear hb2); (try clear hk); (try clear hi)) | ((with_reducible refine gate_callee (f := 12) rfl ?_); refine goesL_ (some 64) rfl rfl Tryz.func12 (by kernel_rfl) rfl #[.int .i64 t363] rfl ma_ ?_; (with_reducible refine (impl_ScriptName.calls t363 t373 _ A17.out).mono ?_); rintro e w35 ⟨rfl, hb⟩; refine ⟨_, rfl, ?_⟩; have n0_ := Aside0.mk (below_step bw_ hb); clear HB; have HB := n0_; clear n0_; (try clear hb); (try clear hb2); (try clear hk); (try clear hi)) | ((with_reducible refine gate_callee (f := 11) rfl ?_); refine goesL_ (some 65) rfl rfl Tryz.func11 (by kernel_rfl) rfl #[.string t373] rfl ma_ ?_; (with_reducible refine (impl_ScriptNamed.calls t373 t374 true _ A18.out).mono ?_); rintro e w36 ⟨rfl, hb⟩; refine ⟨_, rfl, ?_⟩; have n0_ := Aside0.mk (below_step bw_ hb); clear HB; have HB := n0_; clear n0_; (try clear hb); (try clear hb2); (try clear hk); (try clear hi)))
            go_ret
            exact ⟨re_, bw_⟩
          ·replace c27 := Bool.eq_false_iff.mpr c27
           subst c27
           have H1 : (some false) = some r := by rw [if_neg (show ¬ (false = true) by decide)] at H; exact H
           clear H
           have H := H1
           clear H1
           obtain rfl := Option.some.inj H
           go_wp2_with (first | ((with_reducible refine gate_callee (f := 9) rfl ?_); refine goesL_ (some 49) rfl rfl Tryz.func9 (by kernel_rfl) rfl #[.int .i64 t363, .int .i64 t364, .string t366] rfl ma_ ?_; (with_reducible refine (impl_ReadPitchIn.calls t363 t364 t366 t368 t369 _ ?side1 A14.out).mono ?_); (case side1 => exact Lv.below hL bw_); rintro e w37 ⟨rfl, hb⟩; refine ⟨_, rfl, ?_⟩; have n0_ := Aside0.mk (below_step bw_ hb); clear HB; have HB := n0_; clear n0_; (try clear hb); (try clear hb2); (try clear hk); (try clear hi)) | ((with_reducible refine gate_callee (f := 10) rfl ?_); refine goesL_ (some 53) rfl rfl Tryz.func10 (by kernel_rfl) rfl #[.slice A1 l1.length c1, .int .i64 0, .int .i64 36] rfl ma_ ?_; (with_reducible refine (laws_b10At.calls _ _ l1 0 36 t370 _ ?side1 ?side2 A15.out).mono ?_); (case side1 => repeat (first | exact (Kd.C_below HR1.out HB.out) | (with_reducible refine Kd.C_alloc ?_ _) | (with_reducible refine Kd.C_drewN ?_ _) | (with_reducible refine Kd.C_drew ?_))); (case side2 => exact HC1.out); rintro e w' ⟨rfl, ⟨nd, rfl⟩⟩; refine ⟨_, rfl, ?_⟩) | ((with_reducible refine gate_callee (f := 8) rfl ?_); refine goesL_ (some 59) rfl rfl Tryz.func8 (by kernel_rfl) rfl #[.int .i64 t363, .int .i64 t364, .int .i64 (wrap64 (t370 - 12))] rfl ma_ ?_; (with_reducible refine (impl_PitchIn.calls t363 t364 (wrap64 (t370 - 12)) t371 t372 _ ?side1 A16.out).mono ?_); (case side1 => exact Lv.below hL bw_); rintro e w38 ⟨rfl, hb⟩; refine ⟨_, rfl, ?_⟩; have n0_ := Aside0.mk (below_step bw_ hb); clear HB; have HB := n0_; clear n0_; (try clear hb); (try clear hb2); (try clear hk); (try clear hi)) | ((with_reducible refine gate_callee (f := 12) rfl ?_); refine goesL_ (some 64) rfl rfl Tryz.func12 (by kernel_rfl) rfl #[.int .i64 t363] rfl ma_ ?_; (with_reducible refine (impl_ScriptName.calls t363 t373 _ A17.out).mono ?_); rintro e w39 ⟨rfl, hb⟩; refine ⟨_, rfl, ?_⟩; have n0_ := Aside0.mk (below_step bw_ hb); clear HB; have HB := n0_; clear n0_; (try clear hb); (try clear hb2); (try clear hk); (try clear hi)) | ((with_reducible refine gate_callee (f := 11) rfl ?_); refine goesL_ (some 65) rfl rfl Tryz.func11 (by kernel_rfl) rfl #[.string t373] rfl ma_ ?_; (with_reducible refine (impl_ScriptNamed.calls t373 t374 false _ A18.out).mono ?_); rintro e w40 ⟨rfl, hb⟩; refine ⟨_, rfl, ?_⟩; have n0_ := Aside0.mk (below_step bw_ hb); clear HB; have HB := n0_; clear n0_; (try clear hb); (try clear hb2); (try clear hk); (try clear hi)))
           go_ret
           exact ⟨re_, bw_⟩
        ·rw [if_neg c21] at H
         have c21b0 : (t372 == 0) = false := beq_eq_false_iff_ne.mpr c21
         have c21b1 : (t372 != 0) = true := bne_iff_ne.mpr c21
         obtain rfl := Option.some.inj H
         go_wp2_with (first | ((with_reducible refine gate_callee (f := 9) rfl ?_); refine goesL_ (some 49) rfl rfl Tryz.func9 (by kernel_rfl) rfl #[.int .i64 t363, .int .i64 t364, .string t366] rfl ma_ ?_; (with_reducible refine (impl_ReadPitchIn.calls t363 t364 t366 t368 t369 _ ?side1 A14.out).mono ?_); (case side1 => exact Lv.below hL bw_); rintro e w41 ⟨rfl, hb⟩; refine ⟨_, rfl, ?_⟩; have n0_ := Aside0.mk (below_step bw_ hb); clear HB; have HB := n0_; clear n0_; (try clear hb); (try clear hb2); (try clear hk); (try clear hi)) | ((with_reducible refine gate_callee (f := 10) rfl ?_); refine goesL_ (some 53) rfl rfl Tryz.func10 (by kernel_rfl) rfl #[.slice A1 l1.length c1, .int .i64 0, .int .i64 36] rfl ma_ ?_; (with_reducible refine (laws_b10At.calls _ _ l1 0 36 t370 _ ?side1 ?side2 A15.out).mono ?_); (case side1 => repeat (first | exact (Kd.C_below HR1.out HB.out) | (with_reducible refine Kd.C_alloc ?_ _) | (with_reducible refine Kd.C_drewN ?_ _) | (with_reducible refine Kd.C_drew ?_))); (case side2 => exact HC1.out); rintro e w' ⟨rfl, ⟨nd, rfl⟩⟩; refine ⟨_, rfl, ?_⟩) | ((with_reducible refine gate_callee (f := 8) rfl ?_); refine goesL_ (some 59) rfl rfl Tryz.func8 (by kernel_rfl) rfl #[.int .i64 t363, .int .i64 t364, .int .i64 (wrap64 (t370 - 12))] rfl ma_ ?_; (with_reducible refine (impl_PitchIn.calls t363 t364 (wrap64 (t370 - 12)) t371 t372 _ ?side1 A16.out).mono ?_); (case side1 => exact Lv.below hL bw_); rintro e w42 ⟨rfl, hb⟩; refine ⟨_, rfl, ?_⟩; have n0_ := Aside0.mk (below_step bw_ hb); clear HB; have HB := n0_; clear n0_; (try clear hb); (try clear hb2); (try clear hk); (try clear hi)) | ((with_reducible refine gate_callee (f := 12) rfl ?_); refine goesL_ (some 64) rfl rfl Tryz.func12 (by kernel_rfl) rfl #[.int .i64 t363] rfl ma_ ?_; (with_reducible refine (impl_ScriptName.calls t363 t373 _ A17.out).mono ?_); rintro e w43 ⟨rfl, hb⟩; refine ⟨_, rfl, ?_⟩; have n0_ := Aside0.mk (below_step bw_ hb); clear HB; have HB := n0_; clear n0_; (try clear hb); (try clear hb2); (try clear hk); (try clear hi)) | ((with_reducible refine gate_callee (f := 11) rfl ?_); refine goesL_ (some 65) rfl rfl Tryz.func11 (by kernel_rfl) rfl #[.string t373] rfl ma_ ?_; (with_reducible refine (impl_ScriptNamed.calls t373 t374 t375 _ A18.out).mono ?_); rintro e w44 ⟨rfl, hb⟩; refine ⟨_, rfl, ?_⟩; have n0_ := Aside0.mk (below_step bw_ hb); clear HB; have HB := n0_; clear n0_; (try clear hb); (try clear hb2); (try clear hk); (try clear hi)))
         go_ret
         exact ⟨re_, bw_⟩
       ·rw [if_neg c20] at H
        have c20b0 : (t368 == t365) = false := beq_eq_false_iff_ne.mpr c20
        have c20b1 : (t368 != t365) = true := bne_iff_ne.mpr c20
        obtain rfl := Option.some.inj H
        go_wp2_with (first | ((with_reducible refine gate_callee (f := 9) rfl ?_); refine goesL_ (some 49) rfl rfl Tryz.func9 (by kernel_rfl) rfl #[.int .i64 t363, .int .i64 t364, .string t366] rfl ma_ ?_; (with_reducible refine (impl_ReadPitchIn.calls t363 t364 t366 t368 t369 _ ?side1 A14.out).mono ?_); (case side1 => exact Lv.below hL bw_); rintro e w45 ⟨rfl, hb⟩; refine ⟨_, rfl, ?_⟩; have n0_ := Aside0.mk (below_step bw_ hb); clear HB; have HB := n0_; clear n0_; (try clear hb); (try clear hb2); (try clear hk); (try clear hi)) | ((with_reducible refine gate_callee (f := 10) rfl ?_); refine goesL_ (some 53) rfl rfl Tryz.func10 (by kernel_rfl) rfl #[.slice A1 l1.length c1, .int .i64 0, .int .i64 36] rfl ma_ ?_; (with_reducible refine (laws_b10At.calls _ _ l1 0 36 t370 _ ?side1 ?side2 A15.out).mono ?_); (case side1 => repeat (first | exact (Kd.C_below HR1.out HB.out) | (with_reducible refine Kd.C_alloc ?_ _) | (with_reducible refine Kd.C_drewN ?_ _) | (with_reducible refine Kd.C_drew ?_))); (case side2 => exact HC1.out); rintro e w' ⟨rfl, ⟨nd, rfl⟩⟩; refine ⟨_, rfl, ?_⟩) | ((with_reducible refine gate_callee (f := 8) rfl ?_); refine goesL_ (some 59) rfl rfl Tryz.func8 (by kernel_rfl) rfl #[.int .i64 t363, .int .i64 t364, .int .i64 (wrap64 (t370 - 12))] rfl ma_ ?_; (with_reducible refine (impl_PitchIn.calls t363 t364 (wrap64 (t370 - 12)) t371 t372 _ ?side1 A16.out).mono ?_); (case side1 => exact Lv.below hL bw_); rintro e w46 ⟨rfl, hb⟩; refine ⟨_, rfl, ?_⟩; have n0_ := Aside0.mk (below_step bw_ hb); clear HB; have HB := n0_; clear n0_; (try clear hb); (try clear hb2); (try clear hk); (try clear hi)) | ((with_reducible refine gate_callee (f := 12) rfl ?_); refine goesL_ (some 64) rfl rfl Tryz.func12 (by kernel_rfl) rfl #[.int .i64 t363] rfl ma_ ?_; (with_reducible refine (impl_ScriptName.calls t363 t373 _ A17.out).mono ?_); rintro e w47 ⟨rfl, hb⟩; refine ⟨_, rfl, ?_⟩; have n0_ := Aside0.mk (below_step bw_ hb); clear HB; have HB := n0_; clear n0_; (try clear hb); (try clear hb2); (try clear hk); (try clear hi)) | ((with_reducible refine gate_callee (f := 11) rfl ?_); refine goesL_ (some 65) rfl rfl Tryz.func11 (by kernel_rfl) rfl #[.string t373] rfl ma_ ?_; (with_reducible refine (impl_ScriptNamed.calls t373 t374 t375 _ A18.out).mono ?_); rintro e w48 ⟨rfl, hb⟩; refine ⟨_, rfl, ?_⟩; have n0_ := Aside0.mk (below_step bw_ hb); clear HB; have HB := n0_; clear n0_; (try clear hb); (try clear hb2); (try clear hk); (try clear hi)))
        go_ret
        exact ⟨re_, bw_⟩
      ·rw [if_neg c19] at H
       have c19b0 : (t369 == 0) = false := beq_eq_false_iff_ne.mpr c19
       have c19b1 : (t369 != 0) = true := bne_iff_ne.mpr c19
       obtain rfl := Option.some.inj H
       go_wp2_with (first | ((with_reducible refine gate_callee (f := 9) rfl ?_); refine goesL_ (some 49) rfl rfl Tryz.func9 (by kernel_rfl) rfl #[.int .i64 t363, .int .i64 t364, .string t366] rfl ma_ ?_; (with_reducible refine (impl_ReadPitchIn.calls t363 t364 t366 t368 t369 _ ?side1 A14.out).mono ?_); (case side1 => exact Lv.below hL bw_); rintro e w49 ⟨rfl, hb⟩; refine ⟨_, rfl, ?_⟩; have n0_ := Aside0.mk (below_step bw_ hb); clear HB; have HB := n0_; clear n0_; (try clear hb); (try clear hb2); (try clear hk); (try clear hi)) | ((with_reducible refine gate_callee (f := 10) rfl ?_); refine goesL_ (some 53) rfl rfl Tryz.func10 (by kernel_rfl) rfl #[.slice A1 l1.length c1, .int .i64 0, .int .i64 36] rfl ma_ ?_; (with_reducible refine (laws_b10At.calls _ _ l1 0 36 t370 _ ?side1 ?side2 A15.out).mono ?_); (case side1 => repeat (first | exact (Kd.C_below HR1.out HB.out) | (with_reducible refine Kd.C_alloc ?_ _) | (with_reducible refine Kd.C_drewN ?_ _) | (with_reducible refine Kd.C_drew ?_))); (case side2 => exact HC1.out); rintro e w' ⟨rfl, ⟨nd, rfl⟩⟩; refine ⟨_, rfl, ?_⟩) | ((with_reducible refine gate_callee (f := 8) rfl ?_); refine goesL_ (some 59) rfl rfl Tryz.func8 (by kernel_rfl) rfl #[.int .i64 t363, .int .i64 t364, .int .i64 (wrap64 (t370 - 12))] rfl ma_ ?_; (with_reducible refine (impl_PitchIn.calls t363 t364 (wrap64 (t370 - 12)) t371 t372 _ ?side1 A16.out).mono ?_); (case side1 => exact Lv.below hL bw_); rintro e w50 ⟨rfl, hb⟩; refine ⟨_, rfl, ?_⟩; have n0_ := Aside0.mk (below_step bw_ hb); clear HB; have HB := n0_; clear n0_; (try clear hb); (try clear hb2); (try clear hk); (try clear hi)) | ((with_reducible refine gate_callee (f := 12) rfl ?_); refine goesL_ (some 64) rfl rfl Tryz.func12 (by kernel_rfl) rfl #[.int .i64 t363] rfl ma_ ?_; (with_reducible refine (impl_ScriptName.calls t363 t373 _ A17.out).mono ?_); rintro e w51 ⟨rfl, hb⟩; refine ⟨_, rfl, ?_⟩; have n0_ := Aside0.mk (below_step bw_ hb); clear HB; have HB := n0_; clear n0_; (try clear hb); (try clear hb2); (try clear hk); (try clear hi)) | ((with_reducible refine gate_callee (f := 11) rfl ?_); refine goesL_ (some 65) rfl rfl Tryz.func11 (by kernel_rfl) rfl #[.string t373] rfl ma_ ?_; (with_reducible refine (impl_ScriptNamed.calls t373 t374 t375 _ A18.out).mono ?_); rintro e w52 ⟨rfl, hb⟩; refine ⟨_, rfl, ?_⟩; have n0_ := Aside0.mk (below_step bw_ hb); clear HB; have HB := n0_; clear n0_; (try clear hb); (try clear hb2); (try clear hk); (try clear hi)))
       go_ret
       exact ⟨re_, bw_⟩
     ·rw [if_neg c13] at H
      have c13b0 : (t367 == 0) = false := beq_eq_false_iff_ne.mpr c13
      have c13b1 : (t367 != 0) = true := bne_iff_ne.mpr c13
      (first | rw [c13b0] | (simp only [i64_w, i32_w]; rw [c13b0]) | skip)
      have H' := Aside0.mk H
      clear H
      go_wp2
      go_meet
      case rel => exact ⟨_, H', ⟨by have := HJ2.out; first | omega | exact Nat.le_refl _⟩, ⟨bw_⟩⟩
    case rest =>
     clear HC10
     try clear c1
     try clear c2
     try clear p2
     try clear c3
     try clear c5
     try clear c6
     try clear p6
     try clear c7
     try clear c8
     try clear c9
     try clear c10
     try clear c11
     try clear c12
     try clear c13
     try clear c13b0
     try clear c13b1
     try clear c19
     try clear c19b0
     try clear c19b1
     try clear c20
     try clear c20b0
     try clear c20b1
     try clear c21
     try clear c21b0
     try clear c21b1
     try clear c22
     try clear c22b0
     try clear c22b1
     try clear c22b2
     try clear c27
     try clear c28
     try clear c28b0
     try clear c28b1
     try clear p2
     obtain ⟨kq, HA, HJ9, HB⟩ := hcut
     cases kq with
     | zero => exact absurd HA.out (by simp [laws_FnScripts.j1])
     | succ kj9 =>
      have H := HA.out
      clear HA
      simp only [laws_FnScripts.j1] at H
      replace H := Option.bind_eq_some_iff.mp H
      obtain ⟨⟨t376, t377, t378⟩, A530, H⟩ := H
      replace H : ((impl_NotesIn.f kj9 t376 t377 t378).bind fun bt381 => (if bt381.2 = 0 then ((impl_ReadNotesIn.f kj9 t376 t377 bt381.1).bind fun bt383 => (if bt383.2 = 0 then ((spec_SameMelody.f kj9 bt383.1 t378).bind fun t387 => (some t387)) else (some false))) else (some (bt381.1.toList == ([] : List UInt8))))) = some r := H
      have A53 := Aside0.mk A530
      clear A530
      replace H := Option.bind_eq_some_iff.mp H
      obtain ⟨⟨t381, t382⟩, A540, H⟩ := H
      replace H : (if t382 = 0 then ((impl_ReadNotesIn.f kj9 t376 t377 t381).bind fun bt383 => (if bt383.2 = 0 then ((spec_SameMelody.f kj9 bt383.1 t378).bind fun t387 => (some t387)) else (some false))) else (some (t381.toList == ([] : List UInt8)))) = some r := H
      have A54 := Aside0.mk A540
      clear A540
      by_cases c55 : t382 = 0
      ·rw [if_pos c55] at H
       have c55b0 : (t382 == 0) = true := beq_iff_eq.mpr c55
       have c55b1 : (t382 != 0) = false := bne_eq_false_iff_eq.mpr c55
       clear c55
       replace H := Option.bind_eq_some_iff.mp H
       obtain ⟨⟨t383, t384⟩, A560, H⟩ := H
       replace H : (if t384 = 0 then ((spec_SameMelody.f kj9 t383 t378).bind fun t387 => (some t387)) else (some false)) = some r := H
       have A56 := Aside0.mk A560
       clear A560
       by_cases c57 : t384 = 0
       ·rw [if_pos c57] at H
        have c57b0 : (t384 == 0) = true := beq_iff_eq.mpr c57
        have c57b1 : (t384 != 0) = false := bne_eq_false_iff_eq.mpr c57
        clear c57
        replace H := Option.bind_eq_some_iff.mp H
        obtain ⟨t387, A580, H⟩ := H
        replace H : (some t387) = some r := H
        have A58 := Aside0.mk A580
        clear A580
        obtain rfl := Option.some.inj H
        go_wp2_with (first | ((with_reducible refine gate_callee (f := 13) rfl ?_); refine goesL_ (some 99) rfl rfl Tryz.func13 (by kernel_rfl) rfl #[.slice A1 l1.length c1] rfl ma_ ?_; (with_reducible refine (spec_DrawNotesIn.calls kj9 _ _ l1 t376 t377 t378 _ ?side1 ?side2 A53.out).mono ?_); (case side1 => repeat (first | exact (Kd.C_below HR1.out HB.out) | (with_reducible refine Kd.C_alloc ?_ _) | (with_reducible refine Kd.C_drewN ?_ _) | (with_reducible refine Kd.C_drew ?_))); (case side2 => exact HC1.out); rintro e w59 ⟨v379, rfl, ho0, hb⟩; refine ⟨_, rfl, ?_⟩; have n0_ := Aside0.mk (Kd.R_lower ho0 (below_size bw_)); have n1_ := Aside0.mk (below_step bw_ hb); clear HB; have HO380 := n0_; have HB := n1_; clear n0_ n1_; (try clear hb); (try clear hb2); (try clear hk); (try clear hi); (try clear ho0); obtain ⟨Ao60, co60, eo60⟩ := Kd.R_slice HO380.out; subst eo60) | ((with_reducible refine gate_callee (f := 14) rfl ?_); refine goesL_ (some 107) rfl rfl Tryz.func14 (by kernel_rfl) rfl #[.int .i64 t376, .int .i64 t377, .slice Ao60 t378.length co60] rfl ma_ ?_; (with_reducible refine (impl_NotesIn.calls kj9 t376 t377 _ _ t378 t381 t382 _ ?side1 ?side2 ?side3 A54.out).mono ?_); (case side1 => repeat (first | exact (Kd.R_reads' HO380.out).2.2 | (with_reducible refine Kd.C_alloc ?_ _) | (with_reducible refine Kd.C_drewN ?_ _) | (with_reducible refine Kd.C_drew ?_))); (case side2 => exact (Kd.R_reads' HO380.out).2.1); (case side3 => exact Lv.below hL bw_); rintro e w61 ⟨rfl, hb⟩; refine ⟨_, rfl, ?_⟩; have n0_ := Aside0.mk (Kd.R_below (kr_ HO380.out) hb); have n1_ := Aside0.mk (below_step bw_ hb); clear HO380; clear HB; have HO380 := n0_; have HB := n1_; clear n0_ n1_; (try clear hb); (try clear hb2); (try clear hk); (try clear hi)) | ((with_reducible refine gate_callee (f := 15) rfl ?_); refine goesL_ (some 118) rfl rfl Tryz.func15 (by kernel_rfl) rfl #[.int .i64 t376, .int .i64 t377, .string t381] rfl ma_ ?_; (with_reducible refine (impl_ReadNotesIn.calls kj9 t376 t377 t381 t383 t384 _ ?side1 A56.out).mono ?_); (case side1 => exact Lv.below hL bw_); rintro e w62 ⟨v385, rfl, ho0, hb⟩; refine ⟨_, rfl, ?_⟩; have n0_ := Aside0.mk (Kd.R_elder' (kr_ HO380.out) (Kd.R_base ho0) hb); have n1_ := Aside0.mk (Kd.R_lower (Kd.R_new' ho0 (Kd.R_lt (kr_ HO380.out))) (below_size bw_)); have n2_ := Aside0.mk (below_step bw_ hb); clear HO380; clear HB; have HO380 := n0_; have HO386 := n1_; have HB := n2_; clear n0_ n1_ n2_; (try clear hb); (try clear hb2); (try clear hk); (try clear hi); (try clear ho0); obtain ⟨Ao63, co63, eo63⟩ := Kd.R_slice HO386.out; subst eo63) | (go_at_call 16; (with_reducible refine (spec_SameMelody.calls kj9 _ _ t383 _ _ t378 t387 _ ?side1 ?side2 ?side3 ?side4 A58.out).mono ?_); (case side1 => repeat (first | exact (Kd.R_reads' HO386.out).2.2 | (with_reducible refine Kd.C_alloc ?_ _) | (with_reducible refine Kd.C_drewN ?_ _) | (with_reducible refine Kd.C_drew ?_))); (case side2 => exact (Kd.R_reads' HO386.out).2.1); (case side3 => repeat (first | exact (Kd.R_reads' HO380.out).2.2 | (with_reducible refine Kd.C_alloc ?_ _) | (with_reducible refine Kd.C_drewN ?_ _) | (with_reducible refine Kd.C_drew ?_))); (case side4 => exact (Kd.R_reads' HO380.out).2.1); rintro e w' ⟨rfl, ⟨nd, rfl⟩⟩))
        go_ret
        exact ⟨re_, bw_⟩
       ·rw [if_neg c57] at H
        have c57b0 : (t384 == 0) = false := beq_eq_false_iff_ne.mpr c57
        have c57b1 : (t384 != 0) = true := bne_iff_ne.mpr c57
        obtain rfl := Option.some.inj H
        go_wp2_with (first | ((with_reducible refine gate_callee (f := 13) rfl ?_); refine goesL_ (some 99) rfl rfl Tryz.func13 (by kernel_rfl) rfl #[.slice A1 l1.length c1] rfl ma_ ?_; (with_reducible refine (spec_DrawNotesIn.calls kj9 _ _ l1 t376 t377 t378 _ ?side1 ?side2 A53.out).mono ?_); (case side1 => repeat (first | exact (Kd.C_below HR1.out HB.out) | (with_reducible refine Kd.C_alloc ?_ _) | (with_reducible refine Kd.C_drewN ?_ _) | (with_reducible refine Kd.C_drew ?_))); (case side2 => exact HC1.out); rintro e w64 ⟨v379, rfl, ho0, hb⟩; refine ⟨_, rfl, ?_⟩; have n0_ := Aside0.mk (Kd.R_lower ho0 (below_size bw_)); have n1_ := Aside0.mk (below_step bw_ hb); clear HB; have HO380 := n0_; have HB := n1_; clear n0_ n1_; (try clear hb); (try clear hb2); (try clear hk); (try clear hi); (try clear ho0); obtain ⟨Ao65, co65, eo65⟩ := Kd.R_slice HO380.out; subst eo65) | ((with_reducible refine gate_callee (f := 14) rfl ?_); refine goesL_ (some 107) rfl rfl Tryz.func14 (by kernel_rfl) rfl #[.int .i64 t376, .int .i64 t377, .slice Ao65 t378.length co65] rfl ma_ ?_; (with_reducible refine (impl_NotesIn.calls kj9 t376 t377 _ _ t378 t381 t382 _ ?side1 ?side2 ?side3 A54.out).mono ?_); (case side1 => repeat (first | exact (Kd.R_reads' HO380.out).2.2 | (with_reducible refine Kd.C_alloc ?_ _) | (with_reducible refine Kd.C_drewN ?_ _) | (with_reducible refine Kd.C_drew ?_))); (case side2 => exact (Kd.R_reads' HO380.out).2.1); (case side3 => exact Lv.below hL bw_); rintro e w66 ⟨rfl, hb⟩; refine ⟨_, rfl, ?_⟩; have n0_ := Aside0.mk (Kd.R_below (kr_ HO380.out) hb); have n1_ := Aside0.mk (below_step bw_ hb); clear HO380; clear HB; have HO380 := n0_; have HB := n1_; clear n0_ n1_; (try clear hb); (try clear hb2); (try clear hk); (try clear hi)) | ((with_reducible refine gate_callee (f := 15) rfl ?_); refine goesL_ (some 118) rfl rfl Tryz.func15 (by kernel_rfl) rfl #[.int .i64 t376, .int .i64 t377, .string t381] rfl ma_ ?_; (with_reducible refine (impl_ReadNotesIn.calls kj9 t376 t377 t381 t383 t384 _ ?side1 A56.out).mono ?_); (case side1 => exact Lv.below hL bw_); rintro e w67 ⟨v385, rfl, ho0, hb⟩; refine ⟨_, rfl, ?_⟩; have n0_ := Aside0.mk (Kd.R_elder' (kr_ HO380.out) (Kd.R_base ho0) hb); have n1_ := Aside0.mk (Kd.R_lower (Kd.R_new' ho0 (Kd.R_lt (kr_ HO380.out))) (below_size bw_)); have n2_ := Aside0.mk (below_step bw_ hb); clear HO380; clear HB; have HO380 := n0_; have HO386 := n1_; have HB := n2_; clear n0_ n1_ n2_; (try clear hb); (try clear hb2); (try clear hk); (try clear hi); (try clear ho0)))
        go_ret
        exact ⟨re_, bw_⟩
      ·rw [if_neg c55] at H
       have c55b0 : (t382 == 0) = false := beq_eq_false_iff_ne.mpr c55
       have c55b1 : (t382 != 0) = true := bne_iff_ne.mpr c55
       obtain rfl := Option.some.inj H
       go_wp2_with (first | ((with_reducible refine gate_callee (f := 13) rfl ?_); refine goesL_ (some 99) rfl rfl Tryz.func13 (by kernel_rfl) rfl #[.slice A1 l1.length c1] rfl ma_ ?_; (with_reducible refine (spec_DrawNotesIn.calls kj9 _ _ l1 t376 t377 t378 _ ?side1 ?side2 A53.out).mono ?_); (case side1 => repeat (first | exact (Kd.C_below HR1.out HB.out) | (with_reducible refine Kd.C_alloc ?_ _) | (with_reducible refine Kd.C_drewN ?_ _) | (with_reducible refine Kd.C_drew ?_))); (case side2 => exact HC1.out); rintro e w68 ⟨v379, rfl, ho0, hb⟩; refine ⟨_, rfl, ?_⟩; have n0_ := Aside0.mk (Kd.R_lower ho0 (below_size bw_)); have n1_ := Aside0.mk (below_step bw_ hb); clear HB; have HO380 := n0_; have HB := n1_; clear n0_ n1_; (try clear hb); (try clear hb2); (try clear hk); (try clear hi); (try clear ho0); obtain ⟨Ao69, co69, eo69⟩ := Kd.R_slice HO380.out; subst eo69) | ((with_reducible refine gate_callee (f := 14) rfl ?_); refine goesL_ (some 107) rfl rfl Tryz.func14 (by kernel_rfl) rfl #[.int .i64 t376, .int .i64 t377, .slice Ao69 t378.length co69] rfl ma_ ?_; (with_reducible refine (impl_NotesIn.calls kj9 t376 t377 _ _ t378 t381 t382 _ ?side1 ?side2 ?side3 A54.out).mono ?_); (case side1 => repeat (first | exact (Kd.R_reads' HO380.out).2.2 | (with_reducible refine Kd.C_alloc ?_ _) | (with_reducible refine Kd.C_drewN ?_ _) | (with_reducible refine Kd.C_drew ?_))); (case side2 => exact (Kd.R_reads' HO380.out).2.1); (case side3 => exact Lv.below hL bw_); rintro e w70 ⟨rfl, hb⟩; refine ⟨_, rfl, ?_⟩; have n0_ := Aside0.mk (Kd.R_below (kr_ HO380.out) hb); have n1_ := Aside0.mk (below_step bw_ hb); clear HO380; clear HB; have HO380 := n0_; have HB := n1_; clear n0_ n1_; (try clear hb); (try clear hb2); (try clear hk); (try clear hi)))
       go_ret
       exact ⟨re_, bw_⟩
end Go.Proofs.YtgklofginkafgaaGreatDoor.PS
end
