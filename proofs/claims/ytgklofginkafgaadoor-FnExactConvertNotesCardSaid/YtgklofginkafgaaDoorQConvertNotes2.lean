/- What is proved: fnExactConvertNotes_card, without further conditions; this text holds part 3 of 4 of its proof. -/

import Derived.Test.YtgklofginkafgaaDoorQConvertNotes1
section
namespace Go.Proofs.YtgklofginkafgaaDoor.PD
open Go.RowKit Go.Proofs.YtgklofginkafgaaDoorW.PrintWords Go.Proofs.YtgklofginkafgaaDoorW.PrintLast Go.Proofs.YtgklofginkafgaaDoorW.PrintMore
attribute [local go_sem] max2_int min2_int max_two min_two max_three min_three max_four min_four
set_option linter.unusedVariables false
set_option linter.unusedSimpArgs false
def impl_ValidMelody.l0 : Nat → List (S53) → Int → Int → Option (Bool)
 | 0, _, _, _ => none
 | k + 1, x8, x9, x10 => if x10 < x9 then (if 0 ≤ x10 then (if x10 < (x8.length : Int) then ((impl_pitchOk.f ((rd_T53 x8 x10).f0)).bind fun t191 => (if t191 = true then ((impl_lengthOk.f ((rd_T53 x8 x10).f1)).bind fun t192 => (if t192 = true then (impl_ValidMelody.l0 k x8 x9 (wrap64 (x10 + 1))) else (some false))) else (some false))) else (none)) else (none)) else (some true)
def impl_ValidMelody.f (k : Nat) (l0 : List (S53)) : Option (Bool) := if (l0.length : Int) > 48 then (some false) else (impl_ValidMelody.l0 k l0 (l0.length : Int) 0)
theorem impl_ValidMelody.mono_l : ∀ k, (∀ y0 y1 y2, LeO (impl_ValidMelody.l0 k y0 y1 y2) (impl_ValidMelody.l0 (k + 1) y0 y1 y2))
 | 0 => fun _ _ _ r h => by simp [impl_ValidMelody.l0] at h
 | k + 1 => by
  have ih0 := impl_ValidMelody.mono_l k
  ·intro y0 y1 y2
   unfold impl_ValidMelody.l0
   repeat' first
   | (with_reducible exact ih0 _ _ _)
   | (with_reducible exact LeO.refl _)
   | (with_reducible exact LeO.none _)
   | (with_reducible refine LeO.ite ?_ ?_)
   | (with_reducible refine LeO.bind ?_ (fun _ => ?_))
theorem impl_ValidMelody.mono : ∀ a0 k, LeO (impl_ValidMelody.f k a0) (impl_ValidMelody.f (k + 1) a0) := by
 intro a0 k
 have ih0 := impl_ValidMelody.mono_l k
 unfold impl_ValidMelody.f
 repeat' first
   | (with_reducible exact ih0 _ _ _)
   | (with_reducible exact LeO.refl _)
   | (with_reducible exact LeO.none _)
   | (with_reducible refine LeO.ite ?_ ?_)
   | (with_reducible refine LeO.bind ?_ (fun _ => ?_))
set_option maxHeartbeats 8000000 in
set_option maxRecDepth 100000 in
theorem impl_ValidMelody.calls (k : Nat) (A0 : Option Addr) (c0 : Nat) (l0 : List (S53)) (r : Bool) (w : World) (hr0 : Kd.C k53 w A0 l0.length l0) (hc0 : l0.length ≤ c0) (h : impl_ValidMelody.f k l0 = some r) :
  Calls Tryd.prog 37 #[.slice A0 l0.length c0] w fun e w' => e = .returned (.bool r) ∧ Below w.heap.size w w' := by
 have hu53 := Tryd.underlying53
 have HR0 := Aside0.mk hr0
 have HC0 := Aside0.mk hc0
 clear hr0 hc0
 have HB := Aside0.mk (Below.refl w.heap.size w)
 have H : (if (l0.length : Int) > 48 then (some false) else (impl_ValidMelody.l0 k l0 (l0.length : Int) 0)) = some r := h
 clear h
 by_cases c2 : (l0.length : Int) > 48
 ·rw [if_pos c2] at H
  have c2b0 : decide (48 < (l0.length : Int)) = true := decide_eq_true c2
  have c2b1 : decide (48 < l0.length) = true := decide_eq_true (by omega)
  clear c2
  obtain rfl := Option.some.inj H
  go_enter Tryd.func37, Tryd.ntmps37
  go_wp2
  go_ret
  exact ⟨re_, bw_⟩
 ·rw [if_neg c2] at H
  have c2b0 : decide (48 < (l0.length : Int)) = false := decide_eq_false c2
  have c2b1 : decide (48 < l0.length) = false := decide_eq_false (by omega)
  clear c2
  have H' := Aside0.mk H
  clear H
  go_enter Tryd.func37, Tryd.ntmps37
  go_wp2
  go_loopg [10] k (fun kq v10 w' => ∃ (x10_1 : Int), v10 = .int .i64 x10_1 ∧ Aside0 (impl_ValidMelody.l0 kq l0 (l0.length : Int) x10_1 = some r) ∧ Aside0 (kq ≤ k) ∧ Aside0 (Below w.heap.size w w'))
  case atStart => exact ⟨(0), rs_, H', ⟨Nat.le_refl _⟩, ⟨bw_⟩⟩
  case round =>
   clear H'
   try clear c2
   try clear c2b0
   try clear c2b1
   try clear p2
   obtain ⟨x10_1, rfl, HA, HK1, HB⟩ := hrel
   cases gk with
   | zero => exact absurd HA.out (by simp [impl_ValidMelody.l0])
   | succ k1 =>
    have H := HA.out
    clear HA
    simp only [impl_ValidMelody.l0] at H
    by_cases c3 : x10_1 < (l0.length : Int)
    ·rw [if_pos c3] at H
     have c3b0 : decide (x10_1 < (l0.length : Int)) = true := decide_eq_true c3
     clear c3
     by_cases c4 : 0 ≤ x10_1
     ·rw [if_pos c4] at H
      have c4b0 : decide (0 ≤ x10_1) = true := decide_eq_true c4
      clear c4
      by_cases c5 : x10_1 < (l0.length : Int)
      ·rw [if_pos c5] at H
       have c5b0 : decide (x10_1 < (l0.length : Int)) = true := decide_eq_true c5
       clear c5
       replace H := Option.bind_eq_some_iff.mp H
       obtain ⟨t191, A60, H⟩ := H
       replace H : (if t191 = true then ((impl_lengthOk.f ((rd_T53 l0 x10_1).f1)).bind fun t192 => (if t192 = true then (impl_ValidMelody.l0 k1 l0 (l0.length : Int) (wrap64 (x10_1 + 1))) else (some false))) else (some false)) = some r := H
       have A6 := Aside0.mk A60
       clear A60
       by_cases c7 : t191 = true
       ·subst c7
        have H1 : ((impl_lengthOk.f ((rd_T53 l0 x10_1).f1)).bind fun t192 => (if t192 = true then (impl_ValidMelody.l0 k1 l0 (l0.length : Int) (wrap64 (x10_1 + 1))) else (some false))) = some r := by rw [if_pos rfl] at H; exact H
        clear H
        have H := H1
        clear H1
        replace H := Option.bind_eq_some_iff.mp H
        obtain ⟨t192, A80, H⟩ := H
        replace H : (if t192 = true then (impl_ValidMelody.l0 k1 l0 (l0.length : Int) (wrap64 (x10_1 + 1))) else (some false)) = some r := H
        have A8 := Aside0.mk A80
        clear A80
        by_cases c9 : t192 = true
        ·subst c9
         have H1 : (impl_ValidMelody.l0 k1 l0 (l0.length : Int) (wrap64 (x10_1 + 1))) = some r := by rw [if_pos rfl] at H; exact H
         clear H
         have H := H1
         clear H1
         have H' := Aside0.mk H
         clear H
         have p189 : 0 ≤ (x10_1 : Int) := of_decide_eq_true as_
         have q189 : x10_1 < (l0.length : Int) := of_decide_eq_true as_
         obtain ⟨ad189, e189, hx189_0, hx189_1⟩ := at_T53 HR0.out x10_1 p189 q189
         cases e189
         replace hx189_0 := (HB.out.cell (World.block_lt_of_cell? w _ hx189_0)).trans hx189_0
         replace hx189_1 := (HB.out.cell (World.block_lt_of_cell? w _ hx189_1)).trans hx189_1
         replace p189 := eq_true p189
         replace q189 := eq_true q189
         go_wp2_with (first | ((with_reducible refine gate_dst (N := 4) rfl ?_); refine box_event ?hg (N := 4) ?hd (cs := #[.int .i64 0, .int .i64 0]) (t := 53) ?hr ?_; (case hd => rfl); (case hg => rfl); (case hr => first | (go_simp; done) | (go_simp; rfl)); intro gb190 hg w10 hbox hb; have n0_ := Aside0.mk (below_step bw_ hb); have n1_ := Aside0.mk (hbox); have n2_ := Aside0.mk ((by rw [hg]; exact (below_size bw_) : w.heap.size ≤ gb190)); have n3_ := Aside0.mk ((by rw [hg]; exact (below_size bw_) : w.heap.size ≤ gb190)); clear HB; have HB := n0_; have BK190 := n1_; have GW190 := n2_; have GE190 := n3_; clear n0_ n1_ n2_ n3_; clear hb hbox hg; have hcz11_0 : w10.cell? ⟨gb190, 0, none⟩ = some (.int .i64 0) := (blk_cell BK190.out 0).trans rfl; have hcz11_1 : w10.cell? ⟨gb190, 1, none⟩ = some (.int .i64 0) := (blk_cell BK190.out 1).trans rfl; have hfz11_0 := blk_frozen BK190.out 0; have hfz11_1 := blk_frozen BK190.out 1) | ((with_reducible refine gate_callee (f := 59) rfl ?_); refine goesL_ (some 16) rfl rfl Tryd.func59 (by kernel_rfl) rfl #[.int .i64 ((rd_T53 l0 x10_1).f0)] rfl ma_ ?_; (with_reducible refine (impl_pitchOk.calls ((rd_T53 l0 x10_1).f0) true _ A6.out).mono ?_); rintro e w' ⟨rfl, ⟨nd, rfl⟩⟩; refine ⟨_, rfl, ?_⟩) | (go_at_call 60; (with_reducible refine (impl_lengthOk.calls ((rd_T53 l0 x10_1).f1) true _ A8.out).mono ?_); rintro e w' ⟨rfl, ⟨nd, rfl⟩⟩))
         go_roundg k1
         case measure => have := HK1.out; omega
         case rel => exact ⟨(wrap64 (x10_1 + 1)), rs_, H', ⟨by have := HK1.out; omega⟩, ⟨bw_⟩⟩
        ·replace c9 := Bool.eq_false_iff.mpr c9
         subst c9
         have H1 : (some false) = some r := by rw [if_neg (show ¬ (false = true) by decide)] at H; exact H
         clear H
         have H := H1
         clear H1
         obtain rfl := Option.some.inj H
         have p189 : 0 ≤ (x10_1 : Int) := of_decide_eq_true as_
         have q189 : x10_1 < (l0.length : Int) := of_decide_eq_true as_
         obtain ⟨ad189, e189, hx189_0, hx189_1⟩ := at_T53 HR0.out x10_1 p189 q189
         cases e189
         replace hx189_0 := (HB.out.cell (World.block_lt_of_cell? w _ hx189_0)).trans hx189_0
         replace hx189_1 := (HB.out.cell (World.block_lt_of_cell? w _ hx189_1)).trans hx189_1
         replace p189 := eq_true p189
         replace q189 := eq_true q189
         go_wp2_with (first | ((with_reducible refine gate_dst (N := 4) rfl ?_); refine box_event ?hg (N := 4) ?hd (cs := #[.int .i64 0, .int .i64 0]) (t := 53) ?hr ?_; (case hd => rfl); (case hg => rfl); (case hr => first | (go_simp; done) | (go_simp; rfl)); intro gb190 hg w12 hbox hb; have n0_ := Aside0.mk (below_step bw_ hb); have n1_ := Aside0.mk (hbox); have n2_ := Aside0.mk ((by rw [hg]; exact (below_size bw_) : w.heap.size ≤ gb190)); have n3_ := Aside0.mk ((by rw [hg]; exact (below_size bw_) : w.heap.size ≤ gb190)); clear HB; have HB := n0_; have BK190 := n1_; have GW190 := n2_; have GE190 := n3_; clear n0_ n1_ n2_ n3_; clear hb hbox hg; have hcz13_0 : w12.cell? ⟨gb190, 0, none⟩ = some (.int .i64 0) := (blk_cell BK190.out 0).trans rfl; have hcz13_1 : w12.cell? ⟨gb190, 1, none⟩ = some (.int .i64 0) := (blk_cell BK190.out 1).trans rfl; have hfz13_0 := blk_frozen BK190.out 0; have hfz13_1 := blk_frozen BK190.out 1) | ((with_reducible refine gate_callee (f := 59) rfl ?_); refine goesL_ (some 16) rfl rfl Tryd.func59 (by kernel_rfl) rfl #[.int .i64 ((rd_T53 l0 x10_1).f0)] rfl ma_ ?_; (with_reducible refine (impl_pitchOk.calls ((rd_T53 l0 x10_1).f0) true _ A6.out).mono ?_); rintro e w' ⟨rfl, ⟨nd, rfl⟩⟩; refine ⟨_, rfl, ?_⟩) | (go_at_call 60; (with_reducible refine (impl_lengthOk.calls ((rd_T53 l0 x10_1).f1) false _ A8.out).mono ?_); rintro e w' ⟨rfl, ⟨nd, rfl⟩⟩))
         go_ret
         exact ⟨re_, bw_⟩
       ·replace c7 := Bool.eq_false_iff.mpr c7
        subst c7
        have H1 : (some false) = some r := by rw [if_neg (show ¬ (false = true) by decide)] at H; exact H
        clear H
        have H := H1
        clear H1
        obtain rfl := Option.some.inj H
        have p189 : 0 ≤ (x10_1 : Int) := of_decide_eq_true as_
        have q189 : x10_1 < (l0.length : Int) := of_decide_eq_true as_
        obtain ⟨ad189, e189, hx189_0, hx189_1⟩ := at_T53 HR0.out x10_1 p189 q189
        cases e189
        replace hx189_0 := (HB.out.cell (World.block_lt_of_cell? w _ hx189_0)).trans hx189_0
        replace hx189_1 := (HB.out.cell (World.block_lt_of_cell? w _ hx189_1)).trans hx189_1
        replace p189 := eq_true p189
        replace q189 := eq_true q189
        go_wp2_with (first | ((with_reducible refine gate_dst (N := 4) rfl ?_); refine box_event ?hg (N := 4) ?hd (cs := #[.int .i64 0, .int .i64 0]) (t := 53) ?hr ?_; (case hd => rfl); (case hg => rfl); (case hr => first | (go_simp; done) | (go_simp; rfl)); intro gb190 hg w14 hbox hb; have n0_ := Aside0.mk (below_step bw_ hb); have n1_ := Aside0.mk (hbox); have n2_ := Aside0.mk ((by rw [hg]; exact (below_size bw_) : w.heap.size ≤ gb190)); have n3_ := Aside0.mk ((by rw [hg]; exact (below_size bw_) : w.heap.size ≤ gb190)); clear HB; have HB := n0_; have BK190 := n1_; have GW190 := n2_; have GE190 := n3_; clear n0_ n1_ n2_ n3_; clear hb hbox hg; have hcz15_0 : w14.cell? ⟨gb190, 0, none⟩ = some (.int .i64 0) := (blk_cell BK190.out 0).trans rfl; have hcz15_1 : w14.cell? ⟨gb190, 1, none⟩ = some (.int .i64 0) := (blk_cell BK190.out 1).trans rfl; have hfz15_0 := blk_frozen BK190.out 0; have hfz15_1 := blk_frozen BK190.out 1) | ((with_reducible refine gate_callee (f := 59) rfl ?_); refine goesL_ (some 16) rfl rfl Tryd.func59 (by kernel_rfl) rfl #[.int .i64 ((rd_T53 l0 x10_1).f0)] rfl ma_ ?_; (with_reducible refine (impl_pitchOk.calls ((rd_T53 l0 x10_1).f0) false _ A6.out).mono ?_); rintro e w' ⟨rfl, ⟨nd, rfl⟩⟩; refine ⟨_, rfl, ?_⟩))
        go_ret
        exact ⟨re_, bw_⟩
      ·rw [if_neg c5] at H
       exact absurd H (by simp)
     ·rw [if_neg c4] at H
      exact absurd H (by simp)
    ·rw [if_neg c3] at H
     have c3b0 : decide (x10_1 < (l0.length : Int)) = false := decide_eq_false c3
     clear c3
     obtain rfl := Option.some.inj H
     go_wp2
     go_ret
     exact ⟨re_, bw_⟩
def strings_SplitN.f (a0 : ByteArray) (a1 : ByteArray) (a2 : Int) : Option (List ByteArray) := if a0.size < 4294967281 ∧ 1 ≤ a1.size ∧ 1 ≤ a2 ∧ a2 ≤ 1000000 then some (Lib.splitB a1 0 (min a2.toNat (a0.size + 1) - 1) a0) else none
theorem strings_SplitN.calls (a0 : ByteArray) (a1 : ByteArray) (a2 : Int) (r : List ByteArray) (w : World) (hL : Lv w) (h : strings_SplitN.f a0 a1 a2 = some r) :
  Calls Tryd.prog 64 #[.string a0, .string a1, .int .i64 a2] w fun e w' => ∃ v0_ : Value, e = .returned (v0_) ∧ Kd.R Kd.string 9 w' w.heap.size (fun _ => True) v0_ r ∧ Below w.heap.size w w' := by
 unfold strings_SplitN.f at h
 by_cases hb : a0.size < 4294967281 ∧ 1 ≤ a1.size ∧ 1 ≤ a2 ∧ a2 ≤ 1000000
 ·rw [if_pos hb] at h
  obtain rfl := Option.some.inj h
  obtain ⟨b1, b2, b3, b4⟩ := hb
  obtain ⟨n, rfl⟩ : ∃ n : Nat, a2 = (n : Int) := ⟨a2.toNat, by omega⟩
  obtain ⟨m, hm⟩ := hL.ml
  rw [Int.toNat_natCast]
  have hle := Lib.splitB_length_le a1 0 (min n (a0.size + 1) - 1) a0
  refine (Tryd.strings_SplitN a0 a1 n m w b1 hm b2 (by omega) (by omega)).mono ?_
  rintro e w' ⟨rfl, rfl⟩
  refine ⟨_, rfl, Kd.R_of_own ⟨by rw [encs_length, Nat.mul_one], .inr ⟨w.heap.size, _, _, rfl, Nat.le_refl _, blk_new w _, by omega, by simp only [maxLen]; omega, ?_, ?_⟩⟩ (fun k _ => trivial), below_alloc (Below.refl _ w) _⟩
  ·rw [Lib.cellsOf_size (by omega), Nat.mul_one]
  ·rw [Nat.mul_one]
   unfold Lib.cellsOf
   rw [List.take_left' (by rw [List.length_map])]
   rfl
 ·rw [if_neg hb] at h
  cases h
def strings_Cut.f (a0 : ByteArray) (a1 : ByteArray) : Option (ByteArray × ByteArray × Bool) := if a0.size < 4294967281 then some (⟨(Lib.cut a0.data.toList a1.data.toList).1.toArray⟩, ⟨(Lib.cut a0.data.toList a1.data.toList).2.1.toArray⟩, (Lib.cut a0.data.toList a1.data.toList).2.2) else none
theorem strings_Cut.calls (a0 : ByteArray) (a1 : ByteArray) (r1 : ByteArray) (r2 : ByteArray) (r3 : Bool) (w : World) (hL : Lv w) (h : strings_Cut.f a0 a1 = some (r1, r2, r3)) :
  Calls Tryd.prog 65 #[.string a0, .string a1] w fun e w' => e = .returned (.tuple #[.string r1, .string r2, .bool r3]) ∧ Below w.heap.size w w' := by
 unfold strings_Cut.f at h
 by_cases hb : a0.size < 4294967281
 ·rw [if_pos hb] at h
  obtain ⟨rfl, h2⟩ := Prod.mk.inj (Option.some.inj h)
  obtain ⟨rfl, rfl⟩ := Prod.mk.inj h2
  obtain ⟨m, hm⟩ := hL.ml
  refine (Tryd.strings_Cut a0 a1 m w hb hm).mono ?_
  rintro e w' ⟨rfl, n, rfl⟩
  exact ⟨rfl, pw_below_drewN (Below.refl _ w) n⟩
 ·rw [if_neg hb] at h
  cases h
def leastP (p : Int → Bool) : Int → Nat → Int × Bool
 | _, 0 => (0, false)
 | lo, n + 1 => if p lo then (lo, true) else leastP p (lo + 1) n
theorem impl_least_w (g : Nat) (lb : Array Value) (p : Int → Bool) (eg : ∀ args w, (callFunc g args).run Tryd.prog w = .ok (.enter g args) w) (lo hi : Int) (n : Nat) (hhi : hi = lo + n - 1) (hlo : -1000 ≤ lo ∧ lo ≤ 1000) (hn : n ≤ 1000) (w : World)
  (hp : ∀ (W : World) (x : Int), Below w.heap.size w W → lo ≤ x → x ≤ hi → Calls Tryd.prog g (#[.int .i64 x] ++ lb) W fun e w' => e = .returned (.bool (p x)) ∧ Below W.heap.size W w') :
  Calls Tryd.prog 75 #[.int .i64 lo, .int .i64 hi, .func (.func g) #[] lb] w fun e w' => e = .returned (.tuple #[.int .i64 (leastP p lo n).1, .bool (leastP p lo n).2]) ∧ Below w.heap.size w w' := by
 obtain ⟨r1, r2, hr⟩ : ∃ r1 r2, leastP p lo n = (r1, r2) := ⟨_, _, rfl⟩
 rw [hr]
 have HR := Aside0.mk (And.intro hhi (And.intro hlo (And.intro hn hr)))
 have HP := Aside0.mk hp
 clear hr hp hhi hlo hn
 go_enter Tryd.func75, Tryd.ntmps75
 go_wp2
 go_loopg [8] n (fun gg s8 wr => ∃ (x : Int) (k : Nat), s8 = .int .i64 x ∧ Below w.heap.size w wr ∧ Aside (k ≤ n ∧ n - k ≤ gg ∧ x = lo + k ∧ leastP p x (n - k) = (r1, r2)))
 case atStart => exact ⟨lo, 0, rfl, Below.refl _ w, ⟨Nat.zero_le _, by omega, by simp, by simpa using HR.out.2.2.2⟩⟩
 case round =>
  obtain ⟨x, k, rfl, hB, A⟩ := hrel
  obtain ⟨b1, b2⟩ : -1000 ≤ x ∧ x ≤ 3000 := by
   have a := A.out
   have b := HR.out
   omega
  by_cases hle : x ≤ hi
  ·obtain ⟨m, hm⟩ : ∃ m, n - k = m + 1 := ⟨n - k - 1, by have a := A.out; have b := HR.out; omega⟩
   have hstep : leastP p x (n - k) = if p x then (x, true) else leastP p (x + 1) m := by rw [hm]; rfl
   have hlox : lo ≤ x := by have a := A.out; omega
   have hcall := fun W hW => HP.out W x hW hlox hle
   have HC := Aside0.mk (And.intro hm (And.intro hstep hlox))
   clear hm hstep hlox
   cases hq : p x with
   | true =>
    rw [hq] at hcall
    go_wp2_with (go_at_fn g; refine (hcall _ (by first | exact hB | exact pw_below_drewN hB _)).mono ?_; rintro e w' ⟨rfl, hb⟩)
    first | go_ret2 | go_ret
    have e1 := A.out.2.2.2
    rw [HC.out.2.1, hq] at e1
    simp only [if_true, Prod.mk.injEq] at e1
    obtain ⟨rfl, rfl⟩ := e1
    exact ⟨rfl, below_then hB hB.size hb⟩
   | false =>
    rw [hq] at hcall
    go_wp2_with (go_at_fn g; refine (hcall _ (by first | exact hB | exact pw_below_drewN hB _)).mono ?_; rintro e w' ⟨rfl, hb⟩)
    go_roundg m
    case measure => have a := A.out; have b := HC.out.1; omega
    case rel =>
     refine ⟨x + 1, k + 1, by go_num, below_then hB hB.size hb, ?_⟩
     have a := A.out
     have c := HC.out
     refine ⟨by omega, by omega, by omega, ?_⟩
     have e1 := a.2.2.2
     rw [c.2.1, hq] at e1
     rw [show n - (k + 1) = m by omega]
     simpa using e1
  ·go_wp2
   first | go_ret2 | go_ret
   have a := A.out
   have b := HR.out
   have e1 := a.2.2.2
   rw [show n - k = 0 by omega] at e1
   injection e1 with e2 e3
   subst e2
   subst e3
   exact ⟨rfl, hB⟩
def readPitchIn1_T : Bool × List (List Nat × List Nat) := (true, [([], []), ([], []), ([], []), ([0, 1, 2], [0, 1, 2]), ([], []), ([3, 4], [3, 4]), ([5, 3, 0, 1, 2, 3, 4, 5], [5])])
def readPitchIn1_B : List Nat := [0, 0, 0, 7, 0, 31, 63]
theorem readPitchIn1_tab : rtab .any (opsOf Tryd.f76 1) = readPitchIn1_T := by kernel_rfl
theorem readPitchIn1_bits : waitsOk readPitchIn1_T.2 readPitchIn1_B = true := by kernel_rfl
def ReadHeld (w : World) (B1 B2 B3 : Nat) (s k : Int) (t : ByteArray) (W : World) : Prop :=
 W.cell? ⟨B1, 0, none⟩ = some (.int .i64 s) ∧ W.cell? ⟨B2, 0, none⟩ = some (.int .i64 k) ∧ W.cell? ⟨B3, 0, none⟩ = some (.string t) ∧ Below w.heap.size w W ∧ Lv W
theorem read_held {w W V : World} {B1 B2 B3 : Nat} {s k : Int} {t : ByteArray} (h : ReadHeld w B1 B2 B3 s k t W) (hb : Below W.heap.size W V) : ReadHeld w B1 B2 B3 s k t V :=
 ⟨(hb.cell (World.block_lt_of_cell? W _ h.1)).trans h.1, (hb.cell (World.block_lt_of_cell? W _ h.2.1)).trans h.2.1, (hb.cell (World.block_lt_of_cell? W _ h.2.2.1)).trans h.2.2.1, below_then h.2.2.2.1 h.2.2.2.1.size hb, h.2.2.2.2.below hb⟩
set_option maxHeartbeats 8000000 in
set_option maxRecDepth 100000 in
theorem impl_readPitchIn1_w (x s k : Int) (t Y : ByteArray) (B1 B2 B3 : Nat) (w : World) (hL : Lv w) (ht : ∀ V, Lv V → Calls Tryd.prog 32 #[.int .i64 s, .int .i64 k, .int .i64 x] V fun e w' => e = .returned (.string Y) ∧ Below V.heap.size V w')
  (c1 : w.cell? ⟨B1, 0, none⟩ = some (.int .i64 s)) (c2 : w.cell? ⟨B2, 0, none⟩ = some (.int .i64 k)) (c3 : w.cell? ⟨B3, 0, none⟩ = some (.string t)) :
  Calls Tryd.prog 76 #[.int .i64 x, .pointer (some ⟨B1, 0, none⟩), .pointer (some ⟨B2, 0, none⟩), .pointer (some ⟨B3, 0, none⟩)] w fun e w' => e = .returned (.bool (Y.toList == t.toList)) ∧ Below w.heap.size w w' := by
 go_enter Tryd.func76, Tryd.ntmps76
 go_wp2
 refine start_ (n := 7) (S := ReadHeld w B1 B2 B3 s k t) (ds := []) #[false, false, false, false, false, false, false] (by kernel_rfl) rfl rfl ⟨by simpa using c1, by simpa using c2, by simpa using c3, below_drew1 (Below.refl _ w), hL.below (below_drew1 (Below.refl _ w))⟩ (fun hHeld => ?_)
 refine with_tabW readPitchIn1_tab readPitchIn1_bits (fun HT_ HW_ => ?_)
 generalize World.drew _ = wS at hHeld ⊢
 refine pure_ (i := 2) (N := some 8) (v := ?_) (a' := ?_) #[false, false, true, false, false, false, false] rfl rfl (any_of HT_.out (by kernel_rfl)) (fun _ _ _ h => h) (Or.inl ⟨by rfl, ?_⟩) ?_ ?_
 rotate_left
 ·intro w'
  go_simp
  with_reducible rfl
 rotate_left
 ·simp only [Act.put, List.setIfInBounds_toArray, List.set_cons_zero, List.set_cons_succ, i64_w, i32_w]
  rfl
 refine take_ (i := 0) (N := some 6) (v := ?_) (a' := ?_) #[true, false, true, false, false, false, false] rfl rfl (take_ofW HT_.out HW_.out (by kernel_rfl)) (fun _ _ _ h => h) (Or.inl ⟨by rfl, ?_⟩) hHeld ?_ ?_
 rotate_left
 ·rintro w' ⟨s0, s1, s2, _⟩
  go_simp
  with_reducible rfl
 rotate_left
 ·simp only [Act.put, List.setIfInBounds_toArray, List.set_cons_zero, List.set_cons_succ, i64_w, i32_w]
  rfl
 refine take_ (i := 1) (N := some 7) (v := ?_) (a' := ?_) #[true, true, true, false, false, false, false] rfl rfl (take_ofW HT_.out HW_.out (by kernel_rfl)) (fun _ _ _ h => h) (Or.inl ⟨by rfl, ?_⟩) hHeld ?_ ?_
 rotate_left
 ·rintro w' ⟨s0, s1, s2, _⟩
  go_simp
  with_reducible rfl
 rotate_left
 ·simp only [Act.put, List.setIfInBounds_toArray, List.set_cons_zero, List.set_cons_succ, i64_w, i32_w]
  rfl
 refine take_ (i := 4) (N := some 10) (v := ?_) (a' := ?_) #[true, true, true, false, true, false, false] rfl rfl (take_ofW HT_.out HW_.out (by kernel_rfl)) (fun _ _ _ h => h) (Or.inl ⟨by rfl, ?_⟩) hHeld ?_ ?_
 rotate_left
 ·rintro w' ⟨s0, s1, s2, _⟩
  go_simp
  with_reducible rfl
 rotate_left
 ·simp only [Act.put, List.setIfInBounds_toArray, List.set_cons_zero, List.set_cons_succ, i64_w, i32_w]
  rfl
 refine one_ (i := 3) (N := some 9) #[true, true, true, true, true, false, false] rfl rfl (one_of HT_.out (by kernel_rfl)) (by decide) (fun K hK => ?_)
 refine goes_ Tryd.func32 (by kernel_rfl) rfl #[.int .i64 s, .int .i64 k, .int .i64 x] (by rfl) rfl rfl (by (try simp only [List.map_toArray, List.map_cons, List.map_nil]); first | done | rfl) ?_
 refine (ht _ hHeld.2.2.2.2).mono ?_
 rintro e w8 ⟨rfl, hB8⟩
 refine ⟨_, rfl, ?_⟩
 refine hK.out _ _ (read_held hHeld hB8) (fun hHeld => ?_)
 clear hK K hB8
 refine norm_ (a' := ?_) ?_ ?_
 rotate_left
 ·show Act.put _ (some 9) _ = _
  simp only [Act.put, List.setIfInBounds_toArray, List.set_cons_zero, List.set_cons_succ, i64_w, i32_w]
  rfl
 refine pure_ (i := 5) (N := some 11) (v := ?_) (a' := ?_) #[true, true, true, true, true, true, false] rfl rfl (any_of HT_.out (by kernel_rfl)) (fun _ _ _ h => h) (Or.inl ⟨by rfl, ?_⟩) ?_ ?_
 rotate_left
 ·intro w'
  go_simp
  with_reducible rfl
 rotate_left
 ·simp only [Act.put, List.setIfInBounds_toArray, List.set_cons_zero, List.set_cons_succ, i64_w, i32_w]
  rfl
 refine pure_ (i := 6) (N := some 5) (v := ?_) (a' := ?_) #[true, true, true, true, true, true, true] rfl rfl (any_of HT_.out (by kernel_rfl)) (fun _ _ _ h => h) (Or.inl ⟨by rfl, ?_⟩) ?_ ?_
 rotate_left
 ·intro w'
  go_simp
  with_reducible rfl
 rotate_left
 ·simp only [Act.put, List.setIfInBounds_toArray, List.set_cons_zero, List.set_cons_succ, i64_w, i32_w]
  rfl
 refine done_ (done_of HT_.out (by kernel_rfl)) ?_
 try go_wp2
 go_ret
 exact ⟨rfl, hHeld.2.2.2.1⟩
theorem box3 (w : World) (va vb vc : Value) (ta tb tc : Nat) :
  (((w.alloc (.cells #[va] ta (0, 0))).alloc (.cells #[vb] tb (0, 0))).alloc (.cells #[vc] tc (0, 0))).cell? ⟨w.heap.size, 0, none⟩ = some va ∧
  (((w.alloc (.cells #[va] ta (0, 0))).alloc (.cells #[vb] tb (0, 0))).alloc (.cells #[vc] tc (0, 0))).cell? ⟨w.heap.size + 1, 0, none⟩ = some vb ∧
  (((w.alloc (.cells #[va] ta (0, 0))).alloc (.cells #[vb] tb (0, 0))).alloc (.cells #[vc] tc (0, 0))).cell? ⟨w.heap.size + 2, 0, none⟩ = some vc := by
 have h2 := blk_new (w.alloc (.cells #[va] ta (0, 0))) (.cells #[vb] tb (0, 0))
 have h3 := blk_new ((w.alloc (.cells #[va] ta (0, 0))).alloc (.cells #[vb] tb (0, 0))) (.cells #[vc] tc (0, 0))
 have e2 : (w.alloc (.cells #[va] ta (0, 0))).heap.size = w.heap.size + 1 := by simp
 have e3 : ((w.alloc (.cells #[va] ta (0, 0))).alloc (.cells #[vb] tb (0, 0))).heap.size = w.heap.size + 2 := by simp
 rw [e2] at h2
 rw [e3] at h3
 exact ⟨(blk_cell (blk_alloc (blk_alloc (blk_new w _) _) _) 0).trans rfl, (blk_cell (blk_alloc h2 _) 0).trans rfl, (blk_cell h3 0).trans rfl⟩
def impl_readPitchIn.f (a0 : Int) (a1 : Int) (a2 : ByteArray) : Option (Int × Bool) := if 0 ≤ a1 ∧ a1 ≤ 11 then some (leastP (fun p => (pitchB a0 a1 p).toList == a2.toList) (-12) 36) else none
set_option maxHeartbeats 8000000 in
set_option maxRecDepth 100000 in
theorem impl_readPitchIn.calls (a0 : Int) (a1 : Int) (a2 : ByteArray) (r1 : Int) (r2 : Bool) (w : World) (hL : Lv w) (h : impl_readPitchIn.f a0 a1 a2 = some (r1, r2)) :
  Calls Tryd.prog 66 #[.int .i64 a0, .int .i64 a1, .string a2] w fun e w' => e = .returned (.tuple #[.int .i64 r1, .bool r2]) ∧ Below w.heap.size w w' := by
 unfold impl_readPitchIn.f at h
 by_cases hb : 0 ≤ a1 ∧ a1 ≤ 11
 ·rw [if_pos hb] at h
  have hr := Option.some.inj h
  clear h
  have eg : ∀ args w, (callFunc 76 args).run Tryd.prog w = .ok (.enter 76 args) w := enters_of Tryd.func76 (by kernel_rfl) rfl
  have hk := fun V hp => impl_least_w 76 #[.pointer (some ⟨w.heap.size, 0, none⟩), .pointer (some ⟨w.heap.size + 1, 0, none⟩), .pointer (some ⟨w.heap.size + 2, 0, none⟩)] (fun p => (pitchB a0 a1 p).toList == a2.toList) eg (-12) 23 36 (by omega) (by omega) (by omega) V hp
  rw [hr] at hk
  have hclo := fun x (x0 : -12 ≤ x) (x1 : x ≤ 23) W hW c1 c2 c3 => impl_readPitchIn1_w x a0 a1 a2 (pitchB a0 a1 x) w.heap.size (w.heap.size + 1) (w.heap.size + 2) W hW (fun V hV => impl_pitchIn.calls a0 a1 x _ V hV (if_pos ⟨hb.1, hb.2, x0, x1⟩)) c1 c2 c3
  have hb0 : ∀ a b c, Below w.heap.size w (((w.alloc a).alloc b).alloc c) := fun a b c => (((Below.refl w.heap.size w).alloc (Nat.le_refl _) a).alloc (o := b) (by simp)).alloc (o := c) (by simp <;> omega)
  have hlv := fun a b c => hL.below (hb0 a b c)
  have HK := Aside0.mk hk
  have HL := Aside0.mk hclo
  have HB0 := Aside0.mk hb0
  have HLV := Aside0.mk hlv
  clear hk hclo hr hb0 hlv
  go_enter Tryd.func66, Tryd.ntmps66
  go_wp2_with (go_at_call 75; go_loud (refine (HK.out _ (fun W x hb h0 h1 => HL.out x h0 h1 W ((HLV.out _ _ _).below hb) ((hb.cell (p := ⟨w.heap.size, 0, none⟩) (by simp <;> omega)).trans (box3 w _ _ _ _ _ _).1) ((hb.cell (p := ⟨w.heap.size + 1, 0, none⟩) (by simp <;> omega)).trans (box3 w _ _ _ _ _ _).2.1) ((hb.cell (p := ⟨w.heap.size + 2, 0, none⟩) (by simp <;> omega)).trans (box3 w _ _ _ _ _ _).2.2))).mono ?_); rintro e w' ⟨rfl, hb'⟩)
  first | go_ret2 | go_ret
  exact ⟨rfl, below_then (HB0.out _ _ _) (HB0.out _ _ _).size hb'⟩
 ·rw [if_neg hb] at h
  cases h
def readDecB (a0 : ByteArray) : Int × Bool :=
 match Lib.parseIntB 64 a0.data.toList with
 | .ok n => if 18 < (Lib.trimPrefix a0.data.toList [45]).length then (0, false) else if (Lib.itoa n) = a0.data.toList then (n, true) else (0, false)
 | _ => (0, false)
theorem parseIntB_range (s : List UInt8) (v : Int) (h : Lib.parseIntB 64 s = .ok v) : -9223372036854775808 ≤ v ∧ v ≤ 9223372036854775807 := by
 unfold Lib.parseIntB at h
 cases s with
 | nil => cases h
 | cons c r =>
  simp only at h
  split at h
  ·cases h
  ·cases h
  ·rename_i u _
   split at h
   ·cases h
   ·split at h
    ·cases h
    ·injection h with h
     subst h
     simp only [Nat.reducePow, Nat.reduceSub] at *
     split <;> omega
def impl_ReadDecimal.f (a0 : ByteArray) : Option (Int × Bool) := if a0.size ≤ 281474976710656 then some (readDecB a0) else none
set_option maxHeartbeats 8000000 in
set_option maxRecDepth 100000 in
theorem impl_ReadDecimal.calls (a0 : ByteArray) (r1 : Int) (r2 : Bool) (w : World) (hL : Lv w) (h : impl_ReadDecimal.f a0 = some (r1, r2)) :
  Calls Tryd.prog 67 #[.string a0] w fun e w' => e = .returned (.tuple #[.int .i64 r1, .bool r2]) ∧ Below w.heap.size w w' := by
 unfold impl_ReadDecimal.f at h
 by_cases hb : a0.size ≤ 281474976710656
 ·rw [if_pos hb] at h
  have hr := Option.some.inj h
  clear h
  unfold readDecB at hr
  cases hp : Lib.parseIntB 64 a0.data.toList with
  | ok v =>
   rw [hp] at hr
   obtain ⟨v0, v1⟩ := parseIntB_range _ v hp
   have hP : ∀ V, Calls Tryd.prog 77 #[.string a0, .int .i64 10, .int .i64 64] V fun e w' => e = .returned (.tuple #[.int .i64 v, .nilIface]) ∧ Below V.heap.size V w' := fun V => by
    refine (Tryd.strconv_ParseInt_10_at64_ok a0 (by omega) v hp V).mono ?_
    rintro e w' ⟨rfl, rfl | ⟨t, rfl⟩⟩
    ·exact ⟨rfl, Below.refl _ _⟩
    ·exact ⟨rfl, rfl, rfl, rfl, by rw [Lib.bytesWorld_size]; omega, fun k hk => Lib.bytesWorld_at_old _ _ _ k (by omega)⟩
   have hT := fun V => Tryd.strings_TrimPrefix a0 ⟨#[45]⟩ V
   have hD : ∀ V, Lv V → Calls Tryd.prog 51 #[.int .i64 v] V fun e w' => e = .returned (.string ⟨(Lib.itoa v).toArray⟩) ∧ Below V.heap.size V w' := fun V hV => impl_Decimal.calls v _ V hV (if_pos ⟨v0, v1⟩)
   rw [show (⟨#[45]⟩ : ByteArray).data.toList = [45] from rfl] at hT
   have hLT : (⟨(Lib.trimPrefix a0.data.toList [45]).toArray⟩ : ByteArray).size = (Lib.trimPrefix a0.data.toList [45]).length := by simp [ByteArray.size]
   simp only at hr
   generalize Lib.trimPrefix a0.data.toList [45] = T at hr hT hLT
   generalize hTB : (⟨T.toArray⟩ : ByteArray) = TB at hT hLT
   clear hTB
   generalize hI : (⟨(Lib.itoa v).toArray⟩ : ByteArray) = I at hD
   have hIl : I.toList = Lib.itoa v := by rw [← hI, ByteArray.toList_eq]
   have ha0 : a0.toList = a0.data.toList := ByteArray.toList_eq a0
   clear hI hp
   by_cases h18 : 18 < T.length
   ·rw [if_pos h18] at hr
    obtain ⟨rfl, rfl⟩ := Prod.mk.inj hr
    have f1 : decide (18 < TB.size) = true := decide_eq_true (by omega)
    have f2 : decide ((18 : Int) < (TB.size : Int)) = true := decide_eq_true (by omega)
    go_enter Tryd.func67, Tryd.ntmps67
    go_wp2_with (first | (go_at_call 77; refine (hP _).mono ?_; rintro e w1 ⟨rfl, hb1⟩) | (go_at_call 78; refine (hT _).mono ?_; rintro e w2 ⟨rfl, rfl⟩))
    go_ret2
    exact ⟨rfl, hb1⟩
   ·rw [if_neg h18] at hr
    have f1 : decide (18 < TB.size) = false := decide_eq_false (by omega)
    have f2 : decide ((18 : Int) < (TB.size : Int)) = false := decide_eq_false (by omega)
    by_cases hE : Lib.itoa v = a0.data.toList
    ·rw [if_pos hE] at hr
     obtain ⟨rfl, rfl⟩ := Prod.mk.inj hr
     have g1 : I.toList = a0.toList := by rw [hIl, ha0, hE]
     have g2 : (I.toList == a0.toList) = true := beq_iff_eq.mpr g1
     have g3 : (I.toList != a0.toList) = false := bne_eq_false_iff_eq.mpr g1
     have g5 : (Lib.itoa v == a0.data.toList) = true := beq_iff_eq.mpr hE
     have g6 : (Lib.itoa v != a0.data.toList) = false := bne_eq_false_iff_eq.mpr hE
     go_enter Tryd.func67, Tryd.ntmps67
     go_wp2_with (first | (go_at_call 77; refine (hP _).mono ?_; rintro e w1 ⟨rfl, hb1⟩) | (go_at_call 78; refine (hT _).mono ?_; rintro e w2 ⟨rfl, rfl⟩) | (go_at_call 51; refine (hD _ (hL.below hb1)).mono ?_; rintro e w2 ⟨rfl, hb2⟩))
     go_ret2
     exact ⟨rfl, below_then hb1 hb1.size hb2⟩
    ·rw [if_neg hE] at hr
     obtain ⟨rfl, rfl⟩ := Prod.mk.inj hr
     have g1 : ¬ I.toList = a0.toList := by rw [hIl, ha0]; exact hE
     have g2 : (I.toList == a0.toList) = false := beq_eq_false_iff_ne.mpr g1
     have g3 : (I.toList != a0.toList) = true := bne_iff_ne.mpr g1
     have g5 : (Lib.itoa v == a0.data.toList) = false := beq_eq_false_iff_ne.mpr hE
     have g6 : (Lib.itoa v != a0.data.toList) = true := bne_iff_ne.mpr hE
     go_enter Tryd.func67, Tryd.ntmps67
     go_wp2_with (first | (go_at_call 77; refine (hP _).mono ?_; rintro e w1 ⟨rfl, hb1⟩) | (go_at_call 78; refine (hT _).mono ?_; rintro e w2 ⟨rfl, rfl⟩) | (go_at_call 51; refine (hD _ (hL.below hb1)).mono ?_; rintro e w2 ⟨rfl, hb2⟩))
     go_ret2
     exact ⟨rfl, below_then hb1 hb1.size hb2⟩
  | _ =>
   rw [hp] at hr
   obtain ⟨rfl, rfl⟩ := Prod.mk.inj hr
   have hP : ∀ V, Lv V → Calls Tryd.prog 77 #[.string a0, .int .i64 10, .int .i64 64] V fun e w' => (∃ (n : Int) (tp : TypeId) (p : Value), e = .returned (.tuple #[.int .i64 n, .iface tp p])) ∧ Below V.heap.size V w' := fun V hV => by
    obtain ⟨_, _, ⟨t3, p3, h3⟩, ⟨t4, p4, h4⟩⟩ := hV
    first
     | (refine (Tryd.strconv_ParseInt_10_at64_syntax_var a0 hb hp t3 p3 V h3).mono ?_; rintro e w' ⟨N, rfl, _, _, hbw⟩; exact ⟨⟨_, _, _, rfl⟩, hbw⟩)
     | (refine (Tryd.strconv_ParseInt_10_at64_range_var a0 hb hp t4 p4 V h4).mono ?_; rintro e w' ⟨N, rfl, _, _, hbw⟩; exact ⟨⟨_, _, _, rfl⟩, hbw⟩)
   clear hp
   go_enter Tryd.func67, Tryd.ntmps67
   go_wp2_with (go_at_call 77; refine (hP _ (by first | exact hL | exact hL.drewN _)).mono ?_; rintro e w1 ⟨⟨n, tp, p, rfl⟩, hb1⟩)
   go_ret2
   exact ⟨rfl, hb1⟩
 ·rw [if_neg hb] at h
  cases h
def impl_readNotesIn.l0 : Nat → Int → Int → List (S53) → List ByteArray → Int → Int → Option ((List (S53)) × Bool)
 | 0, _, _, _, _, _, _ => none
 | k + 1, x0, x1, x8, x21, x22, x23 => if x23 < x22 then (if 0 ≤ x23 then (if x23 < (x21.length : Int) then ((strings_Cut.f (rdOf ByteArray.empty x21 x23) (⟨#[58]⟩ : ByteArray)).bind fun bt198 => ((impl_readPitchIn.f x0 x1 bt198.1).bind fun bt201 => ((impl_ReadDecimal.f bt198.2.1).bind fun bt203 => (if bt201.2 = true then (if bt203.2 = true then (if x8.length < 8796093022208 then (impl_readNotesIn.l0 k x0 x1 (x8 ++ [(⟨bt201.1, bt203.1⟩ : S53)]) x21 x22 (wrap64 (x23 + 1))) else (none)) else (some (([] : List (S53)), false))) else (some (([] : List (S53)), false)))))) else (none)) else (none)) else ((impl_ValidMelody.f k x8).bind fun t196 => (some (x8, t196)))
def impl_readNotesIn.f (k : Nat) (a0 : Int) (a1 : Int) (a2 : ByteArray) : Option ((List (S53)) × Bool) := if a2.toList = ([] : List UInt8) then (some (([] : List (S53)), true)) else ((strings_SplitN.f a2 (⟨#[32]⟩ : ByteArray) 49).bind fun t193 => (impl_readNotesIn.l0 k a0 a1 ([] : List (S53)) t193 (t193.length : Int) 0))
theorem impl_readNotesIn.mono_l : ∀ k, (∀ y0 y1 y2 y3 y4 y5, LeO (impl_readNotesIn.l0 k y0 y1 y2 y3 y4 y5) (impl_readNotesIn.l0 (k + 1) y0 y1 y2 y3 y4 y5))
 | 0 => fun _ _ _ _ _ _ r h => by simp [impl_readNotesIn.l0] at h
 | k + 1 => by
  have ih0 := impl_readNotesIn.mono_l k
  ·intro y0 y1 y2 y3 y4 y5
   unfold impl_readNotesIn.l0
   repeat' first
   | (with_reducible exact ih0 _ _ _ _ _ _)
   | (with_reducible exact impl_ValidMelody.mono _ _)
   | (with_reducible exact LeO.refl _)
   | (with_reducible exact LeO.none _)
   | (with_reducible refine LeO.ite ?_ ?_)
   | (with_reducible refine LeO.bind ?_ (fun _ => ?_))
theorem impl_readNotesIn.mono : ∀ a0 a1 a2 k, LeO (impl_readNotesIn.f k a0 a1 a2) (impl_readNotesIn.f (k + 1) a0 a1 a2) := by
 intro a0 a1 a2 k
 have ih0 := impl_readNotesIn.mono_l k
 unfold impl_readNotesIn.f
 repeat' first
   | (with_reducible exact ih0 _ _ _ _ _ _)
   | (with_reducible exact impl_ValidMelody.mono _ _)
   | (with_reducible exact LeO.refl _)
   | (with_reducible exact LeO.none _)
   | (with_reducible refine LeO.ite ?_ ?_)
   | (with_reducible refine LeO.bind ?_ (fun _ => ?_))
set_option maxHeartbeats 8000000 in
set_option maxRecDepth 100000 in
theorem impl_readNotesIn.calls (k : Nat) (a0 : Int) (a1 : Int) (a2 : ByteArray) (r1 : List (S53)) (r2 : Bool) (w : World) (hL : Lv w) (h : impl_readNotesIn.f k a0 a1 a2 = some (r1, r2)) :
  Calls Tryd.prog 41 #[.int .i64 a0, .int .i64 a1, .string a2] w fun e w' => ∃ v0_ : Value, e = .returned (.tuple #[v0_, .bool r2]) ∧ Kd.R k53 53 w' w.heap.size (fun _ => True) v0_ r1 ∧ Below w.heap.size w w' := by
 have hu53 := Tryd.underlying53
 have HB := Aside0.mk (Below.refl w.heap.size w)
 have H : (if a2.toList = ([] : List UInt8) then (some (([] : List (S53)), true)) else ((strings_SplitN.f a2 (⟨#[32]⟩ : ByteArray) 49).bind fun t193 => (impl_readNotesIn.l0 k a0 a1 ([] : List (S53)) t193 (t193.length : Int) 0))) = some (r1, r2) := h
 clear h
 by_cases c4 : a2.toList = ([] : List UInt8)
 ·rw [if_pos c4] at H
  have c4b0 : (a2.toList == ([] : List UInt8)) = true := beq_iff_eq.mpr c4
  have c4b1 : (a2.toList != ([] : List UInt8)) = false := bne_eq_false_iff_eq.mpr c4
  clear c4
  simp only [Option.some.injEq, Prod.mk.injEq] at H
  obtain ⟨rfl, rfl⟩ := H
  go_enter Tryd.func41, Tryd.ntmps41
  go_wp2
  go_ret2
  exact ⟨_, re_, rn_, bw_⟩
 ·rw [if_neg c4] at H
  have c4b0 : (a2.toList == ([] : List UInt8)) = false := beq_eq_false_iff_ne.mpr c4
  have c4b1 : (a2.toList != ([] : List UInt8)) = true := bne_iff_ne.mpr c4
  replace H := Option.bind_eq_some_iff.mp H
  obtain ⟨t193, A50, H⟩ := H
  replace H : (impl_readNotesIn.l0 k a0 a1 ([] : List (S53)) t193 (t193.length : Int) 0) = some (r1, r2) := H
  have A5 := Aside0.mk A50
  clear A50
  have H' := Aside0.mk H
  clear H
  go_enter Tryd.func41, Tryd.ntmps41
  go_wp2_with (first | ((with_reducible refine gate_callee (f := 64) rfl ?_); refine goesL_ (some 21) rfl rfl Tryd.func64 (by kernel_rfl) rfl #[.string a2, .string (⟨#[32]⟩ : ByteArray), .int .i64 49] rfl ma_ ?_; (with_reducible refine (strings_SplitN.calls a2 (⟨#[32]⟩ : ByteArray) 49 t193 _ ?side1 A5.out).mono ?_); (case side1 => exact Lv.below hL bw_); rintro e w6 ⟨v194, rfl, ho0, hb⟩; refine ⟨_, rfl, ?_⟩; have n0_ := Aside0.mk (Kd.R_lower ho0 (below_size bw_)); have n1_ := Aside0.mk (below_step bw_ hb); clear HB; have HO195 := n0_; have HB := n1_; clear n0_ n1_; (try clear hb); (try clear hb2); (try clear hk); (try clear hi); (try clear ho0); obtain ⟨Ao7, co7, eo7⟩ := Kd.R_slice HO195.out; subst eo7))
  go_loopg [8, 23] k (fun kq v8 v23 w' => ∃ (x8_1 : List (S53)) (x23_1 : Int), v23 = .int .i64 x23_1 ∧ Aside0 (impl_readNotesIn.l0 kq a0 a1 x8_1 t193 (t193.length : Int) x23_1 = some (r1, r2)) ∧ Aside0 (kq ≤ k) ∧ Aside0 (Kd.R k53 53 w' w.heap.size (fun _ => True) v8 x8_1) ∧ Aside0 (Kd.R Kd.string 9 w' w.heap.size (fun _ => True) (.slice Ao7 t193.length co7) t193) ∧ Aside0 (Below w.heap.size w w'))
  case atStart => exact ⟨(([] : List (S53))), (0), rs_, H', ⟨Nat.le_refl _⟩, ⟨rn_⟩, ⟨kr_ HO195.out⟩, ⟨bw_⟩⟩
  case round =>
   clear H'
   try clear p2
   try clear c4
   try clear c4b0
   try clear c4b1
   try clear c6
   obtain ⟨x8_1, x23_1, rfl, HA, HK1, HO_8, HO_21, HB⟩ := hrel
   cases gk with
   | zero => exact absurd HA.out (by simp [impl_readNotesIn.l0])
   | succ k1 =>
    have H := HA.out
    clear HA
    simp only [impl_readNotesIn.l0] at H
    by_cases c8 : x23_1 < (t193.length : Int)
    ·rw [if_pos c8] at H
     have c8b0 : decide (x23_1 < (t193.length : Int)) = true := decide_eq_true c8
     clear c8
     by_cases c9 : 0 ≤ x23_1
     ·rw [if_pos c9] at H
      have c9b0 : decide (0 ≤ x23_1) = true := decide_eq_true c9
      clear c9
      by_cases c10 : x23_1 < (t193.length : Int)
      ·rw [if_pos c10] at H
       have c10b0 : decide (x23_1 < (t193.length : Int)) = true := decide_eq_true c10
       clear c10
       replace H := Option.bind_eq_some_iff.mp H
       obtain ⟨⟨t198, t199, t200⟩, A110, H⟩ := H
       replace H : ((impl_readPitchIn.f a0 a1 t198).bind fun bt201 => ((impl_ReadDecimal.f t199).bind fun bt203 => (if bt201.2 = true then (if bt203.2 = true then (if x8_1.length < 8796093022208 then (impl_readNotesIn.l0 k1 a0 a1 (x8_1 ++ [(⟨bt201.1, bt203.1⟩ : S53)]) t193 (t193.length : Int) (wrap64 (x23_1 + 1))) else (none)) else (some (([] : List (S53)), false))) else (some (([] : List (S53)), false))))) = some (r1, r2) := H
       have A11 := Aside0.mk A110
       clear A110
       replace H := Option.bind_eq_some_iff.mp H
       obtain ⟨⟨t201, t202⟩, A120, H⟩ := H
       replace H : ((impl_ReadDecimal.f t199).bind fun bt203 => (if t202 = true then (if bt203.2 = true then (if x8_1.length < 8796093022208 then (impl_readNotesIn.l0 k1 a0 a1 (x8_1 ++ [(⟨t201, bt203.1⟩ : S53)]) t193 (t193.length : Int) (wrap64 (x23_1 + 1))) else (none)) else (some (([] : List (S53)), false))) else (some (([] : List (S53)), false)))) = some (r1, r2) := H
       have A12 := Aside0.mk A120
       clear A120
       replace H := Option.bind_eq_some_iff.mp H
       obtain ⟨⟨t203, t204⟩, A130, H⟩ := H
       replace H : (if t202 = true then (if t204 = true then (if x8_1.length < 8796093022208 then (impl_readNotesIn.l0 k1 a0 a1 (x8_1 ++ [(⟨t201, t203⟩ : S53)]) t193 (t193.length : Int) (wrap64 (x23_1 + 1))) else (none)) else (some (([] : List (S53)), false))) else (some (([] : List (S53)), false))) = some (r1, r2) := H
       have A13 := Aside0.mk A130
       clear A130
       by_cases c14 : t202 = true
       ·subst c14
        have H1 : (if t204 = true then (if x8_1.length < 8796093022208 then (impl_readNotesIn.l0 k1 a0 a1 (x8_1 ++ [(⟨t201, t203⟩ : S53)]) t193 (t193.length : Int) (wrap64 (x23_1 + 1))) else (none)) else (some (([] : List (S53)), false))) = some (r1, r2) := by rw [if_pos rfl] at H; exact H
        clear H
        have H := H1
        clear H1
        by_cases c15 : t204 = true
        ·subst c15
         have H1 : (if x8_1.length < 8796093022208 then (impl_readNotesIn.l0 k1 a0 a1 (x8_1 ++ [(⟨t201, t203⟩ : S53)]) t193 (t193.length : Int) (wrap64 (x23_1 + 1))) else (none)) = some (r1, r2) := by rw [if_pos rfl] at H; exact H
         clear H
         have H := H1
         clear H1
         by_cases c16 : x8_1.length < 8796093022208
         ·rw [if_pos c16] at H
          have LMc16 := Aside0.mk c16
          clear c16
          obtain ⟨y205, hy205⟩ : ∃ y_ : List (S53), y_ = (x8_1 ++ [(⟨t201, t203⟩ : S53)]) := ⟨_, rfl⟩
          replace H : (impl_readNotesIn.l0 k1 a0 a1 y205 t193 (t193.length : Int) (wrap64 (x23_1 + 1))) = some (r1, r2) := by first | (rw [hy205]; with_reducible exact H) | (have H2_ := (Option.bind_some _ _).symm.trans H; rw [hy205]; with_reducible exact H2_) | (have H2_ := (Option.bind_some _ _).symm.trans H; with_reducible exact H2_) | with_reducible exact H | (rw [hy205]; exact H) | exact H
          have Ny205 := Aside0.mk hy205
          clear hy205
          have H' := Aside0.mk H
          clear H
          have p197 : 0 ≤ (x23_1 : Int) := of_decide_eq_true as_
          have q197 : x23_1 < (t193.length : Int) := of_decide_eq_true as_
          obtain ⟨ad197, e197, hx197_0⟩ := Kd.at_string (Kd.R_reads' HO_21.out).2.2 x23_1 p197 q197
          cases e197
          replace p197 := eq_true p197
          replace q197 := eq_true q197
          go_wp2_with (first | ((with_reducible refine gate_callee (f := 65) rfl ?_); refine goesL_ (some 29) rfl rfl Tryd.func65 (by kernel_rfl) rfl #[.string (rdOf ByteArray.empty t193 x23_1), .string (⟨#[58]⟩ : ByteArray)] rfl ma_ ?_; (with_reducible refine (strings_Cut.calls (rdOf ByteArray.empty t193 x23_1) (⟨#[58]⟩ : ByteArray) t198 t199 t200 _ ?side1 A11.out).mono ?_); (case side1 => exact Lv.below hL bw_); rintro e w17 ⟨rfl, hb⟩; refine ⟨_, rfl, ?_⟩; have n0_ := Aside0.mk (Kd.R_below (kr_ HO_8.out) hb); have n1_ := Aside0.mk (Kd.R_below (kr_ HO_21.out) hb); have n2_ := Aside0.mk (below_step bw_ hb); clear HO_8; clear HO_21; clear HB; have HO_8 := n0_; have HO_21 := n1_; have HB := n2_; clear n0_ n1_ n2_; (try clear hb); (try clear hb2); (try clear hk); (try clear hi)) | ((with_reducible refine gate_callee (f := 66) rfl ?_); refine goesL_ (some 37) rfl rfl Tryd.func66 (by kernel_rfl) rfl #[.int .i64 a0, .int .i64 a1, .string t198] rfl ma_ ?_; (with_reducible refine (impl_readPitchIn.calls a0 a1 t198 t201 true _ ?side1 A12.out).mono ?_); (case side1 => exact Lv.below hL bw_); rintro e w18 ⟨rfl, hb⟩; refine ⟨_, rfl, ?_⟩; have n0_ := Aside0.mk (Kd.R_below (kr_ HO_8.out) hb); have n1_ := Aside0.mk (Kd.R_below (kr_ HO_21.out) hb); have n2_ := Aside0.mk (below_step bw_ hb); clear HO_8; clear HO_21; clear HB; have HO_8 := n0_; have HO_21 := n1_; have HB := n2_; clear n0_ n1_ n2_; (try clear hb); (try clear hb2); (try clear hk); (try clear hi)) | ((with_reducible refine gate_callee (f := 67) rfl ?_); refine goesL_ (some 42) rfl rfl Tryd.func67 (by kernel_rfl) rfl #[.string t199] rfl ma_ ?_; (with_reducible refine (impl_ReadDecimal.calls t199 t203 true _ ?side1 A13.out).mono ?_); (case side1 => exact Lv.below hL bw_); rintro e w19 ⟨rfl, hb⟩; refine ⟨_, rfl, ?_⟩; have n0_ := Aside0.mk (Kd.R_below (kr_ HO_8.out) hb); have n1_ := Aside0.mk (Kd.R_below (kr_ HO_21.out) hb); have n2_ := Aside0.mk (below_step bw_ hb); clear HO_8; clear HO_21; clear HB; have HO_8 := n0_; have HO_21 := n1_; have HB := n2_; clear n0_ n1_ n2_; (try clear hb); (try clear hb2); (try clear hk); (try clear hi)) | ((with_reducible refine gate_builtin (b := .append) (xs := #[.tmp 51, .tmp 55]) rfl ?_); at_builtin; refine Kd.R_append k53 (w0 := w) w.heap.size rfl (.tmp 51) (.tmp 55) 31 53 (.agg #[(.int .i64 0), (.int .i64 0)]) 16 rfl Tryd.underlying31 info53 rfl (by decide) (by omega) u8 x8_1 (⟨t201, t203⟩ : S53) [.int .i64 t201, .int .i64 t203] (fun _ => True) (fun _ => False) rfl rfl ?aP (fun _ hk => hk.elim) ?aF ?aO ?aB ?aS ?aL ?_; (case aP => exact k53_mkM _ _ _ (⟨t201, t203⟩ : S53)); (case aB => exact bw_); (case aF => exact (fun _ _ => trivial)); (case aO => exact (kr_ HO_8.out)); (case aS => exact (below_size bw_)); (case aL => have := LMc16.out; omega); intro v206 w20 ho hb hg hat; rw [← Ny205.out] at ho; have n0_ := Aside0.mk (Kd.R_over' (kr_ HO_21.out) (Kd.R_typed (kr_ HO_8.out)) (by decide) hg); have n1_ := Aside0.mk (hb); have n2_ := Aside0.mk (ho); clear HO_21; clear HB; clear HO_8; have HO_21 := n0_; have HB := n1_; have HO207 := n2_; clear n0_ n1_ n2_; clear ho hb hg hat))
          go_roundg k1
          case measure => have := HK1.out; omega
          case rel => exact ⟨(y205), (wrap64 (x23_1 + 1)), rs_, H', ⟨by have := HK1.out; omega⟩, ⟨kr_ HO207.out⟩, ⟨kr_ HO_21.out⟩, ⟨bw_⟩⟩
         ·rw [if_neg c16] at H
          exact absurd H (by simp)
        ·replace c15 := Bool.eq_false_iff.mpr c15
         subst c15
         have H1 : (some (([] : List (S53)), false)) = some (r1, r2) := by rw [if_neg (show ¬ (false = true) by decide)] at H; exact H
         clear H
         have H := H1
         clear H1
         simp only [Option.some.injEq, Prod.mk.injEq] at H
         obtain ⟨rfl, rfl⟩ := H
         have p197 : 0 ≤ (x23_1 : Int) := of_decide_eq_true as_
         have q197 : x23_1 < (t193.length : Int) := of_decide_eq_true as_
         obtain ⟨ad197, e197, hx197_0⟩ := Kd.at_string (Kd.R_reads' HO_21.out).2.2 x23_1 p197 q197
         cases e197
         replace p197 := eq_true p197
         replace q197 := eq_true q197
         go_wp2_with (first | ((with_reducible refine gate_callee (f := 65) rfl ?_); refine goesL_ (some 29) rfl rfl Tryd.func65 (by kernel_rfl) rfl #[.string (rdOf ByteArray.empty t193 x23_1), .string (⟨#[58]⟩ : ByteArray)] rfl ma_ ?_; (with_reducible refine (strings_Cut.calls (rdOf ByteArray.empty t193 x23_1) (⟨#[58]⟩ : ByteArray) t198 t199 t200 _ ?side1 A11.out).mono ?_); (case side1 => exact Lv.below hL bw_); rintro e w21 ⟨rfl, hb⟩; refine ⟨_, rfl, ?_⟩; have n0_ := Aside0.mk (Kd.R_below (kr_ HO_8.out) hb); have n1_ := Aside0.mk (Kd.R_below (kr_ HO_21.out) hb); have n2_ := Aside0.mk (below_step bw_ hb); clear HO_8; clear HO_21; clear HB; have HO_8 := n0_; have HO_21 := n1_; have HB := n2_; clear n0_ n1_ n2_; (try clear hb); (try clear hb2); (try clear hk); (try clear hi)) | ((with_reducible refine gate_callee (f := 66) rfl ?_); refine goesL_ (some 37) rfl rfl Tryd.func66 (by kernel_rfl) rfl #[.int .i64 a0, .int .i64 a1, .string t198] rfl ma_ ?_; (with_reducible refine (impl_readPitchIn.calls a0 a1 t198 t201 true _ ?side1 A12.out).mono ?_); (case side1 => exact Lv.below hL bw_); rintro e w22 ⟨rfl, hb⟩; refine ⟨_, rfl, ?_⟩; have n0_ := Aside0.mk (Kd.R_below (kr_ HO_8.out) hb); have n1_ := Aside0.mk (Kd.R_below (kr_ HO_21.out) hb); have n2_ := Aside0.mk (below_step bw_ hb); clear HO_8; clear HO_21; clear HB; have HO_8 := n0_; have HO_21 := n1_; have HB := n2_; clear n0_ n1_ n2_; (try clear hb); (try clear hb2); (try clear hk); (try clear hi)) | ((with_reducible refine gate_callee (f := 67) rfl ?_); refine goesL_ (some 42) rfl rfl Tryd.func67 (by kernel_rfl) rfl #[.string t199] rfl ma_ ?_; (with_reducible refine (impl_ReadDecimal.calls t199 t203 false _ ?side1 A13.out).mono ?_); (case side1 => exact Lv.below hL bw_); rintro e w23 ⟨rfl, hb⟩; refine ⟨_, rfl, ?_⟩; have n0_ := Aside0.mk (Kd.R_below (kr_ HO_8.out) hb); have n1_ := Aside0.mk (Kd.R_below (kr_ HO_21.out) hb); have n2_ := Aside0.mk (below_step bw_ hb); clear HO_8; clear HO_21; clear HB; have HO_8 := n0_; have HO_21 := n1_; have HB := n2_; clear n0_ n1_ n2_; (try clear hb); (try clear hb2); (try clear hk); (try clear hi)))
         go_ret2
         exact ⟨_, re_, rn_, bw_⟩
       ·replace c14 := Bool.eq_false_iff.mpr c14
        subst c14
        have H1 : (some (([] : List (S53)), false)) = some (r1, r2) := by rw [if_neg (show ¬ (false = true) by decide)] at H; exact H
        clear H
        have H := H1
        clear H1
        simp only [Option.some.injEq, Prod.mk.injEq] at H
        obtain ⟨rfl, rfl⟩ := H
        have p197 : 0 ≤ (x23_1 : Int) := of_decide_eq_true as_
        have q197 : x23_1 < (t193.length : Int) := of_decide_eq_true as_
        obtain ⟨ad197, e197, hx197_0⟩ := Kd.at_string (Kd.R_reads' HO_21.out).2.2 x23_1 p197 q197
        cases e197
        replace p197 := eq_true p197
        replace q197 := eq_true q197
        go_wp2_with (first | ((with_reducible refine gate_callee (f := 65) rfl ?_); refine goesL_ (some 29) rfl rfl Tryd.func65 (by kernel_rfl) rfl #[.string (rdOf ByteArray.empty t193 x23_1), .string (⟨#[58]⟩ : ByteArray)] rfl ma_ ?_; (with_reducible refine (strings_Cut.calls (rdOf ByteArray.empty t193 x23_1) (⟨#[58]⟩ : ByteArray) t198 t199 t200 _ ?side1 A11.out).mono ?_); (case side1 => exact Lv.below hL bw_); rintro e w24 ⟨rfl, hb⟩; refine ⟨_, rfl, ?_⟩; have n0_ := Aside0.mk (Kd.R_below (kr_ HO_8.out) hb); have n1_ := Aside0.mk (Kd.R_below (kr_ HO_21.out) hb); have n2_ := Aside0.mk (below_step bw_ hb); clear HO_8; clear HO_21; clear HB; have HO_8 := n0_; have HO_21 := n1_; have HB := n2_; clear n0_ n1_ n2_; (try clear hb); (try clear hb2); (try clear hk); (try clear hi)) | ((with_reducible refine gate_callee (f := 66) rfl ?_); refine goesL_ (some 37) rfl rfl Tryd.func66 (by kernel_rfl) rfl #[.int .i64 a0, .int .i64 a1, .string t198] rfl ma_ ?_; (with_reducible refine (impl_readPitchIn.calls a0 a1 t198 t201 false _ ?side1 A12.out).mono ?_); (case side1 => exact Lv.below hL bw_); rintro e w25 ⟨rfl, hb⟩; refine ⟨_, rfl, ?_⟩; have n0_ := Aside0.mk (Kd.R_below (kr_ HO_8.out) hb); have n1_ := Aside0.mk (Kd.R_below (kr_ HO_21.out) hb); have n2_ := Aside0.mk (below_step bw_ hb); clear HO_8; clear HO_21; clear HB; have HO_8 := n0_; have HO_21 := n1_; have HB := n2_; clear n0_ n1_ n2_; (try clear hb); (try clear hb2); (try clear hk); (try clear hi)) | ((with_reducible refine gate_callee (f := 67) rfl ?_); refine goesL_ (some 42) rfl rfl Tryd.func67 (by kernel_rfl) rfl #[.string t199] rfl ma_ ?_; (with_reducible refine (impl_ReadDecimal.calls t199 t203 t204 _ ?side1 A13.out).mono ?_); (case side1 => exact Lv.below hL bw_); rintro e w26 ⟨rfl, hb⟩; refine ⟨_, rfl, ?_⟩; have n0_ := Aside0.mk (Kd.R_below (kr_ HO_8.out) hb); have n1_ := Aside0.mk (Kd.R_below (kr_ HO_21.out) hb); have n2_ := Aside0.mk (below_step bw_ hb); clear HO_8; clear HO_21; clear HB; have HO_8 := n0_; have HO_21 := n1_; have HB := n2_; clear n0_ n1_ n2_; (try clear hb); (try clear hb2); (try clear hk); (try clear hi)))
        go_ret2
        exact ⟨_, re_, rn_, bw_⟩
      ·rw [if_neg c10] at H
       exact absurd H (by simp)
     ·rw [if_neg c9] at H
      exact absurd H (by simp)
    ·rw [if_neg c8] at H
     have c8b0 : decide (x23_1 < (t193.length : Int)) = false := decide_eq_false c8
     clear c8
     replace H := Option.bind_eq_some_iff.mp H
     obtain ⟨t196, A270, H⟩ := H
     replace H : (some (x8_1, t196)) = some (r1, r2) := H
     have A27 := Aside0.mk A270
     clear A270
     simp only [Option.some.injEq, Prod.mk.injEq] at H
     obtain ⟨rfl, rfl⟩ := H
     obtain ⟨Ao28, co28, eo28⟩ := Kd.R_slice HO_8.out
     subst eo28
     go_wp2_with (first | ((with_reducible refine gate_callee (f := 37) rfl ?_); refine goesL_ (some 60) rfl rfl Tryd.func37 (by kernel_rfl) rfl #[.slice Ao28 x8_1.length co28] rfl ma_ ?_; (with_reducible refine (impl_ValidMelody.calls k1 _ _ x8_1 t196 _ ?side1 ?side2 A27.out).mono ?_); (case side1 => repeat (first | exact (Kd.R_reads' HO_8.out).2.2 | (with_reducible refine Kd.C_alloc ?_ _) | (with_reducible refine Kd.C_drewN ?_ _) | (with_reducible refine Kd.C_drew ?_))); (case side2 => exact (Kd.R_reads' HO_8.out).2.1); rintro e w29 ⟨rfl, hb⟩; refine ⟨_, rfl, ?_⟩; have n0_ := Aside0.mk (Kd.R_below (kr_ HO_8.out) hb); have n1_ := Aside0.mk (Kd.R_below (kr_ HO_21.out) hb); have n2_ := Aside0.mk (below_step bw_ hb); clear HO_8; clear HO_21; clear HB; have HO_8 := n0_; have HO_21 := n1_; have HB := n2_; clear n0_ n1_ n2_; (try clear hb); (try clear hb2); (try clear hk); (try clear hi)))
     go_ret2
     exact ⟨_, re_, kr_ HO_8.out, bw_⟩
def impl_ConvertNotes.j0 : Nat → Int → Int → Int → Int → ByteArray → Bool → Option (ByteArray × Int)
 | 0, _, _, _, _, _, _ => none
 | k + 1, x0, x1, x2, x3, x4, x23 => if x23 = true then (some ((⟨#[]⟩ : ByteArray), 2)) else ((impl_readNotesIn.f k x0 x1 x4).bind fun bt210 => (if bt210.2 = true then ((impl_notesIn.f k x2 x3 bt210.1).bind fun t214 => (some (t214, 0))) else (some ((⟨#[]⟩ : ByteArray), 8))))
def impl_ConvertNotes.f (k : Nat) (a0 : Int) (a1 : Int) (a2 : Int) (a3 : Int) (a4 : ByteArray) : Option (ByteArray × Int) := (impl_keyOk.f a0 a1).bind fun t208 => (if t208 = true then ((impl_keyOk.f a2 a3).bind fun t209 => (impl_ConvertNotes.j0 k a0 a1 a2 a3 a4 (!t209))) else (impl_ConvertNotes.j0 k a0 a1 a2 a3 a4 true))
theorem impl_ConvertNotes.mono_l : ∀ k, (∀ y0 y1 y2 y3 y4 y5, LeO (impl_ConvertNotes.j0 k y0 y1 y2 y3 y4 y5) (impl_ConvertNotes.j0 (k + 1) y0 y1 y2 y3 y4 y5))
 | 0 => fun _ _ _ _ _ _ r h => by simp [impl_ConvertNotes.j0] at h
 | k + 1 => by
  have ih0 := impl_ConvertNotes.mono_l k
  ·intro y0 y1 y2 y3 y4 y5
   unfold impl_ConvertNotes.j0
   repeat' first
   | (with_reducible exact ih0 _ _ _ _ _ _)
   | (with_reducible exact impl_notesIn.mono _ _ _ _)
   | (with_reducible exact impl_readNotesIn.mono _ _ _ _)
   | (with_reducible exact LeO.refl _)
   | (with_reducible exact LeO.none _)
   | (with_reducible refine LeO.ite ?_ ?_)
   | (with_reducible refine LeO.bind ?_ (fun _ => ?_))
theorem impl_ConvertNotes.mono : ∀ a0 a1 a2 a3 a4 k, LeO (impl_ConvertNotes.f k a0 a1 a2 a3 a4) (impl_ConvertNotes.f (k + 1) a0 a1 a2 a3 a4) := by
 intro a0 a1 a2 a3 a4 k
 have ih0 := impl_ConvertNotes.mono_l k
 unfold impl_ConvertNotes.f
 repeat' first
   | (with_reducible exact ih0 _ _ _ _ _ _)
   | (with_reducible exact impl_notesIn.mono _ _ _ _)
   | (with_reducible exact impl_readNotesIn.mono _ _ _ _)
   | (with_reducible exact LeO.refl _)
   | (with_reducible exact LeO.none _)
   | (with_reducible refine LeO.ite ?_ ?_)
   | (with_reducible refine LeO.bind ?_ (fun _ => ?_))
set_option maxHeartbeats 8000000 in
set_option maxRecDepth 100000 in
theorem impl_ConvertNotes.calls (k : Nat) (a0 : Int) (a1 : Int) (a2 : Int) (a3 : Int) (a4 : ByteArray) (r1 : ByteArray) (r2 : Int) (w : World) (hL : Lv w) (h : impl_ConvertNotes.f k a0 a1 a2 a3 a4 = some (r1, r2)) :
  Calls Tryd.prog 26 #[.int .i64 a0, .int .i64 a1, .int .i64 a2, .int .i64 a3, .string a4] w fun e w' => e = .returned (.tuple #[.string r1, .int .i64 r2]) ∧ Below w.heap.size w w' := by
 have HB := Aside0.mk (Below.refl w.heap.size w)
 have H : ((impl_keyOk.f a0 a1).bind fun t208 => (if t208 = true then ((impl_keyOk.f a2 a3).bind fun t209 => (impl_ConvertNotes.j0 k a0 a1 a2 a3 a4 (!t209))) else (impl_ConvertNotes.j0 k a0 a1 a2 a3 a4 true))) = some (r1, r2) := h
 clear h
 have HC6 := Aside0.mk H
 clear H
 go_enter Tryd.func26, Tryd.ntmps26
 go_upto_region 1 with (fail)
 go_cut [23] (fun v23 wc => ∃ (kq : Nat) (x23_5 : Bool), v23 = .bool x23_5 ∧ Aside0 (impl_ConvertNotes.j0 kq a0 a1 a2 a3 a4 x23_5 = some (r1, r2)) ∧ Aside0 (kq ≤ k) ∧ Aside0 (Below w.heap.size w wc))
 case first =>
  have H := HC6.out
  clear HC6
  replace H := Option.bind_eq_some_iff.mp H
  obtain ⟨t208, A70, H⟩ := H
  replace H : (if t208 = true then ((impl_keyOk.f a2 a3).bind fun t209 => (impl_ConvertNotes.j0 k a0 a1 a2 a3 a4 (!t209))) else (impl_ConvertNotes.j0 k a0 a1 a2 a3 a4 true)) = some (r1, r2) := H
  have A7 := Aside0.mk A70
  clear A70
  by_cases c8 : t208 = true
  ·subst c8
   have H1 : ((impl_keyOk.f a2 a3).bind fun t209 => (impl_ConvertNotes.j0 k a0 a1 a2 a3 a4 (!t209))) = some (r1, r2) := by rw [if_pos rfl] at H; exact H
   clear H
   have H := H1
   clear H1
   replace H := Option.bind_eq_some_iff.mp H
   obtain ⟨t209, A90, H⟩ := H
   replace H : (impl_ConvertNotes.j0 k a0 a1 a2 a3 a4 (!t209)) = some (r1, r2) := H
   have A9 := Aside0.mk A90
   clear A90
   have H' := Aside0.mk H
   clear H
   go_wp2_with (first | ((with_reducible refine gate_callee (f := 30) rfl ?_); refine goesL_ (some 16) rfl rfl Tryd.func30 (by kernel_rfl) rfl #[.int .i64 a0, .int .i64 a1] rfl ma_ ?_; (with_reducible refine (impl_keyOk.calls a0 a1 true _ A7.out).mono ?_); rintro e w' ⟨rfl, ⟨nd, rfl⟩⟩; refine ⟨_, rfl, ?_⟩) | (go_at_call 30; (with_reducible refine (impl_keyOk.calls a2 a3 t209 _ A9.out).mono ?_); rintro e w' ⟨rfl, ⟨nd, rfl⟩⟩))
   go_meet
   case rel => exact ⟨_, (!t209), rs_, H', ⟨on_⟩, ⟨bw_⟩⟩
  ·replace c8 := Bool.eq_false_iff.mpr c8
   subst c8
   have H1 : (impl_ConvertNotes.j0 k a0 a1 a2 a3 a4 true) = some (r1, r2) := by rw [if_neg (show ¬ (false = true) by decide)] at H; exact H
   clear H
   have H := H1
   clear H1
   have H' := Aside0.mk H
   clear H
   go_wp2_with (first | ((with_reducible refine gate_callee (f := 30) rfl ?_); refine goesL_ (some 16) rfl rfl Tryd.func30 (by kernel_rfl) rfl #[.int .i64 a0, .int .i64 a1] rfl ma_ ?_; (with_reducible refine (impl_keyOk.calls a0 a1 false _ A7.out).mono ?_); rintro e w' ⟨rfl, ⟨nd, rfl⟩⟩; refine ⟨_, rfl, ?_⟩))
   go_meet
   case rel => exact ⟨_, (true), rs_, H', ⟨on_⟩, ⟨bw_⟩⟩
 case rest =>
  clear HC6
  try clear c2
  try clear p2
  try clear c3
  try clear c8
  obtain ⟨kq, x23_5, rfl, HA, HJ5, HB⟩ := hcut
  cases kq with
  | zero => exact absurd HA.out (by simp [impl_ConvertNotes.j0])
  | succ kj5 =>
   have H := HA.out
   clear HA
   simp only [impl_ConvertNotes.j0] at H
   by_cases c10 : x23_5 = true
   ·subst c10
    have H1 : (some ((⟨#[]⟩ : ByteArray), 2)) = some (r1, r2) := by rw [if_pos rfl] at H; exact H
    clear H
    have H := H1
    clear H1
    simp only [Option.some.injEq, Prod.mk.injEq] at H
    obtain ⟨rfl, rfl⟩ := H
    go_wp2
    go_ret2
    exact ⟨re_, bw_⟩
   ·replace c10 := Bool.eq_false_iff.mpr c10
    subst c10
    have H1 : ((impl_readNotesIn.f kj5 a0 a1 a4).bind fun bt210 => (if bt210.2 = true then ((impl_notesIn.f kj5 a2 a3 bt210.1).bind fun t214 => (some (t214, 0))) else (some ((⟨#[]⟩ : ByteArray), 8)))) = some (r1, r2) := by rw [if_neg (show ¬ (false = true) by decide)] at H; exact H
    clear H
    have H := H1
    clear H1
    replace H := Option.bind_eq_some_iff.mp H
    obtain ⟨⟨t210, t211⟩, A110, H⟩ := H
    replace H : (if t211 = true then ((impl_notesIn.f kj5 a2 a3 t210).bind fun t214 => (some (t214, 0))) else (some ((⟨#[]⟩ : ByteArray), 8))) = some (r1, r2) := H
    have A11 := Aside0.mk A110
    clear A110
    by_cases c12 : t211 = true
    ·subst c12
     have H1 : ((impl_notesIn.f kj5 a2 a3 t210).bind fun t214 => (some (t214, 0))) = some (r1, r2) := by rw [if_pos rfl] at H; exact H
     clear H
     have H := H1
     clear H1
     replace H := Option.bind_eq_some_iff.mp H
     obtain ⟨t214, A130, H⟩ := H
     replace H : (some (t214, 0)) = some (r1, r2) := H
     have A13 := Aside0.mk A130
     clear A130
     simp only [Option.some.injEq, Prod.mk.injEq] at H
     obtain ⟨rfl, rfl⟩ := H
     go_wp2_with (first | ((with_reducible refine gate_callee (f := 41) rfl ?_); refine goesL_ (some 28) rfl rfl Tryd.func41 (by kernel_rfl) rfl #[.int .i64 a0, .int .i64 a1, .string a4] rfl ma_ ?_; (with_reducible refine (impl_readNotesIn.calls kj5 a0 a1 a4 t210 true _ ?side1 A11.out).mono ?_); (case side1 => exact Lv.below hL bw_); rintro e w14 ⟨v212, rfl, ho0, hb⟩; refine ⟨_, rfl, ?_⟩; have n0_ := Aside0.mk (Kd.R_lower ho0 (below_size bw_)); have n1_ := Aside0.mk (below_step bw_ hb); clear HB; have HO213 := n0_; have HB := n1_; clear n0_ n1_; (try clear hb); (try clear hb2); (try clear hk); (try clear hi); (try clear ho0); obtain ⟨Ao15, co15, eo15⟩ := Kd.R_slice HO213.out; subst eo15) | ((with_reducible refine gate_callee (f := 38) rfl ?_); refine goesL_ (some 36) rfl rfl Tryd.func38 (by kernel_rfl) rfl #[.int .i64 a2, .int .i64 a3, .slice Ao15 t210.length co15] rfl ma_ ?_; (with_reducible refine (impl_notesIn.calls kj5 a2 a3 _ _ t210 t214 _ ?side1 ?side2 ?side3 A13.out).mono ?_); (case side1 => repeat (first | exact (Kd.R_reads' HO213.out).2.2 | (with_reducible refine Kd.C_alloc ?_ _) | (with_reducible refine Kd.C_drewN ?_ _) | (with_reducible refine Kd.C_drew ?_))); (case side2 => exact (Kd.R_reads' HO213.out).2.1); (case side3 => exact Lv.below hL bw_); rintro e w16 ⟨rfl, hb⟩; refine ⟨_, rfl, ?_⟩; have n0_ := Aside0.mk (Kd.R_below (kr_ HO213.out) hb); have n1_ := Aside0.mk (below_step bw_ hb); clear HO213; clear HB; have HO213 := n0_; have HB := n1_; clear n0_ n1_; (try clear hb); (try clear hb2); (try clear hk); (try clear hi)))
     go_ret2
     exact ⟨re_, bw_⟩
    ·replace c12 := Bool.eq_false_iff.mpr c12
     subst c12
     have H1 : (some ((⟨#[]⟩ : ByteArray), 8)) = some (r1, r2) := by rw [if_neg (show ¬ (false = true) by decide)] at H; exact H
     clear H
     have H := H1
     clear H1
     simp only [Option.some.injEq, Prod.mk.injEq] at H
     obtain ⟨rfl, rfl⟩ := H
     go_wp2_with (first | ((with_reducible refine gate_callee (f := 41) rfl ?_); refine goesL_ (some 28) rfl rfl Tryd.func41 (by kernel_rfl) rfl #[.int .i64 a0, .int .i64 a1, .string a4] rfl ma_ ?_; (with_reducible refine (impl_readNotesIn.calls kj5 a0 a1 a4 t210 false _ ?side1 A11.out).mono ?_); (case side1 => exact Lv.below hL bw_); rintro e w17 ⟨v212, rfl, ho0, hb⟩; refine ⟨_, rfl, ?_⟩; have n0_ := Aside0.mk (Kd.R_lower ho0 (below_size bw_)); have n1_ := Aside0.mk (below_step bw_ hb); clear HB; have HO213 := n0_; have HB := n1_; clear n0_ n1_; (try clear hb); (try clear hb2); (try clear hk); (try clear hi); (try clear ho0)))
     go_ret2
     exact ⟨re_, bw_⟩
end Go.Proofs.YtgklofginkafgaaDoor.PD
end
section
namespace Go.Proofs.YtgklofginkafgaaDoor.PD
open Go.RowKit Go.Proofs.YtgklofginkafgaaDoorW.PrintWords Go.Proofs.YtgklofginkafgaaDoorW.PrintLast Go.Proofs.YtgklofginkafgaaDoorW.PrintMore
attribute [local go_sem] max2_int min2_int max_two min_two max_three min_three max_four min_four
set_option linter.unusedVariables false
set_option linter.unusedSimpArgs false
def laws_FnExactConvertNotes.f (k : Nat) (a0 : Int) (a1 : Int) (a2 : Int) (a3 : Int) (a4 : ByteArray) : Option (Bool) := if (a4.size : Int) > 1048576 then (some true) else ((spec_ConvertNotes.f k a0 a1 a2 a3 a4).bind fun bt215 => ((impl_ConvertNotes.f k a0 a1 a2 a3 a4).bind fun bt217 => (if bt217.1.toList = bt215.1.toList then (if bt217.2 = bt215.2 then (some true) else (some false)) else (some false))))
theorem laws_FnExactConvertNotes.mono : ∀ a0 a1 a2 a3 a4 k, LeO (laws_FnExactConvertNotes.f k a0 a1 a2 a3 a4) (laws_FnExactConvertNotes.f (k + 1) a0 a1 a2 a3 a4) := by
 intro a0 a1 a2 a3 a4 k
 unfold laws_FnExactConvertNotes.f
 repeat' first
   | (with_reducible exact impl_ConvertNotes.mono _ _ _ _ _ _)
   | (with_reducible exact spec_ConvertNotes.mono _ _ _ _ _ _)
   | (with_reducible exact LeO.refl _)
   | (with_reducible exact LeO.none _)
   | (with_reducible refine LeO.ite ?_ ?_)
   | (with_reducible refine LeO.bind ?_ (fun _ => ?_))
set_option maxHeartbeats 8000000 in
set_option maxRecDepth 100000 in
theorem laws_FnExactConvertNotes.calls (k : Nat) (a0 : Int) (a1 : Int) (a2 : Int) (a3 : Int) (a4 : ByteArray) (r : Bool) (w : World) (hL : Lv w) (h : laws_FnExactConvertNotes.f k a0 a1 a2 a3 a4 = some r) :
  Calls Tryd.prog 7 #[.int .i64 a0, .int .i64 a1, .int .i64 a2, .int .i64 a3, .string a4] w fun e w' => e = .returned (.bool r) ∧ Below w.heap.size w w' := by
 have HB := Aside0.mk (Below.refl w.heap.size w)
 have H : (if (a4.size : Int) > 1048576 then (some true) else ((spec_ConvertNotes.f k a0 a1 a2 a3 a4).bind fun bt215 => ((impl_ConvertNotes.f k a0 a1 a2 a3 a4).bind fun bt217 => (if bt217.1.toList = bt215.1.toList then (if bt217.2 = bt215.2 then (some true) else (some false)) else (some false))))) = some r := h
 clear h
 by_cases c6 : (a4.size : Int) > 1048576
 ·rw [if_pos c6] at H
  have c6b0 : decide (1048576 < (a4.size : Int)) = true := decide_eq_true c6
  have c6b1 : decide (1048576 < a4.size) = true := decide_eq_true (by omega)
  clear c6
  obtain rfl := Option.some.inj H
  go_enter Tryd.func7, Tryd.ntmps7
  go_wp2
  go_ret
  exact ⟨re_, bw_⟩
 ·rw [if_neg c6] at H
  have c6b0 : decide (1048576 < (a4.size : Int)) = false := decide_eq_false c6
  have c6b1 : decide (1048576 < a4.size) = false := decide_eq_false (by omega)
  clear c6
  replace H := Option.bind_eq_some_iff.mp H
  obtain ⟨⟨t215, t216⟩, A70, H⟩ := H
  replace H : ((impl_ConvertNotes.f k a0 a1 a2 a3 a4).bind fun bt217 => (if bt217.1.toList = t215.toList then (if bt217.2 = t216 then (some true) else (some false)) else (some false))) = some r := H
  have A7 := Aside0.mk A70
  clear A70
  replace H := Option.bind_eq_some_iff.mp H
  obtain ⟨⟨t217, t218⟩, A80, H⟩ := H
  replace H : (if t217.toList = t215.toList then (if t218 = t216 then (some true) else (some false)) else (some false)) = some r := H
  have A8 := Aside0.mk A80
  clear A80
  by_cases c9 : t217.toList = t215.toList
  ·rw [if_pos c9] at H
   have c9b0 : (t217.toList == t215.toList) = true := beq_iff_eq.mpr c9
   have c9b1 : (t217.toList != t215.toList) = false := bne_eq_false_iff_eq.mpr c9
   clear c9
   by_cases c10 : t218 = t216
   ·rw [if_pos c10] at H
    have c10b0 : (t218 == t216) = true := beq_iff_eq.mpr c10
    have c10b1 : (t218 != t216) = false := bne_eq_false_iff_eq.mpr c10
    clear c10
    obtain rfl := Option.some.inj H
    go_enter Tryd.func7, Tryd.ntmps7
    go_wp2_with (first | ((with_reducible refine gate_callee (f := 25) rfl ?_); refine goesL_ (some 24) rfl rfl Tryd.func25 (by kernel_rfl) rfl #[.int .i64 a0, .int .i64 a1, .int .i64 a2, .int .i64 a3, .string a4] rfl ma_ ?_; (with_reducible refine (spec_ConvertNotes.calls k a0 a1 a2 a3 a4 t215 t216 _ A7.out).mono ?_); rintro e w11 ⟨rfl, hb⟩; refine ⟨_, rfl, ?_⟩; have n0_ := Aside0.mk (below_step bw_ hb); clear HB; have HB := n0_; clear n0_; (try clear hb); (try clear hb2); (try clear hk); (try clear hi)) | ((with_reducible refine gate_callee (f := 26) rfl ?_); refine goesL_ (some 33) rfl rfl Tryd.func26 (by kernel_rfl) rfl #[.int .i64 a0, .int .i64 a1, .int .i64 a2, .int .i64 a3, .string a4] rfl ma_ ?_; (with_reducible refine (impl_ConvertNotes.calls k a0 a1 a2 a3 a4 t217 t218 _ ?side1 A8.out).mono ?_); (case side1 => exact Lv.below hL bw_); rintro e w12 ⟨rfl, hb⟩; refine ⟨_, rfl, ?_⟩; have n0_ := Aside0.mk (below_step bw_ hb); clear HB; have HB := n0_; clear n0_; (try clear hb); (try clear hb2); (try clear hk); (try clear hi)))
    go_ret
    exact ⟨re_, bw_⟩
   ·rw [if_neg c10] at H
    have c10b0 : (t218 == t216) = false := beq_eq_false_iff_ne.mpr c10
    have c10b1 : (t218 != t216) = true := bne_iff_ne.mpr c10
    obtain rfl := Option.some.inj H
    go_enter Tryd.func7, Tryd.ntmps7
    go_wp2_with (first | ((with_reducible refine gate_callee (f := 25) rfl ?_); refine goesL_ (some 24) rfl rfl Tryd.func25 (by kernel_rfl) rfl #[.int .i64 a0, .int .i64 a1, .int .i64 a2, .int .i64 a3, .string a4] rfl ma_ ?_; (with_reducible refine (spec_ConvertNotes.calls k a0 a1 a2 a3 a4 t215 t216 _ A7.out).mono ?_); rintro e w13 ⟨rfl, hb⟩; refine ⟨_, rfl, ?_⟩; have n0_ := Aside0.mk (below_step bw_ hb); clear HB; have HB := n0_; clear n0_; (try clear hb); (try clear hb2); (try clear hk); (try clear hi)) | ((with_reducible refine gate_callee (f := 26) rfl ?_); refine goesL_ (some 33) rfl rfl Tryd.func26 (by kernel_rfl) rfl #[.int .i64 a0, .int .i64 a1, .int .i64 a2, .int .i64 a3, .string a4] rfl ma_ ?_; (with_reducible refine (impl_ConvertNotes.calls k a0 a1 a2 a3 a4 t217 t218 _ ?side1 A8.out).mono ?_); (case side1 => exact Lv.below hL bw_); rintro e w14 ⟨rfl, hb⟩; refine ⟨_, rfl, ?_⟩; have n0_ := Aside0.mk (below_step bw_ hb); clear HB; have HB := n0_; clear n0_; (try clear hb); (try clear hb2); (try clear hk); (try clear hi)))
    go_ret
    exact ⟨re_, bw_⟩
  ·rw [if_neg c9] at H
   have c9b0 : (t217.toList == t215.toList) = false := beq_eq_false_iff_ne.mpr c9
   have c9b1 : (t217.toList != t215.toList) = true := bne_iff_ne.mpr c9
   obtain rfl := Option.some.inj H
   go_enter Tryd.func7, Tryd.ntmps7
   go_wp2_with (first | ((with_reducible refine gate_callee (f := 25) rfl ?_); refine goesL_ (some 24) rfl rfl Tryd.func25 (by kernel_rfl) rfl #[.int .i64 a0, .int .i64 a1, .int .i64 a2, .int .i64 a3, .string a4] rfl ma_ ?_; (with_reducible refine (spec_ConvertNotes.calls k a0 a1 a2 a3 a4 t215 t216 _ A7.out).mono ?_); rintro e w15 ⟨rfl, hb⟩; refine ⟨_, rfl, ?_⟩; have n0_ := Aside0.mk (below_step bw_ hb); clear HB; have HB := n0_; clear n0_; (try clear hb); (try clear hb2); (try clear hk); (try clear hi)) | ((with_reducible refine gate_callee (f := 26) rfl ?_); refine goesL_ (some 33) rfl rfl Tryd.func26 (by kernel_rfl) rfl #[.int .i64 a0, .int .i64 a1, .int .i64 a2, .int .i64 a3, .string a4] rfl ma_ ?_; (with_reducible refine (impl_ConvertNotes.calls k a0 a1 a2 a3 a4 t217 t218 _ ?side1 A8.out).mono ?_); (case side1 => exact Lv.below hL bw_); rintro e w16 ⟨rfl, hb⟩; refine ⟨_, rfl, ?_⟩; have n0_ := Aside0.mk (below_step bw_ hb); clear HB; have HB := n0_; clear n0_; (try clear hb); (try clear hb2); (try clear hk); (try clear hi)))
   go_ret
   exact ⟨re_, bw_⟩
end Go.Proofs.YtgklofginkafgaaDoor.PD
end
